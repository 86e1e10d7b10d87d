/-
  ring, in company: an unknown call: the line; and the end where all lines are taken.
-/
import Derived.Conc.Events
import Derived.Test.YtnjkbffmmgckeaaGreatDoorPaa
import Derived.Test.YtnjkbffmmgckeaaGreatDoorPag
import Derived.Test.YtnjkbffmmgckeaaGreatDoorPal
set_option linter.all false
set_option maxRecDepth 100000
set_option maxHeartbeats 32000000
open Go renaming undef->I',World->J',Value->M',Goroutine->O',TypeId->Q',Program->U',execOp->V',Frame->Y',Item->x_,Oper->y_
open Go.RowKit renaming Hid->f_
open Option renaming getD_some->A_
open Go.World renaming size_alloc->B_,cell?_of_block->J_,grownBy_alloc->N_,frozen?_of_block->m_
open Nat renaming le_refl->C_,lt_of_lt_of_le->E_
open Array renaming replicate->F_,getElem?_eq_getElem->H_
open List renaming length_take->Q_,map_cons->S_
open Go.Proofs.Tryz renaming prog->p_
open Go.Proofs.Tryz
namespace Go.aC.Of
section
open Go Go.Conc Go.Conc.Lib Go.ConcR Go.ConcR.Gen Go.aC Go.Proofs
open Go.RowKit hiding Hid
open Go.ConcN (upd upd_ne upd_same)
section
variable {C:cS} {b N N0 h:Nat} {L:Nat->Of.Os} {us:List Od} {A:Ha} {S:Hs} {vw vb vr va vt:M'} {ae Fin:O'->J'->Prop} {Post:M'->J'->Prop} {wl:J'} {aI:Y'} {aS:Act} {av:Array y_} {aN:Nat} {ak:List Nat} {aV:List x_} {cs:List Y'}
variable {pt:Int}
theorem Hb (B:eh p_ C b 0 ae Fin h) (hL:Lay C wl) (H:aQ A S vw vb vr va vt wl) {c:Int} (lW:S.back.length<=1000000) (hn:S.lines.length<=1000) (xE:S.of c=none) (yL:S.back.contains c=false) (jV:gf S= -1)
 (K:bN C A N0 h us L wl) (hT:aU A wl)
 (hc:∀aK qS,Lay C aK->aQ A {S with back:=S.back++[c]} vw qS vr va vt aK->bN C A N0 h us L aK->aU A aK->
  ay p_ C b 0 ae Fin Post h (aY b N h L) aK (G (aI.at (aS.put ((av[aN]?).bind (·.dst)) (.string ⟨qN.toArray⟩)) (.inRegion av ak::aV)) cs)):
 ay p_ C b 0 ae Fin Post h (aY b N h L) wl (G ((base 121).at ⟨#[.pointer (some ⟨A.hb,0,none⟩),.int .i64 c,.int .i64 pt]++F_ 77 I',[]⟩ [.code bF]) (aI.at aS (.inRegion av (aN::ak)::aV)::cs)):=by
 have hS:=aH b N h L
 have ea:(#[.pointer (some ⟨A.hb,0,none⟩),.int .i64 c,.int .i64 pt]++F_ 77 I':Array M')=#[.pointer (some ⟨A.hb,0,none⟩),.int .i64 c,.int .i64 pt,I',I',I',I',I',I',I',I',I',I',I',I',I',I',I',I',I',I',I',I',I',I',I',I',I',I',I',I',I',I',I',I',I',I',I',I',I',I',I',I',I',I',I',I',I',I',I',I',I',I',I',I',I',I',I',I',I',I',I',I',I',I',I',I',I',I',I',I',I',I',I',I',I',I',I',I',I']:=by kernel_rfl
 rw [ea]
 have e1:bF=.seq (ai 0 bF) (.seq (ai 1 bF) (.seq (ai 2 bF) (.seq (ai 3 bF) (az 4 bF)))):=by kernel_rfl
 rw [e1]
 refine B.s ?_
 refine B.p (aF (by kernel_rfl) rfl rfl ⟨_,func121⟩) (fun T d Bh hB=> ?_)
 simp only [ai,bF,f121,A_]
 go_wp2_with fail
 subst hB
 intro hcut
 clear hcut
 refine ay.re (wl:=wl) ?_ T d
 refine B.s ?_
 refine B.p (aF (by kernel_rfl) rfl rfl ⟨_,func121⟩) (fun T d Bh hB=> ?_)
 have c5:(wl.re T d).cell? ⟨A.hb,5,none⟩=some (.map (some A.m2)):=H.c.2.2.1
 have c8:(wl.re T d).cell? ⟨A.hb,8,none⟩=some vb:=H.c.2.2.2.2.2.1
 have kE:=H.of.heap (w':=wl.re T d) rfl
 have sY:=aa (nW (w:=wl.re T d) (H.heap (w':=wl.re T d) rfl).back lW c)
 obtain ⟨ab,cb,K8⟩:=aE H.back
 subst K8
 have ir:=aa hc
 have HH:=aa H
 have qK:=aa hL
 have QN:=aa hn
 clear hc hL H hn
 simp only [ai,bF,f121,A_]
 have nT:(binOp .neq 78 (.chan none) (.chan none)).run p_ (wl.re T d)=.ok (.bool false) (wl.re T d):=rY Tryz.underlying78 none
 rw [yL] at sY
 go_wp2_with (at_lookup;refine cU _ rfl _ _ 72 false rfl pe Tryz.underlying72 A.m2 rfl kE c rfl qQ ?_;simp only [xE,Option.map_none,Option.getD_none,Bool.false_eq_true,if_false])
 refine sY.out.mono ?_
 rintro e w2 ⟨rfl,rfl⟩
 go_wp2_with fail
 clear kE sY c5 c8 nT
 have hL:=qK.out
 subst hB
 intro hcut
 clear hcut
 refine ay.re (wl:=wl) ?_ T d
 refine B.s ?_
 refine B.p (aF (by kernel_rfl) rfl rfl ⟨_,func121⟩) (fun T d Bh hB=> ?_)
 have dJ:=aa (kK (HH.out.heap (w':=wl.re T d) rfl) QN.out)
 clear hL
 simp only [ai,bF,f121,A_]
 go_wp2_with fail
 refine dJ.out.mono ?_
 rintro e w2 ⟨rfl,rfl⟩
 rw [jV]
 go_wp2_with fail
 have hL:=qK.out
 subst hB
 intro hcut
 clear hcut
 refine ay.re (wl:=wl) ?_ T d
 refine B.s ?_
 refine B.p (aF (by kernel_rfl) rfl rfl ⟨_,func121⟩) (fun T d Bh hB=> ?_)
 simp only [ai,bF,f121,A_]
 have hlt:((-1:Int)<0)=True:=by simp
 have K0:f_ (bN C A N0 h us L (wl.re T d)):=⟨K.len,K.small,K.live,K.n0,K.ap,K.fo,K.kM,K.cells⟩
 have T0:f_ (aU A (wl.re T d)):=hT
 have H0:=aa (HH.out.heap (w':=wl.re T d) rfl)
 have hno:=aa hL.no
 replace hS:=aa hS
 obtain ⟨i3,UN,J2,J1,J0⟩:=info_parts CF
 have c8:=H0.out.c.2.2.2.2.2.1
 have z8:=H0.out.z 8
 have ot:=aa H0.out.back
 have OV:=aa H0.out.big
 have vJ:=aa lW
 have uf:=aa H0.out.ok.hb
 have fz:f_ (∀g,(Value.slice ab S.back.length cb).ownBlock=some g->A.B<=g):=fun g e=>(H0.out.back.lt g e).1
 clear hL HH qK QN lW xE yL jV dJ K hT
 generalize wl.re T d=w0 at *
 go_wp2_with (at_builtin;go_loud (refine wpList_append_lies _ rfl (.tmp 32) (.tmp 34) 26 rfl A.B 3 i3 _ 1 8 Tryz.underlying26 UN J2 J1 J0 rfl (by decide) _ _ _ rfl (ot.out.alloc _) ⟨w0.heap.size,0,none⟩ 1 1 [.int .i64 c] rfl rfl (fY w0 _ _ rfl) ?c1 (by omega) ?c3 ?c4 ?c5 _ rfl ?_))
 case c1=>intro u hu;simp at hu;subst hu;rfl
 case c3=>have:=vJ.out;unfold maxLen;omega
 case c4=>have:=vJ.out;omega
 case c5=>rw [B_];have:=OV.out;omega
 intro g cap w6 jl kh iP mR
 have Iw:=aa kh
 have Rf:w6.heap[A.hb]?=w0.heap[A.hb]?:=by
  have h1:=kh.block A.hb (by rw [B_];have:=uf.out;have:=OV.out;omega) (fun e=>by have:=fz.out _ e.symm;have:=uf.out;omega)
  rw [h1]
  exact (N_ w0 (.cells #[.int .i64 c] 3) none).block A.hb (E_ uf.out OV.out) (by simp)
 have c8b:w6.cell? ⟨A.hb,8,none⟩=some (.slice ab S.back.length cb):=(J_ Rf).trans c8
 have z8b:w6.frozen? ⟨A.hb,8,none⟩=false:=(m_ Rf).trans z8
 have hp:=aa ((H0.out.alloc (.cells #[.int .i64 c] 3)).Cg (c:=c) kh jl (iP.imp (fun e=>e.symm) (fun e=>by rw [e,B_];rfl)))
 have F0:=aa (Fr.alloc (w:=w0) OV.out (.cells #[.int .i64 c] 3))
 clear jl kh iP mR ot Rf
 go_wp2_with fail
 subst hB
 intro hcut todo
 have jv:Lay C (w6.setCell ⟨A.hb,8,none⟩ (.slice (some ⟨g,0,none⟩) (S.back.length+1) cap)):=⟨hcut,hno.out⟩
 refine ay.ctl B hS.out jv rfl (fun _=>aZ rfl rfl func121 rfl) ?_
 have FF:=F0.out.trans hp.out.2
 exact ir.out _ _ jv hp.out.1 (K0.out.fr H0.out FF) (T0.out.fr H0.out FF)
end
structure gD (w w':J') (row:Option Nat):Prop where
 os:w'.os=w.os
 output:w'.output=w.output
 size:w.heap.size<=w'.heap.size
 block:∀k,k<w.heap.size->some k≠row->w'.heap[k]?=w.heap[k]?
variable {w w':J'}
theorem gD.W6 {row:Option Nat} (h:gD w w' row):w.grownBy (w'.re w.tape w'.drawn) row:=⟨h.os,rfl,h.output,h.size,h.block⟩
theorem gD.of {row:Option Nat} {T:Nat->Question->Nat} {d:Nat} (h:(w.re T d).grownBy w' row):gD w w' row:=⟨h.os,h.output,h.size,h.block⟩
def gY (ws:List (Int × Int)) (i:Nat) (x:Int × Int):List (Int × Int):=ws.take i++[x]++ws.drop i
theorem jb:∀(ws:List (Int × Int)) (i:Nat),ax (ws.take i)=(ax ws).take (i * 2)
 |_,0=>by simp [ax]
 |[],i+1=>by simp [ax]
 |a::l,i+1=>by
  show [Value.int .i64 a.1,Value.int .i64 a.2]++ax (l.take i)=([Value.int .i64 a.1,Value.int .i64 a.2]++ax l).take ((i+1) * 2)
  rw [jb l i,show (i+1) * 2=i * 2+2 by omega]
  simp [List.take_append]
theorem kU:∀(ws:List (Int × Int)) (i:Nat),ax (ws.drop i)=(ax ws).drop (i * 2)
 |_,0=>by simp [ax]
 |[],i+1=>by simp [ax]
 |a::l,i+1=>by
  show ax (l.drop i)=([Value.int .i64 a.1,Value.int .i64 a.2]++ax l).drop ((i+1) * 2)
  rw [kU l i,show (i+1) * 2=i * 2+2 by omega]
  simp [List.drop_append]
theorem mb (ws:List (Int × Int)) (i:Nat) (x:Int × Int):ax (gY ws i x)=(ax ws).take (i * 2)++[.int .i64 x.1,.int .i64 x.2]++(ax ws).drop (i * 2):=by
 unfold gY
 rw [me,me,jb,kU];rfl
variable {ws:List (Int × Int)} {i:Nat}
theorem JZ (hi:i<=ws.length) (x:Int × Int):(gY ws i x).length=ws.length+1:=by
 unfold gY;simp only [List.length_append,Q_,List.length_drop,List.length_cons,List.length_nil];omega
variable {P:U'}
theorem pP (w:J') (dT sT ty elem:Q') (s n b o VM dCap:Nat) (a:Addr) (Tc X6:Nat) (cs:List M')
 (hu:P.underlying dT=some (.slice elem)) (hs:(P.info? elem).map (·.size)=some s) (hn:n=Nat.min Tc VM) (hl:cs.length=n * s)
 (QB:∀j v,cs[j]?=some v->w.cell? (a.add j)=some v) (hc:∀j,j<cs.length->(w.cell? ⟨b,o+j,none⟩).isSome=true) (hf:∀j,j<cs.length->w.frozen? ⟨b,o+j,none⟩=false) (h1:∀v∈cs,v.oneCell'=true):
 (Builtin.copy_ #[dT,sT] ty #[.slice (some ⟨b,o,none⟩) VM dCap,.slice (some a) Tc X6]).run P w=.ok (goInt n) (w.setCells b o cs):=by
 have hld:=run_loadCells_list (P:=P) w a cs QB
 have hst:=run_storeCells_cells (P:=P) b o cs 0 w (by simpa using hc) (by simpa using hf) h1
 cases hq:P.info? elem with
 |none=>simp [hq] at hs
 |some i=>
  have hi:i.size=s:=by simpa [hq] using hs
  rw [hl] at hld
  simp [Builtin.copy_,run_underlying hu,Builtin.lenOf,Builtin.firstCells,sizeOf,typeInfo,hq,hi,<-hn,hld,hst]
variable {ops:Array y_} {a:Act} {Q:Exit->Act->J'->Prop} {v':M'}
theorem rK (w:J') {rest:List y_} {o:y_} (Q4:o.guard=none) (d s:Operand) (t t':Q')
 (ho:o.op=.call {callee:=.builtin .copy,args:=#[d,s],argTypes:=#[t,t']}) (v u:M') (hd:a.eval d=v) (hs:a.eval s=u)
 (hr:(Builtin.copy_ #[t,t'] o.type #[v,u]).run P w=.ok v' w') (h:wpList P ops Q rest (a.put o.dst v') w'):wpList P ops Q (o::rest) a w:=by
 refine wpList_plain Q4 fun _ hK=> ?_
 unfold Oper.wp V'
 simp only [ho,resolve,invoke,builtin,Sem.run_bind,Sem.run_pure,Result.andThen_ok,List.map_toArray,S_,List.map_nil,hd,hs,hr]
 exact hK _ _ h
theorem wK {o:y_} {K:Act->J'->Prop} {E:Prop}
 (hg:o.guard=none) (d x:Operand) (dT sT:Q') (hop:o.op=Op.call {callee:=Callee.builtin Builtin.copy,args:=#[d,x],argTypes:=#[dT,sT]})
 (v u:M') (hd:a.eval d=v) (hx:a.eval x=u) (hr:(Builtin.copy_ #[dT,sT] o.type #[v,u]).run P w=.ok v' w') (hK:K (a.put o.dst v') w'):
 if Region.wanted o (yielded ops a.tmps)=true then Oper.wp P o a w K Q else E:=by
 have hw:Region.wanted o (yielded ops a.tmps)=true:=by simp [Region.wanted,hg]
 rw [if_pos hw]
 unfold Oper.wp
 simp [V',hop,resolve,invoke,builtin,hd,hx,hr,Result.andThen]
 exact hK
variable {g:Nat}
theorem Ao {a c:M'} {e:Q'} (h:w.heap[g]?=some (.cells #[a,c] e (0,0))):∀j u,[a,c][j]?=some u->w.cell? ((⟨g,0,none⟩:Addr).add j)=some u:=by
 intro j u hu
 rw [Addr.add_lit]
 rcases j with _|_|j
 ·simp only [World.cell?,h];simpa using hu
 ·simp only [World.cell?,h];simpa using hu
 ·simp at hu
theorem Mw:(Tryz.prog.info? 84).map (·.size)=some 2:=by kernel_rfl
abbrev Half (X:Exit->Act->J'->Prop):Exit->Act->J'->Prop:=fun e a w=>match e with| .normal=>X .normal a w| .ret=>X .ret a w|_=>False
variable {C:cS} {h:Nat}
theorem Gq {b o:Nat} {ae Fin:O'->J'->Prop} {Post:M'->J'->Prop} {Rs:(Nat->Prop)->(Nat->aX)->Nat->Prop} {aI:Y'} {K:List x_} {cs:List Y'}:
 iM P C b o ae Fin Post h Rs aI K cs=Half (iM P C b o ae Fin Post h Rs aI K cs):=by
 funext e a w;cases e<;>rfl
noncomputable def bh:Code:=f130.body.getD .skip
section
variable {b N N0:Nat} {L:Nat->Of.Os} {B0:Nat} {ae Fin:O'->J'->Prop} {Post:M'->J'->Prop} {wl:J'} {aI:Y'} {aS:Act} {av:Array y_} {aN:Nat} {ak:List Nat} {aV:List x_} {cs:List Y'}
def Ez (v:M') (i g1:Nat) (z:M'):Array M':=#[v,.int .i64 (i:Nat),.slice (some ⟨g1,0,none⟩) 1 1,I',I',I',.slice none 0 0,I',I',I',v,.int .i64 (i:Nat),z,I',I',I',I',I',I',I',I',I',I',I',I',I',I',I',I',I',I',I',I',I',I',I',I',I',I',I',I',I',I',I',I',I',I',I',I',I',I',I',I',I',I',I',I',I',I',I',I',I',I',I',I',I',I',I',I',I',I',I',I',I',I',I',I',I',I',I',I',I',I',I',I',I',I',I',I',I',I',I',I',I',I']
variable {g1:Nat}
theorem JX (B:eh p_ C b 0 ae Fin h) (hL:Lay C wl) {n:Nat} {v:M'} (hv:(v=.slice none 0 0/\n=0)\/∃g cap,v=.slice (some ⟨g,0,none⟩) n cap/\n<=cap/\cap<=9223372036854775807) (hi:i<=n)
 (hc:∀z,ay p_ C b 0 ae Fin Post h (aY b N h L) wl (G ((base 130).at ⟨Ez v i g1 z,[]⟩ [.code (az 2 bh)]) (aI.at aS (.inRegion av (aN::ak)::aV)::cs))):
 ay p_ C b 0 ae Fin Post h (aY b N h L) wl (G ((base 130).at ⟨#[v,.int .i64 (i:Nat),.slice (some ⟨g1,0,none⟩) 1 1]++F_ 92 I',[]⟩ [.code bh]) (aI.at aS (.inRegion av (aN::ak)::aV)::cs)):=by
 have hS:=aH b N h L
 have ea:(#[v,.int .i64 (i:Nat),.slice (some ⟨g1,0,none⟩) 1 1]++F_ 92 I':Array M')=#[v,.int .i64 (i:Nat),.slice (some ⟨g1,0,none⟩) 1 1,I',I',I',I',I',I',I',I',I',I',I',I',I',I',I',I',I',I',I',I',I',I',I',I',I',I',I',I',I',I',I',I',I',I',I',I',I',I',I',I',I',I',I',I',I',I',I',I',I',I',I',I',I',I',I',I',I',I',I',I',I',I',I',I',I',I',I',I',I',I',I',I',I',I',I',I',I',I',I',I',I',I',I',I',I',I',I',I',I',I',I',I']:=by kernel_rfl
 rw [ea]
 have e1:bh=.seq (ai 0 bh) (.seq (ai 1 bh) (az 2 bh)):=by kernel_rfl
 rw [e1]
 have q1:(i:Int)<=(n:Int):=by omega
 have q2:(0:Int)<=(i:Int):=by omega
 have ir:=aa hc
 clear hc
 refine B.s ?_
 refine B.p (aF (by kernel_rfl) rfl rfl ⟨_,func130⟩) (fun T d Bh hB=> ?_)
 simp only [ai,bh,f130,A_]
 go_wp2_with fail
 subst hB
 intro hcut
 clear hcut
 refine ay.re (wl:=wl) ?_ T d
 refine B.s ?_
 refine B.p (aF (by kernel_rfl) rfl rfl ⟨_,func130⟩) (fun T d Bh hB=> ?_)
 simp only [ai,bh,f130,A_]
 rcases hv with ⟨rfl,rfl⟩|⟨g,cap,rfl,hcp,hc63⟩
 ·have qJ:i=0:=by omega
  subst qJ
  go_wp2_with fail
  subst hB
  intro hcut
  clear hcut
  refine ay.re (wl:=wl) ?_ T d
  exact ir.out _
 ·have q3:(i:Int)<=(cap:Int):=by omega
  have q4:i<=cap:=by omega
  have q5:(n:Int)<=(cap:Int):=by omega
  go_wp2_with fail
  all_goals
   subst hB
   intro hcut
   clear hcut
   refine ay.re (wl:=wl) ?_ T d
   first
    |exact ir.out _
    |(have hh:cap=i:=by assumption
      rw [hh] at ir
      exact ir.out _)
variable {x:Int × Int}
theorem Ey (B:eh p_ C b 0 ae Fin h) (hL:Lay C wl) {v z:M'} (bR:wl.ownsRow B0 84 2 v ws.length (ax ws)) (Ba:B0<=wl.heap.size) (hi:i=ws.length) (lG:wl.heap[g1]?=some (.cells #[.int .i64 x.1,.int .i64 x.2] 84 (0,0))) (hne:v.ownBlock≠some g1) (hsm:ws.length<=1000000)
 (hc:∀aK v',Lay C aK->gD wl aK v.ownBlock->aK.ownsRow B0 84 2 v' (ws.length+1) (ax (gY ws i x))->(v'.ownBlock=v.ownBlock\/∃g,v'.ownBlock=some g/\wl.heap.size<=g)->
  ay p_ C b 0 ae Fin Post h (aY b N h L) aK (G (aI.at (aS.put ((av[aN]?).bind (·.dst)) v') (.inRegion av ak::aV)) cs)):
 ay p_ C b 0 ae Fin Post h (aY b N h L) wl (G ((base 130).at ⟨Ez v i g1 z,[]⟩ [.code (az 2 bh)]) (aI.at aS (.inRegion av (aN::ak)::aV)::cs)):=by
 have hS:=aH b N h L
 unfold Ez
 have e1:az 2 bh=.seq (ai 2 bh) (.seq (ai 3 bh) (.seq (ai 4 bh) (.seq (ai 5 bh) (.seq (ai 6 bh) (.seq (ai 7 bh) (.seq (ai 8 bh) (az 9 bh))))))):=by kernel_rfl
 rw [e1]
 have q3:(1:Int)≠0:=by decide
 have ir:=aa hc
 clear hc
 obtain ⟨ab,cap,ev⟩:=aE bR
 subst ev
 subst hi
 refine B.s ?_
 refine B.p (aF (by kernel_rfl) rfl rfl ⟨_,func130⟩) (fun T d Bh hB=> ?_)
 simp only [ai,bh,f130,A_]
 go_wp2_with fail
 subst hB
 intro hcut
 clear hcut
 refine ay.re (wl:=wl) ?_ T d
 refine B.s ?_
 refine B.p (aF (by kernel_rfl) rfl rfl ⟨_,func130⟩) (fun T d Bh hB=> ?_)
 simp only [ai,bh,f130,A_]
 go_wp2_with fail
 subst hB
 intro hcut
 clear hcut
 refine ay.re (wl:=wl) ?_ T d
 refine B.s ?_
 refine B.p (aF (by kernel_rfl) rfl rfl ⟨_,func130⟩) (fun T d Bh hB=> ?_)
 simp only [ai,bh,f130,A_]
 go_wp2_with fail
 subst hB
 intro hcut
 clear hcut
 refine ay.re (wl:=wl) ?_ T d
 refine B.s ?_
 refine B.p (aF (by kernel_rfl) rfl rfl ⟨_,func130⟩) (fun T d Bh hB=> ?_)
 simp only [ai,bh,f130,A_]
 obtain ⟨i3,UN,J2,J1,J0⟩:=info_parts xn
 have L0:f_ ((wl.re T d).ownsRow B0 84 2 (.slice ab ws.length cap) ws.length (ax ws)):=bR
 have Dx:(wl.re T d).heap[g1]?=some (.cells #[.int .i64 x.1,.int .i64 x.2] 84 (0,0)):=lG
 have BL:f_ (B0<=(wl.re T d).heap.size):=Ba
 replace hsm:=aa hsm
 have hno:=aa hL.no
 have Ng:f_ (∀w',(wl.re T d).grownBy w' (Value.slice ab ws.length cap).ownBlock->gD wl w' (Value.slice ab ws.length cap).ownBlock):=fun _ hg=>gD.of hg
 have hsz:f_ ((wl.re T d).heap.size=wl.heap.size):=rfl
 replace hS:=aa hS
 clear bR lG Ba hL
 generalize wl.re T d=w0 at *
 go_wp2_with (at_builtin;refine wpList_append_lies _ rfl (.tmp 23) (.tmp 24) 74 rfl B0 84 i3 _ 2 16 Tryz.underlying74 UN J2 J1 J0 rfl (by decide) _ _ _ rfl L0.out ⟨g1,0,none⟩ 1 1 [.int .i64 x.1,.int .i64 x.2] rfl rfl (Ao Dx) ?c1 (by omega) ?c3 ?c4 BL.out _ rfl ?_)
 case c1=>intro u hu;simp at hu;rcases hu with rfl|rfl<;>rfl
 case c3=>have:=hsm.out;unfold maxLen;omega
 case c4=>have:=hsm.out;omega
 intro g mW w6 jl kh iP mR
 have lI:=aa (ir.out w6 (.slice (some ⟨g,0,none⟩) (ws.length+1) mW))
 have hG:=aa (Ng.out _ kh)
 have hO:f_ (w6.ownsRow B0 84 2 (.slice (some ⟨g,0,none⟩) (ws.length+1) mW) (ws.length+1) (ax (gY ws ws.length x))):=by
  rw [mb,List.take_of_length_le (by rw [bV];exact C_ _),List.drop_of_length_le (by rw [bV];exact C_ _),List.append_nil]
  exact jl
 have hV:f_ ((Value.slice (some ⟨g,0,none⟩) (ws.length+1) mW).ownBlock=(Value.slice ab ws.length cap).ownBlock\/∃g',(Value.slice (some ⟨g,0,none⟩) (ws.length+1) mW).ownBlock=some g'/\wl.heap.size<=g'):=iP.imp (fun e=>e.symm) (fun e=>⟨g,rfl,by rw [e,hsz.out];exact C_ _⟩)
 clear jl kh iP mR ir
 go_wp2_with fail
 subst hB
 intro hcut todo
 have jv:Lay C w6:=⟨hcut,hno.out⟩
 refine ay.ctl B hS.out jv rfl (fun _=>aZ rfl rfl func130 rfl) ?_
 exact lI.out jv hG.out hO.out hV.out
end
theorem Gs (b:Nat):∀(vs:List M') (o:Nat) (w:J'),(w.setCells b o vs).drew=w.drew.setCells b o vs
 |[],_,_=>rfl
 |v::r,o,w=>by rw [World.setCells,World.setCells,Gs b r];rfl
theorem vY (ws:List (Int × Int)):∀u∈ax ws,u.oneCell'=true:=by
 intro u hu
 simp [ax] at hu
 obtain ⟨a,b,_,rfl|rfl⟩:=hu<;>rfl
theorem FB (b:Nat) (vs:List M') (o:Nat) (w:J') (h:∀j,j<vs.length->(w.cell? ⟨b,o+j,none⟩).isSome=true) (k:Nat) (hk:(w.cell? ⟨b,k,none⟩).isSome=true):((w.setCells b o vs).cell? ⟨b,k,none⟩).isSome=true:=by
 by_cases Nq:o<=k/\k<o+vs.length
 ·have:=World.cell?_setCells_in b vs o w h (k - o) (by omega)
  rw [show o+(k - o)=k by omega] at this
  rw [this];rfl
 ·rw [World.cell?_setCells_out b vs o w ⟨b,k,none⟩ (fun _ _=>by show k<o\/o+vs.length<=k;omega)]
  exact hk
section
variable {b N N0:Nat} {L:Nat->Of.Os} {B0:Nat} {ae Fin:O'->J'->Prop} {Post:M'->J'->Prop} {wl:J'} {aI:Y'} {aS:Act} {av:Array y_} {aN:Nat} {ak:List Nat} {aV:List x_} {cs:List Y'}
variable {g1:Nat} {x:Int × Int}
theorem CE (B:eh p_ C b 0 ae Fin h) (hL:Lay C wl) {v z:M'} (bR:wl.ownsRow B0 84 2 v ws.length (ax ws)) (Ba:B0<=wl.heap.size) (hi:i<ws.length) (OQ:∀a c,v=.slice a ws.length c->c=ws.length) (lG:wl.heap[g1]?=some (.cells #[.int .i64 x.1,.int .i64 x.2] 84 (0,0))) (hne:v.ownBlock≠some g1) (hsm:ws.length<=1000000)
 (hc:∀aK v',Lay C aK->gD wl aK v.ownBlock->aK.ownsRow B0 84 2 v' (ws.length+1) (ax (gY ws i x))->(v'.ownBlock=v.ownBlock\/∃g,v'.ownBlock=some g/\wl.heap.size<=g)->
  ay p_ C b 0 ae Fin Post h (aY b N h L) aK (G (aI.at (aS.put ((av[aN]?).bind (·.dst)) v') (.inRegion av ak::aV)) cs)):
 ay p_ C b 0 ae Fin Post h (aY b N h L) wl (G ((base 130).at ⟨Ez v i g1 z,[]⟩ [.code (az 2 bh)]) (aI.at aS (.inRegion av (aN::ak)::aV)::cs)):=by
 have hS:=aH b N h L
 unfold Ez
 have e1:az 2 bh=.seq (ai 2 bh) (.seq (ai 3 bh) (.seq (ai 4 bh) (.seq (ai 5 bh) (.seq (ai 6 bh) (.seq (ai 7 bh) (.seq (ai 8 bh) (az 9 bh))))))):=by kernel_rfl
 rw [e1]
 have q3:(1:Int)≠0:=by decide
 have ir:=aa hc
 clear hc
 obtain ⟨ab,cap,ev⟩:=aE bR
 subst ev
 have lJ:cap=ws.length:=OQ _ _ rfl
 clear OQ
 subst lJ
 obtain ⟨g,KN⟩:∃g,ab=some ⟨g,0,none⟩:=by
  rcases bR.2 with ⟨h0,h1⟩|⟨g,cap',cur,h1,_⟩
  ·omega
  ·injection h1 with h1 h2 h3;exact ⟨g,h1⟩
 subst KN
 have q4:((i:Int)=(ws.length:Int))=False:=by simp;omega
 have q5:(ws.length:Int)<(ws.length:Int)+1:=by omega
 refine B.s ?_
 refine B.p (aF (by kernel_rfl) rfl rfl ⟨_,func130⟩) (fun T d Bh hB=> ?_)
 simp only [ai,bh,f130,A_]
 go_wp2_with fail
 subst hB
 intro hcut
 clear hcut
 refine ay.re (wl:=wl) ?_ T d
 refine B.s ?_
 refine B.p (aF (by kernel_rfl) rfl rfl ⟨_,func130⟩) (fun T d Bh hB=> ?_)
 simp only [ai,bh,f130,A_]
 go_wp2_with fail
 subst hB
 intro hcut
 clear hcut
 refine ay.re (wl:=wl) ?_ T d
 refine B.s ?_
 refine B.p (aF (by kernel_rfl) rfl rfl ⟨_,func130⟩) (fun T d Bh hB=> ?_)
 simp only [ai,bh,f130,A_]
 go_wp2_with fail
 subst hB
 intro hcut
 clear hcut
 refine ay.re (wl:=wl) ?_ T d
 refine B.s ?_
 refine B.p (aF (by kernel_rfl) rfl rfl ⟨_,func130⟩) (fun T d Bh hB=> ?_)
 simp only [ai,bh,f130,A_]
 go_wp2_with fail
 subst hB
 intro hcut
 clear hcut
 refine ay.re (wl:=wl) ?_ T d
 refine B.s ?_
 refine ay.code (ok:=il) B pA hS hL (aF (by kernel_rfl) rfl rfl ⟨_,func130⟩) ?_
 intro T d
 rw [Gq]
 generalize hB:iM p_ C b 0 ae Fin Post h (aY b N h L) _ _ _=Bh
 replace hB:=aa hB
 simp only [ai,bh,f130,A_]
 have L0:f_ ((wl.re T d).ownsRow B0 84 2 (.slice (some ⟨g,0,none⟩) ws.length ws.length) ws.length (ax ws)):=bR
 have Dx:f_ ((wl.re T d).heap[g1]?=some (.cells #[.int .i64 x.1,.int .i64 x.2] 84 (0,0))):=lG
 have BL:f_ (B0<=(wl.re T d).heap.size):=Ba
 replace hsm:=aa hsm
 have hno:=aa hL.no
 have Ng:f_ (∀w',(wl.re T d).grownBy w' none->gD wl w' (some g)):=fun w' hg=>⟨hg.os,hg.output,hg.size,fun k hk _=>hg.block k hk (by simp)⟩
 have hsz:f_ ((wl.re T d).heap.size=wl.heap.size):=rfl
 replace hS:=aa hS
 clear bR lG Ba hL
 generalize wl.re T d=w0 at *
 obtain ⟨i0,qJ,tX,rm,uF⟩:=info_parts xn
 obtain ⟨n,hn⟩:∃n,n=ws.length:=⟨_,rfl⟩
 obtain ⟨ps,FY⟩:∃ps,ps=ax ws:=⟨_,rfl⟩
 have yd:ps.length=n * 2:=by rw [FY,hn];exact bV ws
 have Iu:∀u∈ps,u.oneCell'=true:=by rw [FY];exact vY ws
 have hcell:∀j,j<n * 2->w0.cell? ⟨g,j,none⟩=ps[j]?:=fun j hj=>by rw [FY];exact L0.out.cellAt j (by rw [<-hn];exact hj)
 have YU:=hsm.out
 rw [<-hn] at YU hi q5 ⊢
 have hgs:g<w0.heap.size:=(L0.out.lt g rfl).2
 have BI:g1<w0.heap.size:=(cI Dx.out)
 have hold:(Builtin.firstCells i0.size i (.slice (some ⟨g,0,none⟩) i n)).run p_ w0.drew=.ok (ps.take (i * 2)).toArray w0.drew:=by
  rw [rm]
  exact run_firstCells_some w0.drew 2 i ⟨g,0,none⟩ i n (ps.take (i * 2)) (by rw [Q_];omega) (fun j u hj=>by
   rw [Addr.add_lit,Nat.zero_add]
   rw [List.getElem?_take] at hj
   split at hj
   ·exact (hcell j (by omega)).trans hj
   ·cases hj)
 obtain ⟨G,hG⟩:∃G,G=grownCap w0 (n+1) n 84:=⟨_,rfl⟩
 obtain ⟨ROW,Nz⟩:∃ROW:Array M',ROW=(ps.take (i * 2)).toArray++Builtin.zeroCells (Value.agg #[.int .i64 0,.int .i64 0]).cells (n+1 - i)++Builtin.zeroCells (Value.agg #[.int .i64 0,.int .i64 0]).cells (G - (n+1)):=⟨_,rfl⟩
 obtain ⟨W1,wq⟩:∃W1,W1=w0.drew.alloc (.cells ROW 84):=⟨_,rfl⟩
 have hGn:n+1<=G:=by rw [hG];exact grownCap_ge w0 _ _ _
 have hGm:G<=maxLen:=by
  rw [hG]
  exact grownCap_le_maxLen w0 (n+1) n 84 (by unfold maxLen;omega)
 have DC:ROW.size=G * 2:=by
  have e1:(Value.agg #[Value.int .i64 0,Value.int .i64 0]).cells.size=2:=rfl
  rw [Nz,Array.size_append,Array.size_append,List.size_toArray,Q_,size_zeroCells,size_zeroCells,e1]
  omega
 have hRt:ROW.toList.take (i * 2)=ps.take (i * 2):=by
  rw [Nz,Array.toList_append,Array.toList_append,List.append_assoc,List.take_append_of_le_length (by simp only [Q_];omega)]
  exact List.take_of_length_le (by simp only [Q_];omega)
 have hrz:∀ty,(Builtin.append_ #[74,3] ty #[.slice (some ⟨g,0,none⟩) i n,.int .i64 ((n:Int)+1 - (i:Int))]).run p_ w0=.ok (.slice (some ⟨w0.heap.size,0,none⟩) (n+1) G) W1:=fun ty=>by
  have h1:=Lib.run_append_grow_zeros w0 74 3 ty 84 i0 _ .i64 .i64 Tryz.underlying74 Tryz.underlying3 qJ tX (some ⟨g,0,none⟩) i n (ps.take (i * 2)) hold (n+1 - i) (by omega) (by rw [rm];decide) (by omega) (by omega) (by rw [uF];omega) (by rw [uF,show i+(n+1 - i)=n+1 by omega];exact growslice_fits (by omega) (by omega))
  rw [show i+(n+1 - i)=n+1 by omega,<-hG] at h1
  rw [show (n:Int)+1 - (i:Int)=((n+1 - i:Nat):Int) by omega,wq,Nz]
  exact h1
 have lr:W1.heap.size=w0.heap.size+1:=by rw [wq,B_];rfl
 have hN:∀j,j<(n+1) * 2->(W1.cell? ⟨w0.heap.size,j,none⟩).isSome=true:=fun j hj=>by
  rw [wq,World.cell?_alloc_at (w:=w0.drew) ROW _ w0.heap.size j rfl,H_ (by omega)];rfl
 have Z6:∀j,W1.frozen? ⟨w0.heap.size,j,none⟩=false:=fun j=>by rw [wq];exact World.frozen?_alloc_at (w:=w0.drew) ROW _ w0.heap.size j rfl
 obtain ⟨news,iU⟩:∃news:List M',news=[.int .i64 x.1,.int .i64 x.2]:=⟨_,rfl⟩
 have rp:news.length=2:=by rw [iU];rfl
 have CP:∀u∈news,u.oneCell'=true:=by rw [iU];intro u hu;simp at hu;rcases hu with rfl|rfl<;>rfl
 obtain ⟨W2,Dz⟩:∃W2,W2=W1.setCells w0.heap.size (i * 2) news:=⟨_,rfl⟩
 have Rb:∀ty dc,(Builtin.copy_ #[74,74] ty #[.slice (some ⟨w0.heap.size,i * 2,none⟩) (n+1 - i) dc,.slice (some ⟨g1,0,none⟩) 1 1]).run p_ W1=.ok (goInt 1) W2:=fun ty dc=>by
  rw [Dz]
  refine pP W1 _ _ ty 84 2 1 w0.heap.size (i * 2) (n+1 - i) dc ⟨g1,0,none⟩ 1 1 news Tryz.underlying74 Mw (by simp only [Nat.min_def];split<;>omega) (by rw [rp]) ?_ (fun j hj=>hN _ (by omega)) (fun j hj=>Z6 _) CP
  intro j u hu
  have h1:W1.heap[g1]?=some (.cells #[.int .i64 x.1,.int .i64 x.2] 84 (0,0)):=by rw [wq];exact ((N_ w0.drew (.cells ROW 84) none).block g1 BI (by simp)).trans Dx.out
  exact Ao h1 j u (by rw [<-iU];exact hu)
 obtain ⟨ds,Gj⟩:∃ds,ds=ps.drop (i * 2):=⟨_,rfl⟩
 have OT:ds.length=(n - i) * 2:=by rw [Gj,List.length_drop,yd];omega
 obtain ⟨W3,Ix⟩:∃W3,W3=W2.drew.setCells w0.heap.size ((i+1) * 2) ds:=⟨_,rfl⟩
 have Ra:∀ty dc sc,(Builtin.copy_ #[74,74] ty #[.slice (some ⟨w0.heap.size,(i+1) * 2,none⟩) (n+1 - (i+1)) dc,.slice (some ⟨g,i * 2,none⟩) (n - i) sc]).run p_ W2.drew=.ok (goInt ((n - i:Nat):Int)) W3:=fun ty dc sc=>by
  rw [Ix]
  refine pP W2.drew _ _ ty 84 2 (n - i) w0.heap.size ((i+1) * 2) (n+1 - (i+1)) dc ⟨g,i * 2,none⟩ (n - i) sc ds Tryz.underlying74 Mw (by simp only [Nat.min_def];split<;>omega) OT ?_ ?_ ?_ (fun u hu=>Iu u (by rw [Gj] at hu;exact List.mem_of_mem_drop hu))
  ·intro j u hu
   show W2.cell? _=_
   rw [Addr.add_lit,Dz,World.cell?_setCells_out _ _ _ _ _ (fun hh _=>by have:g=w0.heap.size:=hh;omega),wq]
   have hj:j<ds.length:=(List.getElem?_eq_some_iff.1 hu).1
   rw [J_ (w:=w0.drew) (a:=⟨g,i * 2+j,none⟩) ((N_ w0.drew (.cells ROW 84) none).block g hgs (by simp))]
   refine (hcell _ (by omega)).trans ?_
   rw [Gj,List.getElem?_drop] at hu
   exact hu
  ·intro j hj
   show (W2.cell? _).isSome=true
   rw [Dz]
   exact FB _ _ _ _ (fun t ht=>hN _ (by omega)) _ (hN _ (by omega))
  ·intro j hj
   show W2.frozen? _=false
   rw [Dz,World.frozen?_setCells]
   exact Z6 _
 have q6:(0:Int)<=(n:Int)+1 - (i:Int):=by omega
 have q7:(i:Int)<=(n:Int):=by omega
 have q8:(i:Int)<=(n:Int)+1:=by omega
 have q9:IntKind.i64.wrap ((n:Int)+1 - (i:Int))=(n:Int)+1 - (i:Int):=IntWalk.i64_in _ (by omega)
 have q10:IntKind.i64.wrap ((i:Int)+1)=(i:Int)+1:=IntWalk.i64_in _ (by omega)
 have q11:IntKind.i64.wrap ((n:Int)+1)=(n:Int)+1:=IntWalk.i64_in _ (by omega)
 have q12:((i:Int)+1).toNat=i+1:=by omega
 have q13:(0:Int)<=(i:Int)+1:=by omega
 have q14:¬(n=i):=by omega
 have Yr:¬(G=i):=by omega
 have q16:¬(G=i+1):=by omega
 have q17:(n:Int)+1<=(G:Int):=by omega
 have lI:=aa (ir.out W3 (.slice (some ⟨w0.heap.size,0,none⟩) (n+1) G))
 have iw:=Eh (w:=w0.drew.drew) (B:=B0) (e:=84) (s:=2) (n:=n) (cap:=G) (xs:=ps) (vs:=news) (row:=ROW) BL.out yd hGn hGm DC (i:=i) (by omega) rp hRt
 have Vr:((w0.drew.drew.alloc (.cells ROW 84)).setCells w0.heap.size (i * 2) news).setCells w0.heap.size (i * 2+2) (ps.drop (i * 2))=W3:=by
  rw [Ix,Dz,wq,Gj,Gs,show (i+1) * 2=i * 2+2 by omega];rfl
 have mQ:=aa (show W3.ownsRow B0 84 2 (.slice (some ⟨w0.heap.size,0,none⟩) (n+1) G) (n+1) (ps.take (i * 2)++news++ps.drop (i * 2))/\w0.drew.drew.grownBy W3 none by rw [<-Vr];exact iw)
 clear iw Vr Ix Dz wq Nz DC hRt hG hold hN Z6 hcell lr ir qJ tX rm uF Dx L0 OT Gj yd Iu rp CP
 replace FY:=aa FY
 replace hn:=aa hn
 replace iU:=aa iU
 go_wp2_with (first
  |(at_builtin;refine Lib.wpList_append_run _ rfl _ _ _ _ rfl _ _ rfl rfl _ _ (hrz _) ?_)
  |(at_builtin;refine rK _ rfl _ _ 74 74 rfl _ _ rfl rfl (Rb _ _) ?_))
 go_region_law (refine wK (by rfl) (.tmp 50) (.tmp 53) 74 74 (by rfl) (.slice (some ⟨w0.heap.size,(i+1) * 2,none⟩) (n+1 - (i+1)) (G - (i+1))) (.slice (some ⟨g,i * 2,none⟩) (n - i) (n - i)) (by simp [Act.eval,Act.put]) (by simp [Act.eval,Act.put]) (Ra 3 (G - (i+1)) (n - i)) ?_)
 go_wp2_with fail
 subst hB
 intro hcut todo
 have jv:Lay C W3:=⟨hcut,hno.out⟩
 refine ay.ctl B hS.out jv rfl (fun _=>aZ rfl rfl func130 rfl) ?_
 refine lI.out jv (Ng.out _ ⟨mQ.out.2.os,mQ.out.2.tape,mQ.out.2.output,mQ.out.2.size,mQ.out.2.block⟩) ?_ (.inr ⟨_,rfl,by rw [hsz.out];exact C_ _⟩)
 rw [mb,<-FY.out,<-iU.out,<-hn.out]
 exact mQ.out.1
end
end
section
open Go Go.Conc Go.Conc.Lib Go.ConcR Go.ConcR.Gen Go.aC Go.Proofs
open Go.RowKit hiding Hid
variable {P:U'} {lb cb:Nat}
theorem vK {tS tR e:Q'} (ht:P.underlying tS=some (.slice e)) {size:Nat} (hz:∀w,(sizeOf e).run P w=.ok size w) (w:J') (es:Array Event) {ab ao la ca:Nat} {b:Addr} (hne:ab≠b.block) {tA tB:Q'} {kA kB:Nat} (YV:w.shape? ab=some (tA,kA)) (hsb:w.shape? b.block=some (tB,kB)) (hkB:0<kB) (hf:∀j,w.frozen? ⟨ab,j,none⟩=false):
 (Extern.SlicesOverlaps.overlaps #[tS,tS] #[tR] #[.slice (some ⟨ab,ao,none⟩) la ca,.slice (some b) lb cb]).events P w es=es:=by
 have BH:(ab !=b.block)=true:=by simpa using hne
 have Zb:(ab==b.block)=false:=by simpa using hne
 have Mh:=hf ao
 have nj:=hf kA
 obtain ⟨k,rfl⟩:∃k,kB=k+1:=⟨kB - 1,by omega⟩
 show Sem.events P (Bind.bind (m:=Sem) (underlying tS) _) w es=es
 by_cases h0:la=0\/lb=0\/size=0
 ·simp [run_underlying ht,hz,h0]
 ·simp [run_underlying ht,hz,h0,BH,Zb,noView,viewAt,mayBeOne,stringish,YV,hsb,Mh,nj]
end
section
open Go Go.Conc Go.Conc.Lib Go.ConcR Go.ConcR.Gen Go.aC Go.Proofs
open Go.RowKit hiding Hid
open Go.ConcN (upd upd_ne upd_same)
section
variable {C:cS} {b N N0 h:Nat} {L:Nat->Of.Os} {B0:Nat} {ae Fin:O'->J'->Prop} {Post:M'->J'->Prop} {wl:J'} {aI:Y'} {aS:Act} {av:Array y_} {aN:Nat} {ak:List Nat} {aV:List x_} {cs:List Y'}
theorem I4 (w:J'):(sizeOf 84).run p_ w=.ok 2 w:=by
 obtain ⟨i0,qJ,_,h1,_⟩:=info_parts xn
 simp [sizeOf,typeInfo,qJ,h1]
variable {P:U'}
theorem G4 {fn f:FuncId}:seen P fn #[⟨.mark (.extern f),false,true⟩]=#[]:=by simp [seen]
variable {a:Act} {g1 g lb cb:Nat} {w:J'}
theorem wS {o:y_} {x y:Operand} (ho:o.op=.call {callee:=.value (.func 140),args:=#[x,y],argTypes:=#[74,74]}) {off:Nat} (hx:a.eval x=.slice (some ⟨g1,0,none⟩) 1 1) (hy:a.eval y=.slice (some ⟨g,off,none⟩) lb cb) (hne:g1≠g) {cA cB:Array M'} (hA:wl.heap[g1]?=some (.cells cA 84 (0,0))) (hB:wl.heap[g]?=some (.cells cB 84 (0,0))) (hs:0<cB.size) (hw:bI wl w):
 (V' a.eval o).run p_ w=.ok (.value (.bool false)) w/\∀fn,seen p_ fn ((V' a.eval o).events p_ w #[])=#[]:=by
 obtain ⟨kA,_,sA,fA⟩:=hw.plain hA
 obtain ⟨kB,hkB,sB,_⟩:=hw.plain hB
 have h1:=Lib.run_overlaps_apart w 74 4 84 Tryz.underlying74 2 I4 ⟨g1,0,none⟩ ⟨g,off,none⟩ 1 1 lb cb hne 84 84 kA kB sA sB (by omega) (fA 0) (fA kA)
 have h2:=vK Tryz.underlying74 (tR:=4) I4 w (#[⟨.mark (.extern 140),false,true⟩]) (ab:=g1) (ao:=0) (la:=1) (ca:=1) (lb:=lb) (cb:=cb) (b:=⟨g,off,none⟩) hne sA sB (by omega) fA
 have hf:Tryz.prog.funcs[140]?=some f140:=func140
 have hn:(f140.name== "runtime.NumGoroutine")=false:=by kernel_rfl
 have hb:f140.body.isNone=true:=by kernel_rfl
 have hen:Extern.findNext f140=none:=by kernel_rfl
 have he:Extern.find f140=some (Extern.SlicesOverlaps.overlaps #[74,74] #[4]):=by kernel_rfl
 have U5:a.eval (.func 140)=Value.func (Fn.func 140) #[] #[]:=rfl
 have bH:f140.name≠ "runtime.NumGoroutine" :=by simpa using hn
 have A8:f140.body=none:=by simpa using hb
 refine ⟨?_,fun fn=> ?_⟩
 ·simp only [V',ho,resolve,invoke,Deferred.ofValue,U5,List.map_toArray,S_,List.map_nil,hx,hy,Sem.run_bind,Sem.run_pure,Result.andThen_ok,Array.append_empty,Array.empty_append]
  rw [run_callFunc_extern hf hn hb hen he,h1]
  rfl
 ·have uO:(V' a.eval o).events p_ w #[]=#[⟨.mark (.extern 140),false,true⟩]:=by
   simp only [V',ho,resolve,invoke,Deferred.ofValue,U5,List.map_toArray,S_,List.map_nil,hx,hy]
   simp [callFunc,hf,bH,A8,hen,he,h2]
  rw [uO,G4]
variable {ws:List (Int × Int)} {i:Nat} {x:Int × Int}
theorem AL (B:eh p_ C b 0 ae Fin h) (hL:Lay C wl) {v z:M'} (bR:wl.ownsRow B0 84 2 v ws.length (ax ws)) (Ba:B0<=wl.heap.size) (hi:i<ws.length) (hroom:∀a c,v=.slice a ws.length c->ws.length<c) (lG:wl.heap[g1]?=some (.cells #[.int .i64 x.1,.int .i64 x.2] 84 (0,0))) (hne:v.ownBlock≠some g1) (hsm:ws.length<=1000000)
 (hc:∀aK v',Lay C aK->gD wl aK v.ownBlock->aK.ownsRow B0 84 2 v' (ws.length+1) (ax (gY ws i x))->(v'.ownBlock=v.ownBlock\/∃g,v'.ownBlock=some g/\wl.heap.size<=g)->
  ay p_ C b 0 ae Fin Post h (aY b N h L) aK (G (aI.at (aS.put ((av[aN]?).bind (·.dst)) v') (.inRegion av ak::aV)) cs)):
 ay p_ C b 0 ae Fin Post h (aY b N h L) wl (G ((base 130).at ⟨Ez v i g1 z,[]⟩ [.code (az 2 bh)]) (aI.at aS (.inRegion av (aN::ak)::aV)::cs)):=by
 have hS:=aH b N h L
 unfold Ez
 have e1:az 2 bh=.seq (ai 2 bh) (.seq (ai 3 bh) (.seq (ai 4 bh) (.seq (ai 5 bh) (.seq (ai 6 bh) (.seq (ai 7 bh) (.seq (ai 8 bh) (az 9 bh))))))):=by kernel_rfl
 rw [e1]
 have q3:(1:Int)≠0:=by decide
 have ir:=aa hc
 clear hc
 obtain ⟨ab,cap,ev⟩:=aE bR
 subst ev
 have lJ:ws.length<cap:=hroom _ _ rfl
 clear hroom
 obtain ⟨g,cur,KN,Zv,hcs,Ve⟩:∃g cur,ab=some ⟨g,0,none⟩/\wl.heap[g]?=some (.cells cur 84 (0,0))/\cur.size=cap * 2/\cap<=maxLen:=by
  rcases bR.2 with ⟨h0,h1⟩|⟨g,cap',cur,h1,_,h2,_,h3,h4,_⟩
  ·omega
  ·injection h1 with h1 h5 h6;subst h6;exact ⟨g,cur,h1,h2,h4,h3⟩
 subst KN
 have q4:((i:Int)=(ws.length:Int))=False:=by simp;omega
 have q5:((cap:Int)<(ws.length:Int)+1)=False:=by simp;omega
 have q6:IntKind.i64.wrap ((ws.length:Int)+1)=(ws.length:Int)+1:=IntWalk.i64_in _ (by omega)
 have q7:(0:Int)<=(ws.length:Int)+1:=by omega
 have q8:(ws.length:Int)+1<=(cap:Int):=by omega
 have q9:((ws.length:Int)+1).toNat=ws.length+1:=by omega
 have q10:IntKind.i64.wrap ((i:Int)+1)=(i:Int)+1:=IntWalk.i64_in _ (by omega)
 have q12:((i:Int)+1).toNat=i+1:=by omega
 have q13:(0:Int)<=(i:Int)+1:=by omega
 have q14:(i:Int)<=(ws.length:Int):=by omega
 have Yr:(i:Int)<=(ws.length:Int)+1:=by omega
 have q16:¬(cap=i):=by omega
 have q17:¬(cap=i+1):=by omega
 have q18:(i:Int)<=(cap:Int):=by omega
 refine B.s ?_
 refine B.p (aF (by kernel_rfl) rfl rfl ⟨_,func130⟩) (fun T d Bh hB=> ?_)
 simp only [ai,bh,f130,A_]
 go_wp2_with fail
 subst hB
 intro hcut
 clear hcut
 refine ay.re (wl:=wl) ?_ T d
 refine B.s ?_
 refine B.p (aF (by kernel_rfl) rfl rfl ⟨_,func130⟩) (fun T d Bh hB=> ?_)
 simp only [ai,bh,f130,A_]
 go_wp2_with fail
 subst hB
 intro hcut
 clear hcut
 refine ay.re (wl:=wl) ?_ T d
 refine B.s ?_
 refine B.p (aF (by kernel_rfl) rfl rfl ⟨_,func130⟩) (fun T d Bh hB=> ?_)
 simp only [ai,bh,f130,A_]
 go_wp2_with fail
 subst hB
 intro hcut
 clear hcut
 refine ay.re (wl:=wl) ?_ T d
 refine B.s ?_
 refine B.p (aF (by kernel_rfl) rfl rfl ⟨_,func130⟩) (fun T d Bh hB=> ?_)
 simp only [ai,bh,f130,A_]
 go_wp2_with fail
 subst hB
 intro hcut
 clear hcut
 refine ay.re (wl:=wl) ?_ T d
 refine B.s ?_
 refine B.p (aF (by kernel_rfl) rfl rfl ⟨_,func130⟩) (fun T d Bh hB=> ?_)
 simp only [ai,bh,f130,A_]
 go_wp2_with fail
 subst hB
 intro hcut
 clear hcut
 refine ay.re (wl:=wl) ?_ T d
 refine B.s ?_
 refine B.p (aF (by kernel_rfl) rfl rfl ⟨_,func130⟩) (fun T d Bh hB=> ?_)
 simp only [ai,bh,f130,A_]
 go_wp2_with fail
 subst hB
 intro hcut
 clear hcut
 refine ay.re (wl:=wl) ?_ T d
 simp only [ai,az,bh,f130,A_]
 refine B.s ?_
 refine B.s ?_
 refine B.r ?_
 refine B.q (.slice (some ⟨g1,0,none⟩) 1 1) ?_
 walk_nrm
 refine B.q (.slice (some ⟨g,0,none⟩) (ws.length+1) cap) ?_
 walk_nrm
 refine B.q (.int .i64 (i:Nat)) ?_
 walk_nrm
 refine B.q (.int .i64 1) ?_
 walk_nrm
 refine B.q (.int .i64 ((i:Int)+1)) ?_
 walk_nrm
 refine B.q (.slice (some ⟨g,(i+1) * 2,none⟩) (ws.length+1 - (i+1)) (cap - (i+1))) ?_
 walk_nrm
 refine ay.look B hS hL rfl rfl (by k_ne) (v:=.bool false) (fun w hw=>wS (x:=.tmp 61) (y:=.tmp 66) (by rfl) (g1:=g1) (g:=g) (off:=(i+1) * 2) (lb:=ws.length+1 - (i+1)) (cb:=cap - (i+1)) (by rfl) (by rfl) (fun e=>hne (by rw [e];rfl)) lG Zv (by omega) hw) ?_
 walk_nrm
 refine B.q (.bool true) ?_
 walk_nrm
 refine B.e ?_
 refine ay.code (ok:=il) B pA hS hL (aF (by kernel_rfl) rfl rfl ⟨_,func130⟩) ?_
 intro T d
 rw [Gq]
 generalize hB:iM p_ C b 0 ae Fin Post h (aY b N h L) _ _ _=Bh
 replace hB:=aa hB
 have L0:f_ ((wl.re T d).ownsRow B0 84 2 (.slice (some ⟨g,0,none⟩) ws.length cap) ws.length (ax ws)):=bR
 have Dx:f_ ((wl.re T d).heap[g1]?=some (.cells #[.int .i64 x.1,.int .i64 x.2] 84 (0,0))):=lG
 replace hsm:=aa hsm
 have hno:=aa hL.no
 have Ng:f_ (∀w',(wl.re T d).grownBy w' (some g)->gD wl w' (some g)):=fun _ hg=>gD.of hg
 have Q5:(wl.re T d).heap[g]?=some (.cells cur 84 (0,0)):=Zv
 replace hS:=aa hS
 clear bR lG Ba hL Zv
 generalize wl.re T d=w0 at *
 obtain ⟨n,hn⟩:∃n,n=ws.length:=⟨_,rfl⟩
 obtain ⟨ps,FY⟩:∃ps,ps=ax ws:=⟨_,rfl⟩
 have yd:ps.length=n * 2:=by rw [FY,hn];exact bV ws
 have Iu:∀u∈ps,u.oneCell'=true:=by rw [FY];exact vY ws
 have hcell:∀j,j<n * 2->w0.cell? ⟨g,j,none⟩=ps[j]?:=fun j hj=>by rw [FY];exact L0.out.cellAt j (by rw [<-hn];exact hj)
 have hsp:∀j,j<cap * 2->(w0.cell? ⟨g,j,none⟩).isSome=true:=fun j hj=>by
  simp only [World.cell?,Q5]
  rw [H_ (by omega)];rfl
 have Zw:∀j,w0.frozen? ⟨g,j,none⟩=false:=fun j=>by simp [World.frozen?,Q5]
 rw [<-hn] at hi lJ q4 q5 q6 q7 q8 q9 q14 Yr ⊢
 obtain ⟨news,iU⟩:∃news:List M',news=[.int .i64 x.1,.int .i64 x.2]:=⟨_,rfl⟩
 have rp:news.length=2:=by rw [iU];rfl
 have CP:∀u∈news,u.oneCell'=true:=by rw [iU];intro u hu;simp at hu;rcases hu with rfl|rfl<;>rfl
 obtain ⟨ds,Gj⟩:∃ds,ds=ps.drop (i * 2):=⟨_,rfl⟩
 have OT:ds.length=(n - i) * 2:=by rw [Gj,List.length_drop,yd];omega
 obtain ⟨W1,wq⟩:∃W1,W1=w0.drew.setCells g ((i+1) * 2) ds:=⟨_,rfl⟩
 have Rb:∀ty dc sc,(Builtin.copy_ #[74,74] ty #[.slice (some ⟨g,(i+1) * 2,none⟩) (n+1 - (i+1)) dc,.slice (some ⟨g,i * 2,none⟩) (n+1 - i) sc]).run p_ w0.drew=.ok (goInt ((n - i:Nat):Int)) W1:=fun ty dc sc=>by
  rw [wq]
  refine pP w0.drew _ _ ty 84 2 (n - i) g ((i+1) * 2) (n+1 - (i+1)) dc ⟨g,i * 2,none⟩ (n+1 - i) sc ds Tryz.underlying74 Mw (by simp only [Nat.min_def];split<;>omega) OT ?_ (fun j hj=>hsp _ (by omega)) (fun j _=>Zw _) (fun u hu=>Iu u (by rw [Gj] at hu;exact List.mem_of_mem_drop hu))
  intro j u hu
  rw [Addr.add_lit]
  have hj:j<ds.length:=(List.getElem?_eq_some_iff.1 hu).1
  refine (hcell _ (by omega)).trans ?_
  rw [Gj,List.getElem?_drop] at hu
  exact hu
 have lr:∀j,j<cap * 2->(W1.cell? ⟨g,j,none⟩).isSome=true:=fun j hj=>by
  rw [wq];exact FB g ds ((i+1) * 2) w0.drew (fun t ht=>hsp _ (by omega)) j (hsp j hj)
 obtain ⟨W2,Dz⟩:∃W2,W2=W1.setCells g (i * 2) news:=⟨_,rfl⟩
 have Ra:∀ty dc,(Builtin.copy_ #[74,74] ty #[.slice (some ⟨g,i * 2,none⟩) (n+1 - i) dc,.slice (some ⟨g1,0,none⟩) 1 1]).run p_ W1=.ok (goInt 1) W2:=fun ty dc=>by
  rw [Dz]
  refine pP W1 _ _ ty 84 2 1 g (i * 2) (n+1 - i) dc ⟨g1,0,none⟩ 1 1 news Tryz.underlying74 Mw (by simp only [Nat.min_def];split<;>omega) (by rw [rp]) ?_ (fun j hj=>lr _ (by omega)) (fun j hj=>by rw [wq,World.frozen?_setCells];exact Zw _) CP
  intro j u hu
  have Iw:g1≠g:=fun e=>hne (by rw [e];rfl)
  have h1:W1.heap[g1]?=some (.cells #[.int .i64 x.1,.int .i64 x.2] 84 (0,0)):=by rw [wq,cW _ _ _ _ _ Iw];exact Dx.out
  exact Ao h1 j u (by rw [<-iU];exact hu)
 have iw:=Ai (w:=w0.drew) (i:=i) (vs:=news) (by rw [<-FY,<-hn] at L0;exact L0.out) (by omega) (by omega) rp
 have Vr:(w0.drew.setCells g (i * 2+2) (ps.drop (i * 2))).setCells g (i * 2) news=W2:=by
  rw [Dz,wq,Gj,show (i+1) * 2=i * 2+2 by omega]
 rw [Vr] at iw
 have mQ:=aa iw
 have lI:=aa (ir.out W2 (.slice (some ⟨g,0,none⟩) (n+1) cap))
 clear iw Vr Dz wq hcell lr ir Dx L0 OT Gj yd Iu rp CP hsp Zw Q5 hcs
 replace FY:=aa FY
 replace hn:=aa hn
 replace iU:=aa iU
 go_wp2_with fail
 go_region_law (refine wK (by rfl) (.tmp 73) (.tmp 76) 74 74 (by rfl) (.slice (some ⟨g,(i+1) * 2,none⟩) (n+1 - (i+1)) (cap - (i+1))) (.slice (some ⟨g,i * 2,none⟩) (n+1 - i) (cap - i)) (by simp [Act.eval,Act.put]) (by simp [Act.eval,Act.put]) (Rb 3 (cap - (i+1)) (cap - i)) ?_)
 go_wp2_with (at_builtin;refine rK _ rfl _ _ 74 74 rfl _ _ rfl rfl (Ra _ _) ?_)
 subst hB
 intro hcut todo
 have jv:Lay C W2:=⟨hcut,hno.out⟩
 refine ay.ctl B hS.out jv rfl (fun _=>aZ rfl rfl func130 rfl) ?_
 refine lI.out jv (Ng.out _ ⟨mQ.out.2.os,mQ.out.2.tape,mQ.out.2.output,mQ.out.2.size,mQ.out.2.block⟩) ?_ (.inl rfl)
 rw [mb,<-FY.out,<-iU.out,<-hn.out]
 exact mQ.out.1
end
variable {i g1:Nat}
theorem Ld {v:M'}:Frame.enter p_ 130 #[v,.int .i64 (i:Nat),.slice (some ⟨g1,0,none⟩) 1 1] .normal=(base 130).at ⟨#[v,.int .i64 (i:Nat),.slice (some ⟨g1,0,none⟩) 1 1]++F_ 92 I',[]⟩ [.code bh]:=by kernel_rfl
theorem nE (w:J') (a:Addr) (v:M') (T:Nat->Question->Nat) (d:Nat):(w.re T d).setCell a v=(w.setCell a v).re T d:=by
 unfold World.setCell
 show (match w.heap[a.block]? with|_=>_)=_
 cases w.heap[a.block]? with
 |none=>rfl
 |some o=>cases o<;>rfl
def jj:Bs:=[108,105,110,101,32]
structure Im (A:Ha) (w w':J'):Prop where
 size:w.heap.size<=w'.heap.size
 block:∀i,i<A.B->i≠A.hb->i≠A.m1->i≠A.m2->i≠A.m3->w'.heap[i]?=w.heap[i]?
variable {A:Ha} {S:Hs} {vb vr va vt:M'} {w w':J'} {C:cS} {h:Nat}
theorem bN.zt {vw:M'} {N0:Nat} {us:List Od} {L:Nat->Os} (K:bN C A N0 h us L w) (H:aQ A S vw vb vr va vt w) (F:Im A w w'):bN C A N0 h us L w':=by
 have K1:bN C A N0 h us L {w with heap:=w'.heap}:=K.fr H ⟨rfl,rfl,rfl,F.size,F.block⟩
 exact ⟨K1.len,K1.small,K1.live,K1.n0,K1.ap,K1.fo,K1.kM,K1.cells⟩
theorem aU.zt {vw:M'} (h:aU A w) (H:aQ A S vw vb vr va vt w) (F:Im A w w'):aU A w':=
 (h.fr H (w':={w with heap:=w'.heap}) ⟨rfl,rfl,rfl,F.size,F.block⟩:)
section
variable {b N N0:Nat} {L:Nat->Of.Os} {us:List Od} {B0:Nat} {vw:M'} {ae Fin:O'->J'->Prop} {Post:M'->J'->Prop} {wl:J'} {aI:Y'} {aS:Act} {av:Array y_} {aN:Nat} {ak:List Nat} {aV:List x_} {cs:List Y'}
variable {ws:List (Int × Int)} {x:Int × Int}
theorem JY (B:eh p_ C b 0 ae Fin h) (hL:Lay C wl) {v:M'} (bR:wl.ownsRow B0 84 2 v ws.length (ax ws)) (Ba:B0<=wl.heap.size) (hi:i<=ws.length) (lG:wl.heap[g1]?=some (.cells #[.int .i64 x.1,.int .i64 x.2] 84 (0,0))) (hne:v.ownBlock≠some g1) (hsm:ws.length<=1000000)
 (hc:∀aK v',Lay C aK->gD wl aK v.ownBlock->aK.ownsRow B0 84 2 v' (ws.length+1) (ax (gY ws i x))->(v'.ownBlock=v.ownBlock\/∃g,v'.ownBlock=some g/\wl.heap.size<=g)->
  ay p_ C b 0 ae Fin Post h (aY b N h L) aK (G (aI.at (aS.put ((av[aN]?).bind (·.dst)) v') (.inRegion av ak::aV)) cs)):
 ay p_ C b 0 ae Fin Post h (aY b N h L) wl (G ((base 130).at ⟨#[v,.int .i64 (i:Nat),.slice (some ⟨g1,0,none⟩) 1 1]++F_ 92 I',[]⟩ [.code bh]) (aI.at aS (.inRegion av (aN::ak)::aV)::cs)):=by
 have hv:(v=.slice none 0 0/\ws.length=0)\/∃g cap,v=.slice (some ⟨g,0,none⟩) ws.length cap/\ws.length<=cap/\cap<=9223372036854775807:=by
  rcases bR.2 with ⟨h0,h1⟩|⟨g,cap,cur,h1,_,_,h2,h3,_⟩
  ·exact .inl ⟨h0,h1⟩
  ·exact .inr ⟨g,cap,h1,h2,h3⟩
 refine JX B hL hv hi fun z=> ?_
 by_cases he:i=ws.length
 ·exact Ey B hL bR Ba he lG hne hsm hc
 ·rcases hv with ⟨_,h0⟩|⟨g,cap,h1,h2,_⟩
  ·omega
  ·by_cases hf:cap=ws.length
   ·exact CE B hL bR Ba (by omega) (fun a c e=>by rw [h1] at e;injection e with e1 e2 e3;omega) lG hne hsm hc
   ·exact AL B hL bR Ba (by omega) (fun a c e=>by rw [h1] at e;injection e with e1 e2 e3;omega) lG hne hsm hc
variable {pt:Int} {l k:Nat}
theorem ring_end (B:eh p_ C b 0 ae Fin h) (hL:Lay C wl) (H:aQ A S vw vb vr va vt wl) (K:bN C A N0 h us L wl) (hT:aU A wl) {c:Int} (hl:l<=1000) (hk:k<=S.wait.length) (AQ:S.wait.length<=1000000) {z3 z4 z5 z6 z9 dB cZ z12 de dn dm dk dj dA dz z20 z21 z22 z23 z24 z25 z26 dD z28 dC dM z31 dQ dK dP dO dV z37 ey ew z40 eu eK eJ eI eH z46 eQ eN z49 en z51 iu z53 iF iE iD iC iB z59 nv nu np nk sW sV rH rG rF uu z70 yb z72 z73 z74 z75 z76 z77 z78 z79:M'}
 (hc:∀aK jA,Lay C aK->aQ A {S with wait:=gY S.wait k (c,pt)} jA vb vr va vt aK->bN C A N0 h us L aK->aU A aK->
  ay p_ C b 0 ae Fin Post h (aY b N h L) aK (G (aI.at (aS.put ((av[aN]?).bind (·.dst)) (.string ⟨(jj++Lib.itoa ((l:Int)+1)).toArray⟩)) (.inRegion av ak::aV)) cs)):
 ay p_ C b 0 ae Fin Post h (aY b N h L) wl (G ((base 121).at ⟨#[.pointer (some ⟨A.hb,0,none⟩),.int .i64 c,.int .i64 pt,z3,z4,z5,z6,.int .i64 (l:Nat),.int .i64 (k:Nat),z9,dB,cZ,z12,de,dn,dm,dk,dj,dA,dz,z20,z21,z22,z23,z24,z25,z26,dD,z28,dC,dM,z31,dQ,dK,dP,dO,dV,z37,ey,ew,z40,eu,eK,eJ,eI,eH,z46,eQ,eN,z49,en,z51,iu,z53,iF,iE,iD,iC,iB,z59,nv,nu,np,nk,sW,sV,rH,rG,rF,uu,z70,yb,z72,z73,z74,z75,z76,z77,z78,z79],[]⟩ [.code (.seq (ai 7 bF) (az 8 bF))]) (aI.at aS (.inRegion av (aN::ak)::aV)::cs)):=by
 have hS:=aH b N h L
 have ir:=aa hc
 clear hc
 refine B.s ?_
 generalize hK:[Item.code (az 8 bF)]=K0 at *
 simp only [ai,bF,f121,A_]
 iterate 5 refine B.n ?_
 refine B.o vw (fun T d=> ?_) ?_
 ·have h0:(wl.re T d).cell? ⟨A.hb,7,none⟩=some vw:=H.c.2.2.2.2.1
  go_simp
 walk_nrm
 iterate 4 refine B.n ?_
 refine ay.op (ok:=il) B hS hL rfl rfl (by k_ne) (by kernel_rfl) (fun T d=>⟨.slice (some ⟨wl.heap.size,0,none⟩) 1 1,(wl.alloc (.cells #[.int .i64 c,.int .i64 pt] 84)).re T d, ?_,fun hcut=>ay.re ?_ T d⟩)
 ·go_simp
  exact ⟨rfl,rfl⟩
 have du:Lay C (wl.alloc (.cells #[.int .i64 c,.int .i64 pt] 84)):=⟨Cut.j8 hcut,hL.no⟩
 walk_nrm
 have H2:=H.alloc (.cells #[.int .i64 c,.int .i64 pt] 84)
 have F2:Im A wl (wl.alloc (.cells #[.int .i64 c,.int .i64 pt] 84)):=⟨(Fr.alloc (w:=wl) H.big _).size,(Fr.alloc (w:=wl) H.big _).block⟩
 refine ay.ctl B hS du rfl (fun _=>bY (vs:=#[vw,.int .i64 (k:Nat),.slice (some ⟨wl.heap.size,0,none⟩) 1 1]) rfl rfl (by k_ne) rfl func130 rfl rfl (by kernel_rfl)) ?_
 rw [Ld]
 have fz:∀g,vw.ownBlock=some g->A.B<=g/\g<wl.heap.size:=fun g e=>H.wait.lt g e
 refine JY B du (B0:=A.B) (ws:=S.wait) (v:=vw) (i:=k) (x:=(c,pt)) H2.wait H2.big hk (heap_alloc_new wl _) (fun e=>Nat.lt_irrefl _ (fz _ e).2) AQ fun w3 v3 gA KV QK ZP=> ?_
 obtain ⟨a3,q3,WW⟩:=aE QK
 replace WW:=aa WW
 have hp:=H2.Af (w':=w3.re (wl.alloc (.cells #[.int .i64 c,.int .i64 pt] 84)).tape w3.drawn) (v:=v3) (ws:=gY S.wait k (c,pt)) KV.W6 (by rw [JZ hk];exact QK)
 have H4:=hp.1
 have F4:Im A wl (w3.setCell ⟨A.hb,7,none⟩ v3):=⟨Nat.le_trans F2.size hp.2.size,fun i h1 h2 h3 h4 h5=>(hp.2.block i h1 h2 h3 h4 h5).trans (F2.block i h1 h2 h3 h4 h5)⟩
 have c7:∀T d,(w3.re T d).cell? ⟨A.hb,7,none⟩=some vw:=fun _ _=>(J_ (KV.block A.hb (E_ H2.ok.hb H2.big) (fun e=>by have:=(fz _ e.symm).1;have:=H2.ok.hb;omega))).trans H2.c.2.2.2.2.1
 have z7:∀T d,(w3.re T d).frozen? ⟨A.hb,7,none⟩=false:=fun _ _=>(m_ (KV.block A.hb (E_ H2.ok.hb H2.big) (fun e=>by have:=(fz _ e.symm).1;have:=H2.ok.hb;omega))).trans (H2.z 7)
 walk_nrm
 iterate 2 refine B.n ?_
 refine ay.Wh (ok:=il) B hS gA rfl rfl (by k_ne) (by kernel_rfl) (fun T d=>⟨(w3.setCell ⟨A.hb,7,none⟩ v3).re T d, ?_,fun hcut=>ay.re ?_ T d⟩)
 ·have h7:=c7 T d
  have f7:=z7 T d
  rw [WW.out]
  go_simp
  exact nE _ _ _ _ _
 have qv:Lay C (w3.setCell ⟨A.hb,7,none⟩ v3):=⟨Cut.j8 hcut,gA.no⟩
 walk_nrm
 refine B.e ?_
 have K4:bN C A N0 h us L (w3.setCell ⟨A.hb,7,none⟩ v3):=K.zt H F4
 have T4:aU A (w3.setCell ⟨A.hb,7,none⟩ v3):=aU.zt hT H F4
 have H5:aQ A {S with wait:=gY S.wait k (c,pt)} v3 vb vr va vt (w3.setCell ⟨A.hb,7,none⟩ v3):=H4.heap rfl
 clear WW H4 hp F4 c7 z7 KV QK ZP gA H2 F2 du K hT H hL fz
 generalize w3.setCell ⟨A.hb,7,none⟩ v3=w5 at *
 subst hK
 refine B.p (aF (by kernel_rfl) rfl rfl ⟨_,func121⟩) (fun T d Bh hB=> ?_)
 have H6:=aa (H5.heap (w':=w5.re T d) rfl)
 have K6:f_ (bN C A N0 h us L (w5.re T d)):=⟨K4.len,K4.small,K4.live,K4.n0,K4.ap,K4.fo,K4.kM,K4.cells⟩
 have T6:f_ (aU A (w5.re T d)):=T4
 have hno:=aa qv.no
 replace hS:=aa hS
 clear H5 K4 T4 qv
 generalize w5.re T d=w6 at *
 have oJ:IntKind.i64.wrap ((l:Int)+1)=(l:Int)+1:=IntWalk.i64_in _ (by omega)
 have hlen:=Lib.itoa_length_le ((l:Int)+1) (by omega) (by omega)
 have nU:¬(9223372036854775807<5+(Lib.itoa ((l:Int)+1)).length):=by omega
 have HF:=aa (si (T6.out.PO H6.out) ((l:Int)+1) (by omega) (by omega))
 simp only [az,bF,f121,A_]
 go_wp2_with fail
 refine HF.out.mono ?_
 rintro e w7 ⟨rfl,hg⟩
 have F7:=Fr.kept H6.out.big hg (fun _ e=>by cases e)
 have H7:=aa (H6.out.more hg)
 have K7:=aa (K6.out.fr H6.out F7)
 have T7:=aa (T6.out.fr H6.out F7)
 clear hg F7 H6 K6 T6 HF
 go_wp2_with fail
 subst hB
 intro hcut todo
 have jv:Lay C w7:=⟨hcut,hno.out⟩
 refine ay.ctl B hS.out jv rfl (fun _=>aZ rfl rfl func121 rfl) ?_
 have:=ir.out w7 _ jv H7.out K7.out T7.out
 rw [<-vQ] at this
 exact this
end
def placeOf (ws:List (Int × Int)) (pt:Int):Nat:=(ws.takeWhile fun q=>decide (pt<=q.2)).length
variable {ws:List (Int × Int)} {pt:Int} {k:Nat}
theorem nI (hk:k<=ws.length) (h1:∀j (hj:j<ws.length),j<k->pt<=(ws[j]).2) (h2:∀(hj:k<ws.length),¬pt<=(ws[k]).2):placeOf ws pt=k:=by
 unfold placeOf
 induction ws generalizing k with
 |nil=>simp at hk;subst hk;rfl
 |cons a l ih=>
  cases k with
  |zero=>
   have h:=h2 (by simp)
   simp only [List.getElem_cons_zero] at h
   rw [List.takeWhile_cons_of_neg (by simpa using h)];rfl
  |succ k=>
   have h:=h1 0 (by simp) (by omega)
   simp only [List.getElem_cons_zero] at h
   rw [List.takeWhile_cons_of_pos (by simpa using h),List.length_cons,ih (k:=k) (by simpa using hk) (fun j hj hjk=>h1 (j+1) (by simpa using hj) (by omega)) (fun hj=>h2 (by simpa using hj))]
section
variable {b N N0:Nat} {L:Nat->Of.Os} {us:List Od} {B0:Nat} {vw:M'} {ae Fin:O'->J'->Prop} {Post:M'->J'->Prop} {wl:J'} {aI:Y'} {aS:Act} {av:Array y_} {aN:Nat} {ak:List Nat} {aV:List x_} {cs:List Y'}
variable {l:Nat}
theorem G9 (B:eh p_ C b 0 ae Fin h) (hL:Lay C wl) (H:aQ A S vw vb vr va vt wl) {c:Int} (lW:S.back.length<=1000000) (hn:S.lines.length<=1000) (xE:S.of c=none) (yL:S.back.contains c=false) (hl:l<S.lines.length) (jV:gf S=(l:Nat)) (wi:S.recs.length<=90000) (AQ:S.wait.length<=1000000) (c0:0<=c) (c1:c<=1000000) (K:bN C A N0 h us L wl) (hT:aU A wl)
 (hc:∀aK jA qb,Lay C aK->aQ A {conn S c l S.lines[l] with wait:=gY S.wait (placeOf S.wait pt) (c,pt)} jA vb qb va vt aK->bN C A N0 h us L aK->aU A aK->
  ay p_ C b 0 ae Fin Post h (aY b N h L) aK (G (aI.at (aS.put ((av[aN]?).bind (·.dst)) (.string ⟨(jj++Lib.itoa ((l:Int)+1)).toArray⟩)) (.inRegion av ak::aV)) cs)):
 ay p_ C b 0 ae Fin Post h (aY b N h L) wl (G ((base 121).at ⟨#[.pointer (some ⟨A.hb,0,none⟩),.int .i64 c,.int .i64 pt]++F_ 77 I',[]⟩ [.code bF]) (aI.at aS (.inRegion av (aN::ak)::aV)::cs)):=by
 have hS:=aH b N h L
 have ea:(#[.pointer (some ⟨A.hb,0,none⟩),.int .i64 c,.int .i64 pt]++F_ 77 I':Array M')=#[.pointer (some ⟨A.hb,0,none⟩),.int .i64 c,.int .i64 pt,I',I',I',I',I',I',I',I',I',I',I',I',I',I',I',I',I',I',I',I',I',I',I',I',I',I',I',I',I',I',I',I',I',I',I',I',I',I',I',I',I',I',I',I',I',I',I',I',I',I',I',I',I',I',I',I',I',I',I',I',I',I',I',I',I',I',I',I',I',I',I',I',I',I',I',I',I']:=by kernel_rfl
 rw [ea]
 have e1:bF=.seq (ai 0 bF) (.seq (ai 1 bF) (.seq (ai 2 bF) (.seq (ai 3 bF) (.seq (ai 4 bF) (.seq (ai 5 bF) (.seq (ai 6 bF) (.seq (ai 7 bF) (az 8 bF)))))))):=by kernel_rfl
 rw [e1]
 refine B.s ?_
 refine B.p (aF (by kernel_rfl) rfl rfl ⟨_,func121⟩) (fun T d Bh hB=> ?_)
 simp only [ai,bF,f121,A_]
 go_wp2_with fail
 subst hB
 intro hcut
 clear hcut
 refine ay.re (wl:=wl) ?_ T d
 refine B.s ?_
 refine B.p (aF (by kernel_rfl) rfl rfl ⟨_,func121⟩) (fun T d Bh hB=> ?_)
 have c5:(wl.re T d).cell? ⟨A.hb,5,none⟩=some (.map (some A.m2)):=H.c.2.2.1
 have c8:(wl.re T d).cell? ⟨A.hb,8,none⟩=some vb:=H.c.2.2.2.2.2.1
 have kE:=H.of.heap (w':=wl.re T d) rfl
 have sY:=aa (nW (w:=wl.re T d) (H.heap (w':=wl.re T d) rfl).back lW c)
 obtain ⟨ab,cb,K8⟩:=aE H.back
 subst K8
 have ir:=aa hc
 have HH:=aa H
 have qK:=aa hL
 have QN:=aa hn
 clear hc hL H hn
 simp only [ai,bF,f121,A_]
 have nT:(binOp .neq 78 (.chan none) (.chan none)).run p_ (wl.re T d)=.ok (.bool false) (wl.re T d):=rY Tryz.underlying78 none
 rw [yL] at sY
 go_wp2_with (at_lookup;refine cU _ rfl _ _ 72 false rfl pe Tryz.underlying72 A.m2 rfl kE c rfl qQ ?_;simp only [xE,Option.map_none,Option.getD_none,Bool.false_eq_true,if_false])
 refine sY.out.mono ?_
 rintro e w2 ⟨rfl,rfl⟩
 go_wp2_with fail
 clear kE sY c5 c8 nT
 have hL:=qK.out
 subst hB
 intro hcut
 clear hcut
 refine ay.re (wl:=wl) ?_ T d
 refine B.s ?_
 refine B.p (aF (by kernel_rfl) rfl rfl ⟨_,func121⟩) (fun T d Bh hB=> ?_)
 have dJ:=aa (kK (HH.out.heap (w':=wl.re T d) rfl) QN.out)
 clear hL
 simp only [ai,bF,f121,A_]
 go_wp2_with fail
 refine dJ.out.mono ?_
 rintro e w2 ⟨rfl,rfl⟩
 rw [jV]
 go_wp2_with fail
 have hL:=qK.out
 subst hB
 intro hcut
 clear hcut
 refine ay.re (wl:=wl) ?_ T d
 have q1:((l:Int)<0)=False:=by simp
 refine B.s ?_
 refine B.p (aF (by kernel_rfl) rfl rfl ⟨_,func121⟩) (fun T d Bh hB=> ?_)
 simp only [ai,bF,f121,A_]
 go_wp2_with fail
 subst hB
 intro hcut
 clear hcut
 refine ay.re (wl:=wl) ?_ T d
 refine B.s ?_
 refine B.p (aF (by kernel_rfl) rfl rfl ⟨_,func121⟩) (fun T d Bh hB=> ?_)
 have H3:=aa (HH.out.heap (w':=wl.re T d) rfl)
 have K3:f_ (bN C A N0 h us L (wl.re T d)):=⟨K.len,K.small,K.live,K.n0,K.ap,K.fo,K.kM,K.cells⟩
 have T3:f_ (aU A (wl.re T d)):=hT
 have xG:=aa (oy H3.out (c:=c) (l:=l) hl QN.out (by omega) (by omega) (by omega) (Fr.refl A (wl.re T d)))
 have hno:=aa hL.no
 replace hS:=aa hS
 clear HH qK hL xE yL jV dJ K hT
 generalize wl.re T d=w4 at *
 simp only [ai,bF,f121,A_]
 go_wp2_with fail
 refine xG.out.mono ?_
 rintro e w5 ⟨rfl,⟨qb,H5⟩,F5⟩
 have H5:=aa H5
 have K5:=aa (K3.out.fr H3.out F5)
 have T5:=aa (T3.out.fr H3.out F5)
 clear F5 K3 T3 H3 xG
 go_wp2_with fail
 subst hB
 intro hcut
 have qu:Lay C w5:=⟨hcut,hno.out⟩
 replace hS:=hS.out
 clear hcut
 refine B.s ?_
 refine B.p (aF (by kernel_rfl) rfl rfl ⟨_,func121⟩) (fun T d Bh hB=> ?_)
 simp only [ai,bF,f121,A_]
 go_wp2_with fail
 subst hB
 intro hcut
 clear hcut
 refine ay.re (wl:=w5) ?_ T d
 refine B.s ?_
 refine B.p (aF (by kernel_rfl) rfl rfl ⟨_,func121⟩) (fun T d Bh hB=> ?_)
 have H6:=aa (H5.out.heap (w':=w5.re T d) rfl)
 have c7:=H6.out.c.2.2.2.2.1
 obtain ⟨aw,cw,evw⟩:=aE H6.out.wait
 have Wl:f_ (∀g cap,vw=.slice (some ⟨g,0,none⟩) S.wait.length cap->∀k (hk:k<S.wait.length),(w5.re T d).cell? ⟨g,k * 2,none⟩=some (.int .i64 (S.wait[k]).1)/\(w5.re T d).cell? ⟨g,k * 2+1,none⟩=some (.int .i64 (S.wait[k]).2)):=fun g cap e k hk=>H6.out.wE (S:=conn S c l S.lines[l]) e hk
 have KA:S.wait.length=0\/∃g cap,vw=.slice (some ⟨g,0,none⟩) S.wait.length cap:=by
  rcases H6.out.wait.2 with ⟨_,h0⟩|⟨g,cap,cur,h1,_⟩
  ·exact .inl h0
  ·exact .inr ⟨g,cap,h1⟩
 replace KA:=aa KA
 have Vw:=aa qu
 have hSH:=aa hS
 clear qu hS
 generalize sk:w5.re T d=w6 at *
 replace sk:=aa sk
 subst evw
 simp only [ai,bF,f121,A_]
 simp only [conn] at c7
 go_wp2_with fail
 go_loopw [8] (fun i wr=>∃k:Nat,k<=S.wait.length/\i=.int .i64 k/\f_ (∀j (hj:j<S.wait.length),j<k->pt<=(S.wait[j]).2)/\w6=wr) (fun i _=>S.wait.length - (intOf i).toNat)
 case atStart=>exact ⟨0,Nat.zero_le _,rfl,fun j hj h0=>by omega,rfl⟩
 case round=>
  obtain ⟨k,hk,rfl,hT,rfl⟩:=hrel
  by_cases hlt:k<S.wait.length
  ·have gJ:(k:Int)<(S.wait.length:Int):=by omega
   obtain ⟨g,e,y2⟩:∃g,aw=some ⟨g,0,none⟩/\w6.cell? ⟨g,k * 2+1,none⟩=some (.int .i64 (S.wait[k]).2):=by
    rcases KA.out with h0|⟨g,cap,e⟩
    ·omega
    ·have:=(Wl.out g cap e k hlt).2
     injection e with e1 e2 e3
     exact ⟨g,e1,this⟩
   subst e
   by_cases hp:pt<=(S.wait[k]).2
   ·go_wp2_with fail
    go_roundw
    case rel=>exact ⟨k+1,by omega,by go_num,aa (fun j hj h0=>if e:j=k then by subst e;exact hp else hT.out j hj (by omega)),trivial⟩
    case measure=>simp [intOf];omega
   ·go_wp2_with fail
    subst hB
    intro hcut
    have Iz:Lay C w6:=⟨hcut,Vw.out.no⟩
    have K6:bN C A N0 h us L w6:=by rw [<-sk.out];exact ⟨K5.out.len,K5.out.small,K5.out.live,K5.out.n0,K5.out.ap,K5.out.fo,K5.out.kM,K5.out.cells⟩
    have T6:aU A w6:=by rw [<-sk.out];exact T5.out
    have yd:placeOf S.wait pt=k:=nI hk hT.out (fun _=>by omega)
    refine ring_end B Iz H6.out K6 T6 (by have:=QN.out;omega) (show k<=(conn S c l S.lines[l]).wait.length from hk) AQ fun aK jA fJ H' K' T'=>ir.out aK jA qb fJ (by rw [yd];exact H') K' T'
  ·obtain rfl:k=S.wait.length:=by omega
   have gJ:((S.wait.length:Int)<(S.wait.length:Int))=False:=by simp
   go_wp2_with fail
   subst hB
   intro hcut
   have Iz:Lay C w6:=⟨hcut,Vw.out.no⟩
   have K6:bN C A N0 h us L w6:=by rw [<-sk.out];exact ⟨K5.out.len,K5.out.small,K5.out.live,K5.out.n0,K5.out.ap,K5.out.fo,K5.out.kM,K5.out.cells⟩
   have T6:aU A w6:=by rw [<-sk.out];exact T5.out
   have yd:placeOf S.wait pt=S.wait.length:=nI (C_ _) hT.out (fun h=>absurd h (Nat.lt_irrefl _))
   refine ring_end B Iz H6.out K6 T6 (by have:=QN.out;omega) (show S.wait.length<=(conn S c l S.lines[l]).wait.length from C_ _) AQ fun aK jA fJ H' K' T'=>ir.out aK jA qb fJ (by rw [yd];exact H') K' T'
end
def oe (S:Hs) (us:List Od) (c pt:Int):Hs × List Od × Bs:=
 if (S.of c).isSome||S.back.contains c then (S,us,tT) else if gf S<0 then ({S with back:=S.back++[c]},us,qN) else match S.lines[(gf S).toNat]? with
  |none=>(S,us,[])
  |some x=>({conn S c (gf S).toNat x with wait:=gY S.wait (placeOf S.wait pt) (c,pt)},us,jj++Lib.itoa (((gf S).toNat:Nat)+1:Int))
structure Fo (S:Hs):Prop where
 lines:S.lines.length<=1000
 recs:S.recs.length<=90000
 back:S.back.length<=1000000
 wait:S.wait.length<=1000000
section
variable {b N N0:Nat} {L:Nat->Of.Os} {us:List Od} {ae Fin:O'->J'->Prop} {Post:M'->J'->Prop} {wl:J'} {aI:Y'} {aS:Act} {av:Array y_} {aN:Nat} {ak:List Nat} {aV:List x_} {cs:List Y'}
theorem ring (B:eh p_ C b 0 ae Fin h) (hL:Lay C wl) (H:cQ A va vt S wl) (K:bN C A N0 h us L wl) (hT:aU A wl) {c:Int} (c0:0<=c) (c1:c<=1000000) (cK:Fo S)
 (hc:Behind C b N N0 h A va vt ae Fin Post aI aS av aN ak aV cs (oe S us c pt)):
 ay p_ C b 0 ae Fin Post h (aY b N h L) wl (G ((base 121).at ⟨#[.pointer (some ⟨A.hb,0,none⟩),.int .i64 c,.int .i64 pt]++F_ 77 I',[]⟩ [.code bF]) (aI.at aS (.inRegion av (aN::ak)::aV)::cs)):=by
 obtain ⟨vw,vb,vr,H⟩:=H
 by_cases hk:((S.of c).isSome||S.back.contains c)=true
 ·have hR:oe S us c pt=(S,us,tT):=by unfold oe;rw [if_pos hk]
  rw [hR] at hc
  exact D9 B hL H cK.back (by simpa using hk) (hc wl L hL ⟨_,_,_,H⟩ K hT)
 ·have fS:S.of c=none/\S.back.contains c=false:=by
   rw [Bool.or_eq_true,not_or] at hk
   refine ⟨?_,by simpa using hk.2⟩
   cases hx:S.of c with
   |none=>rfl
   |some x=>rw [hx] at hk;exact absurd rfl hk.1
  rcases lX S with hf|⟨l,hl,hf,_⟩
  ·have hR:oe S us c pt=({S with back:=S.back++[c]},us,qN):=by unfold oe;rw [if_neg hk,hf];rfl
   rw [hR] at hc
   exact Hb B hL H cK.back cK.lines fS.1 fS.2 hf K hT fun aK qS fJ H' K' T'=>hc aK L fJ ⟨_,_,_,H'⟩ K' T'
  ·have hn:¬(((l:Nat):Int)<0):=by omega
   have hR:oe S us c pt=({conn S c l S.lines[l] with wait:=gY S.wait (placeOf S.wait pt) (c,pt)},us,jj++Lib.itoa ((l:Int)+1)):=by
    unfold oe
    rw [if_neg hk,hf,if_neg hn,Int.toNat_natCast,List.getElem?_eq_getElem hl]
   rw [hR] at hc
   exact G9 B hL H cK.back cK.lines fS.1 fS.2 hl hf cK.recs cK.wait c0 c1 K hT fun aK jA qb fJ H' K' T'=>hc aK L fJ ⟨_,_,_,H'⟩ K' T'
end
end
end Go.aC.Of
