/-
  An operation that only looks; overlaps in company; rows into which elements are laid.
-/
import Derived.Lib.Overlaps
import Derived.Lib.AppendZerosOnto
import Derived.MapKept
import Derived.Laws.IdiomCopy
import Derived.Laws.Externs
import Derived.Conc.Events
import Derived.Test.YtnjkbffmmgckeaaGreatDoorPaa
import Derived.Test.YtnjkbffmmgckeaaGreatDoorPad
import Derived.Test.YtnjkbffmmgckeaaGreatDoorPaf
set_option linter.all false
set_option maxRecDepth 100000
set_option maxHeartbeats 32000000
open Go renaming undef->I',World->J',Value->M',Goroutine->O',TypeId->Q',Program->U',execOp->V',Frame->Y',heap_alloc_new->Z',Oper->y_
open Go.RowKit renaming Hid->f_
open Option renaming getD_some->A_
open Go.World renaming size_alloc->B_,cell?_of_block->J_,grownBy_alloc->N_,frozen?_of_block->m_,shape?->t_
open Nat renaming le_refl->C_,le_trans->D_,lt_of_lt_of_le->E_
open Array renaming replicate->F_,getElem?_eq_getElem->H_
open List renaming getElem?_eq_getElem->G_,length_append->K_,length_take->Q_,map_cons->S_,take_succ_eq_append_getElem->sC
open Go.Region renaming wanted->U_
open Option.some renaming injEq->n_
open Go.Proofs.Tryz renaming prog->p_
open Go.Value renaming int->ah,slice->mN
open Go.Frame renaming enter->fZ
open Go.Item renaming code->lN
open Go.Proofs.Tryz
namespace Go.aC
open Go Go.Conc Go.Conc.Lib Go.ConcR Go.ConcR.Gen Go.RowKit
section
variable {P:U'} {C:cS} {b o h:Nat} {ae Fin:O'->J'->Prop} {Post:M'->J'->Prop} {Rs:(Nat->Prop)->(Nat->aX)->Nat->Prop} {wl:J'}
variable {aI:Y'} {a:Act} {K:List Item} {cs:List Y'} {ops:Array y_} {i:Nat}
theorem ay.look (B:eh P C b o ae Fin h) (hS:gh h Rs) (hL:Lay C wl) {rest:List Nat} {x:y_} (ho:ops[i]?=some x) (hw:U_ x (yielded ops a.tmps)=true) (hk:aI.kind≠.early) {v:M'}
 (hx:∀w,bI wl w->(V' a.eval x).run P w=.ok (.value v) w/\∀fn,seen P fn ((V' a.eval x).events P w #[])=#[])
 (hc:ay P C b o ae Fin Post h Rs wl (G (aI.at (a.put x.dst v) (.inRegion ops rest::K)) cs)):
 ay P C b o ae Fin Post h Rs wl (G (aI.at a (.inRegion ops (i::rest)::K)) cs):=by
 refine .walk B hS hL fun w n U EE fI=>Walk.gU rfl fun w₁ h₁=> ?_
 have cv:=EE.outside hL.cut h₁
 obtain ⟨h5,h6⟩:=hx w₁ cv
 refine ⟨_,w₁,_,stepG_value ho hw hk h5, ?_,.stop fun DU xo=>⟨wl,cv.outside hL.cut xo,fI,hc⟩⟩
 unfold listed
 rw [h6]
 exact ⟨tN w₁,id⟩
end
variable {wl w:J'}
theorem bI.plain (h:bI wl w) {b:Nat} {c:Array M'} {e:Q'} (hb:wl.heap[b]?=some (.cells c e (0,0))):∃k,c.size<=k/\w.shape? b=some (e,k)/\∀j,w.frozen? ⟨b,j,none⟩=false:=by
 obtain ⟨o',h1,h2⟩:=h.get hb
 cases h2 with
 |blind hb=>have:=hb.cells.1;simp [aR] at this
 |same=>exact ⟨c.size,C_ _,by simp [t_,h1],fun j=>by simp [World.frozen?,h1]⟩
 |cut g1 g2 g3=>
  rename_i c' f'
  refine ⟨c'.size,g1,by simp [t_,h1],fun j=> ?_⟩
  rw [p8 h1]
  cases kj:gd f' j with
  |false=>rfl
  |true=>have:=g3 j kj;simp [gd] at this
end Go.aC
namespace Go.aC.Of
open Go Go.Conc Go.aC Go.Proofs
open Go.RowKit hiding Hid
variable {w:J'} {B g i:Nat} {xs vs:List M'}
theorem Ai {e s n cap:Nat} (h:w.ownsRow B e s (.slice (some ⟨g,0,none⟩) n cap) n xs) (hn:n+1<=cap) (hi:i<=n) (hv:vs.length=s):
 ((w.setCells g (i * s+s) (xs.drop (i * s))).setCells g (i * s) vs).ownsRow B e s (.slice (some ⟨g,0,none⟩) (n+1) cap) (n+1) (xs.take (i * s)++vs++xs.drop (i * s))/\w.grownBy ((w.setCells g (i * s+s) (xs.drop (i * s))).setCells g (i * s) vs) (some g):=by
 have Wj:=h.1
 have his:i * s<=n * s:=Nat.mul_le_mul_right _ hi
 have lu:n * s+s=(n+1) * s:=by rw [Nat.add_mul,Nat.one_mul]
 refine ⟨?_, ?_⟩
 ·refine ⟨by simp only [K_,Q_,List.length_drop];omega, ?_⟩
  rcases h.2 with ⟨h',_⟩|⟨g',cap',cur,h',hb,hg,hc,hm,hs,ht⟩
  ·simp at h'
  ·simp only [Value.slice.injEq,n_,Addr.mk.injEq,and_true,true_and] at h'
   obtain ⟨rfl,rfl⟩:=h'
   have hcs:(n+1) * s<=cap * s:=Nat.mul_le_mul_right _ hn
   obtain ⟨RR,h1,h2,h3⟩:=fv g (xs.drop (i * s)) (i * s+s) w cur hg (by simp only [List.length_drop];omega)
   obtain ⟨RQ,h4,h5,h6⟩:=fv g vs (i * s) _ RR h1 (by omega)
   refine .inr ⟨g,cap,RQ,rfl,hb,h4,hn,hm,by omega, ?_⟩
   have rq:cur.toList.length=cap * s:=by simpa using hs
   have hx:cur.toList.take (i * s)=xs.take (i * s):=by
    rw [<-ht,List.take_take,Nat.min_eq_left his]
   rw [h6,h3]
   have e1:(List.take (i * s+s) cur.toList++List.drop (i * s) xs++List.drop (i * s+s+(List.drop (i * s) xs).length) cur.toList).take (i * s)=xs.take (i * s):=by
    rw [List.append_assoc,List.take_append_of_le_length (by simp only [Q_];omega),List.take_take,Nat.min_eq_left (by omega),hx]
   have e2:(List.take (i * s+s) cur.toList++List.drop (i * s) xs++List.drop (i * s+s+(List.drop (i * s) xs).length) cur.toList).drop (i * s+vs.length)=xs.drop (i * s)++List.drop (i * s+s+(List.drop (i * s) xs).length) cur.toList:=by
    rw [hv,List.append_assoc,List.drop_append_of_le_length (by simp only [Q_];omega),List.drop_of_length_le (by simp only [Q_];omega),List.nil_append]
   rw [e1,e2,<-List.append_assoc,List.take_append_of_le_length (by simp only [K_,Q_,List.length_drop];omega),List.take_of_length_le (by simp only [K_,Q_,List.length_drop];omega)]
 ·refine ⟨by rw [(bL ..).1,(bL ..).1],by rw [(bL ..).2.1,(bL ..).2.1],by rw [(bL ..).2.2,(bL ..).2.2],by rw [fq,fq];exact C_ _,fun k _ hk=> ?_⟩
  have fS:k≠g:=fun e=>hk (by rw [e])
  rw [cW g _ _ _ k fS,cW g _ _ _ k fS]
theorem Eh {e s n cap:Nat} {row:Array M'} (hB:B<=w.heap.size) (hx:xs.length=n * s) (hc:n+1<=cap) (hm:cap<=maxLen) (hr:row.size=cap * s) (hi:i<=n) (hv:vs.length=s) (h0:row.toList.take (i * s)=xs.take (i * s)):
 (((w.alloc (.cells row e)).setCells w.heap.size (i * s) vs).setCells w.heap.size (i * s+s) (xs.drop (i * s))).ownsRow B e s (.slice (some ⟨w.heap.size,0,none⟩) (n+1) cap) (n+1) (xs.take (i * s)++vs++xs.drop (i * s))/\
   w.grownBy (((w.alloc (.cells row e)).setCells w.heap.size (i * s) vs).setCells w.heap.size (i * s+s) (xs.drop (i * s))) none:=by
 have his:i * s<=n * s:=Nat.mul_le_mul_right _ hi
 have lu:n * s+s=(n+1) * s:=by rw [Nat.add_mul,Nat.one_mul]
 have hcs:(n+1) * s<=cap * s:=Nat.mul_le_mul_right _ hc
 have lG:(w.alloc (.cells row e)).heap[w.heap.size]?=some (.cells row e (0,0)):=Go.heap_alloc_new w _
 refine ⟨?_, ?_⟩
 ·refine ⟨by simp only [K_,Q_,List.length_drop];omega, ?_⟩
  obtain ⟨RR,h1,h2,h3⟩:=fv w.heap.size vs (i * s) _ row lG (by omega)
  obtain ⟨RQ,h4,h5,h6⟩:=fv w.heap.size (xs.drop (i * s)) (i * s+s) _ RR h1 (by simp only [List.length_drop];omega)
  refine .inr ⟨w.heap.size,cap,RQ,rfl,hB,h4,hc,hm,by omega, ?_⟩
  have wi:row.toList.length=cap * s:=by simpa using hr
  rw [h6,h3,h0]
  have e1:(List.take (i * s) xs++vs++List.drop (i * s+vs.length) row.toList).take (i * s+s)=xs.take (i * s)++vs:=by
   rw [List.take_append_of_le_length (by simp only [K_,Q_];omega),List.take_of_length_le (by simp only [K_,Q_];omega)]
  rw [e1,List.take_append_of_le_length (by simp only [K_,Q_,List.length_drop];omega),List.take_of_length_le (by simp only [K_,Q_,List.length_drop];omega)]
 ·refine ⟨by rw [(bL ..).1,(bL ..).1];rfl,by rw [(bL ..).2.1,(bL ..).2.1];rfl,by rw [(bL ..).2.2,(bL ..).2.2];rfl,by rw [fq,fq,B_];omega,fun k hk _=> ?_⟩
  have fS:k≠w.heap.size:=by omega
  rw [cW _ _ _ _ k fS,cW _ _ _ _ k fS]
  exact (N_ w _ none).block k hk (by simp)
end Go.aC.Of
namespace Go.aC.Of
section
open Go Go.Conc Go.Conc.Lib Go.ConcR Go.ConcR.Gen Go.aC Go.Proofs
open Go.RowKit hiding Hid
open Go.ConcN (upd upd_ne upd_same)
variable {C:cS} {b N N0 h:Nat} {L:Nat->Of.Os} {us:List Od} {A:Ha} {S:Hs} {vw vb vr va vt:M'} {ae Fin:O'->J'->Prop} {Post:M'->J'->Prop} {wl:J'} {aI:Y'} {aS:Act} {av:Array y_} {aN:Nat} {ak:List Nat} {aV:List Item} {cs:List Y'}
variable {pt:Int}
theorem Hb (B:eh p_ C b 0 ae Fin h) (hL:Lay C wl) (H:aQ A S vw vb vr va vt wl) {c:Int} (lW:S.back.length<=1000000) (hn:S.lines.length<=1000) (xE:S.of c=none) (yL:S.back.contains c=false) (jV:gf S= -1)
 (K:bN C A N0 h us L wl) (hT:aU A wl)
 (hc:∀aK qS,Lay C aK->aQ A {S with back:=S.back++[c]} vw qS vr va vt aK->bN C A N0 h us L aK->aU A aK->
  ay p_ C b 0 ae Fin Post h (aY b N h L) aK (G (aI.at (aS.put ((av[aN]?).bind (·.dst)) (.string ⟨KQ.toArray⟩)) (.inRegion av ak::aV)) cs)):
 ay p_ C b 0 ae Fin Post h (aY b N h L) wl (G ((base 121).at ⟨#[.pointer (some ⟨A.hb,0,none⟩),.int .i64 c,.int .i64 pt]++F_ 77 I',[]⟩ [.code bF]) (aI.at aS (.inRegion av (aN::ak)::aV)::cs)):=by
 have hS:=aH b N h L
 have ea:(#[.pointer (some ⟨A.hb,0,none⟩),.int .i64 c,.int .i64 pt]++F_ 77 I':Array M')=#[.pointer (some ⟨A.hb,0,none⟩),.int .i64 c,.int .i64 pt,I',I',I',I',I',I',I',I',I',I',I',I',I',I',I',I',I',I',I',I',I',I',I',I',I',I',I',I',I',I',I',I',I',I',I',I',I',I',I',I',I',I',I',I',I',I',I',I',I',I',I',I',I',I',I',I',I',I',I',I',I',I',I',I',I',I',I',I',I',I',I',I',I',I',I',I',I']:=by kernel_rfl
 rw [ea]
 have e1:bF=.seq (ai 0 bF) (.seq (ai 1 bF) (.seq (ai 2 bF) (.seq (ai 3 bF) (az 4 bF)))):=by kernel_rfl
 rw [e1]
 refine B.s ?_
 refine B.p (fun T d Bh hB=> ?_)
 simp only [ai,bF,f121,A_]
 go_wp2_with fail
 refine bh hB ?_
 refine B.s ?_
 refine B.p (fun T d Bh hB=> ?_)
 have c5:(wl.re T d).cell? ⟨A.hb,5,none⟩=some (.map (some A.m2)):=H.c.2.2.1
 have c8:(wl.re T d).cell? ⟨A.hb,8,none⟩=some vb:=H.c.2.2.2.2.2.1
 have kE:=H.of.heap (w':=wl.re T d) rfl
 have sY:=aa (nW (w:=wl.re T d) (H.heap (w':=wl.re T d) rfl).back lW c)
 obtain ⟨ab,cb,K8⟩:=aE H.back
 subst K8
 have ir:=aa hc
 have HH:=aa H
 have qK:=aa hL
 have QN:=aa hn
 clear hc hL H hn
 simp only [ai,bF,f121,A_]
 have nT:(binOp .neq 78 (.chan none) (.chan none)).run p_ (wl.re T d)=.ok (.bool false) (wl.re T d):=rY Tryz.underlying78 none
 rw [yL] at sY
 go_wp2_with (at_lookup;refine cU _ rfl _ _ 72 false rfl pe Tryz.underlying72 A.m2 rfl kE c rfl qQ ?_;simp only [xE,Option.map_none,Option.getD_none,Bool.false_eq_true,if_false])
 refine sY.out.mono ?_
 rintro e w2 ⟨rfl,rfl⟩
 go_wp2_with fail
 clear kE sY c5 c8 nT
 have hL:=qK.out
 refine bh hB ?_
 refine B.s ?_
 refine B.p (fun T d Bh hB=> ?_)
 have dJ:=aa (kK (HH.out.heap (w':=wl.re T d) rfl) QN.out)
 clear hL
 simp only [ai,bF,f121,A_]
 go_wp2_with fail
 refine dJ.out.mono ?_
 rintro e w2 ⟨rfl,rfl⟩
 rw [jV]
 go_wp2_with fail
 have hL:=qK.out
 refine bh hB ?_
 refine B.s ?_
 refine B.p (fun T d Bh hB=> ?_)
 simp only [ai,bF,f121,A_]
 have hlt:((-1:Int)<0)=True:=by simp
 have K0:f_ (bN C A N0 h us L (wl.re T d)):=⟨K.len,K.small,K.live,K.n0,K.ap,K.fo,K.kM,K.cells⟩
 have T0:f_ (aU A (wl.re T d)):=hT
 have H0:=aa (HH.out.heap (w':=wl.re T d) rfl)
 have hno:=aa hL.no
 replace hS:=aa hS
 obtain ⟨i3,UN,J2,J1,J0⟩:=info_parts CF
 have c8:=H0.out.c.2.2.2.2.2.1
 have z8:=H0.out.z 8
 have ot:=aa H0.out.back
 have OV:=aa H0.out.big
 have vJ:=aa lW
 have uf:=aa H0.out.ok.hb
 have fz:f_ (∀g,(mN ab S.back.length cb).ownBlock=some g->A.B<=g):=fun g e=>(H0.out.back.lt g e).1
 clear hL HH qK QN lW xE yL jV dJ K hT
 generalize wl.re T d=w0 at *
 go_wp2_with (at_builtin;go_loud (refine wpList_append_lies _ rfl (.tmp 32) (.tmp 34) 26 rfl A.B 3 i3 _ 1 8 Tryz.underlying26 UN J2 J1 J0 rfl (by decide) _ _ _ rfl (ot.out.alloc _) ⟨w0.heap.size,0,none⟩ 1 1 [.int .i64 c] rfl rfl (fY w0 _ _ rfl) ?c1 (by omega) ?c3 ?c4 ?c5 _ rfl ?_))
 case c1=>intro u hu;simp at hu;subst hu;rfl
 case c3=>have:=vJ.out;unfold maxLen;omega
 case c4=>have:=vJ.out;omega
 case c5=>rw [B_];have:=OV.out;omega
 intro g cap w6 jl kh iP mR
 have Iw:=aa kh
 have Rf:w6.heap[A.hb]?=w0.heap[A.hb]?:=by
  have h1:=kh.block A.hb (by rw [B_];have:=uf.out;have:=OV.out;omega) (fun e=>by have:=fz.out _ e.symm;have:=uf.out;omega)
  rw [h1]
  exact (N_ w0 (.cells #[.int .i64 c] 3) none).block A.hb (E_ uf.out OV.out) (by simp)
 have c8b:w6.cell? ⟨A.hb,8,none⟩=some (.slice ab S.back.length cb):=(J_ Rf).trans c8
 have z8b:w6.frozen? ⟨A.hb,8,none⟩=false:=(m_ Rf).trans z8
 have hp:=aa ((H0.out.alloc (.cells #[.int .i64 c] 3)).Cg (c:=c) kh jl (iP.imp (fun e=>e.symm) (fun e=>by rw [e,B_];rfl)))
 have F0:=aa (Fr.alloc (w:=w0) OV.out (.cells #[.int .i64 c] 3))
 clear jl kh iP mR ot Rf
 go_wp2_with fail
 subst hB
 intro hcut todo
 have jv:Lay C (w6.setCell ⟨A.hb,8,none⟩ (.slice (some ⟨g,0,none⟩) (S.back.length+1) cap)):=⟨hcut,hno.out⟩
 refine ay.ctl B hS.out jv rfl (fun _=>aZ rfl rfl func121 rfl) ?_
 have FF:=F0.out.trans hp.out.2
 exact ir.out _ _ jv hp.out.1 (K0.out.fr H0.out FF) (T0.out.fr H0.out FF)
structure gD (w w':J') (row:Option Nat):Prop where
 os:w'.os=w.os
 output:w'.output=w.output
 size:w.heap.size<=w'.heap.size
 block:∀k,k<w.heap.size->some k≠row->w'.heap[k]?=w.heap[k]?
variable {w w':J'}
theorem gD.W6 {row:Option Nat} (h:gD w w' row):w.grownBy (w'.re w.tape w'.drawn) row:=⟨h.os,rfl,h.output,h.size,h.block⟩
theorem gD.of {row:Option Nat} {T:Nat->Question->Nat} {d:Nat} (h:(w.re T d).grownBy w' row):gD w w' row:=⟨h.os,h.output,h.size,h.block⟩
def gY (ws:List (Int × Int)) (i:Nat) (x:Int × Int):List (Int × Int):=ws.take i++[x]++ws.drop i
theorem jb:∀(ws:List (Int × Int)) (i:Nat),ax (ws.take i)=(ax ws).take (i * 2)
 |_,0=>by simp [ax]
 |[],i+1=>by simp [ax]
 |a::l,i+1=>by
  show [ah .i64 a.1,ah .i64 a.2]++ax (l.take i)=([ah .i64 a.1,ah .i64 a.2]++ax l).take ((i+1) * 2)
  rw [jb l i,show (i+1) * 2=i * 2+2 by omega]
  simp [List.take_append]
theorem kU:∀(ws:List (Int × Int)) (i:Nat),ax (ws.drop i)=(ax ws).drop (i * 2)
 |_,0=>by simp [ax]
 |[],i+1=>by simp [ax]
 |a::l,i+1=>by
  show ax (l.drop i)=([ah .i64 a.1,ah .i64 a.2]++ax l).drop ((i+1) * 2)
  rw [kU l i,show (i+1) * 2=i * 2+2 by omega]
  simp [List.drop_append]
theorem mb (ws:List (Int × Int)) (i:Nat) (x:Int × Int):ax (gY ws i x)=(ax ws).take (i * 2)++[.int .i64 x.1,.int .i64 x.2]++(ax ws).drop (i * 2):=by
 unfold gY
 rw [me,me,jb,kU];rfl
variable {ws:List (Int × Int)} {i:Nat}
theorem JZ (hi:i<=ws.length) (x:Int × Int):(gY ws i x).length=ws.length+1:=by
 unfold gY;simp only [K_,Q_,List.length_drop,List.length_cons,List.length_nil];omega
variable {P:U'}
theorem pP (w:J') (dT sT ty elem:Q') (s n b o VM aCx:Nat) (a:Addr) (Tc X6:Nat) (cs:List M')
 (hu:P.underlying dT=some (.slice elem)) (hs:(P.info? elem).map (·.size)=some s) (hn:n=Nat.min Tc VM) (hl:cs.length=n * s)
 (QB:∀j v,cs[j]?=some v->w.cell? (a.add j)=some v) (hc:∀j,j<cs.length->(w.cell? ⟨b,o+j,none⟩).isSome=true) (hf:∀j,j<cs.length->w.frozen? ⟨b,o+j,none⟩=false) (h1:∀v∈cs,v.oneCell'=true):
 (Builtin.copy_ #[dT,sT] ty #[.slice (some ⟨b,o,none⟩) VM aCx,.slice (some a) Tc X6]).run P w=.ok (goInt n) (w.setCells b o cs):=by
 have hld:=run_loadCells_list (P:=P) w a cs QB
 have hst:=run_storeCells_cells (P:=P) b o cs 0 w (by simpa using hc) (by simpa using hf) h1
 cases hq:P.info? elem with
 |none=>simp [hq] at hs
 |some i=>
  have hi:i.size=s:=by simpa [hq] using hs
  rw [hl] at hld
  simp [Builtin.copy_,run_underlying hu,Builtin.lenOf,Builtin.firstCells,sizeOf,typeInfo,hq,hi,<-hn,hld,hst]
variable {ops:Array y_} {a:Act} {Q:Exit->Act->J'->Prop} {v':M'}
theorem rK (w:J') {rest:List y_} {o:y_} (Q4:o.guard=none) (d s:Operand) (t t':Q')
 (ho:o.op=.call {callee:=.builtin .copy,args:=#[d,s],argTypes:=#[t,t']}) (v u:M') (hd:a.eval d=v) (hs:a.eval s=u)
 (hr:(Builtin.copy_ #[t,t'] o.type #[v,u]).run P w=.ok v' w') (h:wpList P ops Q rest (a.put o.dst v') w'):wpList P ops Q (o::rest) a w:=by
 refine wpList_plain Q4 fun _ hK=> ?_
 unfold Oper.wp V'
 simp only [ho,resolve,invoke,builtin,Sem.run_bind,Sem.run_pure,Result.andThen_ok,List.map_toArray,S_,List.map_nil,hd,hs,hr]
 exact hK _ _ h
theorem wK {o:y_} {K:Act->J'->Prop} {E:Prop}
 (hg:o.guard=none) (d x:Operand) (dT sT:Q') (hop:o.op=Op.call {callee:=Callee.builtin Builtin.copy,args:=#[d,x],argTypes:=#[dT,sT]})
 (v u:M') (hd:a.eval d=v) (hx:a.eval x=u) (hr:(Builtin.copy_ #[dT,sT] o.type #[v,u]).run P w=.ok v' w') (hK:K (a.put o.dst v') w'):
 if U_ o (yielded ops a.tmps)=true then Oper.wp P o a w K Q else E:=by
 have hw:U_ o (yielded ops a.tmps)=true:=by simp [U_,hg]
 rw [if_pos hw]
 unfold Oper.wp
 simp [V',hop,resolve,invoke,builtin,hd,hx,hr,Result.andThen]
 exact hK
variable {g:Nat}
theorem Ao {a c:M'} {e:Q'} (h:w.heap[g]?=some (.cells #[a,c] e (0,0))):∀j u,[a,c][j]?=some u->w.cell? ((⟨g,0,none⟩:Addr).add j)=some u:=by
 intro j u hu
 rw [Addr.add_lit]
 rcases j with _|_|j
 ·simp only [World.cell?,h];simpa using hu
 ·simp only [World.cell?,h];simpa using hu
 ·simp at hu
theorem Mw:(Tryz.prog.info? 84).map (·.size)=some 2:=by kernel_rfl
abbrev aDf (X:Exit->Act->J'->Prop):Exit->Act->J'->Prop:=fun e a w=>match e with| .normal=>X .normal a w| .ret=>X .ret a w|_=>False
variable {K:List Item}
theorem Gq {o:Nat} {Rs:(Nat->Prop)->(Nat->aX)->Nat->Prop}:
 iM P C b o ae Fin Post h Rs aI K cs=aDf (iM P C b o ae Fin Post h Rs aI K cs):=by
 funext e a w;cases e<;>rfl
noncomputable def wV:Code:=f130.body.getD .skip
variable {B0:Nat}
def Ez (v:M') (i g1:Nat) (z:M'):Array M':=#[v,.int .i64 (i:Nat),.slice (some ⟨g1,0,none⟩) 1 1,I',I',I',.slice none 0 0,I',I',I',v,.int .i64 (i:Nat),z,I',I',I',I',I',I',I',I',I',I',I',I',I',I',I',I',I',I',I',I',I',I',I',I',I',I',I',I',I',I',I',I',I',I',I',I',I',I',I',I',I',I',I',I',I',I',I',I',I',I',I',I',I',I',I',I',I',I',I',I',I',I',I',I',I',I',I',I',I',I',I',I',I',I',I',I',I',I',I',I',I',I']
variable {g1:Nat}
theorem JX (B:eh p_ C b 0 ae Fin h) (hL:Lay C wl) {n:Nat} {v:M'} (hv:(v=.slice none 0 0/\n=0)\/∃g cap,v=.slice (some ⟨g,0,none⟩) n cap/\n<=cap/\cap<=9223372036854775807) (hi:i<=n)
 (hc:∀z,ay p_ C b 0 ae Fin Post h (aY b N h L) wl (G ((base 130).at ⟨Ez v i g1 z,[]⟩ [.code (az 2 wV)]) (aI.at aS (.inRegion av (aN::ak)::aV)::cs))):
 ay p_ C b 0 ae Fin Post h (aY b N h L) wl (G ((base 130).at ⟨#[v,.int .i64 (i:Nat),.slice (some ⟨g1,0,none⟩) 1 1]++F_ 92 I',[]⟩ [.code wV]) (aI.at aS (.inRegion av (aN::ak)::aV)::cs)):=by
 have hS:=aH b N h L
 have ea:(#[v,.int .i64 (i:Nat),.slice (some ⟨g1,0,none⟩) 1 1]++F_ 92 I':Array M')=#[v,.int .i64 (i:Nat),.slice (some ⟨g1,0,none⟩) 1 1,I',I',I',I',I',I',I',I',I',I',I',I',I',I',I',I',I',I',I',I',I',I',I',I',I',I',I',I',I',I',I',I',I',I',I',I',I',I',I',I',I',I',I',I',I',I',I',I',I',I',I',I',I',I',I',I',I',I',I',I',I',I',I',I',I',I',I',I',I',I',I',I',I',I',I',I',I',I',I',I',I',I',I',I',I',I',I',I',I',I',I',I']:=by kernel_rfl
 rw [ea]
 have e1:wV=.seq (ai 0 wV) (.seq (ai 1 wV) (az 2 wV)):=by kernel_rfl
 rw [e1]
 have q1:(i:Int)<=(n:Int):=by omega
 have q2:(0:Int)<=(i:Int):=by omega
 have ir:=aa hc
 clear hc
 refine B.s ?_
 refine B.p (fun T d Bh hB=> ?_)
 simp only [ai,wV,f130,A_]
 go_wp2_with fail
 refine bh hB ?_
 refine B.s ?_
 refine B.p (fun T d Bh hB=> ?_)
 simp only [ai,wV,f130,A_]
 rcases hv with ⟨rfl,rfl⟩|⟨g,cap,rfl,hcp,aEd⟩
 ·have qJ:i=0:=by omega
  subst qJ
  go_wp2_with fail
  refine bh hB ?_
  exact ir.out _
 ·have q3:(i:Int)<=(cap:Int):=by omega
  have q4:i<=cap:=by omega
  have q5:(n:Int)<=(cap:Int):=by omega
  go_wp2_with fail
  all_goals
   refine bh hB ?_
   first
    |exact ir.out _
    |(have hh:cap=i:=by assumption
      rw [hh] at ir
      exact ir.out _)
variable {x:Int × Int}
theorem Ey (B:eh p_ C b 0 ae Fin h) (hL:Lay C wl) {v z:M'} (bR:wl.ownsRow B0 84 2 v ws.length (ax ws)) (Ba:B0<=wl.heap.size) (hi:i=ws.length) (lG:wl.heap[g1]?=some (.cells #[.int .i64 x.1,.int .i64 x.2] 84 (0,0))) (hne:v.ownBlock≠some g1) (hsm:ws.length<=1000000)
 (hc:∀aK v',Lay C aK->gD wl aK v.ownBlock->aK.ownsRow B0 84 2 v' (ws.length+1) (ax (gY ws i x))->(v'.ownBlock=v.ownBlock\/∃g,v'.ownBlock=some g/\wl.heap.size<=g)->
  ay p_ C b 0 ae Fin Post h (aY b N h L) aK (G (aI.at (aS.put ((av[aN]?).bind (·.dst)) v') (.inRegion av ak::aV)) cs)):
 ay p_ C b 0 ae Fin Post h (aY b N h L) wl (G ((base 130).at ⟨Ez v i g1 z,[]⟩ [.code (az 2 wV)]) (aI.at aS (.inRegion av (aN::ak)::aV)::cs)):=by
 have hS:=aH b N h L
 unfold Ez
 have e1:az 2 wV=.seq (ai 2 wV) (.seq (ai 3 wV) (.seq (ai 4 wV) (.seq (ai 5 wV) (.seq (ai 6 wV) (.seq (ai 7 wV) (.seq (ai 8 wV) (az 9 wV))))))):=by kernel_rfl
 rw [e1]
 have q3:(1:Int)≠0:=by decide
 have ir:=aa hc
 clear hc
 obtain ⟨ab,cap,ev⟩:=aE bR
 subst ev
 subst hi
 refine B.s ?_
 refine B.p (fun T d Bh hB=> ?_)
 simp only [ai,wV,f130,A_]
 go_wp2_with fail
 refine bh hB ?_
 refine B.s ?_
 refine B.p (fun T d Bh hB=> ?_)
 simp only [ai,wV,f130,A_]
 go_wp2_with fail
 refine bh hB ?_
 refine B.s ?_
 refine B.p (fun T d Bh hB=> ?_)
 simp only [ai,wV,f130,A_]
 go_wp2_with fail
 refine bh hB ?_
 refine B.s ?_
 refine B.p (fun T d Bh hB=> ?_)
 simp only [ai,wV,f130,A_]
 obtain ⟨i3,UN,J2,J1,J0⟩:=info_parts xn
 have L0:f_ ((wl.re T d).ownsRow B0 84 2 (.slice ab ws.length cap) ws.length (ax ws)):=bR
 have Dx:(wl.re T d).heap[g1]?=some (.cells #[.int .i64 x.1,.int .i64 x.2] 84 (0,0)):=lG
 have BL:f_ (B0<=(wl.re T d).heap.size):=Ba
 replace hsm:=aa hsm
 have hno:=aa hL.no
 have Ng:f_ (∀w',(wl.re T d).grownBy w' (mN ab ws.length cap).ownBlock->gD wl w' (mN ab ws.length cap).ownBlock):=fun _ hg=>gD.of hg
 have hsz:f_ ((wl.re T d).heap.size=wl.heap.size):=rfl
 replace hS:=aa hS
 clear bR lG Ba hL
 generalize wl.re T d=w0 at *
 go_wp2_with (at_builtin;refine wpList_append_lies _ rfl (.tmp 23) (.tmp 24) 74 rfl B0 84 i3 _ 2 16 Tryz.underlying74 UN J2 J1 J0 rfl (by decide) _ _ _ rfl L0.out ⟨g1,0,none⟩ 1 1 [.int .i64 x.1,.int .i64 x.2] rfl rfl (Ao Dx) ?c1 (by omega) ?c3 ?c4 BL.out _ rfl ?_)
 case c1=>intro u hu;simp at hu;rcases hu with rfl|rfl<;>rfl
 case c3=>have:=hsm.out;unfold maxLen;omega
 case c4=>have:=hsm.out;omega
 intro g mW w6 jl kh iP mR
 have lI:=aa (ir.out w6 (.slice (some ⟨g,0,none⟩) (ws.length+1) mW))
 have hG:=aa (Ng.out _ kh)
 have hO:f_ (w6.ownsRow B0 84 2 (.slice (some ⟨g,0,none⟩) (ws.length+1) mW) (ws.length+1) (ax (gY ws ws.length x))):=by
  rw [mb,List.take_of_length_le (by rw [bV];exact C_ _),List.drop_of_length_le (by rw [bV];exact C_ _),List.append_nil]
  exact jl
 have hV:f_ ((mN (some ⟨g,0,none⟩) (ws.length+1) mW).ownBlock=(mN ab ws.length cap).ownBlock\/∃g',(mN (some ⟨g,0,none⟩) (ws.length+1) mW).ownBlock=some g'/\wl.heap.size<=g'):=iP.imp (fun e=>e.symm) (fun e=>⟨g,rfl,by rw [e,hsz.out];exact C_ _⟩)
 clear jl kh iP mR ir
 go_wp2_with fail
 subst hB
 intro hcut todo
 have jv:Lay C w6:=⟨hcut,hno.out⟩
 refine ay.ctl B hS.out jv rfl (fun _=>aZ rfl rfl func130 rfl) ?_
 exact lI.out jv hG.out hO.out hV.out
theorem Gs (b:Nat):∀(vs:List M') (o:Nat) (w:J'),(w.setCells b o vs).drew=w.drew.setCells b o vs
 |[],_,_=>rfl
 |v::r,o,w=>by rw [World.setCells,World.setCells,Gs b r];rfl
theorem vY (ws:List (Int × Int)):∀u∈ax ws,u.oneCell'=true:=by
 intro u hu
 simp [ax] at hu
 obtain ⟨a,b,_,rfl|rfl⟩:=hu<;>rfl
theorem FB (b:Nat) (vs:List M') (o:Nat) (w:J') (h:∀j,j<vs.length->(w.cell? ⟨b,o+j,none⟩).isSome=true) (k:Nat) (hk:(w.cell? ⟨b,k,none⟩).isSome=true):((w.setCells b o vs).cell? ⟨b,k,none⟩).isSome=true:=by
 by_cases Nq:o<=k/\k<o+vs.length
 ·have:=World.cell?_setCells_in b vs o w h (k - o) (by omega)
  rw [show o+(k - o)=k by omega] at this
  rw [this];rfl
 ·rw [World.cell?_setCells_out b vs o w ⟨b,k,none⟩ (fun _ _=>by show k<o\/o+vs.length<=k;omega)]
  exact hk
theorem CE (B:eh p_ C b 0 ae Fin h) (hL:Lay C wl) {v z:M'} (bR:wl.ownsRow B0 84 2 v ws.length (ax ws)) (Ba:B0<=wl.heap.size) (hi:i<ws.length) (OQ:∀a c,v=.slice a ws.length c->c=ws.length) (lG:wl.heap[g1]?=some (.cells #[.int .i64 x.1,.int .i64 x.2] 84 (0,0))) (hne:v.ownBlock≠some g1) (hsm:ws.length<=1000000)
 (hc:∀aK v',Lay C aK->gD wl aK v.ownBlock->aK.ownsRow B0 84 2 v' (ws.length+1) (ax (gY ws i x))->(v'.ownBlock=v.ownBlock\/∃g,v'.ownBlock=some g/\wl.heap.size<=g)->
  ay p_ C b 0 ae Fin Post h (aY b N h L) aK (G (aI.at (aS.put ((av[aN]?).bind (·.dst)) v') (.inRegion av ak::aV)) cs)):
 ay p_ C b 0 ae Fin Post h (aY b N h L) wl (G ((base 130).at ⟨Ez v i g1 z,[]⟩ [.code (az 2 wV)]) (aI.at aS (.inRegion av (aN::ak)::aV)::cs)):=by
 have hS:=aH b N h L
 unfold Ez
 have e1:az 2 wV=.seq (ai 2 wV) (.seq (ai 3 wV) (.seq (ai 4 wV) (.seq (ai 5 wV) (.seq (ai 6 wV) (.seq (ai 7 wV) (.seq (ai 8 wV) (az 9 wV))))))):=by kernel_rfl
 rw [e1]
 have q3:(1:Int)≠0:=by decide
 have ir:=aa hc
 clear hc
 obtain ⟨ab,cap,ev⟩:=aE bR
 subst ev
 have lJ:cap=ws.length:=OQ _ _ rfl
 clear OQ
 subst lJ
 obtain ⟨g,KN⟩:∃g,ab=some ⟨g,0,none⟩:=by
  rcases bR.2 with ⟨h0,h1⟩|⟨g,cap',cur,h1,_⟩
  ·omega
  ·injection h1 with h1 h2 h3;exact ⟨g,h1⟩
 subst KN
 have q4:((i:Int)=(ws.length:Int))=False:=by simp;omega
 have q5:(ws.length:Int)<(ws.length:Int)+1:=by omega
 refine B.s ?_
 refine B.p (fun T d Bh hB=> ?_)
 simp only [ai,wV,f130,A_]
 go_wp2_with fail
 refine bh hB ?_
 refine B.s ?_
 refine B.p (fun T d Bh hB=> ?_)
 simp only [ai,wV,f130,A_]
 go_wp2_with fail
 refine bh hB ?_
 refine B.s ?_
 refine B.p (fun T d Bh hB=> ?_)
 simp only [ai,wV,f130,A_]
 go_wp2_with fail
 refine bh hB ?_
 refine B.s ?_
 refine B.p (fun T d Bh hB=> ?_)
 simp only [ai,wV,f130,A_]
 go_wp2_with fail
 refine bh hB ?_
 refine B.s ?_
 refine ay.code (ok:=il) B pA hS hL (aF (by kernel_rfl) rfl rfl ⟨_,func130⟩) ?_
 intro T d
 rw [Gq]
 generalize hB:iM p_ C b 0 ae Fin Post h (aY b N h L) _ _ _=Bh
 replace hB:=aa hB
 simp only [ai,wV,f130,A_]
 have L0:f_ ((wl.re T d).ownsRow B0 84 2 (.slice (some ⟨g,0,none⟩) ws.length ws.length) ws.length (ax ws)):=bR
 have Dx:f_ ((wl.re T d).heap[g1]?=some (.cells #[.int .i64 x.1,.int .i64 x.2] 84 (0,0))):=lG
 have BL:f_ (B0<=(wl.re T d).heap.size):=Ba
 replace hsm:=aa hsm
 have hno:=aa hL.no
 have Ng:f_ (∀w',(wl.re T d).grownBy w' none->gD wl w' (some g)):=fun w' hg=>⟨hg.os,hg.output,hg.size,fun k hk _=>hg.block k hk (by simp)⟩
 have hsz:f_ ((wl.re T d).heap.size=wl.heap.size):=rfl
 replace hS:=aa hS
 clear bR lG Ba hL
 generalize wl.re T d=w0 at *
 obtain ⟨i0,qJ,tX,rm,uF⟩:=info_parts xn
 obtain ⟨n,hn⟩:∃n,n=ws.length:=⟨_,rfl⟩
 obtain ⟨ps,FY⟩:∃ps,ps=ax ws:=⟨_,rfl⟩
 have yd:ps.length=n * 2:=by rw [FY,hn];exact bV ws
 have Iu:∀u∈ps,u.oneCell'=true:=by rw [FY];exact vY ws
 have hcell:∀j,j<n * 2->w0.cell? ⟨g,j,none⟩=ps[j]?:=fun j hj=>by rw [FY];exact L0.out.cellAt j (by rw [<-hn];exact hj)
 have YU:=hsm.out
 rw [<-hn] at YU hi q5 ⊢
 have hgs:g<w0.heap.size:=(L0.out.lt g rfl).2
 have BI:g1<w0.heap.size:=(cI Dx.out)
 have hold:(Builtin.firstCells i0.size i (.slice (some ⟨g,0,none⟩) i n)).run p_ w0.drew=.ok (ps.take (i * 2)).toArray w0.drew:=by
  rw [rm]
  exact run_firstCells_some w0.drew 2 i ⟨g,0,none⟩ i n (ps.take (i * 2)) (by rw [Q_];omega) (fun j u hj=>by
   rw [Addr.add_lit,Nat.zero_add]
   rw [List.getElem?_take] at hj
   split at hj
   ·exact (hcell j (by omega)).trans hj
   ·cases hj)
 obtain ⟨G,hG⟩:∃G,G=grownCap w0 (n+1) n 84:=⟨_,rfl⟩
 obtain ⟨ROW,Nz⟩:∃ROW:Array M',ROW=(ps.take (i * 2)).toArray++Builtin.zeroCells (Value.agg #[.int .i64 0,.int .i64 0]).cells (n+1 - i)++Builtin.zeroCells (Value.agg #[.int .i64 0,.int .i64 0]).cells (G - (n+1)):=⟨_,rfl⟩
 obtain ⟨W1,wq⟩:∃W1,W1=w0.drew.alloc (.cells ROW 84):=⟨_,rfl⟩
 have hGn:n+1<=G:=by rw [hG];exact grownCap_ge w0 _ _ _
 have hGm:G<=maxLen:=by
  rw [hG]
  exact grownCap_le_maxLen w0 (n+1) n 84 (by unfold maxLen;omega)
 have DC:ROW.size=G * 2:=by
  have e1:(Value.agg #[ah .i64 0,ah .i64 0]).cells.size=2:=rfl
  rw [Nz,Array.size_append,Array.size_append,List.size_toArray,Q_,size_zeroCells,size_zeroCells,e1]
  omega
 have hRt:ROW.toList.take (i * 2)=ps.take (i * 2):=by
  rw [Nz,Array.toList_append,Array.toList_append,List.append_assoc,List.take_append_of_le_length (by simp only [Q_];omega)]
  exact List.take_of_length_le (by simp only [Q_];omega)
 have hrz:∀ty,(Builtin.append_ #[74,3] ty #[.slice (some ⟨g,0,none⟩) i n,.int .i64 ((n:Int)+1 - (i:Int))]).run p_ w0=.ok (.slice (some ⟨w0.heap.size,0,none⟩) (n+1) G) W1:=fun ty=>by
  have h1:=Lib.run_append_grow_zeros w0 74 3 ty 84 i0 _ .i64 .i64 Tryz.underlying74 Tryz.underlying3 qJ tX (some ⟨g,0,none⟩) i n (ps.take (i * 2)) hold (n+1 - i) (by omega) (by rw [rm];decide) (by omega) (by omega) (by rw [uF];omega) (by rw [uF,show i+(n+1 - i)=n+1 by omega];exact growslice_fits (by omega) (by omega))
  rw [show i+(n+1 - i)=n+1 by omega,<-hG] at h1
  rw [show (n:Int)+1 - (i:Int)=((n+1 - i:Nat):Int) by omega,wq,Nz]
  exact h1
 have lr:W1.heap.size=w0.heap.size+1:=by rw [wq,B_];rfl
 have hN:∀j,j<(n+1) * 2->(W1.cell? ⟨w0.heap.size,j,none⟩).isSome=true:=fun j hj=>by
  rw [wq,World.cell?_alloc_at (w:=w0.drew) ROW _ w0.heap.size j rfl,H_ (by omega)];rfl
 have Z6:∀j,W1.frozen? ⟨w0.heap.size,j,none⟩=false:=fun j=>by rw [wq];exact World.frozen?_alloc_at (w:=w0.drew) ROW _ w0.heap.size j rfl
 obtain ⟨news,iU⟩:∃news:List M',news=[.int .i64 x.1,.int .i64 x.2]:=⟨_,rfl⟩
 have rp:news.length=2:=by rw [iU];rfl
 have CP:∀u∈news,u.oneCell'=true:=by rw [iU];intro u hu;simp at hu;rcases hu with rfl|rfl<;>rfl
 obtain ⟨W2,Dz⟩:∃W2,W2=W1.setCells w0.heap.size (i * 2) news:=⟨_,rfl⟩
 have Rb:∀ty dc,(Builtin.copy_ #[74,74] ty #[.slice (some ⟨w0.heap.size,i * 2,none⟩) (n+1 - i) dc,.slice (some ⟨g1,0,none⟩) 1 1]).run p_ W1=.ok (goInt 1) W2:=fun ty dc=>by
  rw [Dz]
  refine pP W1 _ _ ty 84 2 1 w0.heap.size (i * 2) (n+1 - i) dc ⟨g1,0,none⟩ 1 1 news Tryz.underlying74 Mw (by simp only [Nat.min_def];split<;>omega) (by rw [rp]) ?_ (fun j hj=>hN _ (by omega)) (fun j hj=>Z6 _) CP
  intro j u hu
  have h1:W1.heap[g1]?=some (.cells #[.int .i64 x.1,.int .i64 x.2] 84 (0,0)):=by rw [wq];exact ((N_ w0.drew (.cells ROW 84) none).block g1 BI (by simp)).trans Dx.out
  exact Ao h1 j u (by rw [<-iU];exact hu)
 obtain ⟨ds,Gj⟩:∃ds,ds=ps.drop (i * 2):=⟨_,rfl⟩
 have OT:ds.length=(n - i) * 2:=by rw [Gj,List.length_drop,yd];omega
 obtain ⟨W3,Ix⟩:∃W3,W3=W2.drew.setCells w0.heap.size ((i+1) * 2) ds:=⟨_,rfl⟩
 have Ra:∀ty dc sc,(Builtin.copy_ #[74,74] ty #[.slice (some ⟨w0.heap.size,(i+1) * 2,none⟩) (n+1 - (i+1)) dc,.slice (some ⟨g,i * 2,none⟩) (n - i) sc]).run p_ W2.drew=.ok (goInt ((n - i:Nat):Int)) W3:=fun ty dc sc=>by
  rw [Ix]
  refine pP W2.drew _ _ ty 84 2 (n - i) w0.heap.size ((i+1) * 2) (n+1 - (i+1)) dc ⟨g,i * 2,none⟩ (n - i) sc ds Tryz.underlying74 Mw (by simp only [Nat.min_def];split<;>omega) OT ?_ ?_ ?_ (fun u hu=>Iu u (by rw [Gj] at hu;exact List.mem_of_mem_drop hu))
  ·intro j u hu
   show W2.cell? _=_
   rw [Addr.add_lit,Dz,World.cell?_setCells_out _ _ _ _ _ (fun hh _=>by have:g=w0.heap.size:=hh;omega),wq]
   have hj:j<ds.length:=(List.getElem?_eq_some_iff.1 hu).1
   rw [J_ (w:=w0.drew) (a:=⟨g,i * 2+j,none⟩) ((N_ w0.drew (.cells ROW 84) none).block g hgs (by simp))]
   refine (hcell _ (by omega)).trans ?_
   rw [Gj,List.getElem?_drop] at hu
   exact hu
  ·intro j hj
   show (W2.cell? _).isSome=true
   rw [Dz]
   exact FB _ _ _ _ (fun t ht=>hN _ (by omega)) _ (hN _ (by omega))
  ·intro j hj
   show W2.frozen? _=false
   rw [Dz,World.frozen?_setCells]
   exact Z6 _
 have q6:(0:Int)<=(n:Int)+1 - (i:Int):=by omega
 have q7:(i:Int)<=(n:Int):=by omega
 have q8:(i:Int)<=(n:Int)+1:=by omega
 have q9:IntKind.i64.wrap ((n:Int)+1 - (i:Int))=(n:Int)+1 - (i:Int):=IntWalk.i64_in _ (by omega)
 have q10:IntKind.i64.wrap ((i:Int)+1)=(i:Int)+1:=IntWalk.i64_in _ (by omega)
 have q11:IntKind.i64.wrap ((n:Int)+1)=(n:Int)+1:=IntWalk.i64_in _ (by omega)
 have q12:((i:Int)+1).toNat=i+1:=by omega
 have q13:(0:Int)<=(i:Int)+1:=by omega
 have q14:¬(n=i):=by omega
 have Yr:¬(G=i):=by omega
 have q16:¬(G=i+1):=by omega
 have q17:(n:Int)+1<=(G:Int):=by omega
 have lI:=aa (ir.out W3 (.slice (some ⟨w0.heap.size,0,none⟩) (n+1) G))
 have iw:=Eh (w:=w0.drew.drew) (B:=B0) (e:=84) (s:=2) (n:=n) (cap:=G) (xs:=ps) (vs:=news) (row:=ROW) BL.out yd hGn hGm DC (i:=i) (by omega) rp hRt
 have Vr:((w0.drew.drew.alloc (.cells ROW 84)).setCells w0.heap.size (i * 2) news).setCells w0.heap.size (i * 2+2) (ps.drop (i * 2))=W3:=by
  rw [Ix,Dz,wq,Gj,Gs,show (i+1) * 2=i * 2+2 by omega];rfl
 have mQ:=aa (show W3.ownsRow B0 84 2 (.slice (some ⟨w0.heap.size,0,none⟩) (n+1) G) (n+1) (ps.take (i * 2)++news++ps.drop (i * 2))/\w0.drew.drew.grownBy W3 none by rw [<-Vr];exact iw)
 clear iw Vr Ix Dz wq Nz DC hRt hG hold hN Z6 hcell lr ir qJ tX rm uF Dx L0 OT Gj yd Iu rp CP
 replace FY:=aa FY
 replace hn:=aa hn
 replace iU:=aa iU
 go_wp2_with (first
  |(at_builtin;refine Lib.wpList_append_run _ rfl _ _ _ _ rfl _ _ rfl rfl _ _ (hrz _) ?_)
  |(at_builtin;refine rK _ rfl _ _ 74 74 rfl _ _ rfl rfl (Rb _ _) ?_))
 go_region_law (refine wK (by rfl) (.tmp 50) (.tmp 53) 74 74 (by rfl) (.slice (some ⟨w0.heap.size,(i+1) * 2,none⟩) (n+1 - (i+1)) (G - (i+1))) (.slice (some ⟨g,i * 2,none⟩) (n - i) (n - i)) (by simp [Act.eval,Act.put]) (by simp [Act.eval,Act.put]) (Ra 3 (G - (i+1)) (n - i)) ?_)
 go_wp2_with fail
 subst hB
 intro hcut todo
 have jv:Lay C W3:=⟨hcut,hno.out⟩
 refine ay.ctl B hS.out jv rfl (fun _=>aZ rfl rfl func130 rfl) ?_
 refine lI.out jv (Ng.out _ ⟨mQ.out.2.os,mQ.out.2.tape,mQ.out.2.output,mQ.out.2.size,mQ.out.2.block⟩) ?_ (.inr ⟨_,rfl,by rw [hsz.out];exact C_ _⟩)
 rw [mb,<-FY.out,<-iU.out,<-hn.out]
 exact mQ.out.1
end
section
open Go Go.Conc Go.Conc.Lib Go.ConcR Go.ConcR.Gen Go.aC Go.Proofs
open Go.RowKit hiding Hid
variable {P:U'} {lb cb:Nat}
theorem vK {tS tR e:Q'} (ht:P.underlying tS=some (.slice e)) {size:Nat} (hz:∀w,(sizeOf e).run P w=.ok size w) (w:J') (es:Array Event) {ab ao la ca:Nat} {b:Addr} (hne:ab≠b.block) {tA tB:Q'} {kA kB:Nat} (YV:w.shape? ab=some (tA,kA)) (hsb:w.shape? b.block=some (tB,kB)) (hkB:0<kB) (hf:∀j,w.frozen? ⟨ab,j,none⟩=false):
 (Extern.SlicesOverlaps.overlaps #[tS,tS] #[tR] #[.slice (some ⟨ab,ao,none⟩) la ca,.slice (some b) lb cb]).events P w es=es:=by
 have BH:(ab !=b.block)=true:=by simpa using hne
 have Zb:(ab==b.block)=false:=by simpa using hne
 have Mh:=hf ao
 have nj:=hf kA
 obtain ⟨k,rfl⟩:∃k,kB=k+1:=⟨kB - 1,by omega⟩
 show Sem.events P (Bind.bind (m:=Sem) (underlying tS) _) w es=es
 by_cases h0:la=0\/lb=0\/size=0
 ·simp [run_underlying ht,hz,h0]
 ·simp [run_underlying ht,hz,h0,BH,Zb,noView,viewAt,mayBeOne,stringish,YV,hsb,Mh,nj]
end
section
open Go Go.Conc Go.Conc.Lib Go.ConcR Go.ConcR.Gen Go.aC Go.Proofs
open Go.RowKit hiding Hid
open Go.ConcN (upd upd_ne upd_same)
variable {C:cS} {b N N0 h:Nat} {L:Nat->Of.Os} {B0:Nat} {ae Fin:O'->J'->Prop} {Post:M'->J'->Prop} {wl:J'} {aI:Y'} {aS:Act} {av:Array y_} {aN:Nat} {ak:List Nat} {aV:List Item} {cs:List Y'}
theorem I4 (w:J'):(sizeOf 84).run p_ w=.ok 2 w:=by
 obtain ⟨i0,qJ,_,h1,_⟩:=info_parts xn
 simp [sizeOf,typeInfo,qJ,h1]
variable {P:U'}
theorem G4 {fn f:FuncId}:seen P fn #[⟨.mark (.extern f),false,true⟩]=#[]:=by simp [seen]
variable {a:Act} {g1 g lb cb:Nat} {w:J'}
theorem wS {o:y_} {x y:Operand} (ho:o.op=.call {callee:=.value (.func 140),args:=#[x,y],argTypes:=#[74,74]}) {off:Nat} (hx:a.eval x=.slice (some ⟨g1,0,none⟩) 1 1) (hy:a.eval y=.slice (some ⟨g,off,none⟩) lb cb) (hne:g1≠g) {cA cB:Array M'} (hA:wl.heap[g1]?=some (.cells cA 84 (0,0))) (hB:wl.heap[g]?=some (.cells cB 84 (0,0))) (hs:0<cB.size) (hw:bI wl w):
 (V' a.eval o).run p_ w=.ok (.value (.bool false)) w/\∀fn,seen p_ fn ((V' a.eval o).events p_ w #[])=#[]:=by
 obtain ⟨kA,_,sA,fA⟩:=hw.plain hA
 obtain ⟨kB,hkB,sB,_⟩:=hw.plain hB
 have h1:=Lib.run_overlaps_apart w 74 4 84 Tryz.underlying74 2 I4 ⟨g1,0,none⟩ ⟨g,off,none⟩ 1 1 lb cb hne 84 84 kA kB sA sB (by omega) (fA 0) (fA kA)
 have h2:=vK Tryz.underlying74 (tR:=4) I4 w (#[⟨.mark (.extern 140),false,true⟩]) (ab:=g1) (ao:=0) (la:=1) (ca:=1) (lb:=lb) (cb:=cb) (b:=⟨g,off,none⟩) hne sA sB (by omega) fA
 have hf:Tryz.prog.funcs[140]?=some f140:=func140
 have hn:(f140.name== "runtime.NumGoroutine")=false:=by kernel_rfl
 have hb:f140.body.isNone=true:=by kernel_rfl
 have hen:Extern.findNext f140=none:=by kernel_rfl
 have he:Extern.find f140=some (Extern.SlicesOverlaps.overlaps #[74,74] #[4]):=by kernel_rfl
 have U5:a.eval (.func 140)=Value.func (Fn.func 140) #[] #[]:=rfl
 have bH:f140.name≠ "runtime.NumGoroutine" :=by simpa using hn
 have A8:f140.body=none:=by simpa using hb
 refine ⟨?_,fun fn=> ?_⟩
 ·simp only [V',ho,resolve,invoke,Deferred.ofValue,U5,List.map_toArray,S_,List.map_nil,hx,hy,Sem.run_bind,Sem.run_pure,Result.andThen_ok,Array.append_empty,Array.empty_append]
  rw [run_callFunc_extern hf hn hb hen he,h1]
  rfl
 ·have uO:(V' a.eval o).events p_ w #[]=#[⟨.mark (.extern 140),false,true⟩]:=by
   simp only [V',ho,resolve,invoke,Deferred.ofValue,U5,List.map_toArray,S_,List.map_nil,hx,hy]
   simp [callFunc,hf,bH,A8,hen,he,h2]
  rw [uO,G4]
variable {ws:List (Int × Int)} {i:Nat} {x:Int × Int}
theorem AL (B:eh p_ C b 0 ae Fin h) (hL:Lay C wl) {v z:M'} (bR:wl.ownsRow B0 84 2 v ws.length (ax ws)) (Ba:B0<=wl.heap.size) (hi:i<ws.length) (hroom:∀a c,v=.slice a ws.length c->ws.length<c) (lG:wl.heap[g1]?=some (.cells #[.int .i64 x.1,.int .i64 x.2] 84 (0,0))) (hne:v.ownBlock≠some g1) (hsm:ws.length<=1000000)
 (hc:∀aK v',Lay C aK->gD wl aK v.ownBlock->aK.ownsRow B0 84 2 v' (ws.length+1) (ax (gY ws i x))->(v'.ownBlock=v.ownBlock\/∃g,v'.ownBlock=some g/\wl.heap.size<=g)->
  ay p_ C b 0 ae Fin Post h (aY b N h L) aK (G (aI.at (aS.put ((av[aN]?).bind (·.dst)) v') (.inRegion av ak::aV)) cs)):
 ay p_ C b 0 ae Fin Post h (aY b N h L) wl (G ((base 130).at ⟨Ez v i g1 z,[]⟩ [.code (az 2 wV)]) (aI.at aS (.inRegion av (aN::ak)::aV)::cs)):=by
 have hS:=aH b N h L
 unfold Ez
 have e1:az 2 wV=.seq (ai 2 wV) (.seq (ai 3 wV) (.seq (ai 4 wV) (.seq (ai 5 wV) (.seq (ai 6 wV) (.seq (ai 7 wV) (.seq (ai 8 wV) (az 9 wV))))))):=by kernel_rfl
 rw [e1]
 have q3:(1:Int)≠0:=by decide
 have ir:=aa hc
 clear hc
 obtain ⟨ab,cap,ev⟩:=aE bR
 subst ev
 have lJ:ws.length<cap:=hroom _ _ rfl
 clear hroom
 obtain ⟨g,cur,KN,Zv,hcs,Ve⟩:∃g cur,ab=some ⟨g,0,none⟩/\wl.heap[g]?=some (.cells cur 84 (0,0))/\cur.size=cap * 2/\cap<=maxLen:=by
  rcases bR.2 with ⟨h0,h1⟩|⟨g,cap',cur,h1,_,h2,_,h3,h4,_⟩
  ·omega
  ·injection h1 with h1 h5 h6;subst h6;exact ⟨g,cur,h1,h2,h4,h3⟩
 subst KN
 have q4:((i:Int)=(ws.length:Int))=False:=by simp;omega
 have q5:((cap:Int)<(ws.length:Int)+1)=False:=by simp;omega
 have q6:IntKind.i64.wrap ((ws.length:Int)+1)=(ws.length:Int)+1:=IntWalk.i64_in _ (by omega)
 have q7:(0:Int)<=(ws.length:Int)+1:=by omega
 have q8:(ws.length:Int)+1<=(cap:Int):=by omega
 have q9:((ws.length:Int)+1).toNat=ws.length+1:=by omega
 have q10:IntKind.i64.wrap ((i:Int)+1)=(i:Int)+1:=IntWalk.i64_in _ (by omega)
 have q12:((i:Int)+1).toNat=i+1:=by omega
 have q13:(0:Int)<=(i:Int)+1:=by omega
 have q14:(i:Int)<=(ws.length:Int):=by omega
 have Yr:(i:Int)<=(ws.length:Int)+1:=by omega
 have q16:¬(cap=i):=by omega
 have q17:¬(cap=i+1):=by omega
 have q18:(i:Int)<=(cap:Int):=by omega
 refine B.s ?_
 refine B.p (fun T d Bh hB=> ?_)
 simp only [ai,wV,f130,A_]
 go_wp2_with fail
 refine bh hB ?_
 refine B.s ?_
 refine B.p (fun T d Bh hB=> ?_)
 simp only [ai,wV,f130,A_]
 go_wp2_with fail
 refine bh hB ?_
 refine B.s ?_
 refine B.p (fun T d Bh hB=> ?_)
 simp only [ai,wV,f130,A_]
 go_wp2_with fail
 refine bh hB ?_
 refine B.s ?_
 refine B.p (fun T d Bh hB=> ?_)
 simp only [ai,wV,f130,A_]
 go_wp2_with fail
 refine bh hB ?_
 refine B.s ?_
 refine B.p (fun T d Bh hB=> ?_)
 simp only [ai,wV,f130,A_]
 go_wp2_with fail
 refine bh hB ?_
 refine B.s ?_
 refine B.p (fun T d Bh hB=> ?_)
 simp only [ai,wV,f130,A_]
 go_wp2_with fail
 refine bh hB ?_
 simp only [ai,az,wV,f130,A_]
 refine B.s ?_
 refine B.s ?_
 refine B.r ?_
 refine B.q (.slice (some ⟨g1,0,none⟩) 1 1) ?_
 walk_nrm
 refine B.q (.slice (some ⟨g,0,none⟩) (ws.length+1) cap) ?_
 walk_nrm
 refine B.q (.int .i64 (i:Nat)) ?_
 walk_nrm
 refine B.q (.int .i64 1) ?_
 walk_nrm
 refine B.q (.int .i64 ((i:Int)+1)) ?_
 walk_nrm
 refine B.q (.slice (some ⟨g,(i+1) * 2,none⟩) (ws.length+1 - (i+1)) (cap - (i+1))) ?_
 walk_nrm
 refine ay.look B hS hL rfl rfl (by k_ne) (v:=.bool false) (fun w hw=>wS (x:=.tmp 61) (y:=.tmp 66) (by rfl) (g1:=g1) (g:=g) (off:=(i+1) * 2) (lb:=ws.length+1 - (i+1)) (cb:=cap - (i+1)) (by rfl) (by rfl) (fun e=>hne (by rw [e];rfl)) lG Zv (by omega) hw) ?_
 walk_nrm
 refine B.q (.bool true) ?_
 walk_nrm
 refine B.e ?_
 refine ay.code (ok:=il) B pA hS hL (aF (by kernel_rfl) rfl rfl ⟨_,func130⟩) ?_
 intro T d
 rw [Gq]
 generalize hB:iM p_ C b 0 ae Fin Post h (aY b N h L) _ _ _=Bh
 replace hB:=aa hB
 have L0:f_ ((wl.re T d).ownsRow B0 84 2 (.slice (some ⟨g,0,none⟩) ws.length cap) ws.length (ax ws)):=bR
 have Dx:f_ ((wl.re T d).heap[g1]?=some (.cells #[.int .i64 x.1,.int .i64 x.2] 84 (0,0))):=lG
 replace hsm:=aa hsm
 have hno:=aa hL.no
 have Ng:f_ (∀w',(wl.re T d).grownBy w' (some g)->gD wl w' (some g)):=fun _ hg=>gD.of hg
 have Q5:(wl.re T d).heap[g]?=some (.cells cur 84 (0,0)):=Zv
 replace hS:=aa hS
 clear bR lG Ba hL Zv
 generalize wl.re T d=w0 at *
 obtain ⟨n,hn⟩:∃n,n=ws.length:=⟨_,rfl⟩
 obtain ⟨ps,FY⟩:∃ps,ps=ax ws:=⟨_,rfl⟩
 have yd:ps.length=n * 2:=by rw [FY,hn];exact bV ws
 have Iu:∀u∈ps,u.oneCell'=true:=by rw [FY];exact vY ws
 have hcell:∀j,j<n * 2->w0.cell? ⟨g,j,none⟩=ps[j]?:=fun j hj=>by rw [FY];exact L0.out.cellAt j (by rw [<-hn];exact hj)
 have hsp:∀j,j<cap * 2->(w0.cell? ⟨g,j,none⟩).isSome=true:=fun j hj=>by
  simp only [World.cell?,Q5]
  rw [H_ (by omega)];rfl
 have Zw:∀j,w0.frozen? ⟨g,j,none⟩=false:=fun j=>by simp [World.frozen?,Q5]
 rw [<-hn] at hi lJ q4 q5 q6 q7 q8 q9 q14 Yr ⊢
 obtain ⟨news,iU⟩:∃news:List M',news=[.int .i64 x.1,.int .i64 x.2]:=⟨_,rfl⟩
 have rp:news.length=2:=by rw [iU];rfl
 have CP:∀u∈news,u.oneCell'=true:=by rw [iU];intro u hu;simp at hu;rcases hu with rfl|rfl<;>rfl
 obtain ⟨ds,Gj⟩:∃ds,ds=ps.drop (i * 2):=⟨_,rfl⟩
 have OT:ds.length=(n - i) * 2:=by rw [Gj,List.length_drop,yd];omega
 obtain ⟨W1,wq⟩:∃W1,W1=w0.drew.setCells g ((i+1) * 2) ds:=⟨_,rfl⟩
 have Rb:∀ty dc sc,(Builtin.copy_ #[74,74] ty #[.slice (some ⟨g,(i+1) * 2,none⟩) (n+1 - (i+1)) dc,.slice (some ⟨g,i * 2,none⟩) (n+1 - i) sc]).run p_ w0.drew=.ok (goInt ((n - i:Nat):Int)) W1:=fun ty dc sc=>by
  rw [wq]
  refine pP w0.drew _ _ ty 84 2 (n - i) g ((i+1) * 2) (n+1 - (i+1)) dc ⟨g,i * 2,none⟩ (n+1 - i) sc ds Tryz.underlying74 Mw (by simp only [Nat.min_def];split<;>omega) OT ?_ (fun j hj=>hsp _ (by omega)) (fun j _=>Zw _) (fun u hu=>Iu u (by rw [Gj] at hu;exact List.mem_of_mem_drop hu))
  intro j u hu
  rw [Addr.add_lit]
  have hj:j<ds.length:=(List.getElem?_eq_some_iff.1 hu).1
  refine (hcell _ (by omega)).trans ?_
  rw [Gj,List.getElem?_drop] at hu
  exact hu
 have lr:∀j,j<cap * 2->(W1.cell? ⟨g,j,none⟩).isSome=true:=fun j hj=>by
  rw [wq];exact FB g ds ((i+1) * 2) w0.drew (fun t ht=>hsp _ (by omega)) j (hsp j hj)
 obtain ⟨W2,Dz⟩:∃W2,W2=W1.setCells g (i * 2) news:=⟨_,rfl⟩
 have Ra:∀ty dc,(Builtin.copy_ #[74,74] ty #[.slice (some ⟨g,i * 2,none⟩) (n+1 - i) dc,.slice (some ⟨g1,0,none⟩) 1 1]).run p_ W1=.ok (goInt 1) W2:=fun ty dc=>by
  rw [Dz]
  refine pP W1 _ _ ty 84 2 1 g (i * 2) (n+1 - i) dc ⟨g1,0,none⟩ 1 1 news Tryz.underlying74 Mw (by simp only [Nat.min_def];split<;>omega) (by rw [rp]) ?_ (fun j hj=>lr _ (by omega)) (fun j hj=>by rw [wq,World.frozen?_setCells];exact Zw _) CP
  intro j u hu
  have Iw:g1≠g:=fun e=>hne (by rw [e];rfl)
  have h1:W1.heap[g1]?=some (.cells #[.int .i64 x.1,.int .i64 x.2] 84 (0,0)):=by rw [wq,cW _ _ _ _ _ Iw];exact Dx.out
  exact Ao h1 j u (by rw [<-iU];exact hu)
 have iw:=Ai (w:=w0.drew) (i:=i) (vs:=news) (by rw [<-FY,<-hn] at L0;exact L0.out) (by omega) (by omega) rp
 have Vr:(w0.drew.setCells g (i * 2+2) (ps.drop (i * 2))).setCells g (i * 2) news=W2:=by
  rw [Dz,wq,Gj,show (i+1) * 2=i * 2+2 by omega]
 rw [Vr] at iw
 have mQ:=aa iw
 have lI:=aa (ir.out W2 (.slice (some ⟨g,0,none⟩) (n+1) cap))
 clear iw Vr Dz wq hcell lr ir Dx L0 OT Gj yd Iu rp CP hsp Zw Q5 hcs
 replace FY:=aa FY
 replace hn:=aa hn
 replace iU:=aa iU
 go_wp2_with fail
 go_region_law (refine wK (by rfl) (.tmp 73) (.tmp 76) 74 74 (by rfl) (.slice (some ⟨g,(i+1) * 2,none⟩) (n+1 - (i+1)) (cap - (i+1))) (.slice (some ⟨g,i * 2,none⟩) (n+1 - i) (cap - i)) (by simp [Act.eval,Act.put]) (by simp [Act.eval,Act.put]) (Rb 3 (cap - (i+1)) (cap - i)) ?_)
 go_wp2_with (at_builtin;refine rK _ rfl _ _ 74 74 rfl _ _ rfl rfl (Ra _ _) ?_)
 subst hB
 intro hcut todo
 have jv:Lay C W2:=⟨hcut,hno.out⟩
 refine ay.ctl B hS.out jv rfl (fun _=>aZ rfl rfl func130 rfl) ?_
 refine lI.out jv (Ng.out _ ⟨mQ.out.2.os,mQ.out.2.tape,mQ.out.2.output,mQ.out.2.size,mQ.out.2.block⟩) ?_ (.inl rfl)
 rw [mb,<-FY.out,<-iU.out,<-hn.out]
 exact mQ.out.1
theorem Ld {v:M'}:fZ p_ 130 #[v,.int .i64 (i:Nat),.slice (some ⟨g1,0,none⟩) 1 1] .normal=(base 130).at ⟨#[v,.int .i64 (i:Nat),.slice (some ⟨g1,0,none⟩) 1 1]++F_ 92 I',[]⟩ [.code wV]:=by kernel_rfl
theorem nE (w:J') (a:Addr) (v:M') (T:Nat->Question->Nat) (d:Nat):(w.re T d).setCell a v=(w.setCell a v).re T d:=by
 unfold World.setCell
 show (match w.heap[a.block]? with|_=>_)=_
 cases w.heap[a.block]? with
 |none=>rfl
 |some o=>cases o<;>rfl
def jj:Bs:=[108,105,110,101,32]
structure Im (A:Ha) (w w':J'):Prop where
 size:w.heap.size<=w'.heap.size
 block:∀i,i<A.B->i≠A.hb->i≠A.m1->i≠A.m2->i≠A.m3->w'.heap[i]?=w.heap[i]?
variable {A:Ha} {S:Hs} {vb vr va vt:M'} {w':J'}
theorem bN.zt {vw:M'} {us:List Od} {L:Nat->Os} (K:bN C A N0 h us L w) (H:aQ A S vw vb vr va vt w) (F:Im A w w'):bN C A N0 h us L w':=by
 have K1:bN C A N0 h us L {w with heap:=w'.heap}:=K.fr H ⟨rfl,rfl,rfl,F.size,F.block⟩
 exact ⟨K1.len,K1.small,K1.live,K1.n0,K1.ap,K1.fo,K1.kM,K1.cells⟩
theorem aU.zt {vw:M'} (h:aU A w) (H:aQ A S vw vb vr va vt w) (F:Im A w w'):aU A w':=
 (h.fr H (w':={w with heap:=w'.heap}) ⟨rfl,rfl,rfl,F.size,F.block⟩:)
variable {us:List Od} {vw:M'}
theorem JY (B:eh p_ C b 0 ae Fin h) (hL:Lay C wl) {v:M'} (bR:wl.ownsRow B0 84 2 v ws.length (ax ws)) (Ba:B0<=wl.heap.size) (hi:i<=ws.length) (lG:wl.heap[g1]?=some (.cells #[.int .i64 x.1,.int .i64 x.2] 84 (0,0))) (hne:v.ownBlock≠some g1) (hsm:ws.length<=1000000)
 (hc:∀aK v',Lay C aK->gD wl aK v.ownBlock->aK.ownsRow B0 84 2 v' (ws.length+1) (ax (gY ws i x))->(v'.ownBlock=v.ownBlock\/∃g,v'.ownBlock=some g/\wl.heap.size<=g)->
  ay p_ C b 0 ae Fin Post h (aY b N h L) aK (G (aI.at (aS.put ((av[aN]?).bind (·.dst)) v') (.inRegion av ak::aV)) cs)):
 ay p_ C b 0 ae Fin Post h (aY b N h L) wl (G ((base 130).at ⟨#[v,.int .i64 (i:Nat),.slice (some ⟨g1,0,none⟩) 1 1]++F_ 92 I',[]⟩ [.code wV]) (aI.at aS (.inRegion av (aN::ak)::aV)::cs)):=by
 have hv:(v=.slice none 0 0/\ws.length=0)\/∃g cap,v=.slice (some ⟨g,0,none⟩) ws.length cap/\ws.length<=cap/\cap<=9223372036854775807:=by
  rcases bR.2 with ⟨h0,h1⟩|⟨g,cap,cur,h1,_,_,h2,h3,_⟩
  ·exact .inl ⟨h0,h1⟩
  ·exact .inr ⟨g,cap,h1,h2,h3⟩
 refine JX B hL hv hi fun z=> ?_
 by_cases he:i=ws.length
 ·exact Ey B hL bR Ba he lG hne hsm hc
 ·rcases hv with ⟨_,h0⟩|⟨g,cap,h1,h2,_⟩
  ·omega
  ·by_cases hf:cap=ws.length
   ·exact CE B hL bR Ba (by omega) (fun a c e=>by rw [h1] at e;injection e with e1 e2 e3;omega) lG hne hsm hc
   ·exact AL B hL bR Ba (by omega) (fun a c e=>by rw [h1] at e;injection e with e1 e2 e3;omega) lG hne hsm hc
variable {pt:Int} {l k:Nat}
theorem ring_end (B:eh p_ C b 0 ae Fin h) (hL:Lay C wl) (H:aQ A S vw vb vr va vt wl) (K:bN C A N0 h us L wl) (hT:aU A wl) {c:Int} (hl:l<=1000) (hk:k<=S.wait.length) (AQ:S.wait.length<=1000000) {z3 z4 z5 z6 z9 dB cZ z12 de dn dm dk dj dA dz z20 z21 z22 z23 z24 z25 z26 dD z28 dC dM z31 dQ dK dP dO dV z37 ey ew z40 eu eK eJ eI eH z46 eQ eN z49 en z51 iu z53 iF iE iD iC iB z59 nv nu np nk sW sV rH rG rF uu z70 yb z72 HC EV z75 z76 Cd By AF:M'}
 (hc:∀aK jA,Lay C aK->aQ A {S with wait:=gY S.wait k (c,pt)} jA vb vr va vt aK->bN C A N0 h us L aK->aU A aK->
  ay p_ C b 0 ae Fin Post h (aY b N h L) aK (G (aI.at (aS.put ((av[aN]?).bind (·.dst)) (.string ⟨(jj++Lib.itoa ((l:Int)+1)).toArray⟩)) (.inRegion av ak::aV)) cs)):
 ay p_ C b 0 ae Fin Post h (aY b N h L) wl (G ((base 121).at ⟨#[.pointer (some ⟨A.hb,0,none⟩),.int .i64 c,.int .i64 pt,z3,z4,z5,z6,.int .i64 (l:Nat),.int .i64 (k:Nat),z9,dB,cZ,z12,de,dn,dm,dk,dj,dA,dz,z20,z21,z22,z23,z24,z25,z26,dD,z28,dC,dM,z31,dQ,dK,dP,dO,dV,z37,ey,ew,z40,eu,eK,eJ,eI,eH,z46,eQ,eN,z49,en,z51,iu,z53,iF,iE,iD,iC,iB,z59,nv,nu,np,nk,sW,sV,rH,rG,rF,uu,z70,yb,z72,HC,EV,z75,z76,Cd,By,AF],[]⟩ [.code (.seq (ai 7 bF) (az 8 bF))]) (aI.at aS (.inRegion av (aN::ak)::aV)::cs)):=by
 have hS:=aH b N h L
 have ir:=aa hc
 clear hc
 refine B.s ?_
 generalize hK:[lN (az 8 bF)]=K0 at *
 simp only [ai,bF,f121,A_]
 iterate 5 refine B.n ?_
 refine B.o vw (fun T d=> ?_) ?_
 ·have h0:(wl.re T d).cell? ⟨A.hb,7,none⟩=some vw:=H.c.2.2.2.2.1
  go_simp
 walk_nrm
 iterate 4 refine B.n ?_
 refine ay.op (ok:=il) B hS hL rfl rfl (by k_ne) (by kernel_rfl) (fun T d=>⟨.slice (some ⟨wl.heap.size,0,none⟩) 1 1,(wl.alloc (.cells #[.int .i64 c,.int .i64 pt] 84)).re T d, ?_,fun hcut=>ay.re ?_ T d⟩)
 ·go_simp
  exact ⟨rfl,rfl⟩
 have du:Lay C (wl.alloc (.cells #[.int .i64 c,.int .i64 pt] 84)):=⟨Cut.j8 hcut,hL.no⟩
 walk_nrm
 have H2:=H.alloc (.cells #[.int .i64 c,.int .i64 pt] 84)
 have F2:Im A wl (wl.alloc (.cells #[.int .i64 c,.int .i64 pt] 84)):=⟨(Fr.alloc (w:=wl) H.big _).size,(Fr.alloc (w:=wl) H.big _).block⟩
 refine ay.ctl B hS du rfl (fun _=>bY (vs:=#[vw,.int .i64 (k:Nat),.slice (some ⟨wl.heap.size,0,none⟩) 1 1]) rfl rfl (by k_ne) rfl func130 rfl rfl (by kernel_rfl)) ?_
 rw [Ld]
 have fz:∀g,vw.ownBlock=some g->A.B<=g/\g<wl.heap.size:=fun g e=>H.wait.lt g e
 refine JY B du (B0:=A.B) (ws:=S.wait) (v:=vw) (i:=k) (x:=(c,pt)) H2.wait H2.big hk (Z' wl _) (fun e=>Nat.lt_irrefl _ (fz _ e).2) AQ fun w3 v3 gA KV QK ZP=> ?_
 obtain ⟨a3,q3,WW⟩:=aE QK
 replace WW:=aa WW
 have hp:=H2.Af (w':=w3.re (wl.alloc (.cells #[.int .i64 c,.int .i64 pt] 84)).tape w3.drawn) (v:=v3) (ws:=gY S.wait k (c,pt)) KV.W6 (by rw [JZ hk];exact QK)
 have H4:=hp.1
 have F4:Im A wl (w3.setCell ⟨A.hb,7,none⟩ v3):=⟨D_ F2.size hp.2.size,fun i h1 h2 h3 h4 h5=>(hp.2.block i h1 h2 h3 h4 h5).trans (F2.block i h1 h2 h3 h4 h5)⟩
 have c7:∀T d,(w3.re T d).cell? ⟨A.hb,7,none⟩=some vw:=fun _ _=>(J_ (KV.block A.hb (E_ H2.ok.hb H2.big) (fun e=>by have:=(fz _ e.symm).1;have:=H2.ok.hb;omega))).trans H2.c.2.2.2.2.1
 have z7:∀T d,(w3.re T d).frozen? ⟨A.hb,7,none⟩=false:=fun _ _=>(m_ (KV.block A.hb (E_ H2.ok.hb H2.big) (fun e=>by have:=(fz _ e.symm).1;have:=H2.ok.hb;omega))).trans (H2.z 7)
 walk_nrm
 iterate 2 refine B.n ?_
 refine ay.Wh (ok:=il) B hS gA rfl rfl (by k_ne) (by kernel_rfl) (fun T d=>⟨(w3.setCell ⟨A.hb,7,none⟩ v3).re T d, ?_,fun hcut=>ay.re ?_ T d⟩)
 ·have h7:=c7 T d
  have f7:=z7 T d
  rw [WW.out]
  go_simp
  exact nE _ _ _ _ _
 have qv:Lay C (w3.setCell ⟨A.hb,7,none⟩ v3):=⟨Cut.j8 hcut,gA.no⟩
 walk_nrm
 refine B.e ?_
 have K4:bN C A N0 h us L (w3.setCell ⟨A.hb,7,none⟩ v3):=K.zt H F4
 have T4:aU A (w3.setCell ⟨A.hb,7,none⟩ v3):=aU.zt hT H F4
 have H5:aQ A {S with wait:=gY S.wait k (c,pt)} v3 vb vr va vt (w3.setCell ⟨A.hb,7,none⟩ v3):=H4.heap rfl
 clear WW H4 hp F4 c7 z7 KV QK ZP gA H2 F2 du K hT H hL fz
 generalize w3.setCell ⟨A.hb,7,none⟩ v3=w5 at *
 subst hK
 refine B.p (fun T d Bh hB=> ?_)
 have H6:=aa (H5.heap (w':=w5.re T d) rfl)
 have K6:f_ (bN C A N0 h us L (w5.re T d)):=⟨K4.len,K4.small,K4.live,K4.n0,K4.ap,K4.fo,K4.kM,K4.cells⟩
 have T6:f_ (aU A (w5.re T d)):=T4
 have hno:=aa qv.no
 replace hS:=aa hS
 clear H5 K4 T4 qv
 generalize w5.re T d=w6 at *
 have oJ:IntKind.i64.wrap ((l:Int)+1)=(l:Int)+1:=IntWalk.i64_in _ (by omega)
 have hlen:=Lib.itoa_length_le ((l:Int)+1) (by omega) (by omega)
 have nU:¬(9223372036854775807<5+(Lib.itoa ((l:Int)+1)).length):=by omega
 have HF:=aa (si (T6.out.PO H6.out) ((l:Int)+1) (by omega) (by omega))
 simp only [az,bF,f121,A_]
 go_wp2_with fail
 refine HF.out.mono ?_
 rintro e w7 ⟨rfl,hg⟩
 have F7:=Fr.kept H6.out.big hg (fun _ e=>by cases e)
 have H7:=aa (H6.out.more hg)
 have K7:=aa (K6.out.fr H6.out F7)
 have T7:=aa (T6.out.fr H6.out F7)
 clear hg F7 H6 K6 T6 HF
 go_wp2_with fail
 subst hB
 intro hcut todo
 have jv:Lay C w7:=⟨hcut,hno.out⟩
 refine ay.ctl B hS.out jv rfl (fun _=>aZ rfl rfl func121 rfl) ?_
 have:=ir.out w7 _ jv H7.out K7.out T7.out
 rw [<-vQ] at this
 exact this
def placeOf (ws:List (Int × Int)) (pt:Int):Nat:=(ws.takeWhile fun q=>decide (pt<=q.2)).length
theorem nI (hk:k<=ws.length) (h1:∀j (hj:j<ws.length),j<k->pt<=(ws[j]).2) (h2:∀(hj:k<ws.length),¬pt<=(ws[k]).2):placeOf ws pt=k:=by
 unfold placeOf
 induction ws generalizing k with
 |nil=>simp at hk;subst hk;rfl
 |cons a l ih=>
  cases k with
  |zero=>
   have h:=h2 (by simp)
   simp only [List.getElem_cons_zero] at h
   rw [List.takeWhile_cons_of_neg (by simpa using h)];rfl
  |succ k=>
   have h:=h1 0 (by simp) (by omega)
   simp only [List.getElem_cons_zero] at h
   rw [List.takeWhile_cons_of_pos (by simpa using h),List.length_cons,ih (k:=k) (by simpa using hk) (fun j hj hjk=>h1 (j+1) (by simpa using hj) (by omega)) (fun hj=>h2 (by simpa using hj))]
theorem G9 (B:eh p_ C b 0 ae Fin h) (hL:Lay C wl) (H:aQ A S vw vb vr va vt wl) {c:Int} (lW:S.back.length<=1000000) (hn:S.lines.length<=1000) (xE:S.of c=none) (yL:S.back.contains c=false) (hl:l<S.lines.length) (jV:gf S=(l:Nat)) (wi:S.recs.length<=90000) (AQ:S.wait.length<=1000000) (c0:0<=c) (c1:c<=1000000) (K:bN C A N0 h us L wl) (hT:aU A wl)
 (hc:∀aK jA qb,Lay C aK->aQ A {conn S c l S.lines[l] with wait:=gY S.wait (placeOf S.wait pt) (c,pt)} jA vb qb va vt aK->bN C A N0 h us L aK->aU A aK->
  ay p_ C b 0 ae Fin Post h (aY b N h L) aK (G (aI.at (aS.put ((av[aN]?).bind (·.dst)) (.string ⟨(jj++Lib.itoa ((l:Int)+1)).toArray⟩)) (.inRegion av ak::aV)) cs)):
 ay p_ C b 0 ae Fin Post h (aY b N h L) wl (G ((base 121).at ⟨#[.pointer (some ⟨A.hb,0,none⟩),.int .i64 c,.int .i64 pt]++F_ 77 I',[]⟩ [.code bF]) (aI.at aS (.inRegion av (aN::ak)::aV)::cs)):=by
 have hS:=aH b N h L
 have ea:(#[.pointer (some ⟨A.hb,0,none⟩),.int .i64 c,.int .i64 pt]++F_ 77 I':Array M')=#[.pointer (some ⟨A.hb,0,none⟩),.int .i64 c,.int .i64 pt,I',I',I',I',I',I',I',I',I',I',I',I',I',I',I',I',I',I',I',I',I',I',I',I',I',I',I',I',I',I',I',I',I',I',I',I',I',I',I',I',I',I',I',I',I',I',I',I',I',I',I',I',I',I',I',I',I',I',I',I',I',I',I',I',I',I',I',I',I',I',I',I',I',I',I',I',I']:=by kernel_rfl
 rw [ea]
 have e1:bF=.seq (ai 0 bF) (.seq (ai 1 bF) (.seq (ai 2 bF) (.seq (ai 3 bF) (.seq (ai 4 bF) (.seq (ai 5 bF) (.seq (ai 6 bF) (.seq (ai 7 bF) (az 8 bF)))))))):=by kernel_rfl
 rw [e1]
 refine B.s ?_
 refine B.p (fun T d Bh hB=> ?_)
 simp only [ai,bF,f121,A_]
 go_wp2_with fail
 refine bh hB ?_
 refine B.s ?_
 refine B.p (fun T d Bh hB=> ?_)
 have c5:(wl.re T d).cell? ⟨A.hb,5,none⟩=some (.map (some A.m2)):=H.c.2.2.1
 have c8:(wl.re T d).cell? ⟨A.hb,8,none⟩=some vb:=H.c.2.2.2.2.2.1
 have kE:=H.of.heap (w':=wl.re T d) rfl
 have sY:=aa (nW (w:=wl.re T d) (H.heap (w':=wl.re T d) rfl).back lW c)
 obtain ⟨ab,cb,K8⟩:=aE H.back
 subst K8
 have ir:=aa hc
 have HH:=aa H
 have qK:=aa hL
 have QN:=aa hn
 clear hc hL H hn
 simp only [ai,bF,f121,A_]
 have nT:(binOp .neq 78 (.chan none) (.chan none)).run p_ (wl.re T d)=.ok (.bool false) (wl.re T d):=rY Tryz.underlying78 none
 rw [yL] at sY
 go_wp2_with (at_lookup;refine cU _ rfl _ _ 72 false rfl pe Tryz.underlying72 A.m2 rfl kE c rfl qQ ?_;simp only [xE,Option.map_none,Option.getD_none,Bool.false_eq_true,if_false])
 refine sY.out.mono ?_
 rintro e w2 ⟨rfl,rfl⟩
 go_wp2_with fail
 clear kE sY c5 c8 nT
 have hL:=qK.out
 refine bh hB ?_
 refine B.s ?_
 refine B.p (fun T d Bh hB=> ?_)
 have dJ:=aa (kK (HH.out.heap (w':=wl.re T d) rfl) QN.out)
 clear hL
 simp only [ai,bF,f121,A_]
 go_wp2_with fail
 refine dJ.out.mono ?_
 rintro e w2 ⟨rfl,rfl⟩
 rw [jV]
 go_wp2_with fail
 have hL:=qK.out
 refine bh hB ?_
 have q1:((l:Int)<0)=False:=by simp
 refine B.s ?_
 refine B.p (fun T d Bh hB=> ?_)
 simp only [ai,bF,f121,A_]
 go_wp2_with fail
 refine bh hB ?_
 refine B.s ?_
 refine B.p (fun T d Bh hB=> ?_)
 have H3:=aa (HH.out.heap (w':=wl.re T d) rfl)
 have K3:f_ (bN C A N0 h us L (wl.re T d)):=⟨K.len,K.small,K.live,K.n0,K.ap,K.fo,K.kM,K.cells⟩
 have T3:f_ (aU A (wl.re T d)):=hT
 have xG:=aa (oy H3.out (c:=c) (l:=l) hl QN.out (by omega) (by omega) (by omega) (Fr.refl A (wl.re T d)))
 have hno:=aa hL.no
 replace hS:=aa hS
 clear HH qK hL xE yL jV dJ K hT
 generalize wl.re T d=w4 at *
 simp only [ai,bF,f121,A_]
 go_wp2_with fail
 refine xG.out.mono ?_
 rintro e w5 ⟨rfl,⟨qb,H5⟩,F5⟩
 have H5:=aa H5
 have K5:=aa (K3.out.fr H3.out F5)
 have T5:=aa (T3.out.fr H3.out F5)
 clear F5 K3 T3 H3 xG
 go_wp2_with fail
 subst hB
 intro hcut
 have qu:Lay C w5:=⟨hcut,hno.out⟩
 replace hS:=hS.out
 clear hcut
 refine B.s ?_
 refine B.p (fun T d Bh hB=> ?_)
 simp only [ai,bF,f121,A_]
 go_wp2_with fail
 subst hB
 intro hcut
 clear hcut
 refine ay.re (wl:=w5) ?_ T d
 refine B.s ?_
 refine B.p (fun T d Bh hB=> ?_)
 have H6:=aa (H5.out.heap (w':=w5.re T d) rfl)
 have c7:=H6.out.c.2.2.2.2.1
 obtain ⟨aw,cw,evw⟩:=aE H6.out.wait
 have Wl:f_ (∀g cap,vw=.slice (some ⟨g,0,none⟩) S.wait.length cap->∀k (hk:k<S.wait.length),(w5.re T d).cell? ⟨g,k * 2,none⟩=some (.int .i64 (S.wait[k]).1)/\(w5.re T d).cell? ⟨g,k * 2+1,none⟩=some (.int .i64 (S.wait[k]).2)):=fun g cap e k hk=>H6.out.wE (S:=conn S c l S.lines[l]) e hk
 have KA:S.wait.length=0\/∃g cap,vw=.slice (some ⟨g,0,none⟩) S.wait.length cap:=by
  rcases H6.out.wait.2 with ⟨_,h0⟩|⟨g,cap,cur,h1,_⟩
  ·exact .inl h0
  ·exact .inr ⟨g,cap,h1⟩
 replace KA:=aa KA
 have Vw:=aa qu
 have hSH:=aa hS
 clear qu hS
 generalize sk:w5.re T d=w6 at *
 replace sk:=aa sk
 subst evw
 simp only [ai,bF,f121,A_]
 simp only [conn] at c7
 go_wp2_with fail
 go_loopw [8] (fun i wr=>∃k:Nat,k<=S.wait.length/\i=.int .i64 k/\f_ (∀j (hj:j<S.wait.length),j<k->pt<=(S.wait[j]).2)/\w6=wr) (fun i _=>S.wait.length - (intOf i).toNat)
 case atStart=>exact ⟨0,Nat.zero_le _,rfl,fun j hj h0=>by omega,rfl⟩
 case round=>
  obtain ⟨k,hk,rfl,hT,rfl⟩:=hrel
  by_cases hlt:k<S.wait.length
  ·have gJ:(k:Int)<(S.wait.length:Int):=by omega
   obtain ⟨g,e,y2⟩:∃g,aw=some ⟨g,0,none⟩/\w6.cell? ⟨g,k * 2+1,none⟩=some (.int .i64 (S.wait[k]).2):=by
    rcases KA.out with h0|⟨g,cap,e⟩
    ·omega
    ·have:=(Wl.out g cap e k hlt).2
     injection e with e1 e2 e3
     exact ⟨g,e1,this⟩
   subst e
   by_cases hp:pt<=(S.wait[k]).2
   ·go_wp2_with fail
    go_roundw
    case rel=>exact ⟨k+1,by omega,by go_num,aa (fun j hj h0=>if e:j=k then by subst e;exact hp else hT.out j hj (by omega)),trivial⟩
    case measure=>simp [intOf];omega
   ·go_wp2_with fail
    subst hB
    intro hcut
    have Iz:Lay C w6:=⟨hcut,Vw.out.no⟩
    have K6:bN C A N0 h us L w6:=by rw [<-sk.out];exact ⟨K5.out.len,K5.out.small,K5.out.live,K5.out.n0,K5.out.ap,K5.out.fo,K5.out.kM,K5.out.cells⟩
    have T6:aU A w6:=by rw [<-sk.out];exact T5.out
    have yd:placeOf S.wait pt=k:=nI hk hT.out (fun _=>by omega)
    refine ring_end B Iz H6.out K6 T6 (by have:=QN.out;omega) (show k<=(conn S c l S.lines[l]).wait.length from hk) AQ fun aK jA fJ H' K' T'=>ir.out aK jA qb fJ (by rw [yd];exact H') K' T'
  ·obtain rfl:k=S.wait.length:=by omega
   have gJ:((S.wait.length:Int)<(S.wait.length:Int))=False:=by simp
   go_wp2_with fail
   subst hB
   intro hcut
   have Iz:Lay C w6:=⟨hcut,Vw.out.no⟩
   have K6:bN C A N0 h us L w6:=by rw [<-sk.out];exact ⟨K5.out.len,K5.out.small,K5.out.live,K5.out.n0,K5.out.ap,K5.out.fo,K5.out.kM,K5.out.cells⟩
   have T6:aU A w6:=by rw [<-sk.out];exact T5.out
   have yd:placeOf S.wait pt=S.wait.length:=nI (C_ _) hT.out (fun h=>absurd h (Nat.lt_irrefl _))
   refine ring_end B Iz H6.out K6 T6 (by have:=QN.out;omega) (show S.wait.length<=(conn S c l S.lines[l]).wait.length from C_ _) AQ fun aK jA fJ H' K' T'=>ir.out aK jA qb fJ (by rw [yd];exact H') K' T'
def oe (S:Hs) (us:List Od) (c pt:Int):Hs × List Od × Bs:=
 if (S.of c).isSome||S.back.contains c then (S,us,tT) else if gf S<0 then ({S with back:=S.back++[c]},us,KQ) else match S.lines[(gf S).toNat]? with
  |none=>(S,us,[])
  |some x=>({conn S c (gf S).toNat x with wait:=gY S.wait (placeOf S.wait pt) (c,pt)},us,jj++Lib.itoa (((gf S).toNat:Nat)+1:Int))
structure Fo (S:Hs):Prop where
 lines:S.lines.length<=1000
 recs:S.recs.length<=90000
 back:S.back.length<=1000000
 wait:S.wait.length<=1000000
theorem ring (B:eh p_ C b 0 ae Fin h) (hL:Lay C wl) (H:cQ A va vt S wl) (K:bN C A N0 h us L wl) (hT:aU A wl) {c:Int} (c0:0<=c) (c1:c<=1000000) (cK:Fo S)
 (hc:Behind C b N N0 h A va vt ae Fin Post aI aS av aN ak aV cs (oe S us c pt)):
 ay p_ C b 0 ae Fin Post h (aY b N h L) wl (G ((base 121).at ⟨#[.pointer (some ⟨A.hb,0,none⟩),.int .i64 c,.int .i64 pt]++F_ 77 I',[]⟩ [.code bF]) (aI.at aS (.inRegion av (aN::ak)::aV)::cs)):=by
 obtain ⟨vw,vb,vr,H⟩:=H
 by_cases hk:((S.of c).isSome||S.back.contains c)=true
 ·have hR:oe S us c pt=(S,us,tT):=by unfold oe;rw [if_pos hk]
  rw [hR] at hc
  exact D9 B hL H cK.back (by simpa using hk) (hc wl L hL ⟨_,_,_,H⟩ K hT)
 ·have fS:S.of c=none/\S.back.contains c=false:=by
   rw [Bool.or_eq_true,not_or] at hk
   refine ⟨?_,by simpa using hk.2⟩
   cases hx:S.of c with
   |none=>rfl
   |some x=>rw [hx] at hk;exact absurd rfl hk.1
  rcases lX S with hf|⟨l,hl,hf,_⟩
  ·have hR:oe S us c pt=({S with back:=S.back++[c]},us,KQ):=by unfold oe;rw [if_neg hk,hf];rfl
   rw [hR] at hc
   exact Hb B hL H cK.back cK.lines fS.1 fS.2 hf K hT fun aK qS fJ H' K' T'=>hc aK L fJ ⟨_,_,_,H'⟩ K' T'
  ·have hn:¬(((l:Nat):Int)<0):=by omega
   have hR:oe S us c pt=({conn S c l S.lines[l] with wait:=gY S.wait (placeOf S.wait pt) (c,pt)},us,jj++Lib.itoa ((l:Int)+1)):=by
    unfold oe
    rw [if_neg hk,hf,if_neg hn,Int.toNat_natCast,G_ hl]
   rw [hR] at hc
   exact G9 B hL H cK.back cK.lines fS.1 fS.2 hl hf cK.recs cK.wait c0 c1 K hT fun aK jA qb fJ H' K' T'=>hc aK L fJ ⟨_,_,_,H'⟩ K' T'
variable {main:Bool} {b:Y'} {k:List Item} {ops:Array y_} {rest:List Nat} {o:y_} {f:FuncId} {fn:Func} {c:Code} {args:Array Operand} {ats:Array Q'} {t:Operand} {caps vs:Array M'}
theorem zZ (hop:o.op=.call {callee:=.value t,args,argTypes:=ats}) (ht:a.eval t=.func (.func f) #[] caps) (hf:P.funcs[f]?=some fn) (lV:(fn.name== "runtime.NumGoroutine")=false) (hb:fn.body.isNone=false):(V' a.eval o).run P w=.ok (.enter f (args.map a.eval++caps)) w:=by
 have h1:¬fn.name= "runtime.NumGoroutine" :=by simpa using lV
 have h2:¬fn.body=none:=by cases hx:fn.body<;>simp_all
 unfold V'
 simp [hop,resolve,Deferred.ofValue,invoke,callFunc,hf,h1,h2,ht]
theorem vL (hop:o.op=.call {callee:=.value t,args,argTypes:=ats}) (ht:a.eval t=.func (.func f) #[] caps) (hf:P.funcs[f]?=some fn) (lV:(fn.name== "runtime.NumGoroutine")=false) (hb:fn.body.isNone=false) (es:Array Event):(V' a.eval o).events P w es=es:=by
 have h1:¬fn.name= "runtime.NumGoroutine" :=by simpa using lV
 have h2:¬fn.body=none:=by cases hx:fn.body<;>simp_all
 unfold V'
 simp [hop,resolve,Deferred.ofValue,invoke,callFunc,hf,h1,h2,ht]
theorem za (ho:ops[i]?=some o) (hw:U_ o (yielded ops a.tmps)=true) (hk:b.kind≠.early) (hop:o.op=.call {callee:=.value t,args,argTypes:=ats}) (ht:a.eval t=.func (.func f) #[] caps)
 (hf:P.funcs[f]?=some fn) (lV:(fn.name== "runtime.NumGoroutine")=false) (hb:fn.body=some c) (ha:args.map a.eval++caps=vs):
 stepG P main (G (b.at a (.inRegion ops (i::rest)::k)) cs) w=.go (G (fZ P f vs .normal) (b.at a (.inRegion ops (i::rest)::k)::cs)) w #[]:=by
 have A8:fn.body.isNone=false:=by rw [hb];rfl
 rw [<-ha,stepG_enter ho hw hk (zZ hop ht hf lV A8)]
 have:listed P b.fn a o w=#[]:=by unfold listed;rw [vL hop ht hf lV A8];exact seen_none P _
 rw [this]
theorem Gu {c1 p1 c:Int} (hg:w.cell? ⟨g,0,none⟩=some (.int .i64 c)):Calls p_ 137 #[.agg #[.int .i64 c1,.int .i64 p1],.pointer (some ⟨g,0,none⟩)] w fun e w'=>e=.returned (.bool (decide (c1=c)))/\w'=w.alloc (.cells #[.int .i64 c1,.int .i64 p1] 84):=by
 have h0:(w.alloc (.cells #[.int .i64 c1,.int .i64 p1] 84)).cell? ⟨g,0,none⟩=some (.int .i64 c):=(N_ w _ none).cell (a:=⟨g,0,none⟩) hg (by simp)
 have h1:(w.alloc (.cells #[.int .i64 c1,.int .i64 p1] 84)).cell? ⟨w.heap.size,0,none⟩=some (.int .i64 c1):=bJ rfl
 go_enter func137,ntmps137
 go_wp2_with fail
 by_cases e:c1=c
 ·subst e
  go_wp2_with fail
  go_ret
  simp
 ·go_wp2_with fail
  go_ret
  simp [e]
noncomputable def eM:Code:=f143.body.getD .skip
noncomputable def sS:Code:=match ai 1 eM with| .seq _ (.block _ (.loop c))=>c|_=>.skip
theorem Lb {p q:M'}:fZ p_ 143 #[p,q] .normal=(base 143).at ⟨#[p,q]++F_ 17 I',[]⟩ [.code eM]:=by kernel_rfl
theorem gD.refl (w:J') (r:Option Nat):gD w w r:=⟨rfl,rfl,C_ _,fun _ _ _=>rfl⟩
theorem gD.trans {a b c:J'} {r:Option Nat} (h:gD a b r) (k:gD b c r):gD a c r:=⟨k.os.trans h.os,k.output.trans h.output,D_ h.size k.size,fun i hi hr=>(k.block i (E_ hi h.size) hr).trans (h.block i hi hr)⟩
theorem gD.alloc (w:J') (o:Obj) (r:Option Nat):gD w (w.alloc o) r:=by
 have:=N_ w o none
 exact ⟨this.os,this.output,this.size,fun i hi _=>this.block i hi (by simp)⟩
theorem gD.re {a b:J'} {r:Option Nat} (h:gD a b r) (T:Nat->Question->Nat) (d:Nat):gD a (b.re T d) r:=⟨h.os,h.output,h.size,h.block⟩
theorem gD.weaken {a b:J'} {r:Option Nat} (h:gD a b none):gD a b r:=⟨h.os,h.output,h.size,fun i hi _=>h.block i hi (by simp)⟩
theorem gD.cell {a b:J'} {r:Option Nat} (h:gD a b r) {x:Addr} {v:M'} (hx:a.cell? x=some v) (hv:x=⟨x.block,x.off,none⟩) (hr:some x.block≠r):b.cell? x=some v:=by
 obtain ⟨blk,off,vw⟩:=x
 injection hv with _ _ hv
 subst hv
 have hlt:blk<a.heap.size:=by
  cases hb:a.heap[blk]? with
  |none=>simp [World.cell?,hb] at hx
  |some o=>exact (cI hb)
 rw [J_ (h.block blk hlt hr)];exact hx
def AO (ws:List (Int × Int)) (c:Int):Int:=match ws.findIdx? (fun p=>decide (p.1=c)) with|some i=>(i:Nat)|none=> -1
variable {b:Nat}
variable {w0:J'} {g3:Nat}
theorem HA (B:eh p_ C b 0 ae Fin h) {v:M'} {c:Int} (bR:w0.ownsRow B0 84 2 v ws.length (ax ws)) (mS:w0.cell? ⟨g3,0,none⟩=some (.int .i64 c)) (hsm:ws.length<=1000000)
 (hc:∀aK,Lay C aK->gD w0 aK none->ay p_ C b 0 ae Fin Post h (aY b N h L) aK (G (aI.at (aS.put ((av[aN]?).bind (·.dst)) (.int .i64 (AO ws c))) (.inRegion av ak::aV)) cs)):
 ∀m i,ws.length - i=m->i<=ws.length->(∀j (hj:j<ws.length),j<i->(ws[j]).1≠c)->∀(y5 y9 Px Pu Pt Ps Pr Pq Pp Pm Pk:M') (wl:J'),Lay C wl->gD w0 wl none->
 ay p_ C b 0 ae Fin Post h (aY b N h L) wl (G ((base 143).at ⟨#[v,.func (.func 137) #[] #[.pointer (some ⟨g3,0,none⟩)],I',I',.int .i64 0,y5,v,.int .i64 (ws.length:Nat),.int .i64 (i:Nat),y9,Px,Pu,Pt,Ps,Pr,Pq,Pp,Pm,Pk],[]⟩ [.code sS,.inLoop sS,.inBlock 0,.code (az 2 eM)]) (aI.at aS (.inRegion av (aN::ak)::aV)::cs)):=by
 have hS:=aH b N h L
 obtain ⟨ab,cap,ev⟩:=aE bR
 have rq:∀i,i<ws.length->∃g,ab=some ⟨g,0,none⟩:=fun i hi=>by
  obtain ⟨g,cp,_,e,_⟩:=cz bR (by omega)
  rw [ev] at e;injection e with e;exact ⟨g,e⟩
 subst ev
 intro m
 induction m with
 |zero=>
  intro i hm hi hno y5 y9 Px Pu Pt Ps Pr Pq Pp Pm Pk wl hL hG
  obtain rfl:i=ws.length:=by omega
  have hlt:((ws.length:Int)<(ws.length:Int))=False:=by simp
  generalize hK:[Item.inLoop sS,.inBlock 0,.code (az 2 eM)]=K0
  simp only [sS,ai,eM,f143,A_]
  refine B.s ?_
  refine B.r ?_
  refine B.q (.bool false) ?_
  walk_nrm
  refine B.e ?_
  refine B.s ?_
  refine B.c rfl ?_
  subst hK
  refine ay.ctl B hS hL rfl (fun _=>stepG_exit rfl) ?_
  refine ay.code (ok:=il) B pA hS hL (aF (by kernel_rfl) rfl rfl ⟨_,func143⟩) ?_
  intro T d
  generalize hB:iM p_ C b 0 ae Fin Post h (aY b N h L) _ _ _=Bh
  replace hB:=aa hB
  have ir:=aa hc
  have qK:=aa hL
  have hGH:=aa hG
  clear hc hL hG
  simp only [az,eM,f143,A_]
  go_wp2_with fail
  subst hB
  intro hcut todo
  have jv:Lay C (wl.re T d):=⟨hcut,qK.out.no⟩
  refine ay.ctl B hS jv rfl (fun _=>aZ rfl rfl func143 rfl) ?_
  have hi:AO ws c= -1:=by
   unfold AO
   have:ws.findIdx? (fun p=>decide (p.1=c))=none:=by
    rw [List.findIdx?_eq_none_iff]
    intro x hx
    obtain ⟨j,hj,rfl⟩:=List.getElem_of_mem hx
    simpa using hno j hj hj
   rw [this]
  have:=ir.out _ jv (hGH.out.re T d)
  rw [hi] at this
  exact this
 |succ m ih=>
  intro i hm hi hno y5 y9 Px Pu Pt Ps Pr Pq Pp Pm Pk wl hL hG
  have hlt:i<ws.length:=by omega
  have gJ:(i:Int)<(ws.length:Int):=by omega
  obtain ⟨g,rfl⟩:=rq i hlt
  have oJ:IntKind.i64.wrap ((i:Int)+1)=((i+1:Nat):Int):=by rw [IntWalk.i64_in _ (by omega)];rfl
  have k1:∀T d,(wl.re T d).cell? ⟨g,i * 2,none⟩=some (.int .i64 (ws[i]).1):=fun T d=>hG.cell ((bR.cellAt _ (by omega)).trans (jr tw 2 (fun _=>rfl) _ i 0 hlt (by decide))) rfl (by simp)
  have k2:∀T d,(wl.re T d).cell? ⟨g,i * 2+1,none⟩=some (.int .i64 (ws[i]).2):=fun T d=>hG.cell ((bR.cellAt _ (by omega)).trans (jr tw 2 (fun _=>rfl) _ i 1 hlt (by decide))) rfl (by simp)
  generalize hK:[Item.inLoop sS,.inBlock 0,.code (az 2 eM)]=K0
  simp only [sS,ai,eM,f143,A_]
  refine B.s ?_
  refine B.r ?_
  refine B.q (.bool true) ?_
  walk_nrm
  refine B.e ?_
  refine B.s ?_
  refine B.c rfl ?_
  refine ay.ctl B hS hL rfl (fun _=>stepG_skip) ?_
  refine B.s ?_
  refine ay.ctl B hS hL rfl (fun _=>stepG_block) ?_
  refine B.s ?_
  refine B.r ?_
  refine B.q (.int .i64 (i:Nat)) ?_
  walk_nrm
  refine B.q (.int .i64 (i:Nat)) ?_
  walk_nrm
  refine B.e ?_
  refine B.s ?_
  refine B.r ?_
  refine B.q (.func (.func 137) #[] #[.pointer (some ⟨g3,0,none⟩)]) ?_
  walk_nrm
  refine B.q (.slice (some ⟨g,0,none⟩) ws.length cap) ?_
  walk_nrm
  refine B.q (.int .i64 (i:Nat)) ?_
  walk_nrm
  refine B.q (.pointer (some ⟨g,i * 2,none⟩)) ?_
  walk_nrm
  refine B.o (.agg #[.int .i64 (ws[i]).1,.int .i64 (ws[i]).2]) (fun T d=> ?_) ?_
  ·have h1:=k1 T d
   have h2:=k2 T d
   go_simp
  walk_nrm
  refine ay.ctl B hS hL rfl (fun _=>za (b:=base 143) (f:=137) (caps:=#[.pointer (some ⟨g3,0,none⟩)]) (vs:=#[.agg #[.int .i64 (ws[i]).1,.int .i64 (ws[i]).2],.pointer (some ⟨g3,0,none⟩)]) rfl rfl (by k_ne) rfl rfl func137 rfl rfl (by kernel_rfl)) ?_
  refine ay.call (ok:=il) B pA hS hL (by kernel_rfl) (by kernel_rfl) fun T d=> ?_
  refine (Gu (w:=wl.re T d) (c:=c) (hG.cell (b:=wl) mS rfl (by simp))).mono ?_
  rintro e w2 ⟨rfl,rfl⟩
  refine ⟨_,rfl,fun hcut=> ?_⟩
  rw [Frame.finish_at]
  have du:Lay C ((wl.re T d).alloc (.cells #[.int .i64 (ws[i]).1,.int .i64 (ws[i]).2] 84)):=⟨hcut,hL.no⟩
  have Rv:gD w0 ((wl.re T d).alloc (.cells #[.int .i64 (ws[i]).1,.int .i64 (ws[i]).2] 84)) none:=(hG.re T d).trans (gD.alloc _ _ _)
  generalize (wl.re T d).alloc (.cells #[.int .i64 (ws[i]).1,.int .i64 (ws[i]).2] 84)=w2 at *
  walk_nrm
  refine B.e ?_
  by_cases e:(ws[i]).1=c
  ·have hd:decide ((ws[i]).1=c)=true:=by simp [e]
   rw [hd]
   refine B.c rfl ?_
   refine B.s ?_
   refine B.r ?_
   refine B.q (.int .i64 (i:Nat)) ?_
   walk_nrm
   refine B.q (.int .i64 (i:Nat)) ?_
   walk_nrm
   refine B.e ?_
   refine ay.ctl B hS du rfl (fun _=>ma) ?_
   refine ay.ctl B hS du rfl (fun _=>aZ rfl rfl func143 rfl) ?_
   have hx:AO ws c=(i:Nat):=by
    unfold AO
    have:ws.findIdx? (fun p=>decide (p.1=c))=some i:=by
     rw [List.findIdx?_eq_some_iff_getElem]
     exact ⟨hlt,by simp [e],fun j hj=>by simpa using hno j (by omega) hj⟩
    rw [this]
   have:=hc w2 du Rv
   rw [hx] at this
   exact this
  ·have hd:decide ((ws[i]).1=c)=false:=by simp [e]
   rw [hd]
   refine B.c rfl ?_
   refine ay.ctl B hS du rfl (fun _=>stepG_skip) ?_
   refine ay.ctl B hS du rfl (fun _=>stepG_inBlock) ?_
   refine B.r ?_
   refine B.q (.int .i64 ((i+1:Nat):Int)) ?_
   walk_nrm
   refine B.q (.int .i64 ((i+1:Nat):Int)) ?_
   walk_nrm
   refine B.e ?_
   subst hK
   refine ay.ctl B hS du rfl (fun _=>stepG_inLoop) ?_
   exact ih (i+1) (by omega) (by omega) (fun j hj SA=>by by_cases e1:j=i;subst e1;exact e;exact hno j hj (by omega)) _ _ _ _ _ _ _ _ _ _ _ w2 du Rv
theorem Qn (B:eh p_ C b 0 ae Fin h) (hL:Lay C wl) {v:M'} {c:Int} (bR:wl.ownsRow B0 84 2 v ws.length (ax ws)) (mS:wl.cell? ⟨g3,0,none⟩=some (.int .i64 c)) (hsm:ws.length<=1000000)
 (hc:∀aK,Lay C aK->gD wl aK none->ay p_ C b 0 ae Fin Post h (aY b N h L) aK (G (aI.at (aS.put ((av[aN]?).bind (·.dst)) (.int .i64 (AO ws c))) (.inRegion av ak::aV)) cs)):
 ay p_ C b 0 ae Fin Post h (aY b N h L) wl (G ((base 143).at ⟨#[v,.func (.func 137) #[] #[.pointer (some ⟨g3,0,none⟩)]]++F_ 17 I',[]⟩ [.code eM]) (aI.at aS (.inRegion av (aN::ak)::aV)::cs)):=by
 have hS:=aH b N h L
 obtain ⟨ab,cap,ev⟩:=aE bR
 have ea:(#[v,.func (.func 137) #[] #[.pointer (some ⟨g3,0,none⟩)]]++F_ 17 I':Array M')=#[v,.func (.func 137) #[] #[.pointer (some ⟨g3,0,none⟩)],I',I',I',I',I',I',I',I',I',I',I',I',I',I',I',I',I']:=by kernel_rfl
 rw [ea]
 have e1:eM=.seq (ai 0 eM) (.seq (.seq (ai 0 (ai 1 eM)) (.block 0 (.loop sS))) (az 2 eM)):=by kernel_rfl
 rw [e1]
 refine B.s ?_
 generalize hX:[lN (.seq (.seq (ai 0 (ai 1 eM)) (.block 0 (.loop sS))) (az 2 eM))]=X0
 simp only [ai,eM,f143,A_]
 refine B.r ?_
 refine B.q (.int .i64 0) ?_
 walk_nrm
 refine B.e ?_
 subst hX
 refine B.s ?_
 refine B.s ?_
 generalize hX:[lN (Code.block 0 (.loop sS)),lN (az 2 eM)]=X0
 simp only [ai,eM,f143,A_]
 have evH:=aa ev
 refine B.r ?_
 refine B.q v ?_
 walk_nrm
 refine B.o (.int .i64 (ws.length:Nat)) (fun T d=> ?_) ?_
 ·rw [evH.out]
  go_simp
 walk_nrm
 refine B.q (.int .i64 ((0:Nat):Int)) ?_
 walk_nrm
 refine B.e ?_
 subst hX
 refine ay.ctl B hS hL rfl (fun _=>stepG_block) ?_
 refine ay.ctl B hS hL rfl (fun _=>stepG_loop) ?_
 exact HA B bR mS hsm hc ws.length 0 (by omega) (by omega) (fun j hj h0=>by omega) _ _ _ _ _ _ _ _ _ _ _ wl hL (gD.refl _ _)
variable {B:Nat} {xs:List M'}
theorem MM {e s n n' cap:Nat} {vs:List M'} (h:w.ownsRow B e s (.slice (some ⟨g,0,none⟩) n cap) n xs) (hn:n'<=n) (hv:n' * s+vs.length<=n * s):
 (w.setCells g (n' * s) vs).ownsRow B e s (.slice (some ⟨g,0,none⟩) n' cap) n' (xs.take (n' * s))/\w.grownBy (w.setCells g (n' * s) vs) (some g):=by
 refine ⟨?_,(bL g vs _ w).1,(bL g vs _ w).2.1,(bL g vs _ w).2.2,Nat.le_of_eq (fq g vs _ w).symm,fun k _ hk=>cW g vs _ w k (fun e=>hk (by rw [e]))⟩
 have hle:n' * s<=n * s:=Nat.mul_le_mul_right _ hn
 have Wj:=h.1
 refine ⟨by rw [Q_];omega, ?_⟩
 rcases h.2 with ⟨h',_⟩|⟨g',cap',cur,h',hb,hg,hc,hm,hs,ht⟩
 ·simp at h'
 ·simp only [Value.slice.injEq,n_,Addr.mk.injEq,and_true,true_and] at h'
  obtain ⟨rfl,rfl⟩:=h'
  have hcs:n * s<=cap * s:=Nat.mul_le_mul_right _ hc
  obtain ⟨yR,h1,h2,h3⟩:=fv g vs (n' * s) w cur hg (by omega)
  refine .inr ⟨g,cap,yR,rfl,hb,h1,by omega,hm,by omega, ?_⟩
  have rq:cur.toList.length=cap * s:=by simpa using hs
  rw [h3,List.append_assoc,List.take_append_of_le_length (by rw [Q_];omega),List.take_take,Nat.min_self,<-ht,List.take_take,Nat.min_eq_left hle]
theorem Ci {n cap:Nat} {xs:List (Int × Int)} (h:w.ownsRow B 84 2 (.slice (some ⟨g,0,none⟩) n cap) n (ax xs)) (hi:i<xs.length) (p:Int × Int):
 ((w.setCell ⟨g,i * 2,none⟩ (.int .i64 p.1)).setCell ⟨g,i * 2+1,none⟩ (.int .i64 p.2)).ownsRow B 84 2 (.slice (some ⟨g,0,none⟩) n cap) n (ax (xs.set i p))/\w.grownBy ((w.setCell ⟨g,i * 2,none⟩ (.int .i64 p.1)).setCell ⟨g,i * 2+1,none⟩ (.int .i64 p.2)) (some g):=by
 have h1:=h.stored (i * 2) (.int .i64 p.1)
 have h2:=h1.1.stored (i * 2+1) (.int .i64 p.2)
 have e1:ax (xs.set i (p.1,(xs[i]).2))=(ax xs).set (i * 2) (.int .i64 p.1):=sK (fun p:Int × Int=>[ah .i64 p.1,.int .i64 p.2]) 2 (fun _=>rfl) xs i 0 hi (by decide) _ _ rfl
 have e2:ax ((xs.set i (p.1,(xs[i]).2)).set i p)=(ax (xs.set i (p.1,(xs[i]).2))).set (i * 2+1) (.int .i64 p.2):=sK (fun p:Int × Int=>[ah .i64 p.1,.int .i64 p.2]) 2 (fun _=>rfl) _ i 1 (by simpa using hi) (by decide) _ _ (by simp)
 rw [List.set_set] at e2
 rw [e2,e1]
 exact ⟨h2.1,h1.2.os▸h2.2.os,h1.2.tape▸h2.2.tape,h1.2.output▸h2.2.output,D_ h1.2.size h2.2.size,fun k hk hn=>(h2.2.block k (E_ hk h1.2.size) hn).trans (h1.2.block k hk hn)⟩
noncomputable def bQ:Code:=f136.body.getD .skip
noncomputable def pJ:Code:=match ai 3 bQ with| .seq _ (.block _ (.loop c))=>c|_=>.skip
theorem Lc {p q:M'}:fZ p_ 136 #[p,q] .normal=(base 136).at ⟨#[p,q]++F_ 40 I',[]⟩ [.code bQ]:=by kernel_rfl
def aJ (ws:List (Int × Int)) (c:Int):List (Int × Int):=ws.filter fun p=>decide (p.1≠c)
variable {j:Nat}
theorem uC {c:Int} (hj:j<ws.length):aJ (ws.take (j+1)) c=aJ (ws.take j) c++(if (ws[j]).1=c then [] else [ws[j]]):=by
 unfold aJ
 rw [sC hj,List.filter_append]
 congr 1
 by_cases e:(ws[j]).1=c
 ·simp [e]
 ·simp [e]
structure LQ (B0:Nat) (ws xs:List (Int × Int)) (c:Int) (g cap j:Nat) (w:J'):Prop where
 len:xs.length=ws.length
 take:xs.take (aJ (ws.take j) c).length=aJ (ws.take j) c
 rest:∀k (h1:j<=k) (h2:k<ws.length),xs[k]?=some ws[k]
 less:(aJ (ws.take j) c).length<j
 row:w.ownsRow B0 84 2 (.slice (some ⟨g,0,none⟩) ws.length cap) ws.length (ax xs)
theorem LQ.none {xs:List (Int × Int)} {c:Int} {cap:Nat} (h:LQ B0 ws xs c g cap j w) (hg:gD w w' none):LQ B0 ws xs c g cap j w':=
 ⟨h.len,h.take,h.rest,h.less,cH h.row fun k _ hk=>hg.block k hk (by simp)⟩
theorem HX (B:eh p_ C b 0 ae Fin h) {c:Int} {cap:Nat} (mS:w0.cell? ⟨g3,0,none⟩=some (.int .i64 c)) (hg:g3≠g) (hsm:ws.length<=1000000) (hcp:ws.length<=cap)
 (hc:∀aK,Lay C aK->gD w0 aK (some g)->aK.ownsRow B0 84 2 (.slice (some ⟨g,0,none⟩) (aJ ws c).length cap) (aJ ws c).length (ax (aJ ws c))->ay p_ C b 0 ae Fin Post h (aY b N h L) aK (G (aI.at (aS.put ((av[aN]?).bind (·.dst)) (.slice (some ⟨g,0,none⟩) (aJ ws c).length cap)) (.inRegion av ak::aV)) cs)):
 ∀m j,ws.length - j=m->j<=ws.length->∀(i:Nat) (xs:List (Int × Int)) (y7 y8 y9 Px Pu Pt Ps Pr Pq Pp Pm Pk XG XE XD XC XB XA Xz Xy Xx Xw Xv Xu Xt Xs Xr Xq Xp Xo Xn Xm Xl Xk Xj:M') (wl:J'),Lay C wl->gD w0 wl (some g)->f_ (i=(aJ (ws.take j) c).length)->LQ B0 ws xs c g cap j wl->
 ay p_ C b 0 ae Fin Post h (aY b N h L) wl (G ((base 136).at ⟨#[.slice (some ⟨g,0,none⟩) ws.length cap,.func (.func 137) #[] #[.pointer (some ⟨g3,0,none⟩)],I',I',.slice none 0 0,.int .i64 (i:Nat),.int .i64 (j:Nat),y7,y8,y9,Px,Pu,Pt,Ps,Pr,Pq,Pp,Pm,Pk,XG,XE,XD,XC,XB,XA,Xz,Xy,Xx,Xw,Xv,Xu,Xt,Xs,Xr,Xq,Xp,Xo,Xn,Xm,Xl,Xk,Xj],[]⟩ [.code pJ,.inLoop pJ,.inBlock 0,.code (az 4 bQ)]) (aI.at aS (.inRegion av (aN::ak)::aV)::cs)):=by
 have hS:=aH b N h L
 intro m
 induction m with
 |zero=>
  intro j hm hj i xs y7 y8 y9 Px Pu Pt Ps Pr Pq Pp Pm Pk XG XE XD XC XB XA Xz Xy Xx Xw Xv Xu Xt Xs Xr Xq Xp Xo Xn Xm Xl Xk Xj wl hL hG hi hD
  obtain rfl:j=ws.length:=by omega
  have hlt:((ws.length:Int)<(ws.length:Int))=False:=by simp
  generalize hK:[Item.inLoop pJ,.inBlock 0,.code (az 4 bQ)]=K0
  simp only [pJ,ai,bQ,f136,A_]
  iterate 9 refine B.n ?_
  subst hK
  refine ay.ctl B hS hL rfl (fun _=>stepG_exit rfl) ?_
  have QL:ws.take ws.length=ws:=List.take_length
  have ht:=hD.take
  have QU:=hD.less
  have hi:=hi.out
  rw [QL] at ht QU hi
  obtain ⟨W1,wq⟩:∃W1:(Nat->Question->Nat)->Nat->J',W1=fun T d=>(wl.re T d).setCells g (i * 2) (List.replicate ((ws.length - i) * 2) (.int .i64 0)):=⟨_,rfl⟩
  have hcut:∀T d,(W1 T d).ownsRow B0 84 2 (.slice (some ⟨g,0,none⟩) i cap) i (ax (aJ ws c))/\gD w0 (W1 T d) (some g):=fun T d=>by
   have hr:(wl.re T d).ownsRow B0 84 2 (.slice (some ⟨g,0,none⟩) ws.length cap) ws.length (ax xs):=hD.row
   have h1:=MM (n':=i) hr (by omega) (vs:=List.replicate ((ws.length - i) * 2) (.int .i64 0)) (by rw [List.length_replicate];omega)
   rw [<-jb,hi,ht,<-hi] at h1
   rw [wq]
   exact ⟨h1.1,(hG.re T d).trans ⟨h1.2.os,h1.2.output,h1.2.size,h1.2.block⟩⟩
  have hcell:∀T d ty,(Builtin.clear_ #[74] ty #[.slice (some ⟨g,i * 2,none⟩) (ws.length - i:Nat) (cap - i)]).run p_ (wl.re T d)=.ok (.tuple #[]) (W1 T d):=fun T d ty=>by
   have hr:(wl.re T d).ownsRow B0 84 2 (.slice (some ⟨g,0,none⟩) ws.length cap) ws.length (ax xs):=hD.row
   rw [wq]
   refine wN (wl.re T d) _ _ ty _ Tryz.underlying74 IG rfl g (i * 2) (ws.length - i) _ (by omega) (fun t Wn=> ?_) (fun t Wn=>hr.frozenAt _)
   rw [hr.cellAt _ (by omega),G_ (by rw [bV,hD.len];omega)];rfl
  have q1:(i:Int)<=(ws.length:Int):=by omega
  have q2:(i:Int)<=(cap:Int):=by omega
  have q3:(ws.length:Int)<=(cap:Int):=by omega
  have q4:¬cap=i:=by omega
  have q5:i<=cap:=by omega
  have bR:=aa hi
  have ir:=aa hc
  have hno:=aa hL.no
  clear hc hi ht QU QL hm hD
  refine B.p (fun T d Bh hB=> ?_)
  have rq:=hcell T d
  have Q9:=aa (hcut T d)
  clear hcell hcut hL hG
  generalize W1 T d=W2 at *
  generalize wl.re T d=w1 at *
  clear wq
  simp only [az,bQ,f136,A_]
  go_wp2_with fail
  subst hB
  intro hcut todo
  have jv:Lay C W2:=⟨hcut,hno.out⟩
  refine ay.ctl B hS jv rfl (fun _=>aZ rfl rfl func136 rfl) ?_
  have:=ir.out W2 jv Q9.out.2 (by rw [<-bR.out];exact Q9.out.1)
  rw [<-bR.out] at this
  exact this
 |succ m ih=>
  intro j hm hj i xs y7 y8 y9 Px Pu Pt Ps Pr Pq Pp Pm Pk XG XE XD XC XB XA Xz Xy Xx Xw Xv Xu Xt Xs Xr Xq Xp Xo Xn Xm Xl Xk Xj wl hL hG hi hD
  have hlt:j<ws.length:=by omega
  have gJ:(j:Int)<(ws.length:Int):=by omega
  have vG:i<j:=by rw [hi.out];exact hD.less
  have oJ:IntKind.i64.wrap ((j:Int)+1)=((j+1:Nat):Int):=by rw [IntWalk.i64_in _ (by omega)];rfl
  have YJ:IntKind.i64.wrap ((i:Int)+1)=((i+1:Nat):Int):=by rw [IntWalk.i64_in _ (by omega)];rfl
  have hxj:xs[j]?=some ws[j]:=hD.rest j (C_ _) hlt
  have Zo:j<xs.length:=by rw [hD.len];exact hlt
  have hxe:xs[j]=ws[j]:=by rw [G_ Zo] at hxj;exact Option.some.inj hxj
  have k1:∀T d,(wl.re T d).cell? ⟨g,j * 2,none⟩=some (.int .i64 (ws[j]).1):=fun T d=>by rw [<-hxe];exact (hD.row.cellAt (w:=wl.re T d) _ (by omega)).trans (jr tw 2 (fun _=>rfl) _ j 0 Zo (by decide))
  have k2:∀T d,(wl.re T d).cell? ⟨g,j * 2+1,none⟩=some (.int .i64 (ws[j]).2):=fun T d=>by rw [<-hxe];exact (hD.row.cellAt (w:=wl.re T d) _ (by omega)).trans (jr tw 2 (fun _=>rfl) _ j 1 Zo (by decide))
  generalize hK:[Item.inLoop pJ,.inBlock 0,.code (az 4 bQ)]=K0
  simp only [pJ,ai,bQ,f136,A_]
  iterate 9 refine B.n ?_
  refine ay.ctl B hS hL rfl (fun _=>stepG_skip) ?_
  refine B.s ?_
  refine ay.ctl B hS hL rfl (fun _=>stepG_block) ?_
  refine B.s ?_
  have ir:=aa hc
  have hDH:=aa hD
  have qK:=aa hL
  have hGH:=aa hG
  have TQ:=aa ih
  clear hc hD ih
  refine B.p (fun T d Bh hB=> ?_)
  have j1:=k1 T d
  have j2:=k2 T d
  clear hL hG k1 k2
  go_wp2_with fail
  subst hB
  intro hcut
  have hL:=qK.out
  have hD:LQ B0 ws xs c g cap j ((wl.re T d).alloc (.cells #[.int .i64 (ws[j]).1,.int .i64 (ws[j]).2] 84)):=(hDH.out.none ((gD.refl wl none).re T d)).none (gD.alloc _ _ _)
  have hG:gD w0 ((wl.re T d).alloc (.cells #[.int .i64 (ws[j]).1,.int .i64 (ws[j]).2] 84)) (some g):=(hGH.out.re T d).trans (gD.alloc _ _ _)
  have n1:∀T' d',(((wl.re T d).alloc (.cells #[.int .i64 (ws[j]).1,.int .i64 (ws[j]).2] 84)).re T' d').cell? ⟨(wl.re T d).heap.size,0,none⟩=some (.int .i64 (ws[j]).1):=fun _ _=>bJ (w:=wl.re T d) rfl
  have n2:∀T' d',(((wl.re T d).alloc (.cells #[.int .i64 (ws[j]).1,.int .i64 (ws[j]).2] 84)).re T' d').cell? ⟨(wl.re T d).heap.size,1,none⟩=some (.int .i64 (ws[j]).2):=fun _ _=>bJ (w:=wl.re T d) rfl
  have du:Lay C ((wl.re T d).alloc (.cells #[.int .i64 (ws[j]).1,.int .i64 (ws[j]).2] 84)):=⟨hcut,hL.no⟩
  have WB:(wl.re T d).heap.size≠g:=by
   intro e
   have e:wl.heap.size=g:=e
   obtain ⟨g',cap',cur,h',_,hb,_⟩:=cz hDH.out.row (by omega)
   simp only [Value.slice.injEq,n_,Addr.mk.injEq,and_true,true_and] at h'
   have:=(cI hb)
   have:=h'.1
   omega
  generalize (wl.re T d).alloc (.cells #[.int .i64 (ws[j]).1,.int .i64 (ws[j]).2] 84)=w1 at *
  generalize (wl.re T d).heap.size=g7 at *
  iterate 3 refine B.n ?_
  refine B.o (.agg #[.int .i64 (ws[j]).1,.int .i64 (ws[j]).2]) (fun T d=> ?_) ?_
  ·have h1:=n1 T d
   have h2:=n2 T d
   go_simp
  walk_nrm
  refine ay.ctl B hS du rfl (fun _=>za (b:=base 136) (f:=137) (caps:=#[.pointer (some ⟨g3,0,none⟩)]) (vs:=#[.agg #[.int .i64 (ws[j]).1,.int .i64 (ws[j]).2],.pointer (some ⟨g3,0,none⟩)]) rfl rfl (by k_ne) rfl rfl func137 rfl rfl (by kernel_rfl)) ?_
  refine ay.call (ok:=il) B pA hS du (by kernel_rfl) (by kernel_rfl) fun T d=> ?_
  refine (Gu (w:=w1.re T d) (c:=c) (hG.cell (b:=w1) mS rfl (by simpa using hg))).mono ?_
  rintro e w2 ⟨rfl,rfl⟩
  refine ⟨_,rfl,fun Va=> ?_⟩
  rw [Frame.finish_at]
  have gA:Lay C ((w1.re T d).alloc (.cells #[.int .i64 (ws[j]).1,.int .i64 (ws[j]).2] 84)):=⟨Va,hL.no⟩
  have wu:gD w1 ((w1.re T d).alloc (.cells #[.int .i64 (ws[j]).1,.int .i64 (ws[j]).2] 84)) none:=((gD.refl w1 none).re T d).trans (gD.alloc _ _ _)
  have KV:=hG.trans (wu.weaken (r:=some g))
  have NC:=hD.none wu
  have n3:∀T' d',(((w1.re T d).alloc (.cells #[.int .i64 (ws[j]).1,.int .i64 (ws[j]).2] 84)).re T' d').cell? ⟨g7,0,none⟩=some (.int .i64 (ws[j]).1):=fun _ _=>wu.cell (n1 w1.tape w1.drawn) rfl (by simp)
  have n4:∀T' d',(((w1.re T d).alloc (.cells #[.int .i64 (ws[j]).1,.int .i64 (ws[j]).2] 84)).re T' d').cell? ⟨g7,1,none⟩=some (.int .i64 (ws[j]).2):=fun _ _=>wu.cell (n2 w1.tape w1.drawn) rfl (by simp)
  generalize (w1.re T d).alloc (.cells #[.int .i64 (ws[j]).1,.int .i64 (ws[j]).2] 84)=w2 at *
  walk_nrm
  have ih:=TQ.out
  have AZ:=uC (c:=c) hlt
  by_cases e:(ws[j]).1=c
  ·have hd:decide ((ws[j]).1=c)=true:=by simp [e]
   rw [hd]
   rw [if_pos e,List.append_nil] at AZ
   iterate 3 refine B.n ?_
   refine ay.ctl B hS gA rfl (fun _=>stepG_skip) ?_
   refine ay.ctl B hS gA rfl (fun _=>stepG_inBlock) ?_
   iterate 5 refine B.n ?_
   subst hK
   refine ay.ctl B hS gA rfl (fun _=>stepG_inLoop) ?_
   exact ih (j+1) (by omega) (by omega) i xs _ _ _ _ _ _ _ _ _ _ _ _ _ _ _ _ _ _ _ _ _ _ _ _ _ _ _ _ _ _ _ _ _ _ _ w2 gA KV (by rw [AZ];exact hi) ⟨NC.len,by rw [AZ];exact NC.take,fun k h1 h2=>NC.rest k (by omega) h2,by rw [AZ];have:=NC.less;omega,NC.row⟩
  ·have hd:decide ((ws[j]).1=c)=false:=by simp [e]
   rw [hd]
   iterate 3 refine B.n ?_
   have hix:i<xs.length:=by omega
   have vD:∀T d,(((w2.re T d).setCell ⟨g,i * 2,none⟩ (.int .i64 (ws[j]).1)).setCell ⟨g,i * 2+1,none⟩ (.int .i64 (ws[j]).2)).ownsRow B0 84 2 (.slice (some ⟨g,0,none⟩) ws.length cap) ws.length (ax (xs.set i ws[j]))/\gD w0 (((w2.re T d).setCell ⟨g,i * 2,none⟩ (.int .i64 (ws[j]).1)).setCell ⟨g,i * 2+1,none⟩ (.int .i64 (ws[j]).2)) (some g):=fun T d=>by
    have hr:(w2.re T d).ownsRow B0 84 2 (.slice (some ⟨g,0,none⟩) ws.length cap) ws.length (ax xs):=NC.row
    have h1:=Ci hr hix ws[j]
    exact ⟨h1.1,(KV.re T d).trans ⟨h1.2.os,h1.2.output,h1.2.size,h1.2.block⟩⟩
   have m1:∀T d,((w2.re T d).cell? ⟨g,i * 2,none⟩).isSome=true/\(w2.re T d).frozen? ⟨g,i * 2,none⟩=false/\((w2.re T d).cell? ⟨g,i * 2+1,none⟩).isSome=true/\(w2.re T d).frozen? ⟨g,i * 2+1,none⟩=false:=fun T d=>by
    have hr:(w2.re T d).ownsRow B0 84 2 (.slice (some ⟨g,0,none⟩) ws.length cap) ws.length (ax xs):=NC.row
    refine ⟨?_,hr.frozenAt _, ?_,hr.frozenAt _⟩
    ·rw [hr.cellAt _ (by omega),G_ (by rw [bV];omega)];rfl
    ·rw [hr.cellAt _ (by omega),G_ (by rw [bV];omega)];rfl
   have ml:(i:Int)<(ws.length:Int):=by omega
   have QY:i<ws.length:=by omega
   have Cu:=aa gA
   have Rw:=aa NC
   have aEe:=aa KV
   clear gA NC KV
   refine B.p (fun T d Bh hB=> ?_) (hL:=Cu.out)
   have hst:=aa (vD T d)
   obtain ⟨f1,f2,f3,f4⟩:=m1 T d
   have n5:=n3 T d
   have n6:=n4 T d
   obtain ⟨u1,Wm⟩:=Option.isSome_iff_exists.1 f1
   obtain ⟨u2,Su⟩:=Option.isSome_iff_exists.1 f3
   clear vD m1 n3 n4 f1 f3 hG hD n1 n2 du
   go_wp2_with fail
   subst hB
   intro U9
   have qu:=aa (Lay.mk U9 hL.no)
   generalize ((w2.re T d).setCell ⟨g,i * 2,none⟩ (.int .i64 (ws[j]).1)).setCell ⟨g,i * 2+1,none⟩ (.int .i64 (ws[j]).2)=w4 at *
   refine ay.ctl B hS qu.out rfl (fun _=>stepG_inBlock) ?_
   refine B.r ?_ (hL:=qu.out)
   refine B.q (.int .i64 (j:Nat)) ?_ (hL:=qu.out)
   walk_nrm
   refine B.q (.int .i64 ((j+1:Nat):Int)) ?_ (hL:=qu.out)
   walk_nrm
   refine B.q (.int .i64 ((j+1:Nat):Int)) ?_ (hL:=qu.out)
   walk_nrm
   refine B.e ?_ (hL:=qu.out)
   subst hK
   refine ay.ctl B hS qu.out rfl (fun _=>stepG_inLoop) ?_
   rw [if_neg e] at AZ
   refine ih (j+1) (by omega) (by omega) (i+1) (xs.set i ws[j]) _ _ _ _ _ _ _ _ _ _ _ _ _ _ _ _ _ _ _ _ _ _ _ _ _ _ _ _ _ _ _ _ _ _ _ w4 qu.out hst.out.2 (aa (by rw [AZ,K_,<-hi.out];rfl)) ⟨by rw [List.length_set];exact Rw.out.len, ?_,fun k h1 h2=> ?_,by rw [AZ,K_,<-hi.out];simp;omega,hst.out.1⟩
   ·rw [AZ,K_,<-hi.out]
    have ht:=Rw.out.take
    rw [<-hi.out] at ht
    rw [List.length_singleton,sC (by rw [List.length_set];exact hix),List.getElem_set_self]
    rw [List.take_set_of_le (C_ i),ht]
   ·rw [List.getElem?_set_ne (by omega)]
    exact Rw.out.rest k (by omega) h2
theorem EB (ws:List (Int × Int)) (c:Int):(AO ws c= -1/\aJ ws c=ws)\/∃m,∃hm:m<ws.length,AO ws c=(m:Nat)/\aJ (ws.take (m+1)) c=ws.take m/\(ws[m]).1=c:=by
 unfold AO
 cases hx:ws.findIdx? (fun p=>decide (p.1=c)) with
 |none=>
  refine .inl ⟨rfl, ?_⟩
  rw [List.findIdx?_eq_none_iff] at hx
  unfold aJ
  rw [List.filter_eq_self]
  intro a ha
  have:=hx a ha
  simpa using this
 |some m=>
  obtain ⟨hm,h1,h2⟩:=List.findIdx?_eq_some_iff_getElem.1 hx
  refine .inr ⟨m,hm,rfl, ?_,by simpa using h1⟩
  rw [uC hm,if_pos (by simpa using h1),List.append_nil]
  unfold aJ
  rw [List.filter_eq_self]
  intro a ha
  obtain ⟨j,hj,rfl⟩:=List.getElem_of_mem ha
  simp only [Q_] at hj
  have:=h2 j (by omega)
  rw [List.getElem_take]
  simpa using this
theorem NP (B:eh p_ C b 0 ae Fin h) (hL:Lay C wl) {v:M'} {c:Int} (bR:wl.ownsRow B0 84 2 v ws.length (ax ws)) (mS:wl.cell? ⟨g3,0,none⟩=some (.int .i64 c)) (hne:v.ownBlock≠some g3) (hsm:ws.length<=1000000)
 (hc:∀aK v',Lay C aK->gD wl aK v.ownBlock->aK.ownsRow B0 84 2 v' (aJ ws c).length (ax (aJ ws c))->ay p_ C b 0 ae Fin Post h (aY b N h L) aK (G (aI.at (aS.put ((av[aN]?).bind (·.dst)) v') (.inRegion av ak::aV)) cs)):
 ay p_ C b 0 ae Fin Post h (aY b N h L) wl (G ((base 136).at ⟨#[v,.func (.func 137) #[] #[.pointer (some ⟨g3,0,none⟩)]]++F_ 40 I',[]⟩ [.code bQ]) (aI.at aS (.inRegion av (aN::ak)::aV)::cs)):=by
 have hS:=aH b N h L
 have ea:(#[v,.func (.func 137) #[] #[.pointer (some ⟨g3,0,none⟩)]]++F_ 40 I':Array M')=#[v,.func (.func 137) #[] #[.pointer (some ⟨g3,0,none⟩)],I',I',I',I',I',I',I',I',I',I',I',I',I',I',I',I',I',I',I',I',I',I',I',I',I',I',I',I',I',I',I',I',I',I',I',I',I',I',I',I']:=by kernel_rfl
 rw [ea]
 have e1:bQ=.seq (ai 0 bQ) (.seq (ai 1 bQ) (.seq (.seq (ai 0 (ai 2 bQ)) (az 1 (ai 2 bQ))) (.seq (.seq (ai 0 (ai 3 bQ)) (.block 0 (.loop pJ))) (az 4 bQ)))):=by kernel_rfl
 rw [e1]
 refine B.s ?_
 generalize hX:[lN (Code.seq (ai 1 bQ) (.seq (.seq (ai 0 (ai 2 bQ)) (az 1 (ai 2 bQ))) (.seq (.seq (ai 0 (ai 3 bQ)) (.block 0 (.loop pJ))) (az 4 bQ))))]=X0
 simp only [ai,bQ,f136,A_]
 iterate 3 refine B.n ?_
 subst hX
 refine B.s ?_
 generalize hX:[lN (Code.seq (.seq (ai 0 (ai 2 bQ)) (az 1 (ai 2 bQ))) (.seq (.seq (ai 0 (ai 3 bQ)) (.block 0 (.loop pJ))) (az 4 bQ)))]=X0
 simp only [ai,bQ,f136,A_]
 iterate 3 refine B.n ?_
 refine ay.ctl B hS hL rfl (fun _=>bY (vs:=#[v,.func (.func 137) #[] #[.pointer (some ⟨g3,0,none⟩)]]) rfl rfl (by k_ne) rfl func143 rfl rfl (by kernel_rfl)) ?_
 rw [Lb]
 refine Qn B hL bR mS hsm fun w2 du Rv=> ?_
 walk_nrm
 iterate 2 refine B.n ?_
 subst hX
 iterate 2 refine B.n ?_
 generalize hX:[lN (az 1 (ai 2 bQ)),lN (.seq (.seq (ai 0 (ai 3 bQ)) (.block 0 (.loop pJ))) (az 4 bQ))]=X0
 simp only [ai,bQ,f136,A_]
 iterate 2 refine B.n ?_
 have uJ:w2.ownsRow B0 84 2 v ws.length (ax ws):=cH bR fun k _ hk=>Rv.block k hk (by simp)
 rcases EB ws c with ⟨hi,hk⟩|⟨m,hm,hi,hk,hmc⟩
 ·rw [hi]
  iterate 2 refine B.n ?_
  subst hX
  simp only [az,ai,bQ,f136,A_]
  iterate 6 refine B.n ?_
  refine ay.ctl B hS du rfl (fun _=>ma) ?_
  refine ay.ctl B hS du rfl (fun _=>aZ rfl rfl func136 rfl) ?_
  exact hc w2 v du Rv.weaken (by rw [hk];exact uJ)
 ·rw [hi]
  have Nh:(((m:Nat):Int)= -1)=False:=by simp
  have oJ:IntKind.i64.wrap ((m:Int)+1)=((m+1:Nat):Int):=by rw [IntWalk.i64_in _ (by omega)];rfl
  iterate 2 refine B.n ?_
  subst hX
  have e2:az 1 (ai 2 bQ)=.cond (.tmp 12) (match az 1 (ai 2 bQ) with| .cond _ a _=>a|_=>.skip) .skip:=by kernel_rfl
  rw [e2]
  refine B.c rfl ?_
  refine ay.ctl B hS du rfl (fun _=>stepG_skip) ?_
  iterate 2 refine B.n ?_
  generalize hX:[lN (Code.block 0 (.loop pJ)),lN (az 4 bQ)]=X0
  simp only [ai,bQ,f136,A_]
  iterate 5 refine B.n ?_
  subst hX
  refine ay.ctl B hS du rfl (fun _=>stepG_block) ?_
  refine ay.ctl B hS du rfl (fun _=>stepG_loop) ?_
  obtain ⟨g,cap,cur,ev,_,_,lJ,_⟩:=cz uJ (by omega)
  subst ev
  have hlen:(ws.take m).length=m:=by rw [Q_];omega
  exact HX B (w0:=w2) (B0:=B0) (ws:=ws) (c:=c) (g3:=g3) (g:=g) (cap:=cap) (Rv.cell mS rfl (by simp)) (fun e=>hne (by rw [e];rfl)) hsm lJ (fun w3 gA KV QK=>hc w3 _ gA (Rv.weaken.trans KV) QK)
   (ws.length - (m+1)) (m+1) rfl hm m ws _ _ _ _ _ _ _ _ _ _ _ _ _ _ _ _ _ _ _ _ _ _ _ _ _ _ _ _ _ _ _ _ _ _ _ w2 du (gD.refl _ _) (aa (by rw [hk,hlen])) ⟨rfl,by rw [hk,hlen],fun k _ h2=>G_ h2,by rw [hk,hlen];omega,uJ⟩
noncomputable def bC:Code:=f122.body.getD .skip
def Da:Bs:=[103,111,110,101]
def JC:Bs:=[111,102,102]
def iy:Bs:=[100,111,110,101]
def ie:Bs:=[108,101,102,116]
theorem qF (x:Int):∀(zs:List Int) (i:Nat),(Lib.idxFrom zs x i= -1/\zs.contains x=false)\/∃k,∃hk:k<zs.length,Lib.idxFrom zs x i=((i+k:Nat):Int)/\zs[k]=x/\∀j (hj:j<k),zs[j]≠x
 |[],i=>.inl ⟨rfl,rfl⟩
 |z::zs,i=>by
  by_cases hz:z=x
  ·refine .inr ⟨0,by simp, ?_,by simpa using hz,fun j hj=>absurd hj (Nat.not_lt_zero _)⟩
   rw [Lib.idxFrom];simp [hz]
  ·have hstep:Lib.idxFrom (z::zs) x i=Lib.idxFrom zs x (i+1):=by rw [Lib.idxFrom];simp [hz]
   rcases qF x zs (i+1) with ⟨h1,h2⟩|⟨k,hk,h1,h2,h3⟩
   ·refine .inl ⟨hstep.trans h1, ?_⟩
    rw [List.contains_cons,h2,Bool.or_false]
    simpa using fun e:x=z=>hz e.symm
   ·refine .inr ⟨k+1,by simpa using hk,by rw [hstep,h1,show i+1+k=i+(k+1) by omega],by simpa using h2,fun j hj=> ?_⟩
    cases j with
    |zero=>simpa using hz
    |succ j=>simpa using h3 j (by omega)
theorem uE (zs:List Int) (x:Int):(Lib.idxOf zs x= -1/\zs.contains x=false)\/∃k,∃hk:k<zs.length,Lib.idxOf zs x=(k:Nat)/\zs[k]=x/\∀j (hj:j<k),zs[j]≠x:=by
 rcases qF x zs 0 with h|⟨k,hk,h1,h2⟩
 ·exact .inl h
 ·exact .inr ⟨k,hk,by rw [show Lib.idxOf zs x=Lib.idxFrom zs x 0 from rfl,h1,Nat.zero_add],h2⟩
theorem Rl (B:eh p_ C b 0 ae Fin h) (hL:Lay C wl) (H:aQ A S vw vb vr va vt wl) (K:bN C A N0 h us L wl) (hT:aU A wl) {c:Int}
 (hc:∀aK g3,Lay C aK->aQ A S vw vb vr va vt aK->bN C A N0 h us L aK->aU A aK->aK.heap[g3]?=some (.cells #[.int .i64 c] 3 (0,0))->A.B<=g3->(∀v:M',v=vw\/v=vb\/v=vr\/v=va\/v=vt->v.ownBlock≠some g3)->
  ay p_ C b 0 ae Fin Post h (aY b N h L) aK (G ((base 122).at ⟨#[.pointer (some ⟨A.hb,0,none⟩),.int .i64 c,I',.pointer (some ⟨g3,0,none⟩),.string ⟨#[]⟩,I',I',I',I',I',I',I',I',I',I',I',I',I',I',I',I',I',I',I',I',I',I',I',I',I',I',I',I',I',I',I',I',I',I',I',I',I',I',I',I',I',I',I',I',I',I',I',I',I',I',I',I',I',I'],[]⟩ [.code (az 1 bC)]) (aI.at aS (.inRegion av (aN::ak)::aV)::cs))):
 ay p_ C b 0 ae Fin Post h (aY b N h L) wl (G ((base 122).at ⟨#[.pointer (some ⟨A.hb,0,none⟩),.int .i64 c]++F_ 57 I',[]⟩ [.code bC]) (aI.at aS (.inRegion av (aN::ak)::aV)::cs)):=by
 have hS:=aH b N h L
 have ea:(#[.pointer (some ⟨A.hb,0,none⟩),.int .i64 c]++F_ 57 I':Array M')=#[.pointer (some ⟨A.hb,0,none⟩),.int .i64 c,I',I',I',I',I',I',I',I',I',I',I',I',I',I',I',I',I',I',I',I',I',I',I',I',I',I',I',I',I',I',I',I',I',I',I',I',I',I',I',I',I',I',I',I',I',I',I',I',I',I',I',I',I',I',I',I',I']:=by kernel_rfl
 rw [ea]
 have e1:bC=.seq (ai 0 bC) (az 1 bC):=by kernel_rfl
 rw [e1]
 refine B.s ?_
 generalize hX:[lN (az 1 bC)]=X0
 simp only [ai,bC,f122,A_]
 refine B.r ?_
 refine ay.op (ok:=il) B hS hL rfl rfl (by k_ne) (by kernel_rfl) (fun T d=>⟨.pointer (some ⟨wl.heap.size,0,none⟩),(wl.alloc (.cells #[.int .i64 c] 3)).re T d, ?_,fun hcut=>ay.re ?_ T d⟩)
 ·go_simp
  exact ⟨rfl,rfl⟩
 have du:Lay C (wl.alloc (.cells #[.int .i64 c] 3)):=⟨Cut.j8 hcut,hL.no⟩
 walk_nrm
 have H2:=H.alloc (.cells #[.int .i64 c] 3)
 have F2:Im A wl (wl.alloc (.cells #[.int .i64 c] 3)):=⟨(Fr.alloc (w:=wl) H.big _).size,(Fr.alloc (w:=wl) H.big _).block⟩
 have K2:=K.zt H F2
 have T2:=aU.zt hT H F2
 have hn:∀v:M',v=vw\/v=vb\/v=vr\/v=va\/v=vt->v.ownBlock≠some wl.heap.size:=by
  rintro v (rfl|rfl|rfl|rfl|rfl) e
  ·exact Nat.lt_irrefl _ (H.wait.lt _ e).2
  ·exact Nat.lt_irrefl _ (H.back.lt _ e).2
  ·exact Nat.lt_irrefl _ (H.recs.lt _ e).2
  ·exact Nat.lt_irrefl _ (H.log.lt _ e).2
  ·exact Nat.lt_irrefl _ (H.cg.lt _ e).2
 refine ay.op (ok:=il) B hS du rfl rfl (by k_ne) (by kernel_rfl) (fun T d=>⟨.string ⟨#[]⟩,(wl.alloc (.cells #[.int .i64 c] 3)).re T d, ?_,fun _=>ay.re ?_ T d⟩)
 ·go_simp
 walk_nrm
 refine B.e ?_
 subst hX
 exact hc _ _ du H2 K2 T2 (Z' wl _) H.big hn
theorem HK (B:eh p_ C b 0 ae Fin h) (hL:Lay C wl) (H:aQ A S vw vb vr va vt wl) (K:bN C A N0 h us L wl) (hT:aU A wl) {c:Int} (mS:wl.heap[g3]?=some (.cells #[.int .i64 c] 3 (0,0))) (oG:A.B<=g3) (kE:S.of c=none) (lW:S.back.length<=1000000)
 (hc:∀aK qS,Lay C aK->aQ A {S with back:=if Lib.idxOf S.back c<0 then S.back else S.back.eraseIdx (Lib.idxOf S.back c).toNat} vw qS vr va vt aK->bN C A N0 h us L aK->aU A aK->
  ay p_ C b 0 ae Fin Post h (aY b N h L) aK (G (aI.at (aS.put ((av[aN]?).bind (·.dst)) (.string ⟨(if Lib.idxOf S.back c<0 then Da else JC).toArray⟩)) (.inRegion av ak::aV)) cs)):
 ay p_ C b 0 ae Fin Post h (aY b N h L) wl (G ((base 122).at ⟨#[.pointer (some ⟨A.hb,0,none⟩),.int .i64 c,I',.pointer (some ⟨g3,0,none⟩),.string ⟨#[]⟩,I',I',I',I',I',I',I',I',I',I',I',I',I',I',I',I',I',I',I',I',I',I',I',I',I',I',I',I',I',I',I',I',I',I',I',I',I',I',I',I',I',I',I',I',I',I',I',I',I',I',I',I',I',I'],[]⟩ [.code (az 1 bC)]) (aI.at aS (.inRegion av (aN::ak)::aV)::cs)):=by
 have hS:=aH b N h L
 have e1:az 1 bC=.seq (ai 1 bC) (az 2 bC):=by kernel_rfl
 rw [e1]
 refine B.s ?_
 refine B.p (fun T d Bh hB=> ?_)
 obtain ⟨W,hW⟩:∃W,f_ (W=wl.re T d):=⟨_,aa rfl⟩
 rw [<-hW.out]
 have H0:=aa (H.heap (w':=W) (by rw [hW.out];rfl))
 have K0:f_ (bN C A N0 h us L W):=by rw [hW.out];exact ⟨K.len,K.small,K.live,K.n0,K.ap,K.fo,K.kM,K.cells⟩
 have T0:f_ (aU A W):=by rw [hW.out];exact hT
 have ir:=aa hc
 have hno:=aa hL.no
 obtain ⟨ab,cb,K8⟩:=aE H.back
 have c5:W.drew.cell? ⟨A.hb,5,none⟩=some (.map (some A.m2)):=H0.out.c.2.2.1
 have c3:W.drew.cell? ⟨g3,0,none⟩=some (.int .i64 c):=by rw [hW.out];show wl.cell? _=_;rw [aB mS];rfl
 have Sy:Sem.run p_ (Instr.lookup 72 (Value.map (some A.m2)) (ah IntKind.i64 c) false) W.drew=.ok (.chan none) W.drew:=by
  have:=(H0.out.of.heap (w':=W.drew) rfl).lookup pe Tryz.underlying72 c (z:=.chan none) (fun w=>qQ w) false
  rw [kE] at this;exact this
 have hq:(binOp .eql 78 (.chan none) (.chan none)).run p_ W.drew=.ok (.bool true) W.drew:=De Tryz.underlying78 none
 clear hL H K hT hc mS
 simp only [ai,bC,f122,A_]
 go_wp2_with fail
 go_region
 go_wp2_with fail
 obtain ⟨V,hV⟩:∃V,f_ (V=W.drew):=⟨_,aa rfl⟩
 have H1:=aa (H0.out.heap (w':=V.drew) (by rw [hV.out];rfl))
 have K1:f_ (bN C A N0 h us L V.drew):=by rw [hV.out];exact ⟨K0.out.len,K0.out.small,K0.out.live,K0.out.n0,K0.out.ap,K0.out.fo,K0.out.kM,K0.out.cells⟩
 have T1:f_ (aU A V.drew):=by rw [hV.out];exact T0.out
 have c3':V.drew.cell? ⟨g3,0,none⟩=some (.int .i64 c):=by rw [hV.out];exact c3
 have c8:V.drew.cell? ⟨A.hb,8,none⟩=some vb:=H1.out.c.2.2.2.2.2.1
 have sY:=aa (Hz (w:=V.drew) H1.out.back lW c)
 clear c5 c3 Sy hq H0 K0 T0
 rw [K8] at c8 sY
 have Z0:V.drew.cell? ⟨A.hb,8,none⟩=some (.slice ab S.back.length cb)/\V.drew.cell? ⟨g3,0,none⟩=some (.int .i64 c):=⟨c8,c3'⟩
 rw [<-hV.out]
 go_region_held3 (fun w₁=>w₁.cell? ⟨A.hb,8,none⟩=some (.slice ab S.back.length cb)/\w₁.cell? ⟨g3,0,none⟩=some (.int .i64 c))
  (first|with_reducible exact Z0|go_keep)
  ((go_at_call 132;(with_reducible refine sY.out.mono ?_);rintro e w5 ⟨rfl,rfl⟩))
 rcases uE S.back c with ⟨hi,_⟩|⟨k,hk,hi,_,_⟩
 ·rw [hi] at ir ⊢
  have hlt:((-1:Int)<0)=True:=by simp
  rw [if_pos (by decide:(-1:Int)<0)] at ir
  go_wp2_with fail
  subst hB
  intro hcut todo
  have jv:Lay C V.drew:=⟨hcut,hno.out⟩
  refine ay.ctl B hS jv rfl (fun _=>aZ rfl rfl func122 rfl) ?_
  exact ir.out V.drew _ jv (H1.out) K1.out T1.out
 ·rw [hi] at ir ⊢
  have hnn:¬((k:Int)<0):=by omega
  rw [if_neg hnn,if_neg hnn,Int.toNat_natCast] at ir
  have hlt:((k:Int)<0)=False:=by simp
  obtain ⟨g,cap,cur,ev,_⟩:=cz H1.out.back (by omega)
  have bR:=H1.out.back
  rw [ev] at bR
  have KN:ab=some ⟨g,0,none⟩/\cb=cap:=by rw [K8] at ev;injection ev with e1 e2 e3;exact ⟨e1,e3⟩
  obtain ⟨rfl,rfl⟩:=KN
  have oJ:IntKind.i64.wrap ((k:Int)+1)=((k+1:Nat):Int):=by rw [IntWalk.i64_in _ (by omega)];rfl
  have CU:=aa (Gt bR (i:=k) hk)
  have VO:=c8
  clear bR sY Z0 c3'
  replace hS:=aa hS
  generalize V.drew=V2 at *
  go_wp2_with fail
  refine CU.out.mono ?_
  rintro e w2 ⟨rfl,ho,hg⟩
  have Mf:vb.ownBlock=some g:=by rw [ev];rfl
  have hgB:=(H1.out.back.lt g Mf).1
  have Ba:=H1.out.ok.hb
  have hne:some A.hb≠some g:=fun e=>by injection e with e;omega
  have c8b:=hg.cell (a:=⟨A.hb,8,none⟩) VO hne
  have f8b:w2.frozen? ⟨A.hb,8,none⟩=false:=(m_ (hg.block A.hb (E_ Ba H1.out.big) hne)).trans (H1.out.z 8)
  have Nv:(S.back.eraseIdx k).length=S.back.length - 1:=by rw [List.length_eraseIdx];simp [hk]
  rw [Nv] at ho
  have hp:=aa (H1.out.FG (v:=.slice (some ⟨g,0,none⟩) (S.back.length - 1) cb) (ks:=S.back.eraseIdx k) (by rw [Mf];exact hg) (by rw [Mf];rfl) (by rw [Nv];exact ho))
  clear hg ho CU VO c8
  go_wp2_with fail
  subst hB
  intro hcut todo
  generalize w2.setCell ⟨A.hb,8,none⟩ (.slice (some ⟨g,0,none⟩) (S.back.length - 1) cb)=w3 at *
  have gA:Lay C w3:=⟨hcut,hno.out⟩
  refine ay.ctl B hS.out gA rfl (fun _=>aZ rfl rfl func122 rfl) ?_
  exact ir.out w3 _ gA hp.out.1 (K1.out.fr H1.out hp.out.2) (T1.out.fr H1.out hp.out.2)
end
end Go.aC.Of
