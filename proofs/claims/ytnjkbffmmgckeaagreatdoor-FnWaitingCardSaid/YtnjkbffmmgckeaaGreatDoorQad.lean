/-
  ring, in company: an unknown call on a free line.
-/
import Derived.Conc.TokenWalk
import Derived.Test.YtnjkbffmmgckeaaGreatDoorQaa
import Derived.Test.YtnjkbffmmgckeaaGreatDoorQab
import Derived.Test.YtnjkbffmmgckeaaGreatDoorQac
set_option linter.all false
set_option maxRecDepth 100000
set_option maxHeartbeats 32000000
open Go renaming undef->I',World->J',Value->M',Goroutine->O',TypeId->Q',execOp->V',Frame->Y',heap_alloc_new->Z',heap_setCell_other->a_,heap_setCell_same->b_,Calls->d_,Oper->y_,Addr->z_
open Go.RowKit renaming Hid->f_
open Option renaming getD_some->A_
open Go.World renaming size_alloc->B_,cell?_of_block->J_,grownBy_alloc->N_,frozen?_of_block->m_,size_setCell->o_
open Nat renaming le_refl->C_,le_trans->D_,lt_of_lt_of_le->E_,le_of_ble_eq_true->Z_,zero_le->nz
open Array renaming replicate->F_,getElem?_eq_getElem->H_,getElem?_setIfInBounds->Y_
open List renaming getElem?_eq_getElem->G_,length_append->K_,length_take->Q_,map_cons->S_,take_succ_eq_append_getElem->sC
open Go.ConcN renaming upd_same->O_,upd_ne->P_
open Classical renaming byContradiction->j_
open Option.some renaming injEq->n_
open Go.Proofs.Tryz renaming prog->p_
open Go.Value renaming int->ah
open Go.Frame renaming enter->fZ
open Go.Item renaming code->lN
open Ne renaming symm->ru
open Go.Proofs.Tryz
namespace Go.aC.Of
section
open Go Go.Conc Go.Conc.Lib Go.ConcR Go.ConcR.Gen Go.aC Go.Proofs
open Go.RowKit hiding Hid
open Go.ConcN (upd upd_ne upd_same)
def placeOf (ws:List (Int × Int)) (pt:Int):Nat:=(ws.takeWhile fun q=>decide (pt<=q.2)).length
variable {ws:List (Int × Int)} {pt:Int} {k:Nat}
theorem nI (hk:k<=ws.length) (h1:∀j (hj:j<ws.length),j<k->pt<=(ws[j]).2) (h2:∀(hj:k<ws.length),¬pt<=(ws[k]).2):placeOf ws pt=k:=by
 unfold placeOf
 induction ws generalizing k with
 |nil=>simp at hk;subst hk;rfl
 |cons a l ih=>
  cases k with
  |zero=>
   have h:=h2 (by simp)
   simp only [List.getElem_cons_zero] at h
   rw [List.takeWhile_cons_of_neg (by simpa using h)];rfl
  |succ k=>
   have h:=h1 0 (by simp) (by omega)
   simp only [List.getElem_cons_zero] at h
   rw [List.takeWhile_cons_of_pos (by simpa using h),List.length_cons,ih (k:=k) (by simpa using hk) (fun j hj hjk=>h1 (j+1) (by simpa using hj) (by omega)) (fun hj=>h2 (by simpa using hj))]
variable {C:cS} {b N N0 h:Nat} {L:Nat->Of.Os} {us:List Od} {A:Ha} {S:Hs} {B0:Nat} {vw vb vr va vt:M'} {ae Fin:O'->J'->Prop} {Post:M'->J'->Prop} {wl:J'} {aI:Y'} {aS:Act} {av:Array y_} {aN:Nat} {sg:List Nat} {aV:List Item} {cs:List Y'}
theorem G9 (B:eh p_ C b 0 ae Fin h) (hL:Lay C wl) (H:aQ A S vw vb vr va vt wl) {c:Int} (lW:S.back.length<=1000000) (hn:S.lines.length<=1000) (xE:S.of c=none) (yL:S.back.contains c=false) {l:Nat} (hl:l<S.lines.length) (jV:gf S=(l:Nat)) (wi:S.recs.length<=90000) (AQ:S.wait.length<=1000000) (c0:0<=c) (c1:c<=1000000) (K:bN C A N0 h us L wl) (hT:aU A wl)
 (hc:∀aK jA qb,Lay C aK->aQ A {conn S c l S.lines[l] with wait:=gY S.wait (placeOf S.wait pt) (c,pt)} jA vb qb va vt aK->bN C A N0 h us L aK->aU A aK->
  ay p_ C b 0 ae Fin Post h (aY b N h L) aK (G (aI.at (aS.put ((av[aN]?).bind (·.dst)) (.string ⟨(jj++Lib.itoa ((l:Int)+1)).toArray⟩)) (.inRegion av sg::aV)) cs)):
 ay p_ C b 0 ae Fin Post h (aY b N h L) wl (G ((base 121).at ⟨#[.pointer (some ⟨A.hb,0,none⟩),.int .i64 c,.int .i64 pt]++F_ 77 I',[]⟩ [.code bF]) (aI.at aS (.inRegion av (aN::sg)::aV)::cs)):=by
 have hS:=aH b N h L
 have ea:(#[.pointer (some ⟨A.hb,0,none⟩),.int .i64 c,.int .i64 pt]++F_ 77 I':Array M')=#[.pointer (some ⟨A.hb,0,none⟩),.int .i64 c,.int .i64 pt,I',I',I',I',I',I',I',I',I',I',I',I',I',I',I',I',I',I',I',I',I',I',I',I',I',I',I',I',I',I',I',I',I',I',I',I',I',I',I',I',I',I',I',I',I',I',I',I',I',I',I',I',I',I',I',I',I',I',I',I',I',I',I',I',I',I',I',I',I',I',I',I',I',I',I',I',I']:=by kernel_rfl
 rw [ea]
 have e1:bF=.seq (ai 0 bF) (.seq (ai 1 bF) (.seq (ai 2 bF) (.seq (ai 3 bF) (.seq (ai 4 bF) (.seq (ai 5 bF) (.seq (ai 6 bF) (.seq (ai 7 bF) (az 8 bF)))))))):=by kernel_rfl
 rw [e1]
 refine B.s ?_
 refine B.p (fun T d Bh hB=> ?_)
 simp only [ai,bF,f121,A_]
 go_wp2_with fail
 refine bh hB ?_
 refine B.s ?_
 refine B.p (fun T d Bh hB=> ?_)
 have c5:(wl.re T d).cell? ⟨A.hb,5,none⟩=some (.map (some A.m2)):=H.c.2.2.1
 have c8:(wl.re T d).cell? ⟨A.hb,8,none⟩=some vb:=H.c.2.2.2.2.2.1
 have kE:=H.of.heap (w':=wl.re T d) rfl
 have sY:=aa (KR (w:=wl.re T d) (H.heap (w':=wl.re T d) rfl).back lW c)
 obtain ⟨ab,cb,K8⟩:=aE H.back
 subst K8
 have ir:=aa hc
 have HH:=aa H
 have qK:=aa hL
 have QN:=aa hn
 clear hc hL H hn
 simp only [ai,bF,f121,A_]
 have nT:(binOp .neq 78 (.chan none) (.chan none)).run p_ (wl.re T d)=.ok (.bool false) (wl.re T d):=rY Tryz.underlying78 none
 rw [yL] at sY
 go_wp2_with (at_lookup;refine cU _ rfl _ _ 72 false rfl pe Tryz.underlying72 A.m2 rfl kE c rfl qQ ?_;simp only [xE,Option.map_none,Option.getD_none,Bool.false_eq_true,if_false])
 refine sY.out.mono ?_
 rintro e w2 ⟨rfl,rfl⟩
 go_wp2_with fail
 clear kE sY c5 c8 nT
 have hL:=qK.out
 refine bh hB ?_
 refine B.s ?_
 refine B.p (fun T d Bh hB=> ?_)
 have dJ:=aa (kK (HH.out.heap (w':=wl.re T d) rfl) QN.out)
 clear hL
 simp only [ai,bF,f121,A_]
 go_wp2_with fail
 refine dJ.out.mono ?_
 rintro e w2 ⟨rfl,rfl⟩
 rw [jV]
 go_wp2_with fail
 have hL:=qK.out
 refine bh hB ?_
 have q1:((l:Int)<0)=False:=by simp
 refine B.s ?_
 refine B.p (fun T d Bh hB=> ?_)
 simp only [ai,bF,f121,A_]
 go_wp2_with fail
 refine bh hB ?_
 refine B.s ?_
 refine B.p (fun T d Bh hB=> ?_)
 have H3:=aa (HH.out.heap (w':=wl.re T d) rfl)
 have K3:f_ (bN C A N0 h us L (wl.re T d)):=⟨K.len,K.small,K.live,K.n0,K.ap,K.fo,K.kM,K.cells⟩
 have T3:f_ (aU A (wl.re T d)):=hT
 have xG:=aa (oy H3.out (c:=c) (l:=l) hl QN.out (by omega) (by omega) (by omega) (Fr.refl A (wl.re T d)))
 have hno:=aa hL.no
 replace hS:=aa hS
 clear HH qK hL xE yL jV dJ K hT
 generalize wl.re T d=w4 at *
 simp only [ai,bF,f121,A_]
 go_wp2_with fail
 refine xG.out.mono ?_
 rintro e w5 ⟨rfl,⟨qb,H5⟩,F5⟩
 have H5:=aa H5
 have K5:=aa (K3.out.fr H3.out F5)
 have T5:=aa (T3.out.fr H3.out F5)
 clear F5 K3 T3 H3 xG
 go_wp2_with fail
 subst hB
 intro hcut
 have qu:Lay C w5:=⟨hcut,hno.out⟩
 replace hS:=hS.out
 clear hcut
 refine B.s ?_
 refine B.p (fun T d Bh hB=> ?_)
 simp only [ai,bF,f121,A_]
 go_wp2_with fail
 subst hB
 intro hcut
 clear hcut
 refine ay.re (wl:=w5) ?_ T d
 refine B.s ?_
 refine B.p (fun T d Bh hB=> ?_)
 have H6:=aa (H5.out.heap (w':=w5.re T d) rfl)
 have c7:=H6.out.c.2.2.2.2.1
 obtain ⟨aw,cw,evw⟩:=aE H6.out.wait
 have Wl:f_ (∀g cap,vw=.slice (some ⟨g,0,none⟩) S.wait.length cap->∀k (hk:k<S.wait.length),(w5.re T d).cell? ⟨g,k * 2,none⟩=some (.int .i64 (S.wait[k]).1)/\(w5.re T d).cell? ⟨g,k * 2+1,none⟩=some (.int .i64 (S.wait[k]).2)):=fun g cap e k hk=>H6.out.wE (S:=conn S c l S.lines[l]) e hk
 have KA:S.wait.length=0\/∃g cap,vw=.slice (some ⟨g,0,none⟩) S.wait.length cap:=by
  rcases H6.out.wait.2 with ⟨_,h0⟩|⟨g,cap,cur,h1,_⟩
  ·exact .inl h0
  ·exact .inr ⟨g,cap,h1⟩
 replace KA:=aa KA
 have Vw:=aa qu
 have hSH:=aa hS
 clear qu hS
 generalize sk:w5.re T d=w6 at *
 replace sk:=aa sk
 subst evw
 simp only [ai,bF,f121,A_]
 simp only [conn] at c7
 go_wp2_with fail
 go_loopw [8] (fun i wr=>∃k:Nat,k<=S.wait.length/\i=.int .i64 k/\f_ (∀j (hj:j<S.wait.length),j<k->pt<=(S.wait[j]).2)/\w6=wr) (fun i _=>S.wait.length - (intOf i).toNat)
 case atStart=>exact ⟨0,nz _,rfl,fun j hj h0=>by omega,rfl⟩
 case round=>
  obtain ⟨k,hk,rfl,hT,rfl⟩:=hrel
  by_cases hlt:k<S.wait.length
  ·have gJ:(k:Int)<(S.wait.length:Int):=by omega
   obtain ⟨g,e,y2⟩:∃g,aw=some ⟨g,0,none⟩/\w6.cell? ⟨g,k * 2+1,none⟩=some (.int .i64 (S.wait[k]).2):=by
    rcases KA.out with h0|⟨g,cap,e⟩
    ·omega
    ·have:=(Wl.out g cap e k hlt).2
     injection e with e1 e2 e3
     exact ⟨g,e1,this⟩
   subst e
   by_cases hp:pt<=(S.wait[k]).2
   ·go_wp2_with fail
    go_roundw
    case rel=>exact ⟨k+1,by omega,by go_num,aa (fun j hj h0=>if e:j=k then by subst e;exact hp else hT.out j hj (by omega)),trivial⟩
    case measure=>simp [intOf];omega
   ·go_wp2_with fail
    subst hB
    intro hcut
    have Iz:Lay C w6:=⟨hcut,Vw.out.no⟩
    have K6:bN C A N0 h us L w6:=by rw [<-sk.out];exact ⟨K5.out.len,K5.out.small,K5.out.live,K5.out.n0,K5.out.ap,K5.out.fo,K5.out.kM,K5.out.cells⟩
    have T6:aU A w6:=by rw [<-sk.out];exact T5.out
    have yd:placeOf S.wait pt=k:=nI hk hT.out (fun _=>by omega)
    refine ring_end B Iz H6.out K6 T6 (by have:=QN.out;omega) (show k<=(conn S c l S.lines[l]).wait.length from hk) AQ fun aK jA fJ H' K' T'=>ir.out aK jA qb fJ (by rw [yd];exact H') K' T'
  ·obtain rfl:k=S.wait.length:=by omega
   have gJ:((S.wait.length:Int)<(S.wait.length:Int))=False:=by simp
   go_wp2_with fail
   subst hB
   intro hcut
   have Iz:Lay C w6:=⟨hcut,Vw.out.no⟩
   have K6:bN C A N0 h us L w6:=by rw [<-sk.out];exact ⟨K5.out.len,K5.out.small,K5.out.live,K5.out.n0,K5.out.ap,K5.out.fo,K5.out.kM,K5.out.cells⟩
   have T6:aU A w6:=by rw [<-sk.out];exact T5.out
   have yd:placeOf S.wait pt=S.wait.length:=nI (C_ _) hT.out (fun h=>absurd h (Nat.lt_irrefl _))
   refine ring_end B Iz H6.out K6 T6 (by have:=QN.out;omega) (show S.wait.length<=(conn S c l S.lines[l]).wait.length from C_ _) AQ fun aK jA fJ H' K' T'=>ir.out aK jA qb fJ (by rw [yd];exact H') K' T'
def oe (S:Hs) (us:List Od) (c pt:Int):Hs × List Od × Bs:=
 if (S.of c).isSome||S.back.contains c then (S,us,tT) else if gf S<0 then ({S with back:=S.back++[c]},us,KQ) else match S.lines[(gf S).toNat]? with
  |none=>(S,us,[])
  |some x=>({conn S c (gf S).toNat x with wait:=gY S.wait (placeOf S.wait pt) (c,pt)},us,jj++Lib.itoa (((gf S).toNat:Nat)+1:Int))
structure Fo (S:Hs):Prop where
 lines:S.lines.length<=1000
 recs:S.recs.length<=90000
 back:S.back.length<=1000000
 wait:S.wait.length<=1000000
theorem ring (B:eh p_ C b 0 ae Fin h) (hL:Lay C wl) (H:cQ A va vt S wl) (K:bN C A N0 h us L wl) (hT:aU A wl) {c:Int} (c0:0<=c) (c1:c<=1000000) (cK:Fo S)
 (hc:Behind C b N N0 h A va vt ae Fin Post aI aS av aN sg aV cs (oe S us c pt)):
 ay p_ C b 0 ae Fin Post h (aY b N h L) wl (G ((base 121).at ⟨#[.pointer (some ⟨A.hb,0,none⟩),.int .i64 c,.int .i64 pt]++F_ 77 I',[]⟩ [.code bF]) (aI.at aS (.inRegion av (aN::sg)::aV)::cs)):=by
 obtain ⟨vw,vb,vr,H⟩:=H
 by_cases hk:((S.of c).isSome||S.back.contains c)=true
 ·have hR:oe S us c pt=(S,us,tT):=by unfold oe;rw [if_pos hk]
  rw [hR] at hc
  exact D9 B hL H cK.back (by simpa using hk) (hc wl L hL ⟨_,_,_,H⟩ K hT)
 ·have fS:S.of c=none/\S.back.contains c=false:=by
   rw [Bool.or_eq_true,not_or] at hk
   refine ⟨?_,by simpa using hk.2⟩
   cases hx:S.of c with
   |none=>rfl
   |some x=>rw [hx] at hk;exact absurd rfl hk.1
  rcases lX S with hf|⟨l,hl,hf,_⟩
  ·have hR:oe S us c pt=({S with back:=S.back++[c]},us,KQ):=by unfold oe;rw [if_neg hk,hf];rfl
   rw [hR] at hc
   exact Hb B hL H cK.back cK.lines fS.1 fS.2 hf K hT fun aK qS fJ H' K' T'=>hc aK L fJ ⟨_,_,_,H'⟩ K' T'
  ·have hn:¬(((l:Nat):Int)<0):=by omega
   have hR:oe S us c pt=({conn S c l S.lines[l] with wait:=gY S.wait (placeOf S.wait pt) (c,pt)},us,jj++Lib.itoa ((l:Int)+1)):=by
    unfold oe
    rw [if_neg hk,hf,if_neg hn,Int.toNat_natCast,G_ hl]
   rw [hR] at hc
   exact G9 B hL H cK.back cK.lines fS.1 fS.2 hl hf cK.recs cK.wait c0 c1 K hT fun aK jA qb fJ H' K' T'=>hc aK L fJ ⟨_,_,_,H'⟩ K' T'
variable {P:Program} {main:Bool} {b:Y'} {a:Act} {k:List Item} {ops:Array y_} {i:Nat} {rest:List Nat} {o:y_} {w:J'} {f:FuncId} {fn:Func} {c:Code} {args:Array Operand} {ats:Array Q'} {t:Operand} {caps vs:Array M'}
theorem zZ (hop:o.op=.call {callee:=.value t,args,argTypes:=ats}) (ht:a.eval t=.func (.func f) #[] caps) (hf:P.funcs[f]?=some fn) (lV:(fn.name== "runtime.NumGoroutine")=false) (hb:fn.body.isNone=false):(V' a.eval o).run P w=.ok (.enter f (args.map a.eval++caps)) w:=by
 have h1:¬fn.name= "runtime.NumGoroutine" :=by simpa using lV
 have h2:¬fn.body=none:=by cases hx:fn.body<;>simp_all
 unfold V'
 simp [hop,resolve,Deferred.ofValue,invoke,callFunc,hf,h1,h2,ht]
theorem vL (hop:o.op=.call {callee:=.value t,args,argTypes:=ats}) (ht:a.eval t=.func (.func f) #[] caps) (hf:P.funcs[f]?=some fn) (lV:(fn.name== "runtime.NumGoroutine")=false) (hb:fn.body.isNone=false) (es:Array Event):(V' a.eval o).events P w es=es:=by
 have h1:¬fn.name= "runtime.NumGoroutine" :=by simpa using lV
 have h2:¬fn.body=none:=by cases hx:fn.body<;>simp_all
 unfold V'
 simp [hop,resolve,Deferred.ofValue,invoke,callFunc,hf,h1,h2,ht]
theorem za (ho:ops[i]?=some o) (hw:Region.wanted o (yielded ops a.tmps)=true) (hk:b.kind≠.early) (hop:o.op=.call {callee:=.value t,args,argTypes:=ats}) (ht:a.eval t=.func (.func f) #[] caps)
 (hf:P.funcs[f]?=some fn) (lV:(fn.name== "runtime.NumGoroutine")=false) (hb:fn.body=some c) (ha:args.map a.eval++caps=vs):
 stepG P main (G (b.at a (.inRegion ops (i::rest)::k)) cs) w=.go (G (fZ P f vs .normal) (b.at a (.inRegion ops (i::rest)::k)::cs)) w #[]:=by
 have A8:fn.body.isNone=false:=by rw [hb];rfl
 rw [<-ha,stepG_enter ho hw hk (zZ hop ht hf lV A8)]
 have:listed P b.fn a o w=#[]:=by unfold listed;rw [vL hop ht hf lV A8];exact seen_none P _
 rw [this]
theorem Gu {c1 p1 c:Int} {g:Nat} (hg:w.cell? ⟨g,0,none⟩=some (.int .i64 c)):d_ p_ 137 #[.agg #[.int .i64 c1,.int .i64 p1],.pointer (some ⟨g,0,none⟩)] w fun e w'=>e=.returned (.bool (decide (c1=c)))/\w'=w.alloc (.cells #[.int .i64 c1,.int .i64 p1] 84):=by
 have h0:(w.alloc (.cells #[.int .i64 c1,.int .i64 p1] 84)).cell? ⟨g,0,none⟩=some (.int .i64 c):=(N_ w _ none).cell (a:=⟨g,0,none⟩) hg (by simp)
 have h1:(w.alloc (.cells #[.int .i64 c1,.int .i64 p1] 84)).cell? ⟨w.heap.size,0,none⟩=some (.int .i64 c1):=bJ rfl
 go_enter func137,ntmps137
 go_wp2_with fail
 by_cases e:c1=c
 ·subst e
  go_wp2_with fail
  go_ret
  simp
 ·go_wp2_with fail
  go_ret
  simp [e]
noncomputable def eM:Code:=f143.body.getD .skip
noncomputable def sS:Code:=match ai 1 eM with| .seq _ (.block _ (.loop c))=>c|_=>.skip
theorem Lb {p q:M'}:fZ p_ 143 #[p,q] .normal=(base 143).at ⟨#[p,q]++F_ 17 I',[]⟩ [.code eM]:=by kernel_rfl
theorem gD.refl (w:J') (r:Option Nat):gD w w r:=⟨rfl,rfl,C_ _,fun _ _ _=>rfl⟩
theorem gD.trans {a b c:J'} {r:Option Nat} (h:gD a b r) (k:gD b c r):gD a c r:=⟨k.os.trans h.os,k.output.trans h.output,D_ h.size k.size,fun i hi hr=>(k.block i (E_ hi h.size) hr).trans (h.block i hi hr)⟩
theorem gD.alloc (w:J') (o:Obj) (r:Option Nat):gD w (w.alloc o) r:=by
 have:=N_ w o none
 exact ⟨this.os,this.output,this.size,fun i hi _=>this.block i hi (by simp)⟩
theorem gD.re {a b:J'} {r:Option Nat} (h:gD a b r) (T:Nat->Question->Nat) (d:Nat):gD a (b.re T d) r:=⟨h.os,h.output,h.size,h.block⟩
theorem gD.weaken {a b:J'} {r:Option Nat} (h:gD a b none):gD a b r:=⟨h.os,h.output,h.size,fun i hi _=>h.block i hi (by simp)⟩
theorem gD.cell {a b:J'} {r:Option Nat} (h:gD a b r) {x:z_} {v:M'} (hx:a.cell? x=some v) (hv:x=⟨x.block,x.off,none⟩) (hr:some x.block≠r):b.cell? x=some v:=by
 obtain ⟨blk,off,vw⟩:=x
 injection hv with _ _ hv
 subst hv
 have hlt:blk<a.heap.size:=by
  cases hb:a.heap[blk]? with
  |none=>simp [World.cell?,hb] at hx
  |some o=>exact (cI hb)
 rw [J_ (h.block blk hlt hr)];exact hx
def AO (ws:List (Int × Int)) (c:Int):Int:=match ws.findIdx? (fun p=>decide (p.1=c)) with|some i=>(i:Nat)|none=> -1
variable {b:Nat}
variable {w0:J'} {g3:Nat}
theorem HA (B:eh p_ C b 0 ae Fin h) {v:M'} {c:Int} (bR:w0.ownsRow B0 84 2 v ws.length (ax ws)) (mS:w0.cell? ⟨g3,0,none⟩=some (.int .i64 c)) (hsm:ws.length<=1000000)
 (hc:∀aK,Lay C aK->gD w0 aK none->ay p_ C b 0 ae Fin Post h (aY b N h L) aK (G (aI.at (aS.put ((av[aN]?).bind (·.dst)) (.int .i64 (AO ws c))) (.inRegion av sg::aV)) cs)):
 ∀m i,ws.length - i=m->i<=ws.length->(∀j (hj:j<ws.length),j<i->(ws[j]).1≠c)->∀(y5 y9 Px Pu Pt Ps Pr Pq Pp Pm Pk:M') (wl:J'),Lay C wl->gD w0 wl none->
 ay p_ C b 0 ae Fin Post h (aY b N h L) wl (G ((base 143).at ⟨#[v,.func (.func 137) #[] #[.pointer (some ⟨g3,0,none⟩)],I',I',.int .i64 0,y5,v,.int .i64 (ws.length:Nat),.int .i64 (i:Nat),y9,Px,Pu,Pt,Ps,Pr,Pq,Pp,Pm,Pk],[]⟩ [.code sS,.inLoop sS,.inBlock 0,.code (az 2 eM)]) (aI.at aS (.inRegion av (aN::sg)::aV)::cs)):=by
 have hS:=aH b N h L
 obtain ⟨ab,cap,ev⟩:=aE bR
 have rq:∀i,i<ws.length->∃g,ab=some ⟨g,0,none⟩:=fun i hi=>by
  obtain ⟨g,cp,_,e,_⟩:=cz bR (by omega)
  rw [ev] at e;injection e with e;exact ⟨g,e⟩
 subst ev
 intro m
 induction m with
 |zero=>
  intro i hm hi hno y5 y9 Px Pu Pt Ps Pr Pq Pp Pm Pk wl hL hG
  obtain rfl:i=ws.length:=by omega
  have hlt:((ws.length:Int)<(ws.length:Int))=False:=by simp
  generalize hK:[Item.inLoop sS,.inBlock 0,.code (az 2 eM)]=K0
  simp only [sS,ai,eM,f143,A_]
  refine B.s ?_
  refine B.r ?_
  refine B.q (.bool false) ?_
  walk_nrm
  refine B.e ?_
  refine B.s ?_
  refine B.c rfl ?_
  subst hK
  refine ay.ctl B hS hL rfl (fun _=>stepG_exit rfl) ?_
  refine ay.code (ok:=il) B pA hS hL (AB (by kernel_rfl) rfl rfl ⟨_,func143⟩) ?_
  intro T d
  generalize hB:iM p_ C b 0 ae Fin Post h (aY b N h L) _ _ _=Bh
  replace hB:=aa hB
  have ir:=aa hc
  have qK:=aa hL
  have hGH:=aa hG
  clear hc hL hG
  simp only [az,eM,f143,A_]
  go_wp2_with fail
  subst hB
  intro hcut todo
  have jv:Lay C (wl.re T d):=⟨hcut,qK.out.no⟩
  refine ay.ctl B hS jv rfl (fun _=>aZ rfl rfl func143 rfl) ?_
  have hi:AO ws c= -1:=by
   unfold AO
   have:ws.findIdx? (fun p=>decide (p.1=c))=none:=by
    rw [List.findIdx?_eq_none_iff]
    intro x hx
    obtain ⟨j,hj,rfl⟩:=List.getElem_of_mem hx
    simpa using hno j hj hj
   rw [this]
  have:=ir.out _ jv (hGH.out.re T d)
  rw [hi] at this
  exact this
 |succ m ih=>
  intro i hm hi hno y5 y9 Px Pu Pt Ps Pr Pq Pp Pm Pk wl hL hG
  have hlt:i<ws.length:=by omega
  have gJ:(i:Int)<(ws.length:Int):=by omega
  obtain ⟨g,rfl⟩:=rq i hlt
  have oJ:IntKind.i64.wrap ((i:Int)+1)=((i+1:Nat):Int):=by rw [IntWalk.i64_in _ (by omega)];rfl
  have k1:∀T d,(wl.re T d).cell? ⟨g,i * 2,none⟩=some (.int .i64 (ws[i]).1):=fun T d=>hG.cell ((bR.cellAt _ (by omega)).trans (jr tw 2 (fun _=>rfl) _ i 0 hlt (by decide))) rfl (by simp)
  have k2:∀T d,(wl.re T d).cell? ⟨g,i * 2+1,none⟩=some (.int .i64 (ws[i]).2):=fun T d=>hG.cell ((bR.cellAt _ (by omega)).trans (jr tw 2 (fun _=>rfl) _ i 1 hlt (by decide))) rfl (by simp)
  generalize hK:[Item.inLoop sS,.inBlock 0,.code (az 2 eM)]=K0
  simp only [sS,ai,eM,f143,A_]
  refine B.s ?_
  refine B.r ?_
  refine B.q (.bool true) ?_
  walk_nrm
  refine B.e ?_
  refine B.s ?_
  refine B.c rfl ?_
  refine ay.ctl B hS hL rfl (fun _=>stepG_skip) ?_
  refine B.s ?_
  refine ay.ctl B hS hL rfl (fun _=>stepG_block) ?_
  refine B.s ?_
  refine B.r ?_
  refine B.q (.int .i64 (i:Nat)) ?_
  walk_nrm
  refine B.q (.int .i64 (i:Nat)) ?_
  walk_nrm
  refine B.e ?_
  refine B.s ?_
  refine B.r ?_
  refine B.q (.func (.func 137) #[] #[.pointer (some ⟨g3,0,none⟩)]) ?_
  walk_nrm
  refine B.q (.slice (some ⟨g,0,none⟩) ws.length cap) ?_
  walk_nrm
  refine B.q (.int .i64 (i:Nat)) ?_
  walk_nrm
  refine B.q (.pointer (some ⟨g,i * 2,none⟩)) ?_
  walk_nrm
  refine B.o (.agg #[.int .i64 (ws[i]).1,.int .i64 (ws[i]).2]) (fun T d=> ?_) ?_
  ·have h1:=k1 T d
   have h2:=k2 T d
   go_simp
  walk_nrm
  refine ay.ctl B hS hL rfl (fun _=>za (b:=base 143) (f:=137) (caps:=#[.pointer (some ⟨g3,0,none⟩)]) (vs:=#[.agg #[.int .i64 (ws[i]).1,.int .i64 (ws[i]).2],.pointer (some ⟨g3,0,none⟩)]) rfl rfl (by k_ne) rfl rfl func137 rfl rfl (by kernel_rfl)) ?_
  refine ay.call (ok:=il) B pA hS hL (by kernel_rfl) (by kernel_rfl) fun T d=> ?_
  refine (Gu (w:=wl.re T d) (c:=c) (hG.cell (b:=wl) mS rfl (by simp))).mono ?_
  rintro e w2 ⟨rfl,rfl⟩
  refine ⟨_,rfl,fun hcut=> ?_⟩
  rw [Frame.finish_at]
  have du:Lay C ((wl.re T d).alloc (.cells #[.int .i64 (ws[i]).1,.int .i64 (ws[i]).2] 84)):=⟨hcut,hL.no⟩
  have Rv:gD w0 ((wl.re T d).alloc (.cells #[.int .i64 (ws[i]).1,.int .i64 (ws[i]).2] 84)) none:=(hG.re T d).trans (gD.alloc _ _ _)
  generalize (wl.re T d).alloc (.cells #[.int .i64 (ws[i]).1,.int .i64 (ws[i]).2] 84)=w2 at *
  walk_nrm
  refine B.e ?_
  by_cases e:(ws[i]).1=c
  ·have hd:decide ((ws[i]).1=c)=true:=by simp [e]
   rw [hd]
   refine B.c rfl ?_
   refine B.s ?_
   refine B.r ?_
   refine B.q (.int .i64 (i:Nat)) ?_
   walk_nrm
   refine B.q (.int .i64 (i:Nat)) ?_
   walk_nrm
   refine B.e ?_
   refine ay.ctl B hS du rfl (fun _=>ma) ?_
   refine ay.ctl B hS du rfl (fun _=>aZ rfl rfl func143 rfl) ?_
   have hx:AO ws c=(i:Nat):=by
    unfold AO
    have:ws.findIdx? (fun p=>decide (p.1=c))=some i:=by
     rw [List.findIdx?_eq_some_iff_getElem]
     exact ⟨hlt,by simp [e],fun j hj=>by simpa using hno j (by omega) hj⟩
    rw [this]
   have:=hc w2 du Rv
   rw [hx] at this
   exact this
  ·have hd:decide ((ws[i]).1=c)=false:=by simp [e]
   rw [hd]
   refine B.c rfl ?_
   refine ay.ctl B hS du rfl (fun _=>stepG_skip) ?_
   refine ay.ctl B hS du rfl (fun _=>stepG_inBlock) ?_
   refine B.r ?_
   refine B.q (.int .i64 ((i+1:Nat):Int)) ?_
   walk_nrm
   refine B.q (.int .i64 ((i+1:Nat):Int)) ?_
   walk_nrm
   refine B.e ?_
   subst hK
   refine ay.ctl B hS du rfl (fun _=>stepG_inLoop) ?_
   exact ih (i+1) (by omega) (by omega) (fun j hj SA=>by by_cases e1:j=i;subst e1;exact e;exact hno j hj (by omega)) _ _ _ _ _ _ _ _ _ _ _ w2 du Rv
theorem Qn (B:eh p_ C b 0 ae Fin h) (hL:Lay C wl) {v:M'} {c:Int} (bR:wl.ownsRow B0 84 2 v ws.length (ax ws)) (mS:wl.cell? ⟨g3,0,none⟩=some (.int .i64 c)) (hsm:ws.length<=1000000)
 (hc:∀aK,Lay C aK->gD wl aK none->ay p_ C b 0 ae Fin Post h (aY b N h L) aK (G (aI.at (aS.put ((av[aN]?).bind (·.dst)) (.int .i64 (AO ws c))) (.inRegion av sg::aV)) cs)):
 ay p_ C b 0 ae Fin Post h (aY b N h L) wl (G ((base 143).at ⟨#[v,.func (.func 137) #[] #[.pointer (some ⟨g3,0,none⟩)]]++F_ 17 I',[]⟩ [.code eM]) (aI.at aS (.inRegion av (aN::sg)::aV)::cs)):=by
 have hS:=aH b N h L
 obtain ⟨ab,cap,ev⟩:=aE bR
 have ea:(#[v,.func (.func 137) #[] #[.pointer (some ⟨g3,0,none⟩)]]++F_ 17 I':Array M')=#[v,.func (.func 137) #[] #[.pointer (some ⟨g3,0,none⟩)],I',I',I',I',I',I',I',I',I',I',I',I',I',I',I',I',I']:=by kernel_rfl
 rw [ea]
 have e1:eM=.seq (ai 0 eM) (.seq (.seq (ai 0 (ai 1 eM)) (.block 0 (.loop sS))) (az 2 eM)):=by kernel_rfl
 rw [e1]
 refine B.s ?_
 generalize hX:[lN (.seq (.seq (ai 0 (ai 1 eM)) (.block 0 (.loop sS))) (az 2 eM))]=X0
 simp only [ai,eM,f143,A_]
 refine B.r ?_
 refine B.q (.int .i64 0) ?_
 walk_nrm
 refine B.e ?_
 subst hX
 refine B.s ?_
 refine B.s ?_
 generalize hX:[lN (Code.block 0 (.loop sS)),lN (az 2 eM)]=X0
 simp only [ai,eM,f143,A_]
 have evH:=aa ev
 refine B.r ?_
 refine B.q v ?_
 walk_nrm
 refine B.o (.int .i64 (ws.length:Nat)) (fun T d=> ?_) ?_
 ·rw [evH.out]
  go_simp
 walk_nrm
 refine B.q (.int .i64 ((0:Nat):Int)) ?_
 walk_nrm
 refine B.e ?_
 subst hX
 refine ay.ctl B hS hL rfl (fun _=>stepG_block) ?_
 refine ay.ctl B hS hL rfl (fun _=>stepG_loop) ?_
 exact HA B bR mS hsm hc ws.length 0 (by omega) (by omega) (fun j hj h0=>by omega) _ _ _ _ _ _ _ _ _ _ _ wl hL (gD.refl _ _)
variable {B:Nat} {xs:List M'}
theorem MM {e s n n' g cap:Nat} {vs:List M'} (h:w.ownsRow B e s (.slice (some ⟨g,0,none⟩) n cap) n xs) (hn:n'<=n) (hv:n' * s+vs.length<=n * s):
 (w.setCells g (n' * s) vs).ownsRow B e s (.slice (some ⟨g,0,none⟩) n' cap) n' (xs.take (n' * s))/\w.grownBy (w.setCells g (n' * s) vs) (some g):=by
 refine ⟨?_,(bL g vs _ w).1,(bL g vs _ w).2.1,(bL g vs _ w).2.2,Nat.le_of_eq (fq g vs _ w).symm,fun k _ hk=>Gy g vs _ w k (fun e=>hk (by rw [e]))⟩
 have hle:n' * s<=n * s:=Nat.mul_le_mul_right _ hn
 have Wj:=h.1
 refine ⟨by rw [Q_];omega, ?_⟩
 rcases h.2 with ⟨h',_⟩|⟨g',cap',cur,h',hb,hg,hc,hm,hs,ht⟩
 ·simp at h'
 ·simp only [Value.slice.injEq,n_,Addr.mk.injEq,and_true,true_and] at h'
  obtain ⟨rfl,rfl⟩:=h'
  have hcs:n * s<=cap * s:=Nat.mul_le_mul_right _ hc
  obtain ⟨yR,h1,h2,h3⟩:=fv g vs (n' * s) w cur hg (by omega)
  refine .inr ⟨g,cap,yR,rfl,hb,h1,by omega,hm,by omega, ?_⟩
  have rq:cur.toList.length=cap * s:=by simpa using hs
  rw [h3,List.append_assoc,List.take_append_of_le_length (by rw [Q_];omega),List.take_take,Nat.min_self,<-ht,List.take_take,Nat.min_eq_left hle]
theorem Ci {g n cap:Nat} {xs:List (Int × Int)} (h:w.ownsRow B 84 2 (.slice (some ⟨g,0,none⟩) n cap) n (ax xs)) (hi:i<xs.length) (p:Int × Int):
 ((w.setCell ⟨g,i * 2,none⟩ (.int .i64 p.1)).setCell ⟨g,i * 2+1,none⟩ (.int .i64 p.2)).ownsRow B 84 2 (.slice (some ⟨g,0,none⟩) n cap) n (ax (xs.set i p))/\w.grownBy ((w.setCell ⟨g,i * 2,none⟩ (.int .i64 p.1)).setCell ⟨g,i * 2+1,none⟩ (.int .i64 p.2)) (some g):=by
 have h1:=h.stored (i * 2) (.int .i64 p.1)
 have h2:=h1.1.stored (i * 2+1) (.int .i64 p.2)
 have e1:ax (xs.set i (p.1,(xs[i]).2))=(ax xs).set (i * 2) (.int .i64 p.1):=sK (fun p:Int × Int=>[ah .i64 p.1,.int .i64 p.2]) 2 (fun _=>rfl) xs i 0 hi (by decide) _ _ rfl
 have e2:ax ((xs.set i (p.1,(xs[i]).2)).set i p)=(ax (xs.set i (p.1,(xs[i]).2))).set (i * 2+1) (.int .i64 p.2):=sK (fun p:Int × Int=>[ah .i64 p.1,.int .i64 p.2]) 2 (fun _=>rfl) _ i 1 (by simpa using hi) (by decide) _ _ (by simp)
 rw [List.set_set] at e2
 rw [e2,e1]
 exact ⟨h2.1,h1.2.os▸h2.2.os,h1.2.tape▸h2.2.tape,h1.2.output▸h2.2.output,D_ h1.2.size h2.2.size,fun k hk hn=>(h2.2.block k (E_ hk h1.2.size) hn).trans (h1.2.block k hk hn)⟩
noncomputable def bQ:Code:=f136.body.getD .skip
noncomputable def pJ:Code:=match ai 3 bQ with| .seq _ (.block _ (.loop c))=>c|_=>.skip
theorem Lc {p q:M'}:fZ p_ 136 #[p,q] .normal=(base 136).at ⟨#[p,q]++F_ 40 I',[]⟩ [.code bQ]:=by kernel_rfl
def aJ (ws:List (Int × Int)) (c:Int):List (Int × Int):=ws.filter fun p=>decide (p.1≠c)
variable {j:Nat}
theorem uC {c:Int} (hj:j<ws.length):aJ (ws.take (j+1)) c=aJ (ws.take j) c++(if (ws[j]).1=c then [] else [ws[j]]):=by
 unfold aJ
 rw [sC hj,List.filter_append]
 congr 1
 by_cases e:(ws[j]).1=c
 ·simp [e]
 ·simp [e]
structure LQ (B0:Nat) (ws xs:List (Int × Int)) (c:Int) (g cap j:Nat) (w:J'):Prop where
 len:xs.length=ws.length
 take:xs.take (aJ (ws.take j) c).length=aJ (ws.take j) c
 rest:∀k (h1:j<=k) (h2:k<ws.length),xs[k]?=some ws[k]
 less:(aJ (ws.take j) c).length<j
 row:w.ownsRow B0 84 2 (.slice (some ⟨g,0,none⟩) ws.length cap) ws.length (ax xs)
variable {w':J'}
theorem LQ.none {xs:List (Int × Int)} {c:Int} {g cap:Nat} (h:LQ B0 ws xs c g cap j w) (hg:gD w w' none):LQ B0 ws xs c g cap j w':=
 ⟨h.len,h.take,h.rest,h.less,cH h.row fun k _ hk=>hg.block k hk (by simp)⟩
theorem HX (B:eh p_ C b 0 ae Fin h) {c:Int} {g cap:Nat} (mS:w0.cell? ⟨g3,0,none⟩=some (.int .i64 c)) (hg:g3≠g) (hsm:ws.length<=1000000) (hcp:ws.length<=cap)
 (hc:∀aK,Lay C aK->gD w0 aK (some g)->aK.ownsRow B0 84 2 (.slice (some ⟨g,0,none⟩) (aJ ws c).length cap) (aJ ws c).length (ax (aJ ws c))->ay p_ C b 0 ae Fin Post h (aY b N h L) aK (G (aI.at (aS.put ((av[aN]?).bind (·.dst)) (.slice (some ⟨g,0,none⟩) (aJ ws c).length cap)) (.inRegion av sg::aV)) cs)):
 ∀m j,ws.length - j=m->j<=ws.length->∀(i:Nat) (xs:List (Int × Int)) (y7 y8 y9 Px Pu Pt Ps Pr Pq Pp Pm Pk XG XE XD XC XB XA Xz Xy Xx Xw Xv Xu Xt Xs Xr Xq Xp Xo Xn Xm Xl Xk Xj:M') (wl:J'),Lay C wl->gD w0 wl (some g)->f_ (i=(aJ (ws.take j) c).length)->LQ B0 ws xs c g cap j wl->
 ay p_ C b 0 ae Fin Post h (aY b N h L) wl (G ((base 136).at ⟨#[.slice (some ⟨g,0,none⟩) ws.length cap,.func (.func 137) #[] #[.pointer (some ⟨g3,0,none⟩)],I',I',.slice none 0 0,.int .i64 (i:Nat),.int .i64 (j:Nat),y7,y8,y9,Px,Pu,Pt,Ps,Pr,Pq,Pp,Pm,Pk,XG,XE,XD,XC,XB,XA,Xz,Xy,Xx,Xw,Xv,Xu,Xt,Xs,Xr,Xq,Xp,Xo,Xn,Xm,Xl,Xk,Xj],[]⟩ [.code pJ,.inLoop pJ,.inBlock 0,.code (az 4 bQ)]) (aI.at aS (.inRegion av (aN::sg)::aV)::cs)):=by
 have hS:=aH b N h L
 intro m
 induction m with
 |zero=>
  intro j hm hj i xs y7 y8 y9 Px Pu Pt Ps Pr Pq Pp Pm Pk XG XE XD XC XB XA Xz Xy Xx Xw Xv Xu Xt Xs Xr Xq Xp Xo Xn Xm Xl Xk Xj wl hL hG hi hD
  obtain rfl:j=ws.length:=by omega
  have hlt:((ws.length:Int)<(ws.length:Int))=False:=by simp
  generalize hK:[Item.inLoop pJ,.inBlock 0,.code (az 4 bQ)]=K0
  simp only [pJ,ai,bQ,f136,A_]
  iterate 9 refine B.n ?_
  subst hK
  refine ay.ctl B hS hL rfl (fun _=>stepG_exit rfl) ?_
  have QL:ws.take ws.length=ws:=List.take_length
  have ht:=hD.take
  have QU:=hD.less
  have hi:=hi.out
  rw [QL] at ht QU hi
  obtain ⟨W1,wq⟩:∃W1:(Nat->Question->Nat)->Nat->J',W1=fun T d=>(wl.re T d).setCells g (i * 2) (List.replicate ((ws.length - i) * 2) (.int .i64 0)):=⟨_,rfl⟩
  have hcut:∀T d,(W1 T d).ownsRow B0 84 2 (.slice (some ⟨g,0,none⟩) i cap) i (ax (aJ ws c))/\gD w0 (W1 T d) (some g):=fun T d=>by
   have hr:(wl.re T d).ownsRow B0 84 2 (.slice (some ⟨g,0,none⟩) ws.length cap) ws.length (ax xs):=hD.row
   have h1:=MM (n':=i) hr (by omega) (vs:=List.replicate ((ws.length - i) * 2) (.int .i64 0)) (by rw [List.length_replicate];omega)
   rw [<-jb,hi,ht,<-hi] at h1
   rw [wq]
   exact ⟨h1.1,(hG.re T d).trans ⟨h1.2.os,h1.2.output,h1.2.size,h1.2.block⟩⟩
  have hcell:∀T d ty,(Builtin.clear_ #[74] ty #[.slice (some ⟨g,i * 2,none⟩) (ws.length - i:Nat) (cap - i)]).run p_ (wl.re T d)=.ok (.tuple #[]) (W1 T d):=fun T d ty=>by
   have hr:(wl.re T d).ownsRow B0 84 2 (.slice (some ⟨g,0,none⟩) ws.length cap) ws.length (ax xs):=hD.row
   rw [wq]
   refine wN (wl.re T d) _ _ ty _ Tryz.underlying74 IG rfl g (i * 2) (ws.length - i) _ (by omega) (fun t Wn=> ?_) (fun t Wn=>hr.frozenAt _)
   rw [hr.cellAt _ (by omega),G_ (by rw [bV,hD.len];omega)];rfl
  have q1:(i:Int)<=(ws.length:Int):=by omega
  have q2:(i:Int)<=(cap:Int):=by omega
  have q3:(ws.length:Int)<=(cap:Int):=by omega
  have q4:¬cap=i:=by omega
  have q5:i<=cap:=by omega
  have bR:=aa hi
  have ir:=aa hc
  have hno:=aa hL.no
  clear hc hi ht QU QL hm hD
  refine B.p (fun T d Bh hB=> ?_)
  have rq:=hcell T d
  have Q9:=aa (hcut T d)
  clear hcell hcut hL hG
  generalize W1 T d=W2 at *
  generalize wl.re T d=w1 at *
  clear wq
  simp only [az,bQ,f136,A_]
  go_wp2_with fail
  subst hB
  intro hcut todo
  have jv:Lay C W2:=⟨hcut,hno.out⟩
  refine ay.ctl B hS jv rfl (fun _=>aZ rfl rfl func136 rfl) ?_
  have:=ir.out W2 jv Q9.out.2 (by rw [<-bR.out];exact Q9.out.1)
  rw [<-bR.out] at this
  exact this
 |succ m ih=>
  intro j hm hj i xs y7 y8 y9 Px Pu Pt Ps Pr Pq Pp Pm Pk XG XE XD XC XB XA Xz Xy Xx Xw Xv Xu Xt Xs Xr Xq Xp Xo Xn Xm Xl Xk Xj wl hL hG hi hD
  have hlt:j<ws.length:=by omega
  have gJ:(j:Int)<(ws.length:Int):=by omega
  have vG:i<j:=by rw [hi.out];exact hD.less
  have oJ:IntKind.i64.wrap ((j:Int)+1)=((j+1:Nat):Int):=by rw [IntWalk.i64_in _ (by omega)];rfl
  have YJ:IntKind.i64.wrap ((i:Int)+1)=((i+1:Nat):Int):=by rw [IntWalk.i64_in _ (by omega)];rfl
  have hxj:xs[j]?=some ws[j]:=hD.rest j (C_ _) hlt
  have Zo:j<xs.length:=by rw [hD.len];exact hlt
  have hxe:xs[j]=ws[j]:=by rw [G_ Zo] at hxj;exact Option.some.inj hxj
  have k1:∀T d,(wl.re T d).cell? ⟨g,j * 2,none⟩=some (.int .i64 (ws[j]).1):=fun T d=>by rw [<-hxe];exact (hD.row.cellAt (w:=wl.re T d) _ (by omega)).trans (jr tw 2 (fun _=>rfl) _ j 0 Zo (by decide))
  have k2:∀T d,(wl.re T d).cell? ⟨g,j * 2+1,none⟩=some (.int .i64 (ws[j]).2):=fun T d=>by rw [<-hxe];exact (hD.row.cellAt (w:=wl.re T d) _ (by omega)).trans (jr tw 2 (fun _=>rfl) _ j 1 Zo (by decide))
  generalize hK:[Item.inLoop pJ,.inBlock 0,.code (az 4 bQ)]=K0
  simp only [pJ,ai,bQ,f136,A_]
  iterate 9 refine B.n ?_
  refine ay.ctl B hS hL rfl (fun _=>stepG_skip) ?_
  refine B.s ?_
  refine ay.ctl B hS hL rfl (fun _=>stepG_block) ?_
  refine B.s ?_
  have ir:=aa hc
  have hDH:=aa hD
  have qK:=aa hL
  have hGH:=aa hG
  have TQ:=aa ih
  clear hc hD ih
  refine B.p (fun T d Bh hB=> ?_)
  have j1:=k1 T d
  have j2:=k2 T d
  clear hL hG k1 k2
  go_wp2_with fail
  subst hB
  intro hcut
  have hL:=qK.out
  have hD:LQ B0 ws xs c g cap j ((wl.re T d).alloc (.cells #[.int .i64 (ws[j]).1,.int .i64 (ws[j]).2] 84)):=(hDH.out.none ((gD.refl wl none).re T d)).none (gD.alloc _ _ _)
  have hG:gD w0 ((wl.re T d).alloc (.cells #[.int .i64 (ws[j]).1,.int .i64 (ws[j]).2] 84)) (some g):=(hGH.out.re T d).trans (gD.alloc _ _ _)
  have n1:∀T' d',(((wl.re T d).alloc (.cells #[.int .i64 (ws[j]).1,.int .i64 (ws[j]).2] 84)).re T' d').cell? ⟨(wl.re T d).heap.size,0,none⟩=some (.int .i64 (ws[j]).1):=fun _ _=>bJ (w:=wl.re T d) rfl
  have n2:∀T' d',(((wl.re T d).alloc (.cells #[.int .i64 (ws[j]).1,.int .i64 (ws[j]).2] 84)).re T' d').cell? ⟨(wl.re T d).heap.size,1,none⟩=some (.int .i64 (ws[j]).2):=fun _ _=>bJ (w:=wl.re T d) rfl
  have du:Lay C ((wl.re T d).alloc (.cells #[.int .i64 (ws[j]).1,.int .i64 (ws[j]).2] 84)):=⟨hcut,hL.no⟩
  have WB:(wl.re T d).heap.size≠g:=by
   intro e
   have e:wl.heap.size=g:=e
   obtain ⟨g',cap',cur,h',_,hb,_⟩:=cz hDH.out.row (by omega)
   simp only [Value.slice.injEq,n_,Addr.mk.injEq,and_true,true_and] at h'
   have:=(cI hb)
   have:=h'.1
   omega
  generalize (wl.re T d).alloc (.cells #[.int .i64 (ws[j]).1,.int .i64 (ws[j]).2] 84)=w1 at *
  generalize (wl.re T d).heap.size=g7 at *
  iterate 3 refine B.n ?_
  refine B.o (.agg #[.int .i64 (ws[j]).1,.int .i64 (ws[j]).2]) (fun T d=> ?_) ?_
  ·have h1:=n1 T d
   have h2:=n2 T d
   go_simp
  walk_nrm
  refine ay.ctl B hS du rfl (fun _=>za (b:=base 136) (f:=137) (caps:=#[.pointer (some ⟨g3,0,none⟩)]) (vs:=#[.agg #[.int .i64 (ws[j]).1,.int .i64 (ws[j]).2],.pointer (some ⟨g3,0,none⟩)]) rfl rfl (by k_ne) rfl rfl func137 rfl rfl (by kernel_rfl)) ?_
  refine ay.call (ok:=il) B pA hS du (by kernel_rfl) (by kernel_rfl) fun T d=> ?_
  refine (Gu (w:=w1.re T d) (c:=c) (hG.cell (b:=w1) mS rfl (by simpa using hg))).mono ?_
  rintro e w2 ⟨rfl,rfl⟩
  refine ⟨_,rfl,fun Va=> ?_⟩
  rw [Frame.finish_at]
  have gA:Lay C ((w1.re T d).alloc (.cells #[.int .i64 (ws[j]).1,.int .i64 (ws[j]).2] 84)):=⟨Va,hL.no⟩
  have wu:gD w1 ((w1.re T d).alloc (.cells #[.int .i64 (ws[j]).1,.int .i64 (ws[j]).2] 84)) none:=((gD.refl w1 none).re T d).trans (gD.alloc _ _ _)
  have KV:=hG.trans (wu.weaken (r:=some g))
  have NC:=hD.none wu
  have n3:∀T' d',(((w1.re T d).alloc (.cells #[.int .i64 (ws[j]).1,.int .i64 (ws[j]).2] 84)).re T' d').cell? ⟨g7,0,none⟩=some (.int .i64 (ws[j]).1):=fun _ _=>wu.cell (n1 w1.tape w1.drawn) rfl (by simp)
  have n4:∀T' d',(((w1.re T d).alloc (.cells #[.int .i64 (ws[j]).1,.int .i64 (ws[j]).2] 84)).re T' d').cell? ⟨g7,1,none⟩=some (.int .i64 (ws[j]).2):=fun _ _=>wu.cell (n2 w1.tape w1.drawn) rfl (by simp)
  generalize (w1.re T d).alloc (.cells #[.int .i64 (ws[j]).1,.int .i64 (ws[j]).2] 84)=w2 at *
  walk_nrm
  have ih:=TQ.out
  have AZ:=uC (c:=c) hlt
  by_cases e:(ws[j]).1=c
  ·have hd:decide ((ws[j]).1=c)=true:=by simp [e]
   rw [hd]
   rw [if_pos e,List.append_nil] at AZ
   iterate 3 refine B.n ?_
   refine ay.ctl B hS gA rfl (fun _=>stepG_skip) ?_
   refine ay.ctl B hS gA rfl (fun _=>stepG_inBlock) ?_
   iterate 5 refine B.n ?_
   subst hK
   refine ay.ctl B hS gA rfl (fun _=>stepG_inLoop) ?_
   exact ih (j+1) (by omega) (by omega) i xs _ _ _ _ _ _ _ _ _ _ _ _ _ _ _ _ _ _ _ _ _ _ _ _ _ _ _ _ _ _ _ _ _ _ _ w2 gA KV (by rw [AZ];exact hi) ⟨NC.len,by rw [AZ];exact NC.take,fun k h1 h2=>NC.rest k (by omega) h2,by rw [AZ];have:=NC.less;omega,NC.row⟩
  ·have hd:decide ((ws[j]).1=c)=false:=by simp [e]
   rw [hd]
   iterate 3 refine B.n ?_
   have hix:i<xs.length:=by omega
   have vD:∀T d,(((w2.re T d).setCell ⟨g,i * 2,none⟩ (.int .i64 (ws[j]).1)).setCell ⟨g,i * 2+1,none⟩ (.int .i64 (ws[j]).2)).ownsRow B0 84 2 (.slice (some ⟨g,0,none⟩) ws.length cap) ws.length (ax (xs.set i ws[j]))/\gD w0 (((w2.re T d).setCell ⟨g,i * 2,none⟩ (.int .i64 (ws[j]).1)).setCell ⟨g,i * 2+1,none⟩ (.int .i64 (ws[j]).2)) (some g):=fun T d=>by
    have hr:(w2.re T d).ownsRow B0 84 2 (.slice (some ⟨g,0,none⟩) ws.length cap) ws.length (ax xs):=NC.row
    have h1:=Ci hr hix ws[j]
    exact ⟨h1.1,(KV.re T d).trans ⟨h1.2.os,h1.2.output,h1.2.size,h1.2.block⟩⟩
   have m1:∀T d,((w2.re T d).cell? ⟨g,i * 2,none⟩).isSome=true/\(w2.re T d).frozen? ⟨g,i * 2,none⟩=false/\((w2.re T d).cell? ⟨g,i * 2+1,none⟩).isSome=true/\(w2.re T d).frozen? ⟨g,i * 2+1,none⟩=false:=fun T d=>by
    have hr:(w2.re T d).ownsRow B0 84 2 (.slice (some ⟨g,0,none⟩) ws.length cap) ws.length (ax xs):=NC.row
    refine ⟨?_,hr.frozenAt _, ?_,hr.frozenAt _⟩
    ·rw [hr.cellAt _ (by omega),G_ (by rw [bV];omega)];rfl
    ·rw [hr.cellAt _ (by omega),G_ (by rw [bV];omega)];rfl
   have ml:(i:Int)<(ws.length:Int):=by omega
   have QY:i<ws.length:=by omega
   have Cu:=aa gA
   have Rw:=aa NC
   have aEe:=aa KV
   clear gA NC KV
   refine B.p (fun T d Bh hB=> ?_) (hL:=Cu.out)
   have hst:=aa (vD T d)
   obtain ⟨f1,f2,f3,f4⟩:=m1 T d
   have n5:=n3 T d
   have n6:=n4 T d
   obtain ⟨u1,Wm⟩:=Option.isSome_iff_exists.1 f1
   obtain ⟨u2,Su⟩:=Option.isSome_iff_exists.1 f3
   clear vD m1 n3 n4 f1 f3 hG hD n1 n2 du
   go_wp2_with fail
   subst hB
   intro U9
   have qu:=aa (Lay.mk U9 hL.no)
   generalize ((w2.re T d).setCell ⟨g,i * 2,none⟩ (.int .i64 (ws[j]).1)).setCell ⟨g,i * 2+1,none⟩ (.int .i64 (ws[j]).2)=w4 at *
   refine ay.ctl B hS qu.out rfl (fun _=>stepG_inBlock) ?_
   refine B.r ?_ (hL:=qu.out)
   refine B.q (.int .i64 (j:Nat)) ?_ (hL:=qu.out)
   walk_nrm
   refine B.q (.int .i64 ((j+1:Nat):Int)) ?_ (hL:=qu.out)
   walk_nrm
   refine B.q (.int .i64 ((j+1:Nat):Int)) ?_ (hL:=qu.out)
   walk_nrm
   refine B.e ?_ (hL:=qu.out)
   subst hK
   refine ay.ctl B hS qu.out rfl (fun _=>stepG_inLoop) ?_
   rw [if_neg e] at AZ
   refine ih (j+1) (by omega) (by omega) (i+1) (xs.set i ws[j]) _ _ _ _ _ _ _ _ _ _ _ _ _ _ _ _ _ _ _ _ _ _ _ _ _ _ _ _ _ _ _ _ _ _ _ w4 qu.out hst.out.2 (aa (by rw [AZ,K_,<-hi.out];rfl)) ⟨by rw [List.length_set];exact Rw.out.len, ?_,fun k h1 h2=> ?_,by rw [AZ,K_,<-hi.out];simp;omega,hst.out.1⟩
   ·rw [AZ,K_,<-hi.out]
    have ht:=Rw.out.take
    rw [<-hi.out] at ht
    rw [List.length_singleton,sC (by rw [List.length_set];exact hix),List.getElem_set_self]
    rw [List.take_set_of_le (C_ i),ht]
   ·rw [List.getElem?_set_ne (by omega)]
    exact Rw.out.rest k (by omega) h2
theorem EB (ws:List (Int × Int)) (c:Int):(AO ws c= -1/\aJ ws c=ws)\/∃m,∃hm:m<ws.length,AO ws c=(m:Nat)/\aJ (ws.take (m+1)) c=ws.take m/\(ws[m]).1=c:=by
 unfold AO
 cases hx:ws.findIdx? (fun p=>decide (p.1=c)) with
 |none=>
  refine .inl ⟨rfl, ?_⟩
  rw [List.findIdx?_eq_none_iff] at hx
  unfold aJ
  rw [List.filter_eq_self]
  intro a ha
  have:=hx a ha
  simpa using this
 |some m=>
  obtain ⟨hm,h1,h2⟩:=List.findIdx?_eq_some_iff_getElem.1 hx
  refine .inr ⟨m,hm,rfl, ?_,by simpa using h1⟩
  rw [uC hm,if_pos (by simpa using h1),List.append_nil]
  unfold aJ
  rw [List.filter_eq_self]
  intro a ha
  obtain ⟨j,hj,rfl⟩:=List.getElem_of_mem ha
  simp only [Q_] at hj
  have:=h2 j (by omega)
  rw [List.getElem_take]
  simpa using this
theorem NP (B:eh p_ C b 0 ae Fin h) (hL:Lay C wl) {v:M'} {c:Int} (bR:wl.ownsRow B0 84 2 v ws.length (ax ws)) (mS:wl.cell? ⟨g3,0,none⟩=some (.int .i64 c)) (hne:v.ownBlock≠some g3) (hsm:ws.length<=1000000)
 (hc:∀aK v',Lay C aK->gD wl aK v.ownBlock->aK.ownsRow B0 84 2 v' (aJ ws c).length (ax (aJ ws c))->ay p_ C b 0 ae Fin Post h (aY b N h L) aK (G (aI.at (aS.put ((av[aN]?).bind (·.dst)) v') (.inRegion av sg::aV)) cs)):
 ay p_ C b 0 ae Fin Post h (aY b N h L) wl (G ((base 136).at ⟨#[v,.func (.func 137) #[] #[.pointer (some ⟨g3,0,none⟩)]]++F_ 40 I',[]⟩ [.code bQ]) (aI.at aS (.inRegion av (aN::sg)::aV)::cs)):=by
 have hS:=aH b N h L
 have ea:(#[v,.func (.func 137) #[] #[.pointer (some ⟨g3,0,none⟩)]]++F_ 40 I':Array M')=#[v,.func (.func 137) #[] #[.pointer (some ⟨g3,0,none⟩)],I',I',I',I',I',I',I',I',I',I',I',I',I',I',I',I',I',I',I',I',I',I',I',I',I',I',I',I',I',I',I',I',I',I',I',I',I',I',I',I']:=by kernel_rfl
 rw [ea]
 have e1:bQ=.seq (ai 0 bQ) (.seq (ai 1 bQ) (.seq (.seq (ai 0 (ai 2 bQ)) (az 1 (ai 2 bQ))) (.seq (.seq (ai 0 (ai 3 bQ)) (.block 0 (.loop pJ))) (az 4 bQ)))):=by kernel_rfl
 rw [e1]
 refine B.s ?_
 generalize hX:[lN (Code.seq (ai 1 bQ) (.seq (.seq (ai 0 (ai 2 bQ)) (az 1 (ai 2 bQ))) (.seq (.seq (ai 0 (ai 3 bQ)) (.block 0 (.loop pJ))) (az 4 bQ))))]=X0
 simp only [ai,bQ,f136,A_]
 iterate 3 refine B.n ?_
 subst hX
 refine B.s ?_
 generalize hX:[lN (Code.seq (.seq (ai 0 (ai 2 bQ)) (az 1 (ai 2 bQ))) (.seq (.seq (ai 0 (ai 3 bQ)) (.block 0 (.loop pJ))) (az 4 bQ)))]=X0
 simp only [ai,bQ,f136,A_]
 iterate 3 refine B.n ?_
 refine ay.ctl B hS hL rfl (fun _=>bY (vs:=#[v,.func (.func 137) #[] #[.pointer (some ⟨g3,0,none⟩)]]) rfl rfl (by k_ne) rfl func143 rfl rfl (by kernel_rfl)) ?_
 rw [Lb]
 refine Qn B hL bR mS hsm fun w2 du Rv=> ?_
 walk_nrm
 iterate 2 refine B.n ?_
 subst hX
 iterate 2 refine B.n ?_
 generalize hX:[lN (az 1 (ai 2 bQ)),lN (.seq (.seq (ai 0 (ai 3 bQ)) (.block 0 (.loop pJ))) (az 4 bQ))]=X0
 simp only [ai,bQ,f136,A_]
 iterate 2 refine B.n ?_
 have uJ:w2.ownsRow B0 84 2 v ws.length (ax ws):=cH bR fun k _ hk=>Rv.block k hk (by simp)
 rcases EB ws c with ⟨hi,hk⟩|⟨m,hm,hi,hk,hmc⟩
 ·rw [hi]
  iterate 2 refine B.n ?_
  subst hX
  simp only [az,ai,bQ,f136,A_]
  iterate 6 refine B.n ?_
  refine ay.ctl B hS du rfl (fun _=>ma) ?_
  refine ay.ctl B hS du rfl (fun _=>aZ rfl rfl func136 rfl) ?_
  exact hc w2 v du Rv.weaken (by rw [hk];exact uJ)
 ·rw [hi]
  have Nh:(((m:Nat):Int)= -1)=False:=by simp
  have oJ:IntKind.i64.wrap ((m:Int)+1)=((m+1:Nat):Int):=by rw [IntWalk.i64_in _ (by omega)];rfl
  iterate 2 refine B.n ?_
  subst hX
  have e2:az 1 (ai 2 bQ)=.cond (.tmp 12) (match az 1 (ai 2 bQ) with| .cond _ a _=>a|_=>.skip) .skip:=by kernel_rfl
  rw [e2]
  refine B.c rfl ?_
  refine ay.ctl B hS du rfl (fun _=>stepG_skip) ?_
  iterate 2 refine B.n ?_
  generalize hX:[lN (Code.block 0 (.loop pJ)),lN (az 4 bQ)]=X0
  simp only [ai,bQ,f136,A_]
  iterate 5 refine B.n ?_
  subst hX
  refine ay.ctl B hS du rfl (fun _=>stepG_block) ?_
  refine ay.ctl B hS du rfl (fun _=>stepG_loop) ?_
  obtain ⟨g,cap,cur,ev,_,_,lJ,_⟩:=cz uJ (by omega)
  subst ev
  have hlen:(ws.take m).length=m:=by rw [Q_];omega
  exact HX B (w0:=w2) (B0:=B0) (ws:=ws) (c:=c) (g3:=g3) (g:=g) (cap:=cap) (Rv.cell mS rfl (by simp)) (fun e=>hne (by rw [e];rfl)) hsm lJ (fun w3 gA KV QK=>hc w3 _ gA (Rv.weaken.trans KV) QK)
   (ws.length - (m+1)) (m+1) rfl hm m ws _ _ _ _ _ _ _ _ _ _ _ _ _ _ _ _ _ _ _ _ _ _ _ _ _ _ _ _ _ _ _ _ _ _ _ w2 du (gD.refl _ _) (aa (by rw [hk,hlen])) ⟨rfl,by rw [hk,hlen],fun k _ h2=>G_ h2,by rw [hk,hlen];omega,uJ⟩
noncomputable def bC:Code:=f122.body.getD .skip
def Da:Bs:=[103,111,110,101]
def JC:Bs:=[111,102,102]
def iy:Bs:=[100,111,110,101]
def ie:Bs:=[108,101,102,116]
theorem qF (x:Int):∀(zs:List Int) (i:Nat),(Lib.idxFrom zs x i= -1/\zs.contains x=false)\/∃k,∃hk:k<zs.length,Lib.idxFrom zs x i=((i+k:Nat):Int)/\zs[k]=x/\∀j (hj:j<k),zs[j]≠x
 |[],i=>.inl ⟨rfl,rfl⟩
 |z::zs,i=>by
  by_cases hz:z=x
  ·refine .inr ⟨0,by simp, ?_,by simpa using hz,fun j hj=>absurd hj (Nat.not_lt_zero _)⟩
   rw [Lib.idxFrom];simp [hz]
  ·have hstep:Lib.idxFrom (z::zs) x i=Lib.idxFrom zs x (i+1):=by rw [Lib.idxFrom];simp [hz]
   rcases qF x zs (i+1) with ⟨h1,h2⟩|⟨k,hk,h1,h2,h3⟩
   ·refine .inl ⟨hstep.trans h1, ?_⟩
    rw [List.contains_cons,h2,Bool.or_false]
    simpa using fun e:x=z=>hz e.symm
   ·refine .inr ⟨k+1,by simpa using hk,by rw [hstep,h1,show i+1+k=i+(k+1) by omega],by simpa using h2,fun j hj=> ?_⟩
    cases j with
    |zero=>simpa using hz
    |succ j=>simpa using h3 j (by omega)
theorem uE (zs:List Int) (x:Int):(Lib.idxOf zs x= -1/\zs.contains x=false)\/∃k,∃hk:k<zs.length,Lib.idxOf zs x=(k:Nat)/\zs[k]=x/\∀j (hj:j<k),zs[j]≠x:=by
 rcases qF x zs 0 with h|⟨k,hk,h1,h2⟩
 ·exact .inl h
 ·exact .inr ⟨k,hk,by rw [show Lib.idxOf zs x=Lib.idxFrom zs x 0 from rfl,h1,Nat.zero_add],h2⟩
theorem Rl (B:eh p_ C b 0 ae Fin h) (hL:Lay C wl) (H:aQ A S vw vb vr va vt wl) (K:bN C A N0 h us L wl) (hT:aU A wl) {c:Int}
 (hc:∀aK g3,Lay C aK->aQ A S vw vb vr va vt aK->bN C A N0 h us L aK->aU A aK->aK.heap[g3]?=some (.cells #[.int .i64 c] 3 (0,0))->A.B<=g3->(∀v:M',v=vw\/v=vb\/v=vr\/v=va\/v=vt->v.ownBlock≠some g3)->
  ay p_ C b 0 ae Fin Post h (aY b N h L) aK (G ((base 122).at ⟨#[.pointer (some ⟨A.hb,0,none⟩),.int .i64 c,I',.pointer (some ⟨g3,0,none⟩),.string ⟨#[]⟩,I',I',I',I',I',I',I',I',I',I',I',I',I',I',I',I',I',I',I',I',I',I',I',I',I',I',I',I',I',I',I',I',I',I',I',I',I',I',I',I',I',I',I',I',I',I',I',I',I',I',I',I',I',I'],[]⟩ [.code (az 1 bC)]) (aI.at aS (.inRegion av (aN::sg)::aV)::cs))):
 ay p_ C b 0 ae Fin Post h (aY b N h L) wl (G ((base 122).at ⟨#[.pointer (some ⟨A.hb,0,none⟩),.int .i64 c]++F_ 57 I',[]⟩ [.code bC]) (aI.at aS (.inRegion av (aN::sg)::aV)::cs)):=by
 have hS:=aH b N h L
 have ea:(#[.pointer (some ⟨A.hb,0,none⟩),.int .i64 c]++F_ 57 I':Array M')=#[.pointer (some ⟨A.hb,0,none⟩),.int .i64 c,I',I',I',I',I',I',I',I',I',I',I',I',I',I',I',I',I',I',I',I',I',I',I',I',I',I',I',I',I',I',I',I',I',I',I',I',I',I',I',I',I',I',I',I',I',I',I',I',I',I',I',I',I',I',I',I',I']:=by kernel_rfl
 rw [ea]
 have e1:bC=.seq (ai 0 bC) (az 1 bC):=by kernel_rfl
 rw [e1]
 refine B.s ?_
 generalize hX:[lN (az 1 bC)]=X0
 simp only [ai,bC,f122,A_]
 refine B.r ?_
 refine ay.op (ok:=il) B hS hL rfl rfl (by k_ne) (by kernel_rfl) (fun T d=>⟨.pointer (some ⟨wl.heap.size,0,none⟩),(wl.alloc (.cells #[.int .i64 c] 3)).re T d, ?_,fun hcut=>ay.re ?_ T d⟩)
 ·go_simp
  exact ⟨rfl,rfl⟩
 have du:Lay C (wl.alloc (.cells #[.int .i64 c] 3)):=⟨Cut.j8 hcut,hL.no⟩
 walk_nrm
 have H2:=H.alloc (.cells #[.int .i64 c] 3)
 have F2:Im A wl (wl.alloc (.cells #[.int .i64 c] 3)):=⟨(Fr.alloc (w:=wl) H.big _).size,(Fr.alloc (w:=wl) H.big _).block⟩
 have K2:=K.zt H F2
 have T2:=aU.zt hT H F2
 have hn:∀v:M',v=vw\/v=vb\/v=vr\/v=va\/v=vt->v.ownBlock≠some wl.heap.size:=by
  rintro v (rfl|rfl|rfl|rfl|rfl) e
  ·exact Nat.lt_irrefl _ (H.wait.lt _ e).2
  ·exact Nat.lt_irrefl _ (H.back.lt _ e).2
  ·exact Nat.lt_irrefl _ (H.recs.lt _ e).2
  ·exact Nat.lt_irrefl _ (H.log.lt _ e).2
  ·exact Nat.lt_irrefl _ (H.cg.lt _ e).2
 refine ay.op (ok:=il) B hS du rfl rfl (by k_ne) (by kernel_rfl) (fun T d=>⟨.string ⟨#[]⟩,(wl.alloc (.cells #[.int .i64 c] 3)).re T d, ?_,fun _=>ay.re ?_ T d⟩)
 ·go_simp
 walk_nrm
 refine B.e ?_
 subst hX
 exact hc _ _ du H2 K2 T2 (Z' wl _) H.big hn
theorem HK (B:eh p_ C b 0 ae Fin h) (hL:Lay C wl) (H:aQ A S vw vb vr va vt wl) (K:bN C A N0 h us L wl) (hT:aU A wl) {c:Int} (mS:wl.heap[g3]?=some (.cells #[.int .i64 c] 3 (0,0))) (oG:A.B<=g3) (kE:S.of c=none) (lW:S.back.length<=1000000)
 (hc:∀aK qS,Lay C aK->aQ A {S with back:=if Lib.idxOf S.back c<0 then S.back else S.back.eraseIdx (Lib.idxOf S.back c).toNat} vw qS vr va vt aK->bN C A N0 h us L aK->aU A aK->
  ay p_ C b 0 ae Fin Post h (aY b N h L) aK (G (aI.at (aS.put ((av[aN]?).bind (·.dst)) (.string ⟨(if Lib.idxOf S.back c<0 then Da else JC).toArray⟩)) (.inRegion av sg::aV)) cs)):
 ay p_ C b 0 ae Fin Post h (aY b N h L) wl (G ((base 122).at ⟨#[.pointer (some ⟨A.hb,0,none⟩),.int .i64 c,I',.pointer (some ⟨g3,0,none⟩),.string ⟨#[]⟩,I',I',I',I',I',I',I',I',I',I',I',I',I',I',I',I',I',I',I',I',I',I',I',I',I',I',I',I',I',I',I',I',I',I',I',I',I',I',I',I',I',I',I',I',I',I',I',I',I',I',I',I',I',I'],[]⟩ [.code (az 1 bC)]) (aI.at aS (.inRegion av (aN::sg)::aV)::cs)):=by
 have hS:=aH b N h L
 have e1:az 1 bC=.seq (ai 1 bC) (az 2 bC):=by kernel_rfl
 rw [e1]
 refine B.s ?_
 refine B.p (fun T d Bh hB=> ?_)
 obtain ⟨W,hW⟩:∃W,f_ (W=wl.re T d):=⟨_,aa rfl⟩
 rw [<-hW.out]
 have H0:=aa (H.heap (w':=W) (by rw [hW.out];rfl))
 have K0:f_ (bN C A N0 h us L W):=by rw [hW.out];exact ⟨K.len,K.small,K.live,K.n0,K.ap,K.fo,K.kM,K.cells⟩
 have T0:f_ (aU A W):=by rw [hW.out];exact hT
 have ir:=aa hc
 have hno:=aa hL.no
 obtain ⟨ab,cb,K8⟩:=aE H.back
 have c5:W.drew.cell? ⟨A.hb,5,none⟩=some (.map (some A.m2)):=H0.out.c.2.2.1
 have c3:W.drew.cell? ⟨g3,0,none⟩=some (.int .i64 c):=by rw [hW.out];show wl.cell? _=_;rw [cV mS];rfl
 have Sy:Sem.run p_ (Instr.lookup 72 (Value.map (some A.m2)) (ah IntKind.i64 c) false) W.drew=.ok (.chan none) W.drew:=by
  have:=(H0.out.of.heap (w':=W.drew) rfl).lookup pe Tryz.underlying72 c (z:=.chan none) (fun w=>qQ w) false
  rw [kE] at this;exact this
 have hq:(binOp .eql 78 (.chan none) (.chan none)).run p_ W.drew=.ok (.bool true) W.drew:=De Tryz.underlying78 none
 clear hL H K hT hc mS
 simp only [ai,bC,f122,A_]
 go_wp2_with fail
 go_region
 go_wp2_with fail
 obtain ⟨V,hV⟩:∃V,f_ (V=W.drew):=⟨_,aa rfl⟩
 have H1:=aa (H0.out.heap (w':=V.drew) (by rw [hV.out];rfl))
 have K1:f_ (bN C A N0 h us L V.drew):=by rw [hV.out];exact ⟨K0.out.len,K0.out.small,K0.out.live,K0.out.n0,K0.out.ap,K0.out.fo,K0.out.kM,K0.out.cells⟩
 have T1:f_ (aU A V.drew):=by rw [hV.out];exact T0.out
 have c3':V.drew.cell? ⟨g3,0,none⟩=some (.int .i64 c):=by rw [hV.out];exact c3
 have c8:V.drew.cell? ⟨A.hb,8,none⟩=some vb:=H1.out.c.2.2.2.2.2.1
 have sY:=aa (Hz (w:=V.drew) H1.out.back lW c)
 clear c5 c3 Sy hq H0 K0 T0
 rw [K8] at c8 sY
 have Z0:V.drew.cell? ⟨A.hb,8,none⟩=some (.slice ab S.back.length cb)/\V.drew.cell? ⟨g3,0,none⟩=some (.int .i64 c):=⟨c8,c3'⟩
 rw [<-hV.out]
 go_region_held3 (fun w₁=>w₁.cell? ⟨A.hb,8,none⟩=some (.slice ab S.back.length cb)/\w₁.cell? ⟨g3,0,none⟩=some (.int .i64 c))
  (first|with_reducible exact Z0|go_keep)
  ((go_at_call 132;(with_reducible refine sY.out.mono ?_);rintro e w5 ⟨rfl,rfl⟩))
 rcases uE S.back c with ⟨hi,_⟩|⟨k,hk,hi,_,_⟩
 ·rw [hi] at ir ⊢
  have hlt:((-1:Int)<0)=True:=by simp
  rw [if_pos (by decide:(-1:Int)<0)] at ir
  go_wp2_with fail
  subst hB
  intro hcut todo
  have jv:Lay C V.drew:=⟨hcut,hno.out⟩
  refine ay.ctl B hS jv rfl (fun _=>aZ rfl rfl func122 rfl) ?_
  exact ir.out V.drew _ jv (H1.out) K1.out T1.out
 ·rw [hi] at ir ⊢
  have hnn:¬((k:Int)<0):=by omega
  rw [if_neg hnn,if_neg hnn,Int.toNat_natCast] at ir
  have hlt:((k:Int)<0)=False:=by simp
  obtain ⟨g,cap,cur,ev,_⟩:=cz H1.out.back (by omega)
  have bR:=H1.out.back
  rw [ev] at bR
  have KN:ab=some ⟨g,0,none⟩/\cb=cap:=by rw [K8] at ev;injection ev with e1 e2 e3;exact ⟨e1,e3⟩
  obtain ⟨rfl,rfl⟩:=KN
  have oJ:IntKind.i64.wrap ((k:Int)+1)=((k+1:Nat):Int):=by rw [IntWalk.i64_in _ (by omega)];rfl
  have CU:=aa (Gt bR (i:=k) hk)
  have VO:=c8
  clear bR sY Z0 c3'
  replace hS:=aa hS
  generalize V.drew=V2 at *
  go_wp2_with fail
  refine CU.out.mono ?_
  rintro e w2 ⟨rfl,ho,hg⟩
  have Mf:vb.ownBlock=some g:=by rw [ev];rfl
  have hgB:=(H1.out.back.lt g Mf).1
  have Ba:=H1.out.ok.hb
  have hne:some A.hb≠some g:=fun e=>by injection e with e;omega
  have c8b:=hg.cell (a:=⟨A.hb,8,none⟩) VO hne
  have f8b:w2.frozen? ⟨A.hb,8,none⟩=false:=(m_ (hg.block A.hb (E_ Ba H1.out.big) hne)).trans (H1.out.z 8)
  have Nv:(S.back.eraseIdx k).length=S.back.length - 1:=by rw [List.length_eraseIdx];simp [hk]
  rw [Nv] at ho
  have hp:=aa (H1.out.FG (v:=.slice (some ⟨g,0,none⟩) (S.back.length - 1) cb) (ks:=S.back.eraseIdx k) (by rw [Mf];exact hg) (by rw [Mf];rfl) (by rw [Nv];exact ho))
  clear hg ho CU VO c8
  go_wp2_with fail
  subst hB
  intro hcut todo
  generalize w2.setCell ⟨A.hb,8,none⟩ (.slice (some ⟨g,0,none⟩) (S.back.length - 1) cb)=w3 at *
  have gA:Lay C w3:=⟨hcut,hno.out⟩
  refine ay.ctl B hS.out gA rfl (fun _=>aZ rfl rfl func122 rfl) ?_
  exact ir.out w3 _ gA hp.out.1 (K1.out.fr H1.out hp.out.2) (T1.out.fr H1.out hp.out.2)
noncomputable def X9:Code:=match az 2 (ai 2 bC) with| .cond _ a _=>a|_=>.skip
variable {x:Nat}
theorem KJ (B:eh p_ C b 0 ae Fin h) (hL:Lay C wl) (H:aQ A S vw vb vr va vt wl) (K:bN C A N0 h us L wl) (hT:aU A wl) {c:Int} (mS:wl.heap[g3]?=some (.cells #[.int .i64 c] 3 (0,0))) {r:Nat} (kE:S.of c=some x) (mj:S.rc c=some r) (hr:r<S.recs.length) (wi:S.recs.length<=100000) {op:Int} (hop:(S.recs[r]).op=op) {q:Bool} (hq:(op !=0)=q)
 (hc:∀aK (z2 z5 z7 z8 z9 dB cZ z12 de dn dm dk dj dA dz z20 z21 z22 z23 z24 z25 z26 dD z28 dC dM z31 dQ dK dP dO dV z37 ey ew eu eK eJ eI eH z46 eQ eN z49 en z51 iu z53 iF iE iD iC iB:M'),Lay C aK->aQ A S vw vb vr va vt aK->bN C A N0 h us L aK->aU A aK->aK.heap[g3]?=some (.cells #[.int .i64 c] 3 (0,0))->
  ay p_ C b 0 ae Fin Post h (aY b N h L) aK (G ((base 122).at ⟨#[.pointer (some ⟨A.hb,0,none⟩),.int .i64 c,z2,.pointer (some ⟨g3,0,none⟩),.string ⟨#[]⟩,z5,.int .i64 op,z7,z8,z9,dB,cZ,z12,de,dn,dm,dk,dj,dA,dz,z20,z21,z22,z23,z24,z25,z26,dD,z28,dC,dM,z31,dQ,dK,dP,dO,dV,z37,ey,ew,.bool q,eu,eK,eJ,eI,eH,z46,eQ,eN,z49,en,z51,iu,z53,iF,iE,iD,iC,iB],[]⟩ [.code (az 2 (ai 2 bC)),.code (az 3 bC)]) (aI.at aS (.inRegion av (aN::sg)::aV)::cs))):
 ay p_ C b 0 ae Fin Post h (aY b N h L) wl (G ((base 122).at ⟨#[.pointer (some ⟨A.hb,0,none⟩),.int .i64 c,I',.pointer (some ⟨g3,0,none⟩),.string ⟨#[]⟩,I',I',I',I',I',I',I',I',I',I',I',I',I',I',I',I',I',I',I',I',I',I',I',I',I',I',I',I',I',I',I',I',I',I',I',I',I',I',I',I',I',I',I',I',I',I',I',I',I',I',I',I',I',I'],[]⟩ [.code (az 1 bC)]) (aI.at aS (.inRegion av (aN::sg)::aV)::cs)):=by
 have hS:=aH b N h L
 have e1:az 1 bC=.seq (ai 1 bC) (.seq (.seq (ai 0 (ai 2 bC)) (.seq (ai 1 (ai 2 bC)) (az 2 (ai 2 bC)))) (az 3 bC)):=by kernel_rfl
 rw [e1]
 refine B.s ?_
 refine B.p (fun T d Bh hB=> ?_)
 obtain ⟨W,hW⟩:∃W,f_ (W=wl.re T d):=⟨_,aa rfl⟩
 rw [<-hW.out]
 have H0:=aa (H.heap (w':=W) (by rw [hW.out];rfl))
 have K0:f_ (bN C A N0 h us L W):=by rw [hW.out];exact ⟨K.len,K.small,K.live,K.n0,K.ap,K.fo,K.kM,K.cells⟩
 have T0:f_ (aU A W):=by rw [hW.out];exact hT
 have ir:=aa hc
 have hno:=aa hL.no
 have c5:W.drew.cell? ⟨A.hb,5,none⟩=some (.map (some A.m2)):=H0.out.c.2.2.1
 have mS:f_ (W.heap[g3]?=some (.cells #[.int .i64 c] 3 (0,0))):=by rw [hW.out];exact mS
 have c3:W.drew.cell? ⟨g3,0,none⟩=some (.int .i64 c):=by show W.cell? _=_;rw [cV mS.out];rfl
 have Sy:Sem.run p_ (Instr.lookup 72 (Value.map (some A.m2)) (ah IntKind.i64 c) false) W.drew=.ok (.chan (some x)) W.drew:=by
  have:=(H0.out.of.heap (w':=W.drew) rfl).lookup pe Tryz.underlying72 c (z:=.chan none) (fun w=>qQ w) false
  rw [kE] at this;exact this
 have Uf:(binOp .eql 78 (.chan (some x)) (.chan none)).run p_ W.drew=.ok (.bool false) W.drew:=De Tryz.underlying78 (some x)
 clear hL H K hT hc
 simp only [ai,bC,f122,A_]
 go_wp2_with fail
 go_region
 go_wp2_with fail
 have H1:=aa (H0.out.heap (w':=W.drew) rfl)
 have K1:f_ (bN C A N0 h us L W.drew):=⟨K0.out.len,K0.out.small,K0.out.live,K0.out.n0,K0.out.ap,K0.out.fo,K0.out.kM,K0.out.cells⟩
 have T1:f_ (aU A W.drew):=T0.out
 have mS:f_ (W.drew.heap[g3]?=some (.cells #[.int .i64 c] 3 (0,0))):=mS
 clear c5 Sy Uf H0 K0 T0
 subst hB
 intro hcut
 generalize W.drew=V at *
 have nU:Lay C V:=⟨hcut,hno.out⟩
 clear hcut c3
 iterate 2 refine B.n ?_
 refine B.p (fun T d Bh hB=> ?_)
 obtain ⟨W2,Dz⟩:∃W2,f_ (W2=V.re T d):=⟨_,aa rfl⟩
 rw [<-Dz.out]
 have H0:=aa (H1.out.heap (w':=W2) (by rw [Dz.out];rfl))
 have K0:f_ (bN C A N0 h us L W2):=by rw [Dz.out];exact ⟨K1.out.len,K1.out.small,K1.out.live,K1.out.n0,K1.out.ap,K1.out.fo,K1.out.kM,K1.out.cells⟩
 have T0:f_ (aU A W2):=by rw [Dz.out];exact T1.out
 have mS:f_ (W2.heap[g3]?=some (.cells #[.int .i64 c] 3 (0,0))):=by rw [Dz.out];exact mS.out
 have c3:W2.cell? ⟨g3,0,none⟩=some (.int .i64 c):=by rw [cV mS.out];rfl
 obtain ⟨g,cap,cur,ev,_⟩:=cz H0.out.recs (Nat.lt_of_le_of_lt (nz _) hr)
 have Ws:=aa (jL H0.out mj hr ev wi)
 have ev:=aa ev
 clear nU H1 K1 T1
 simp only [ai,bC,f122,A_]
 go_wp2_with fail
 refine Ws.out.mono ?_
 rintro e w3 ⟨rfl,hh,F3⟩
 have H3:=aa (H0.out.heap hh)
 have K3:=aa (K0.out.fr H0.out F3)
 have T3:=aa (T0.out.fr H0.out F3)
 have mS:f_ (w3.heap[g3]?=some (.cells #[.int .i64 c] 3 (0,0))):=by rw [hh];exact mS.out
 obtain ⟨x1,x2⟩:=H3.out.pQ ev.out hr (k:=2) (by decide)
 replace x1:w3.cell? ⟨g,r * 7+2,none⟩=some (.int .i64 op):=by rw [<-hop];exact x1
 clear hh F3 H0 K0 T0 Ws c3
 go_wp2_with fail
 subst hB
 intro hcut
 have gA:Lay C w3:=⟨hcut,hno.out⟩
 clear hcut x1 x2
 refine B.s ?_
 refine B.p (fun T d Bh hB=> ?_)
 simp only [ai,bC,f122,A_]
 subst hq
 go_wp2_with fail
 subst hB
 intro hcut
 clear hcut
 refine ay.re (wl:=w3) ?_ T d
 exact ir.out w3 _ _ _ _ _ _ _ _ _ _ _ _ _ _ _ _ _ _ _ _ _ _ _ _ _ _ _ _ _ _ _ _ _ _ _ _ _ _ _ _ _ _ _ _ _ _ _ _ _ _ _ _ _ gA H3.out K3.out T3.out mS.out
variable {z2 z5 z7 z8 z9 dB cZ de dn dm dk dj dA dz dD dC dM dQ dK dP dO dV ey ew eu eK eJ eI eH eQ eN en iu iF iE iD iC iB:M'}
theorem HM (B:eh p_ C b 0 ae Fin h) (hL:Lay C wl) (H:aQ A S vw vb vr va vt wl) (K:bN C A N0 h us L wl) (hT:aU A wl) {c:Int} (mS:wl.heap[g3]?=some (.cells #[.int .i64 c] 3 (0,0))) {r:Nat} (kE:S.of c=some x) (mj:S.rc c=some r) (hr:r<S.recs.length) (wi:S.recs.length<=100000) (hi:i<us.length) {op:Int} (hop:((i+1:Nat):Int)=op) {q:Bool} (hq:q=true) {z12 z20 z21 z22 z23 z24 z25 z26 z28 z31 z37 z46 z49 z51 z53:M'}
 (hc:∀aK L',Lay C aK->aQ A (uk S c x r S.recs[r] iy) vw vb vr va vt aK->bN C A N0 h (told us i 1 0) L' aK->aU A aK->
  ay p_ C b 0 ae Fin Post h (aY b N h L') aK (G (aI.at (aS.put ((av[aN]?).bind (·.dst)) (.string ⟨iy.toArray⟩)) (.inRegion av sg::aV)) cs)):
 ay p_ C b 0 ae Fin Post h (aY b N h L) wl (G ((base 122).at ⟨#[.pointer (some ⟨A.hb,0,none⟩),.int .i64 c,z2,.pointer (some ⟨g3,0,none⟩),.string ⟨#[]⟩,z5,.int .i64 op,z7,z8,z9,dB,cZ,z12,de,dn,dm,dk,dj,dA,dz,z20,z21,z22,z23,z24,z25,z26,dD,z28,dC,dM,z31,dQ,dK,dP,dO,dV,z37,ey,ew,.bool q,eu,eK,eJ,eI,eH,z46,eQ,eN,z49,en,z51,iu,z53,iF,iE,iD,iC,iB],[]⟩ [.code (az 2 (ai 2 bC)),.code (az 3 bC)]) (aI.at aS (.inRegion av (aN::sg)::aV)::cs)):=by
 have hS:=aH b N h L
 subst hq
 have e1:az 2 (ai 2 bC)=.cond (.tmp 40) X9 .skip:=by kernel_rfl
 have e2:X9=.seq (ai 0 X9) (az 1 X9):=by kernel_rfl
 rw [e1]
 refine B.c rfl ?_
 rw [e2]
 refine B.s ?_
 generalize hY:[lN (az 1 X9),lN (az 3 bC)]=Y0
 simp only [X9,ai,az,bC,f122,A_]
 iterate 3 refine B.n ?_
 refine ay.ctl B hS hL rfl (fun _=>bY (vs:=#[.pointer (some ⟨A.hb,0,none⟩),.int .i64 op,.int .i64 1,.int .i64 0]) rfl rfl (by k_ne) rfl func101 rfl rfl (by kernel_rfl)) ?_
 rw [pB]
 subst hop
 refine RZ B hL H K hi fun w2 du H2 K2 yL=> ?_
 have T2:=hT.pf yL (K.kM (N0+i) us[i] (K.n0 i hi).1 (by rw [K.live i hi];rfl)).1
 have g2:w2.heap[g3]?=some (.cells #[.int .i64 c] 3 (0,0)):=by
  have hx:=(K.kM (N0+i) us[i] (K.n0 i hi).1 (by rw [K.live i hi];rfl)).1
  obtain ⟨kk,hx⟩:=hx
  exact yL.blk _ _ mS (fun e=>by rw [e,hx] at mS;cases mS)
 simp only [if_true] at K2 ⊢
 have uh:=aH b N h (upd L (N0+i) (.live ⟨us[i].bt,us[i].x,0⟩))
 walk_nrm
 refine B.e ?_
 subst hY
 generalize Mc:((i+1:Nat):Int)=iv at *
 refine ay.code (ok:=il) B pA uh du (AB (by kernel_rfl) rfl rfl ⟨_,func122⟩) ?_
 intro T d
 generalize hB:iM p_ C b 0 ae Fin Post h (aY b N h (upd L (N0+i) (.live ⟨us[i].bt,us[i].x,0⟩))) _ _ _=Bh
 replace hB:=aa hB
 have H0:=aa (H2.heap (w':=w2.re T d) rfl)
 have K0:f_ (bN C A N0 h (told us i 1 0) (upd L (N0+i) (.live ⟨us[i].bt,us[i].x,0⟩)) (w2.re T d)):=⟨K2.len,K2.small,K2.live,K2.n0,K2.ap,K2.fo,K2.kM,K2.cells⟩
 have T0:f_ (aU A (w2.re T d)):=T2
 have c3:(w2.re T d).cell? ⟨g3,0,none⟩=some (.int .i64 c):=by show w2.cell? _=_;rw [cV g2];rfl
 have rq:=aa (um H0.out kE mj hr wi (q:=iy) (Fr.refl A (w2.re T d)))
 have hno:=aa hL.no
 replace uh:=aa uh
 have ir:=aa hc
 clear hL du H H2 K K2 hT T2 yL hS hc
 generalize w2.re T d=w3 at *
 simp only [X9,ai,az,bC,f122,A_]
 go_wp2_with fail
 refine rq.out.mono ?_
 rintro e w4 ⟨rfl,H4,F4,_⟩
 have K4:=aa (K0.out.fr H0.out F4)
 have T4:=aa (T0.out.fr H0.out F4)
 have H4:=aa H4
 clear F4 rq c3
 go_wp2_with fail
 subst hB
 intro hcut todo
 have jv:Lay C w4:=⟨hcut,hno.out⟩
 refine ay.ctl B uh.out jv rfl (fun _=>aZ rfl rfl func122 rfl) ?_
 exact ir.out w4 _ jv H4.out K4.out T4.out
theorem HL (B:eh p_ C b 0 ae Fin h) (hL:Lay C wl) (H:aQ A S vw vb vr va vt wl) (K:bN C A N0 h us L wl) (hT:aU A wl) {c:Int} (mS:wl.heap[g3]?=some (.cells #[.int .i64 c] 3 (0,0))) (oG:A.B<=g3) (OM:vw.ownBlock≠some g3) (hnr:vr.ownBlock≠some g3) {r:Nat} (kE:S.of c=some x) (mj:S.rc c=some r) (hr:r<S.recs.length) (wi:S.recs.length<=100000) (AQ:S.wait.length<=1000000) {op:Int} {q:Bool} (hq:q=false) {z12 z20 z21 z22 z23 z24 z25 z26 z28 z31 z37 z46 z49 z51 z53:M'}
 (hc:∀aK jA,Lay C aK->aQ A {uk S c x r S.recs[r] ie with wait:=aJ S.wait c} jA vb vr va vt aK->bN C A N0 h us L aK->aU A aK->
  ay p_ C b 0 ae Fin Post h (aY b N h L) aK (G (aI.at (aS.put ((av[aN]?).bind (·.dst)) (.string ⟨ie.toArray⟩)) (.inRegion av sg::aV)) cs)):
 ay p_ C b 0 ae Fin Post h (aY b N h L) wl (G ((base 122).at ⟨#[.pointer (some ⟨A.hb,0,none⟩),.int .i64 c,z2,.pointer (some ⟨g3,0,none⟩),.string ⟨#[]⟩,z5,.int .i64 op,z7,z8,z9,dB,cZ,z12,de,dn,dm,dk,dj,dA,dz,z20,z21,z22,z23,z24,z25,z26,dD,z28,dC,dM,z31,dQ,dK,dP,dO,dV,z37,ey,ew,.bool q,eu,eK,eJ,eI,eH,z46,eQ,eN,z49,en,z51,iu,z53,iF,iE,iD,iC,iB],[]⟩ [.code (az 2 (ai 2 bC)),.code (az 3 bC)]) (aI.at aS (.inRegion av (aN::sg)::aV)::cs)):=by
 have hS:=aH b N h L
 subst hq
 have e1:az 2 (ai 2 bC)=.cond (.tmp 40) X9 .skip:=by kernel_rfl
 have e2:az 3 bC=.seq (ai 3 bC) (.seq (ai 4 bC) (az 5 bC)):=by kernel_rfl
 rw [e1]
 refine B.c rfl ?_
 refine ay.ctl B hS hL rfl (fun _=>stepG_skip) ?_
 rw [e2]
 refine B.s ?_
 refine B.p (fun T d Bh hB=> ?_)
 have H0:=aa (H.heap (w':=wl.re T d) rfl)
 have K0:f_ (bN C A N0 h us L (wl.re T d)):=⟨K.len,K.small,K.live,K.n0,K.ap,K.fo,K.kM,K.cells⟩
 have T0:f_ (aU A (wl.re T d)):=hT
 have c3:(wl.re T d).cell? ⟨g3,0,none⟩=some (.int .i64 c):=by show wl.cell? _=_;rw [cV mS];rfl
 have g0:f_ ((wl.re T d).heap[g3]?=some (.cells #[.int .i64 c] 3 (0,0))):=mS
 have rq:=aa (um H0.out kE mj hr wi (q:=ie) (Fr.refl A (wl.re T d)))
 have hno:=aa hL.no
 have ir:=aa hc
 clear hL H K hT hc mS
 generalize wl.re T d=w3 at *
 simp only [ai,bC,f122,A_]
 go_wp2_with fail
 refine rq.out.mono ?_
 rintro e w4 ⟨rfl,H4,F4,A4⟩
 have K4:=K0.out.fr H0.out F4
 have T4:=T0.out.fr H0.out F4
 have g4:w4.heap[g3]?=some (.cells #[.int .i64 c] 3 (0,0)):=by
  have o1:=H4.ok.hb
  have o2:=H4.ok.m1
  have o3:=H4.ok.m2
  have o4:=H4.ok.m3
  rw [A4.block g3 (cI g0.out) (by omega) (by omega) (by omega) (by omega) (fun e=>hnr e.symm)];exact g0.out
 have H4H:=aa H4
 have K4H:=aa K4
 have T4H:=aa T4
 have g4H:=aa g4
 clear F4 A4 rq c3 H4 K4 T4 g4 H0 K0 T0 g0
 go_wp2_with fail
 subst hB
 intro hcut
 have qv:Lay C w4:=⟨hcut,hno.out⟩
 have H4:=H4H.out
 have K4:=K4H.out
 have T4:=T4H.out
 have g4:=g4H.out
 refine B.s ?_
 generalize hY:[lN (az 5 bC)]=Y0
 simp only [ai,bC,f122,A_]
 iterate 5 refine B.n ?_
 refine B.o vw (fun T d=> ?_) ?_
 ·have h0:(w4.re T d).cell? ⟨A.hb,7,none⟩=some vw:=H4.c.2.2.2.2.1
  go_simp
 walk_nrm
 refine B.n ?_
 refine ay.ctl B hS qv rfl (fun _=>bY (vs:=#[vw,.func (.func 137) #[] #[.pointer (some ⟨g3,0,none⟩)]]) rfl rfl (by k_ne) rfl func136 rfl rfl (by kernel_rfl)) ?_
 rw [Lc]
 have fz:∀g,vw.ownBlock=some g->A.B<=g/\g<w4.heap.size:=fun g e=>H4.wait.lt g e
 refine NP B qv (B0:=A.B) (ws:=S.wait) (v:=vw) (c:=c) (g3:=g3) H4.wait (by rw [cV g4];rfl) OM AQ fun w5 v5 qu WO Nd=> ?_
 obtain ⟨a5,q5,zA⟩:=aE Nd
 replace zA:=aa zA
 have hp:=H4.Af (w':=w5.re w4.tape w5.drawn) (v:=v5) (ws:=aJ S.wait c) WO.W6 Nd
 have F6:Im A w4 (w5.setCell ⟨A.hb,7,none⟩ v5):=⟨hp.2.size,fun i h1 h2 h3 h4 h5=>hp.2.block i h1 h2 h3 h4 h5⟩
 have c7:∀T d,(w5.re T d).cell? ⟨A.hb,7,none⟩=some vw:=fun _ _=>(J_ (WO.block A.hb (E_ H4.ok.hb H4.big) (fun e=>by have:=(fz _ e.symm).1;have:=H4.ok.hb;omega))).trans H4.c.2.2.2.2.1
 have z7:∀T d,(w5.re T d).frozen? ⟨A.hb,7,none⟩=false:=fun _ _=>(m_ (WO.block A.hb (E_ H4.ok.hb H4.big) (fun e=>by have:=(fz _ e.symm).1;have:=H4.ok.hb;omega))).trans (H4.z 7)
 walk_nrm
 iterate 2 refine B.n ?_
 refine ay.Wh (ok:=il) B hS qu rfl rfl (by k_ne) (by kernel_rfl) (fun T d=>⟨(w5.setCell ⟨A.hb,7,none⟩ v5).re T d, ?_,fun hcut=>ay.re ?_ T d⟩)
 ·have h7:=c7 T d
  have f7:=z7 T d
  rw [zA.out]
  go_simp
  exact nE _ _ _ _ _
 have Iz:Lay C (w5.setCell ⟨A.hb,7,none⟩ v5):=⟨Cut.j8 hcut,qu.no⟩
 walk_nrm
 refine B.e ?_
 have K6:bN C A N0 h us L (w5.setCell ⟨A.hb,7,none⟩ v5):=K4.zt H4 F6
 have T6:aU A (w5.setCell ⟨A.hb,7,none⟩ v5):=aU.zt T4 H4 F6
 have H6:aQ A {uk S c x r S.recs[r] ie with wait:=aJ S.wait c} v5 vb vr va vt (w5.setCell ⟨A.hb,7,none⟩ v5):=hp.1.heap rfl
 clear zA hp F6 c7 z7 WO Nd qu qv H4 K4 T4 g4 fz H4H K4H T4H g4H hcut
 generalize w5.setCell ⟨A.hb,7,none⟩ v5=w6 at *
 subst hY
 refine B.p (fun T d Bh hB=> ?_)
 have ZH:=ir
 have Pe:=aa K6
 have T6H:=aa T6
 have H6H:=aa H6
 clear K6 T6 H6 ir
 simp only [az,bC,f122,A_]
 go_wp2_with fail
 subst hB
 intro hcut todo
 have jv:Lay C (w6.re T d):=⟨hcut,hno.out⟩
 refine ay.ctl B hS jv rfl (fun _=>aZ rfl rfl func122 rfl) ?_
 exact ZH.out _ _ jv (H6H.out.heap rfl) ⟨Pe.out.len,Pe.out.small,Pe.out.live,Pe.out.n0,Pe.out.ap,Pe.out.fo,Pe.out.kM,Pe.out.cells⟩ T6H.out
def ou (S:Hs) (us:List Od) (c:Int):Hs × List Od × Bs:=
 match S.of c with
 |none=>({S with back:=if Lib.idxOf S.back c<0 then S.back else S.back.eraseIdx (Lib.idxOf S.back c).toNat},us,if Lib.idxOf S.back c<0 then Da else JC)
 |some x=>match S.rc c with
  |none=>(S,us,[])
  |some r=>match S.recs[r]? with
   |none=>(S,us,[])
   |some R=>if R.op≠0 then (uk S c x r R iy,told us (R.op.toNat - 1) 1 0,iy) else ({uk S c x r R ie with wait:=aJ S.wait c},us,ie)
structure Fq (S:Hs) (us:List Od):Prop where
 recs:S.recs.length<=90000
 back:S.back.length<=1000000
 wait:S.wait.length<=1000000
 has:∀c x,S.of c=some x->∃r,∃hr:r<S.recs.length,S.rc c=some r/\((S.recs[r]).op=0\/∃i,i<us.length/\(S.recs[r]).op=((i+1:Nat):Int))
theorem hang (B:eh p_ C b 0 ae Fin h) (hL:Lay C wl) (H:cQ A va vt S wl) (K:bN C A N0 h us L wl) (hT:aU A wl) {c:Int} (cK:Fq S us)
 (hc:Behind C b N N0 h A va vt ae Fin Post aI aS av aN sg aV cs (ou S us c)):
 ay p_ C b 0 ae Fin Post h (aY b N h L) wl (G ((base 122).at ⟨#[.pointer (some ⟨A.hb,0,none⟩),.int .i64 c]++F_ 57 I',[]⟩ [.code bC]) (aI.at aS (.inRegion av (aN::sg)::aV)::cs)):=by
 obtain ⟨vw,vb,vr,H⟩:=H
 refine Rl B hL H K hT fun w2 g3 du H2 K2 T2 mS oG hn=> ?_
 cases kE:S.of c with
 |none=>
  have hR:ou S us c=({S with back:=if Lib.idxOf S.back c<0 then S.back else S.back.eraseIdx (Lib.idxOf S.back c).toNat},us,if Lib.idxOf S.back c<0 then Da else JC):=by unfold ou;rw [kE]
  rw [hR] at hc
  exact HK B du H2 K2 T2 mS oG kE cK.back fun aK qS fJ H' K' T'=>hc aK L fJ ⟨_,_,_,H'⟩ K' T'
 |some x=>
  obtain ⟨r,hr,mj,hop⟩:=cK.has c x kE
  have wi:S.recs.length<=100000:=by have:=cK.recs;omega
  by_cases h0:(S.recs[r]).op=0
  ·have hR:ou S us c=({uk S c x r S.recs[r] ie with wait:=aJ S.wait c},us,ie):=by
    unfold ou
    simp only [kE,mj,G_ hr,h0,ne_eq,not_true_eq_false,if_false]
   rw [hR] at hc
   exact KJ B du H2 K2 T2 mS kE mj hr wi rfl rfl fun w3 z2 z5 z7 z8 z9 dB cZ z12 de dn dm dk dj dA dz z20 z21 z22 z23 z24 z25 z26 dD z28 dC dM z31 dQ dK dP dO dV z37 ey ew eu eK eJ eI eH z46 eQ eN z49 en z51 iu z53 iF iE iD iC iB gA H3 K3 T3 g4=>HL B gA H3 K3 T3 g4 oG (hn vw (.inl rfl)) (hn vr (.inr (.inr (.inl rfl)))) kE mj hr wi cK.wait (by rw [h0];rfl) fun aK jA fJ H' K' T'=>hc aK L fJ ⟨_,_,_,H'⟩ K' T'
  ·obtain ⟨i,hi,hop⟩:=hop.resolve_left h0
   have hR:ou S us c=(uk S c x r S.recs[r] iy,told us i 1 0,iy):=by
    unfold ou
    simp only [kE,mj,G_ hr,ne_eq,h0,not_false_eq_true,if_true]
    rw [hop,Int.toNat_natCast,Nat.add_sub_cancel]
   rw [hR] at hc
   exact KJ B du H2 K2 T2 mS kE mj hr wi rfl rfl fun w3 z2 z5 z7 z8 z9 dB cZ z12 de dn dm dk dj dA dz z20 z21 z22 z23 z24 z25 z26 dD z28 dC dM z31 dQ dK dP dO dV z37 ey ew eu eK eJ eI eH z46 eQ eN z49 en z51 iu z53 iF iE iD iC iB gA H3 K3 T3 g4=>HM B gA H3 K3 T3 g4 kE mj hr wi hi hop.symm (by simp [h0]) fun aK L' fJ H' K' T'=>hc aK L' fJ ⟨_,_,_,H'⟩ K' T'
noncomputable def cd:Code:=f100.body.getD .skip
noncomputable def sR:Code:=match ai 1 cd with| .seq _ (.block _ c)=>c|_=>.skip
theorem Lh {p q r:M'}:fZ p_ 121 #[p,q,r] .normal=(base 121).at ⟨#[p,q,r]++F_ 77 I',[]⟩ [.code bF]:=by kernel_rfl
theorem Lg {p q:M'}:fZ p_ 122 #[p,q] .normal=(base 122).at ⟨#[p,q]++F_ 57 I',[]⟩ [.code bC]:=by kernel_rfl
theorem Lf {p q:M'}:fZ p_ 123 #[p,q] .normal=(base 123).at ⟨#[p,q]++F_ 33 I',[]⟩ [.code cD]:=by kernel_rfl
theorem Le {p q:M'}:fZ p_ 124 #[p,q] .normal=(base 124).at ⟨#[p,q]++F_ 41 I',[]⟩ [.code cy]:=by kernel_rfl
theorem Li {p q:M'}:fZ p_ 100 #[p,q] .normal=(base 100).at ⟨#[p,q]++F_ 35 I',[]⟩ [.code cd]:=by kernel_rfl
inductive Ev where
 |ring (c pt:Int)
 |hang (c:Int)
 |answer (i:Nat)
 |back (i:Nat)
 |wait (n:Int)
def BM (k:ByteArray) (who word:Int):M':=.agg #[.string k,.int .i64 who,.int .i64 word]
def Ev.kind:Ev->ByteArray
 | .ring _ _=>⟨#[114,105,110,103]⟩
 | .hang _=>⟨#[104,97,110,103]⟩
 | .answer _=>⟨#[97,110,115,119,101,114]⟩
 | .back _=>⟨#[114,101,116,117,114,110]⟩
 | .wait _=>⟨#[119,97,105,116]⟩
def Ev.who:Ev->Int
 | .ring c _=>c
 | .hang c=>c
 | .answer i=>((i+1:Nat):Int)
 | .back i=>((i+1:Nat):Int)
 | .wait n=>n
def Ev.word:Ev->Int
 | .ring _ pt=>pt
 |_=>0
def Ev.val (e:Ev):M':=BM e.kind e.who e.word
def Ev.ok (m:Nat):Ev->Prop
 | .ring c _=>0<=c/\c<=1000000
 | .hang _=>True
 | .answer i=>i<m
 | .back i=>i<m
 | .wait n=>0<=n/\n<=1000000
def gZ (P:Int) (S:Hs) (us:List Od):Ev->Hs × List Od × Bs
 | .ring c pt=>oe S us c pt
 | .hang c=>ou S us c
 | .answer i=>og S us i
 | .back i=>lY S us i
 | .wait n=>((waited P S n).1,us,(waited P S n).2)
structure BA (S:Hs) (us:List Od):Prop where
 ring:Fo S
 hang:Fq S us
 wait:rC S
 call:Ft S
 c0:0<=S.clock
 c1:S.clock<=1000000
theorem sE (B:eh p_ C b 0 ae Fin h) (hL:Lay C wl) (H:cQ A va vt S wl) (K:bN C A N0 h us L wl) (hT:aU A wl) {kd:Array UInt8} {c:Int} (hc:∀w2 g3,Lay C w2->cQ A va vt S w2->bN C A N0 h us L w2->aU A w2->(∀T d,(w2.re T d).cell? ⟨g3,0,none⟩=some (.string ⟨kd⟩))->(∀T d,(w2.re T d).cell? ⟨g3,1,none⟩=some (.int .i64 c))->(∀T d,(w2.re T d).cell? ⟨g3,2,none⟩=some (.int .i64 pt))->ay p_ C b 0 ae Fin Post h (aY b N h L) w2 (G ((base 100).at ⟨#[.pointer (some ⟨A.hb,0,none⟩),.agg #[.string ⟨kd⟩,.int .i64 c,.int .i64 pt],I',.pointer (some ⟨g3,0,none⟩),.string ⟨#[]⟩,.pointer (some ⟨g3,0,none⟩),.string ⟨kd⟩,I',I',I',I',I',I',I',I',I',I',I',I',I',I',I',I',I',I',I',I',I',I',I',I',I',I',I',I',I',I'],[]⟩ (.code sR::.inBlock 0::[.code (az 2 cd)])) (aI.at aS (.inRegion av (aN::sg)::aV)::cs))):
 ay p_ C b 0 ae Fin Post h (aY b N h L) wl (G ((base 100).at ⟨#[.pointer (some ⟨A.hb,0,none⟩),BM ⟨kd⟩ c pt]++F_ 35 I',[]⟩ [.code cd]) (aI.at aS (.inRegion av (aN::sg)::aV)::cs)):=by
 have hS:=aH b N h L
 obtain ⟨vw,vb,vr,H⟩:=H
 have ea:(#[.pointer (some ⟨A.hb,0,none⟩),BM ⟨kd⟩ c pt]++F_ 35 I':Array M')=#[.pointer (some ⟨A.hb,0,none⟩),BM ⟨kd⟩ c pt,I',I',I',I',I',I',I',I',I',I',I',I',I',I',I',I',I',I',I',I',I',I',I',I',I',I',I',I',I',I',I',I',I',I',I']:=by kernel_rfl
 rw [ea]
 unfold BM
 have e1:cd=.seq (ai 0 cd) (.seq (.seq (ai 0 (ai 1 cd)) (.block 0 sR)) (az 2 cd)):=by kernel_rfl
 rw [e1]
 refine B.s ?_
 generalize hX:[lN (Code.seq (.seq (ai 0 (ai 1 cd)) (.block 0 sR)) (az 2 cd))]=X0
 simp only [ai,cd,f100,A_]
 refine B.r ?_
 refine ay.op (ok:=il) B hS hL rfl rfl (by k_ne) (by kernel_rfl) (fun T d=>⟨.pointer (some ⟨wl.heap.size,0,none⟩),(wl.alloc (.cells #[.string ⟨kd⟩,.int .i64 c,.int .i64 pt] 55)).re T d, ?_,fun hcut=>ay.re ?_ T d⟩)
 ·go_simp
  exact ⟨rfl,rfl⟩
 have du:Lay C (wl.alloc (.cells #[.string ⟨kd⟩,.int .i64 c,.int .i64 pt] 55)):=⟨Cut.j8 hcut,hL.no⟩
 walk_nrm
 have H2':=H.alloc (.cells #[.string ⟨kd⟩,.int .i64 c,.int .i64 pt] 55)
 have F2:Im A wl (wl.alloc (.cells #[.string ⟨kd⟩,.int .i64 c,.int .i64 pt] 55)):=⟨(Fr.alloc (w:=wl) H.big _).size,(Fr.alloc (w:=wl) H.big _).block⟩
 have K2:=K.zt H F2
 have T2:=aU.zt hT H F2
 have H2:cQ A va vt S (wl.alloc (.cells #[.string ⟨kd⟩,.int .i64 c,.int .i64 pt] 55)):=⟨_,_,_,H2'⟩
 have g0:∀T d,((wl.alloc (.cells #[.string ⟨kd⟩,.int .i64 c,.int .i64 pt] 55)).re T d).cell? ⟨wl.heap.size,0,none⟩=some (.string ⟨kd⟩):=fun _ _=>bJ (w:=wl) rfl
 have g1:∀T d,((wl.alloc (.cells #[.string ⟨kd⟩,.int .i64 c,.int .i64 pt] 55)).re T d).cell? ⟨wl.heap.size,1,none⟩=some (.int .i64 c):=fun _ _=>bJ (w:=wl) rfl
 have g2:∀T d,((wl.alloc (.cells #[.string ⟨kd⟩,.int .i64 c,.int .i64 pt] 55)).re T d).cell? ⟨wl.heap.size,2,none⟩=some (.int .i64 pt):=fun _ _=>bJ (w:=wl) rfl
 clear H2' F2 H K hT
 generalize wl.alloc (.cells #[.string ⟨kd⟩,.int .i64 c,.int .i64 pt] 55)=w2 at *
 generalize wl.heap.size=g3 at *
 iterate 2 refine B.n ?_
 subst hX
 iterate 2 refine B.n ?_
 generalize hX:[lN (Code.block 0 sR),lN (az 2 cd)]=X0
 simp only [ai,cd,f100,A_]
 iterate 2 refine B.n ?_
 refine B.o (.string ⟨kd⟩) (fun T d=> ?_) ?_
 ·have h0:=g0 T d
  go_simp
 walk_nrm
 refine B.e ?_
 subst hX
 refine ay.ctl B hS du rfl (fun _=>stepG_block) ?_
 exact hc w2 g3 du H2 K2 T2 g0 g1 g2
theorem C0 (B:eh p_ C b 0 ae Fin h) (hL:Lay C wl) (H:cQ A va vt S wl) (K:bN C A N0 h us L wl) (hT:aU A wl) {c:Int} (c0:0<=c) (c1:c<=1000000) (cK:Fo S)
 (hc:Behind C b N N0 h A va vt ae Fin Post aI aS av aN sg aV cs (oe S us c pt)):
 ay p_ C b 0 ae Fin Post h (aY b N h L) wl (G ((base 100).at ⟨#[.pointer (some ⟨A.hb,0,none⟩),BM ⟨#[114,105,110,103]⟩ c pt]++F_ 35 I',[]⟩ [.code cd]) (aI.at aS (.inRegion av (aN::sg)::aV)::cs)):=by
 have hS:=aH b N h L
 refine sE B hL H K hT fun w2 g3 du H2 K2 T2 g0 g1 g2=> ?_
 generalize hX:[Item.inBlock 0,lN (az 2 cd)]=X0
 simp only [sR,ai,cd,f100,A_]
 iterate 10 refine B.n ?_
 refine B.o (.int .i64 (c)) (fun T d=> ?_) ?_
 ·have h1:=g1 T d
  go_simp
 walk_nrm
 refine B.n ?_
 refine B.o (.int .i64 pt) (fun T d=> ?_) ?_
 ·have h2:=g2 T d
  go_simp
 walk_nrm
 refine ay.ctl B hS du rfl (fun _=>bY (vs:=#[.pointer (some ⟨A.hb,0,none⟩),.int .i64 (c),.int .i64 pt]) rfl rfl (by k_ne) rfl func121 rfl rfl (by kernel_rfl)) ?_
 rw [Lh]
 refine ring B du H2 K2 T2 c0 c1 cK fun w3 L3 gA H3 K3 T3=> ?_
 have zq:=aH b N h L3
 have hx:=hc w3 L3 gA H3 K3 T3
 clear hc H2 K2 T2
 generalize (oe S us c pt).2.2=ans at hx ⊢
 walk_nrm
 iterate 2 refine B.n ?_
 refine ay.ctl B zq gA rfl (fun _=>ma) ?_
 refine ay.ctl B zq gA rfl (fun _=>aZ rfl rfl func100 rfl) ?_
 exact hx
theorem Ψ (B:eh p_ C b 0 ae Fin h) (hL:Lay C wl) (H:cQ A va vt S wl) (K:bN C A N0 h us L wl) (hT:aU A wl) {c:Int} (cK:Fq S us)
 (hc:Behind C b N N0 h A va vt ae Fin Post aI aS av aN sg aV cs (ou S us c)):
 ay p_ C b 0 ae Fin Post h (aY b N h L) wl (G ((base 100).at ⟨#[.pointer (some ⟨A.hb,0,none⟩),BM ⟨#[104,97,110,103]⟩ c 0]++F_ 35 I',[]⟩ [.code cd]) (aI.at aS (.inRegion av (aN::sg)::aV)::cs)):=by
 have hS:=aH b N h L
 refine sE B hL H K hT fun w2 g3 du H2 K2 T2 g0 g1 g2=> ?_
 generalize hX:[Item.inBlock 0,lN (az 2 cd)]=X0
 simp only [sR,ai,cd,f100,A_]
 iterate 16 refine B.n ?_
 refine B.o (.int .i64 (c)) (fun T d=> ?_) ?_
 ·have h1:=g1 T d
  go_simp
 walk_nrm
 refine ay.ctl B hS du rfl (fun _=>bY (vs:=#[.pointer (some ⟨A.hb,0,none⟩),.int .i64 (c)]) rfl rfl (by k_ne) rfl func122 rfl rfl (by kernel_rfl)) ?_
 rw [Lg]
 refine hang B du H2 K2 T2 cK fun w3 L3 gA H3 K3 T3=> ?_
 have zq:=aH b N h L3
 have hx:=hc w3 L3 gA H3 K3 T3
 clear hc H2 K2 T2
 generalize (ou S us c).2.2=ans at hx ⊢
 walk_nrm
 iterate 2 refine B.n ?_
 refine ay.ctl B zq gA rfl (fun _=>ma) ?_
 refine ay.ctl B zq gA rfl (fun _=>aZ rfl rfl func100 rfl) ?_
 exact hx
theorem yO (B:eh p_ C b 0 ae Fin h) (hL:Lay C wl) (H:cQ A va vt S wl) (K:bN C A N0 h us L wl) (hT:aU A wl) (hi:i<us.length) (cK:rC S)
 (hc:Behind C b N N0 h A va vt ae Fin Post aI aS av aN sg aV cs (og S us i)):
 ay p_ C b 0 ae Fin Post h (aY b N h L) wl (G ((base 100).at ⟨#[.pointer (some ⟨A.hb,0,none⟩),BM ⟨#[97,110,115,119,101,114]⟩ ((i+1:Nat):Int) 0]++F_ 35 I',[]⟩ [.code cd]) (aI.at aS (.inRegion av (aN::sg)::aV)::cs)):=by
 have hS:=aH b N h L
 refine sE B hL H K hT fun w2 g3 du H2 K2 T2 g0 g1 g2=> ?_
 generalize hX:[Item.inBlock 0,lN (az 2 cd)]=X0
 simp only [sR,ai,cd,f100,A_]
 iterate 22 refine B.n ?_
 refine B.o (.int .i64 (((i+1:Nat):Int))) (fun T d=> ?_) ?_
 ·have h1:=g1 T d
  go_simp
 walk_nrm
 refine ay.ctl B hS du rfl (fun _=>bY (vs:=#[.pointer (some ⟨A.hb,0,none⟩),.int .i64 (((i+1:Nat):Int))]) rfl rfl (by k_ne) rfl func123 rfl rfl (by kernel_rfl)) ?_
 rw [Lf]
 refine Qa B du H2 K2 T2 hi cK fun w3 L3 gA H3 K3 T3=> ?_
 have zq:=aH b N h L3
 have hx:=hc w3 L3 gA H3 K3 T3
 clear hc H2 K2 T2
 generalize (og S us i).2.2=ans at hx ⊢
 walk_nrm
 iterate 2 refine B.n ?_
 refine ay.ctl B zq gA rfl (fun _=>ma) ?_
 refine ay.ctl B zq gA rfl (fun _=>aZ rfl rfl func100 rfl) ?_
 exact hx
theorem aAv (B:eh p_ C b 0 ae Fin h) (hL:Lay C wl) (H:cQ A va vt S wl) (K:bN C A N0 h us L wl) (hT:aU A wl) (hi:i<us.length) (cK:Ft S)
 (hc:Behind C b N N0 h A va vt ae Fin Post aI aS av aN sg aV cs (lY S us i)):
 ay p_ C b 0 ae Fin Post h (aY b N h L) wl (G ((base 100).at ⟨#[.pointer (some ⟨A.hb,0,none⟩),BM ⟨#[114,101,116,117,114,110]⟩ ((i+1:Nat):Int) 0]++F_ 35 I',[]⟩ [.code cd]) (aI.at aS (.inRegion av (aN::sg)::aV)::cs)):=by
 have hS:=aH b N h L
 refine sE B hL H K hT fun w2 g3 du H2 K2 T2 g0 g1 g2=> ?_
 generalize hX:[Item.inBlock 0,lN (az 2 cd)]=X0
 simp only [sR,ai,cd,f100,A_]
 iterate 28 refine B.n ?_
 refine B.o (.int .i64 (((i+1:Nat):Int))) (fun T d=> ?_) ?_
 ·have h1:=g1 T d
  go_simp
 walk_nrm
 refine ay.ctl B hS du rfl (fun _=>bY (vs:=#[.pointer (some ⟨A.hb,0,none⟩),.int .i64 (((i+1:Nat):Int))]) rfl rfl (by k_ne) rfl func124 rfl rfl (by kernel_rfl)) ?_
 rw [Le]
 refine Ly B du H2 K2 T2 hi cK fun w3 L3 gA H3 K3 T3=> ?_
 have zq:=aH b N h L3
 have hx:=hc w3 L3 gA H3 K3 T3
 clear hc H2 K2 T2
 generalize (lY S us i).2.2=ans at hx ⊢
 walk_nrm
 iterate 2 refine B.n ?_
 refine ay.ctl B zq gA rfl (fun _=>ma) ?_
 refine ay.ctl B zq gA rfl (fun _=>aZ rfl rfl func100 rfl) ?_
 exact hx
theorem CZ (B:eh p_ C b 0 ae Fin h) (hL:Lay C wl) (H:cQ A va vt S wl) (K:bN C A N0 h us L wl) (hT:aU A wl) {n:Int} (cK:rC S) (n0:0<=n) (n1:n<=1000000) (k0:0<=S.clock) (k1:S.clock<=1000000)
 (hc:Behind C b N N0 h A va vt ae Fin Post aI aS av aN sg aV cs ((waited A.P S n).1,us,(waited A.P S n).2)):
 ay p_ C b 0 ae Fin Post h (aY b N h L) wl (G ((base 100).at ⟨#[.pointer (some ⟨A.hb,0,none⟩),BM ⟨#[119,97,105,116]⟩ n 0]++F_ 35 I',[]⟩ [.code cd]) (aI.at aS (.inRegion av (aN::sg)::aV)::cs)):=by
 have hS:=aH b N h L
 refine sE B hL H K hT fun w2 g3 du H2 K2 T2 g0 g1 g2=> ?_
 generalize hX:[Item.inBlock 0,lN (az 2 cd)]=X0
 simp only [sR,ai,cd,f100,A_]
 iterate 24 refine B.n ?_
 refine ay.ctl B hS du rfl (fun _=>stepG_skip) ?_
 subst hX
 refine ay.ctl B hS du rfl (fun _=>stepG_inBlock) ?_
 have e2:az 2 cd=.seq (ai 2 cd) .ret:=by kernel_rfl
 rw [e2]
 refine B.s ?_
 simp only [ai,cd,f100,A_]
 iterate 3 refine B.n ?_
 refine B.o (.int .i64 (n)) (fun T d=> ?_) ?_
 ·have h1:=g1 T d
  go_simp
 walk_nrm
 refine ay.ctl B hS du rfl (fun _=>bY (vs:=#[.pointer (some ⟨A.hb,0,none⟩),.int .i64 (n)]) rfl rfl (by k_ne) rfl func125 rfl rfl (by kernel_rfl)) ?_
 refine PD B du H2 K2 T2 cK n0 n1 k0 k1 fun w3 L3 gA H3 K3 T3=> ?_
 have zq:=aH b N h L3
 have hx:=hc w3 L3 gA H3 K3 T3
 clear hc H2 K2 T2
 generalize ((waited A.P S n).1,us,(waited A.P S n).2).2.2=ans at hx ⊢
 walk_nrm
 iterate 2 refine B.n ?_
 refine ay.ctl B zq gA rfl (fun _=>ma) ?_
 refine ay.ctl B zq gA rfl (fun _=>aZ rfl rfl func100 rfl) ?_
 exact hx
theorem A9 (B:eh p_ C b 0 ae Fin h) (hL:Lay C wl) (H:cQ A va vt S wl) (K:bN C A N0 h us L wl) (hT:aU A wl) {e:Ev} (he:e.ok us.length) (cK:BA S us)
 (hc:Behind C b N N0 h A va vt ae Fin Post aI aS av aN sg aV cs (gZ A.P S us e)):
 ay p_ C b 0 ae Fin Post h (aY b N h L) wl (G ((base 100).at ⟨#[.pointer (some ⟨A.hb,0,none⟩),e.val]++F_ 35 I',[]⟩ [.code cd]) (aI.at aS (.inRegion av (aN::sg)::aV)::cs)):=by
 cases e with
 |ring c pt=>exact C0 B hL H K hT he.1 he.2 cK.ring hc
 |hang c=>exact Ψ B hL H K hT cK.hang hc
 |answer i=>exact yO B hL H K hT he cK.wait hc
 |back i=>exact aAv B hL H K hT he cK.call hc
 |wait n=>exact CZ B hL H K hT cK.wait he.1 he.2 cK.c0 cK.c1 hc
structure ik (lo:Nat) (C:cS) (A:Ha) (N0 h:Nat) (us:List Od) (L:Nat->Os) (w:J'):Prop where
 len:us.length=A.m
 small:A.m<=999
 Ip:∀j v,j≠0->(L j).od=some v->∃i,lo<=i/\i<us.length/\j=N0+i
 live:∀i (hi:i<us.length),lo<=i->L (N0+i)=.live us[i]
 n0:∀i,i<us.length->N0+i≠0/\N0+i≠h
 ap:Apart L
 fo:BB C L
 kM:∀j v,j≠0->(L j).od=some v->Ch w v.x/\v.x<A.B
 cells:∀i (hi:i<us.length),w.cell? ⟨A.ob,i,none⟩=some (.chan (some us[i].x))/\w.cell? ⟨us[i].bt,0,none⟩=some (.chan (some us[i].x))/\us[i].bt<A.B/\us[i].bt≠A.hb
variable {lo:Nat} {L:Nat->Os}
theorem bN.two (K:bN C A N0 h us L w):ik 0 C A N0 h us L w:=
 ⟨K.len,K.small.1,fun j v hj hv=>by obtain ⟨i,h1,h2⟩:=K.small.2 j v hj hv;exact ⟨i,nz _,h1,h2⟩,fun i hi _=>K.live i hi,K.n0,K.ap,K.fo,K.kM,K.cells⟩
theorem ik.zt (K:ik lo C A N0 h us L w) (H:aQ A S vw vb vr va vt w) (F:Im A w w'):ik lo C A N0 h us L w':=by
 refine ⟨K.len,K.small,K.Ip,K.live,K.n0,K.ap,K.fo,fun j v hj hv=> ?_,fun i hi=> ?_⟩
 ·obtain ⟨⟨kk,hk⟩,hb⟩:=K.kM j v hj hv
  have nm:∀es c,w.heap[v.x]?≠some (.map es c):=fun es c e=>by rw [hk] at e;cases e
  refine ⟨⟨kk, ?_⟩,hb⟩
  rw [F.block v.x hb (fun e=>by have:=H.box;rw [<-e,hk] at this;cases this) (dX H.on nm) (dX H.of nm) (dX H.rc nm)]
  exact hk
 ·obtain ⟨h1,h2,h3,h4⟩:=K.cells i hi
  have nm:∀{r o:Nat} {v:M'},w.cell? ⟨r,o,none⟩=some v->∀es c,w.heap[r]?≠some (.map es c):=fun {r o v} hr es c e=>by simp [World.cell?,e] at hr
  refine ⟨?_, ?_,h3,h4⟩
  ·rw [J_ (F.block A.ob H.ok.ob H.ok.d3.1 (dX H.on (nm h1)) (dX H.of (nm h1)) (dX H.rc (nm h1)))];exact h1
  ·rw [J_ (F.block _ h3 h4 (dX H.on (nm h2)) (dX H.of (nm h2)) (dX H.rc (nm h2)))];exact h2
theorem ik.pf (K:ik lo C A N0 h us L w) (k:gN x w w') (hc:Ch w' x):ik lo C A N0 h us L w':=by
 refine ⟨K.len,K.small,K.Ip,K.live,K.n0,K.ap,K.fo,fun j v hj hv=> ?_,fun i hi=> ?_⟩
 ·obtain ⟨⟨kk,hk⟩,hb⟩:=K.kM j v hj hv
  refine ⟨?_,hb⟩
  by_cases e:v.x=x
  ·rw [e];exact hc
  ·exact ⟨kk,k.blk _ _ hk e⟩
 ·obtain ⟨h1,h2,h3,h4⟩:=K.cells i hi
  exact ⟨(k.cells _ _ h1).1,(k.cells _ _ h2).1,h3,h4⟩
theorem rV {v:Od} (h:(upd L j .gone i).od=some v):i≠j/\(L i).od=some v:=by
 by_cases e:i=j
 ·subst e;rw [O_] at h;cases h
 ·rw [P_ _ _ e] at h;exact ⟨e,h⟩
variable {kk:Nat}
theorem ik.gone (K:ik lo C A N0 h us L w) (zp:lo<us.length) (gv:w.heap[us[lo].x]?=some (.chan 0 #[] false kk kk false)):ik (lo+1) C A N0 h us (upd L (N0+lo) .gone) (w.setChan us[lo].x 0 #[] true kk kk false):=by
 have k:=gN.chan gv rfl 0 #[] true kk kk false
 refine ⟨K.len,K.small,fun j v hj hv=> ?_,fun i hi hl=> ?_,K.n0,fun i j u v hi hj vG hu hv=>K.ap i j u v hi hj vG (rV hu).2 (rV hv).2,⟨K.fo.on,K.fo.no,fun j u hj hu=>K.fo.ks j u hj (rV hu).2⟩,fun j v hj hv=> ?_,fun i hi=> ?_⟩
 ·obtain ⟨h1,h2⟩:=rV hv
  obtain ⟨i,h3,h4,h5⟩:=K.Ip j v hj h2
  exact ⟨i,by omega,h4,h5⟩
 ·rw [P_ _ _ (by omega)];exact K.live i hi (by omega)
 ·obtain ⟨h1,h2⟩:=rV hv
  obtain ⟨⟨k2,hk⟩,hb⟩:=K.kM j v hj h2
  refine ⟨⟨k2,k.blk _ _ hk fun e=> ?_⟩,hb⟩
  exact K.ap j (N0+lo) v us[lo] hj (K.n0 lo zp).1 h1 h2 (by rw [K.live lo zp (C_ _)];rfl) e
 ·obtain ⟨h1,h2,h3,h4⟩:=K.cells i hi
  exact ⟨(k.cells _ _ h1).1,(k.cells _ _ h2).1,h3,h4⟩
variable {L:Nat->Of.Os} {g g':O'}
theorem VT (B:eh p_ C b 0 ae Fin h) (hL:Lay C wl) (H:aQ A S vw vb vr va vt wl) (K:ik lo C A N0 h us L wl) (hT:aU A wl) (hi:i<us.length) (zp:lo<=i) {call:Int}
 (hc:∀aK,Lay C aK->aQ A S vw vb vr va vt aK->ik lo C A N0 h us L aK->aU A aK->ay p_ C b 0 ae Fin Post h (aY b N h L) aK (G (aI.at (aS.put ((av[aN]?).bind (·.dst)) (.int .i64 us[i].k)) (.inRegion av sg::aV)) cs)):
 ay p_ C b 0 ae Fin Post h (aY b N h L) wl (G ((base 101).at ⟨#[.pointer (some ⟨A.hb,0,none⟩),.int .i64 ((i+1:Nat):Int),.int .i64 0,.int .i64 call]++F_ 21 I',[]⟩ [.code dv]) (aI.at aS (.inRegion av (aN::sg)::aV)::cs)):=by
 obtain ⟨h1,h2,h3,h4⟩:=K.cells i hi
 have hm:=K.len
 have hsm:=K.small
 refine ask B hL K.ap K.fo (fun j v hj hv=>(K.kM j v hj hv).1) (K.n0 i hi).1 (K.n0 i hi).2 (K.live i hi zp) (n:=A.m) (by omega) (by omega) H.c.2.2.2.1 h1 h2 fun aK fJ hk hch=> ?_
 have hx:=(K.kM (N0+i) us[i] (K.n0 i hi).1 (by rw [K.live i hi zp];rfl)).1
 have e0:((0:Int)=1)=False:=by simp
 simp only [e0,if_false]
 have eL:upd L (N0+i) (.live ⟨us[i].bt,us[i].x,us[i].k⟩)=L:=by
  funext j
  by_cases e:j=N0+i
  ·subst e;rw [O_,K.live i hi zp]
  ·rw [P_ _ _ e]
 rw [eL]
 exact hc aK fJ (H.pf hk hx) (K.pf hk hch) (hT.pf hk hx)
theorem PV (B:eh p_ C b 0 ae Fin h) (hL:Lay C wl) (hP:BB C L) (hD:Apart L) {u:Od} (hj:j≠0) (KI:j≠h) (hl:L j=.live u) (gv:wl.heap[u.x]?=some (.chan 0 #[] false kk kk false)) (hrun:g.status=.running)
 (hst:∀w,w.heap[u.x]?=some (.chan 0 #[] false kk kk false)->stepG p_ false g w=.go g' (w.setChan u.x 0 #[] true kk kk false) (closeEvents u.x)) (QP:mayWake p_ g=true) (xw:g'.status=.running)
 (hc:ay p_ C b 0 ae Fin Post h (aY b N h (upd L j .gone)) (wl.setChan u.x 0 #[] true kk kk false) g'):ay p_ C b 0 ae Fin Post h (aY b N h L) wl g:=by
 have hS:=hP.ks j u hj (by rw [hl];rfl)
 refine ay.closes B (aH b N h L) hL hP.on (c:=u.x) (kk:=kk) gv hrun hst QP xw (fun rel ρ n hR i p home hi CS hp hc=> ?_) (fun rel ρ n hR=> ?_) hc
 ·have cK:=hR.2 i hi CS
  rw [hp] at cK
  obtain ⟨u',OD,rfl,rfl⟩:=nJ cK
  have vG:i=j:=j_ fun hne=>hD i j u' u hi hj hne (by rw [OD];rfl) (by rw [hl];rfl) hc
  subst vG
  rw [hl] at OD
  cases OD
  exact ⟨_,_,rfl,fun bp w hh=>Jc hS hh⟩
 ·refine ⟨hR.1,fun i hi CS=> ?_⟩
  have lE:=hR.2 i hi CS
  by_cases e:i=j
  ·subst e
   rw [O_]
   show Os.ok b _ (bD u.x (ρ i))
   rw [hl] at lE
   rw [show ρ i=_ from lE]
   refine .inl ?_
   simp [bD,Port.chan,aX.leaving]
  ·rw [P_ _ _ e]
   have:bD u.x (ρ i)=ρ i:=vM fun p home hp hc=>by
    rw [hp] at lE
    obtain ⟨u',OD,rfl,_⟩:=nJ lE
    exact hD i j u' u hi hj e (by rw [OD];rfl) (by rw [hl];rfl) hc
   show Os.ok b _ (bD u.x (ρ i))
   rw [this];exact lE
noncomputable def eV:Code:=f72.body.getD .skip
noncomputable def qx:Code:=match ai 0 eV with| .seq _ (.block _ (.loop c))=>c|_=>.skip
noncomputable def pK:Code:=match az 1 eV with| .seq _ (.block _ (.loop c))=>c|_=>.skip
noncomputable def X7:Code->Array y_
 | .region _ ops _=>ops
 |_=>#[]
noncomputable def Sb:Code:=match az 2 qx with| .seq (.block _ (.seq _ r)) _=>r|_=>.skip
noncomputable def Sa:Code:=match az 2 pK with| .seq (.block _ (.seq _ (.seq r _))) _=>r|_=>.skip
structure Fl (c bl ap st:Nat) (pc pa:List Nat) (D:Array Bool) (ph:Nat):Prop where
 fc:D.getD c false=decide (1<=ph)
 fb:D.getD bl false=decide (2<=ph)
 fa:D.getD ap false=decide (3<=ph)
 fs:D.getD st false=decide (4<=ph)
 pc:1<=ph->∀j∈pc,D.getD j false=true
 pa:3<=ph->∀j∈pa,D.getD j false=true
theorem iV {D:Array Bool} (h:D.getD j false=true):(D.setIfInBounds i true).getD j false=true:=by
 rw [bq];split<;>first|rfl|exact h
variable {c bl ap st:Nat} {pc pa:List Nat} {D:Array Bool} {ph:Nat}
theorem Fl.keep (h:Fl c bl ap st pc pa D ph) (h1:i≠c:=by decide) (h2:i≠bl:=by decide) (h3:i≠ap:=by decide) (h4:i≠st:=by decide):Fl c bl ap st pc pa (D.setIfInBounds i true) ph:=
 ⟨by rw [bq,if_neg (fun e=>h1 e.1)];exact h.fc,by rw [bq,if_neg (fun e=>h2 e.1)];exact h.fb,by rw [bq,if_neg (fun e=>h3 e.1)];exact h.fa,by rw [bq,if_neg (fun e=>h4 e.1)];exact h.fs,fun h0 j hj=>iV (h.pc h0 j hj),fun h0 j hj=>iV (h.pa h0 j hj)⟩
theorem Fl.calls (h:Fl c bl ap st pc pa D 0) (hs:c<D.size) (h2:c≠bl) (h3:c≠ap) (h4:c≠st) (hp:∀j∈pc,D.getD j false=true):Fl c bl ap st pc pa (D.setIfInBounds c true) 1:=
 ⟨by rw [bq,if_pos ⟨rfl,hs⟩];rfl,by rw [bq,if_neg (fun e=>h2 e.1)];exact h.fb,by rw [bq,if_neg (fun e=>h3 e.1)];exact h.fa,by rw [bq,if_neg (fun e=>h4 e.1)];exact h.fs,fun _ j hj=>iV (hp j hj),fun h0=>absurd h0 (by omega)⟩
theorem Fl.builds (h:Fl c bl ap st pc pa D 1) (hs:bl<D.size) (h1:bl≠c) (h3:bl≠ap) (h4:bl≠st):Fl c bl ap st pc pa (D.setIfInBounds bl true) 2:=
 ⟨by rw [bq,if_neg (fun e=>h1 e.1)];exact h.fc,by rw [bq,if_pos ⟨rfl,hs⟩];rfl,by rw [bq,if_neg (fun e=>h3 e.1)];exact h.fa,by rw [bq,if_neg (fun e=>h4 e.1)];exact h.fs,fun _ j hj=>iV (h.pc (by omega) j hj),fun h0=>absurd h0 (by omega)⟩
theorem Fl.apps (h:Fl c bl ap st pc pa D 2) (hs:ap<D.size) (h1:ap≠c) (h3:ap≠bl) (h4:ap≠st) (hp:∀j∈pa,D.getD j false=true):Fl c bl ap st pc pa (D.setIfInBounds ap true) 3:=
 ⟨by rw [bq,if_neg (fun e=>h1 e.1)];exact h.fc,by rw [bq,if_neg (fun e=>h3 e.1)];exact h.fb,by rw [bq,if_pos ⟨rfl,hs⟩];rfl,by rw [bq,if_neg (fun e=>h4 e.1)];exact h.fs,fun _ j hj=>iV (h.pc (by omega) j hj),fun _ j hj=>iV (hp j hj)⟩
theorem Fl.stores (h:Fl c bl ap st pc pa D 3) (hs:st<D.size) (h1:st≠c) (h3:st≠bl) (h4:st≠ap):Fl c bl ap st pc pa (D.setIfInBounds st true) 4:=
 ⟨by rw [bq,if_neg (fun e=>h1 e.1)];exact h.fc,by rw [bq,if_neg (fun e=>h3 e.1)];exact h.fb,by rw [bq,if_neg (fun e=>h4 e.1)];exact h.fa,by rw [bq,if_pos ⟨rfl,hs⟩];rfl,fun _ j hj=>iV (h.pc (by omega) j hj),fun _ j hj=>iV (h.pa (by omega) j hj)⟩
theorem aQ.ML (h:aQ A S vw vb vr va vt w) {v:M'} {s:Bs} (hg:w.grownBy w' va.ownBlock) (ho:w'.ownsRow A.B 9 1 v (S.log.length+1) ((S.log.map fun s=>Value.string ⟨s.toArray⟩)++[.string ⟨s.toArray⟩])):
 aQ A {S with log:=S.log++[s]} vw vb vr v vt (w'.setCell ⟨A.hb,12,none⟩ v)/\Fr A w (w'.setCell ⟨A.hb,12,none⟩ v):=
 h.grown hg (fun g e=>pU h.log g e) (k:=12) (v:=v) (S':={S with log:=S.log++[s]}) rfl rfl rfl rfl rfl (bU h.wait h.log (by decide) hg) (bU h.back h.log (by decide) hg) (bU h.recs h.log (by decide) hg) (by rw [K_,List.map_append];exact ho) (bU h.cg h.log (by decide) hg) h.apart
theorem aQ.Jv (h:aQ A S vw vb vr va vt w) {v:M'} {c:Int} (hg:w.grownBy w' vt.ownBlock) (ho:w'.ownsRow A.B 3 1 v (S.cg.length+1) (S.cg.map (ah .i64)++[.int .i64 c])) (hv:v.ownBlock=vt.ownBlock\/v.ownBlock=some w.heap.size):
 aQ A {S with cg:=S.cg++[c]} vw vb vr va v (w'.setCell ⟨A.hb,13,none⟩ v)/\Fr A w (w'.setCell ⟨A.hb,13,none⟩ v):=by
 have Gp:vb.ownBlock=none\/vb.ownBlock≠v.ownBlock:=by
  rcases hv with e|e
  ·rw [e];exact h.apart
  ·refine .inr fun e1=> ?_
   have:=(h.back.lt _ (e1.trans e)).2
   omega
 exact h.grown hg (fun g e=>pU h.cg g e) (k:=13) (v:=v) (S':={S with cg:=S.cg++[c]}) rfl rfl rfl rfl rfl (bU h.wait h.cg (by decide) hg) (h.back.kept hg h.apart) (bU h.recs h.cg (by decide) hg) (bU h.log h.cg (by decide) hg) (by rw [K_,List.map_append];exact ho) Gp
structure Rx where
 L:Nat->Os
 ph:Nat
 g:Nat
 v:M'
theorem Oy:(Tryz.prog.info? 9).map (fun i=>(i.zero,i.size,i.bytes))=some (some (.string ⟨#[]⟩),1,16):=by kernel_rfl
def FA (A:Ha) (e:Ev) (va:M') (ans:Bs) (x:Rx):Nat->M'
 |0=>.pointer (some ⟨A.hb,0,none⟩)
 |1=>.pointer (some ⟨A.hb,0,none⟩)
 |2=>.pointer (some ⟨A.hb,0,none⟩)
 |3=>.pointer (some ⟨A.hb,12,none⟩)
 |4=>va
 |5=>.pointer (some ⟨A.hb,0,none⟩)
 |6=>BM e.kind e.who e.word
 |7=>.string ⟨ans.toArray⟩
 |8=>.slice (some ⟨x.g,0,none⟩) 1 1
 |9=>x.v
 |10=>.pointer (some ⟨A.hb,0,none⟩)
 |11=>.pointer (some ⟨A.hb,12,none⟩)
 |_=>I'
def Ph3 (ge:Nat) (C:cS) (N0 h:Nat) (A:Ha) (S S1:Hs) (us wG:List Od) (va vt:M') (A:Ha) (e:Ev) (va:M') (ans:Bs) (x:Rx) (w:J'):Prop:=
 match x.ph with
 |0=>cQ A va vt S w/\bN C A N0 h us x.L w/\aU A w/\w.heap[ge]?=some (.cells #[.string e.kind,.int .i64 e.who,.int .i64 e.word] 55 (0,0))
 |1=>cQ A va vt S1 w/\bN C A N0 h wG x.L w/\aU A w
 |2=>cQ A va vt S1 w/\bN C A N0 h wG x.L w/\aU A w/\w.heap[x.g]?=some (.cells #[.string ⟨ans.toArray⟩] 9 (0,0))
 |3=>(∃w1,cQ A va vt S1 w1/\bN C A N0 h wG x.L w1/\aU A w1/\gD w1 w va.ownBlock/\w.ownsRow A.B 9 1 x.v (S1.log.length+1) ((S1.log.map fun s=>Value.string ⟨s.toArray⟩)++[.string ⟨ans.toArray⟩])/\(x.v.ownBlock=va.ownBlock\/x.v.ownBlock=some w1.heap.size))
 |_=>cQ A x.v vt {S1 with log:=S1.log++[ans]} w/\bN C A N0 h wG x.L w/\aU A w
structure Wd3 (ge:Nat) (C:cS) (N0 h:Nat) (A:Ha) (S S1:Hs) (us wG:List Od) (va vt:M') (A:Ha) (e:Ev) (va:M') (ans:Bs) (D:Array Bool) (x:Rx) (w:J'):Prop where
 lay:Lay C w
 le:x.ph<=4
 fl:Fl 7 8 9 12 [5,6] [4,8] D x.ph
 at_:Ph3 ge C N0 h A S S1 us wG va vt A e va ans x w
variable {S1:Hs} {wG:List Od} {K0:List Item} {z1 z3 z4 z6:M'}
theorem ME (B:eh p_ C b 0 ae Fin h) (hL:Lay C wl) (H:cQ A va vt S wl) (K:bN C A N0 h us L wl) (hT:aU A wl) {e:Ev} (he:e.ok us.length) (cK:BA S us) {ge:Nat} (vI:wl.heap[ge]?=some (.cells #[.string e.kind,.int .i64 e.who,.int .i64 e.word] 55 (0,0))) {ans:Bs} (Ma:S1.log.length<=1000) (Vt:S1=(gZ A.P S us e).1) (Qu:wG=(gZ A.P S us e).2.1) (xI:ans=(gZ A.P S us e).2.2) {z12 z20 z21 z22 z23 z24 z25 z26 z28 z31 z37 z40 z46 z49 z51:M'}
 (hc:∀w' L' v' (u14 u15 u16 u17 u18 u19 u20 u21 u22 u23 u24 u25:M'),Lay C w'->cQ A v' vt {S1 with log:=S1.log++[ans]} w'->bN C A N0 h wG L' w'->aU A w'->ay p_ C b 0 ae Fin Post h (aY b N h L') w' (G ((base 72).at ⟨#[.pointer (some ⟨A.hb,0,none⟩),z1,z2,z3,z4,.pointer (some ⟨ge,0,none⟩),z6,z7,z8,z9,dB,cZ,z12,de,u14,u15,u16,u17,u18,u19,u20,u21,u22,u23,u24,u25,z26,dD,z28,dC,dM,z31,dQ,dK,dP,dO,dV,z37,ey,ew,z40,eu,eK,eJ,eI,eH,z46,eQ,eN,z49,en,z51],[]⟩ K0) cs)):
 ay p_ C b 0 ae Fin Post h (aY b N h L) wl (G ((base 72).at ⟨#[.pointer (some ⟨A.hb,0,none⟩),z1,z2,z3,z4,.pointer (some ⟨ge,0,none⟩),z6,z7,z8,z9,dB,cZ,z12,de,dn,dm,dk,dj,dA,dz,z20,z21,z22,z23,z24,z25,z26,dD,z28,dC,dM,z31,dQ,dK,dP,dO,dV,z37,ey,ew,z40,eu,eK,eJ,eI,eH,z46,eQ,eN,z49,en,z51],[]⟩ (.code Sb::K0)) cs):=by
 generalize cn:(#[.pointer (some ⟨A.hb,0,none⟩),z1,z2,z3,z4,.pointer (some ⟨ge,0,none⟩),z6,z7,z8,z9,dB,cZ,z12,de,dn,dm,dk,dj,dA,dz,z20,z21,z22,z23,z24,z25,z26,dD,z28,dC,dM,z31,dQ,dK,dP,dO,dV,z37,ey,ew,z40,eu,eK,eJ,eI,eH,z46,eQ,eN,z49,en,z51]:Array M')=bs
 have oq:bs.size=52:=by rw [<-cn];rfl
 have HI:∀t,bs.getD t I'=(#[.pointer (some ⟨A.hb,0,none⟩),z1,z2,z3,z4,.pointer (some ⟨ge,0,none⟩),z6,z7,z8,z9,dB,cZ,z12,de,dn,dm,dk,dj,dA,dz,z20,z21,z22,z23,z24,z25,z26,dD,z28,dC,dM,z31,dQ,dK,dP,dO,dV,z37,ey,ew,z40,eu,eK,eJ,eI,eH,z46,eQ,eN,z49,en,z51]:Array M').getD t I':=fun t=>by rw [cn]
 simp only [Sb,qx,pK,ai,az,eV,f72,A_]
 refine ay.any (by kernel_rfl) B (Rs:=fun x:Rx=>aY b N h x.L) (kP:=⟨L,0,0,I'⟩) (fun x=>aH b N h x.L) (base:=bs) (by rw [oq];kernel_rfl) (by kernel_rfl) (fun x=>FA A e va ans x) (Wd3 ge C N0 h A S S1 us wG va vt A e va ans) (fun _ _ _ h=>h.lay)
  ⟨hL,nz _,⟨rfl,rfl,rfl,rfl,fun h0=>absurd h0 (Nat.not_succ_le_zero _),fun h0=>absurd h0 (Nat.not_succ_le_zero _)⟩, ?_⟩ ?_ ?_
 ·exact ⟨H,K,hT,vI⟩
 ·intro i o' ho D x w a rest hD bc hw hn aD k
  have hS:=aH b N h x.L
  have hlt:i<13:=(cI ho)
  have dJ:=hw.fl
  have jI:=hw.lay
  have Gl:=bT oq
  have aA:=aa k
  clear k
  obtain rfl|rfl|rfl|rfl|rfl|rfl|rfl|rfl|rfl|rfl|rfl|rfl|rfl:i=0\/i=1\/i=2\/i=3\/i=4\/i=5\/i=6\/i=7\/i=8\/i=9\/i=10\/i=11\/i=12:=by omega
  all_goals obtain rfl:=so ho rfl
  ·obtain ⟨v0,w0⟩:=bc.oo (.pointer (some ⟨A.hb,0,none⟩)) 0
   clear aD ho
   refine ay.dY (ok:=il) B hS jI (v:=.pointer (some ⟨A.hb,0,none⟩)) rfl rfl (by k_ne) (by kernel_rfl) (fun T d=> ?_) (aA.out x w (fun _ _=>rfl) ⟨jI,hw.le,dJ.keep,hw.at_⟩)
   clear bc hw aA hn
   go_simp
  ·obtain ⟨v0,w0⟩:=bc.oo (.pointer (some ⟨A.hb,0,none⟩)) 0
   clear aD ho
   refine ay.dY (ok:=il) B hS jI (v:=.pointer (some ⟨A.hb,0,none⟩)) rfl rfl (by k_ne) (by kernel_rfl) (fun T d=> ?_) (aA.out x w (fun _ _=>rfl) ⟨jI,hw.le,dJ.keep,hw.at_⟩)
   clear bc hw aA hn
   go_simp
  ·have d1:=dq aD 1
   obtain ⟨v15,N2⟩:=bc.vv (.pointer (some ⟨A.hb,0,none⟩)) 15 1 d1
   clear aD ho
   refine ay.dY (ok:=il) B hS jI (v:=.pointer (some ⟨A.hb,0,none⟩)) rfl rfl (by k_ne) (by kernel_rfl) (fun T d=> ?_) (aA.out x w (fun _ _=>rfl) ⟨jI,hw.le,dJ.keep,hw.at_⟩)
   clear bc hw aA hn
   go_simp
  ·have d2:=dq aD 2
   obtain ⟨v16,Mq⟩:=bc.vv (.pointer (some ⟨A.hb,0,none⟩)) 16 2 d2
   clear aD ho
   refine ay.dY (ok:=il) B hS jI (v:=.pointer (some ⟨A.hb,12,none⟩)) rfl rfl (by k_ne) (by kernel_rfl) (fun T d=> ?_) (aA.out x w (fun _ _=>rfl) ⟨jI,hw.le,dJ.keep,hw.at_⟩)
   clear bc hw aA hn
   go_simp
  ·have d3:=dq aD 3
   obtain ⟨v17,N1⟩:=bc.vv (.pointer (some ⟨A.hb,12,none⟩)) 17 3 d3
   clear aD ho
   refine ay.dY (ok:=il) B hS jI (v:=va) rfl rfl (by k_ne) (by kernel_rfl) (fun T d=> ?_) (aA.out x w (fun _ _=>rfl) ⟨jI,hw.le,dJ.keep,hw.at_⟩)
   have h0:(w.re T d).cell? ⟨A.hb,12,none⟩=some va:=by
    obtain ⟨L1,gT,g1,v1⟩:=x
    have hle:gT<=2:=by
     refine j_ fun hx=> ?_
     have:=dJ.pa (by simp only;omega) 4 (by simp)
     rw [hn] at this;cases this
    obtain rfl|rfl|rfl:gT=0\/gT=1\/gT=2:=by omega
    ·obtain ⟨⟨vw,vb,vr,H1⟩,_⟩:=hw.at_;exact H1.c.2.2.2.2.2.2.2.2.2.1
    ·obtain ⟨⟨vw,vb,vr,H1⟩,_⟩:=hw.at_;exact H1.c.2.2.2.2.2.2.2.2.2.1
    ·obtain ⟨⟨vw,vb,vr,H1⟩,_⟩:=hw.at_;exact H1.c.2.2.2.2.2.2.2.2.2.1
   clear bc hw aA hn
   go_simp
  ·obtain ⟨v0,w0⟩:=bc.oo (.pointer (some ⟨A.hb,0,none⟩)) 0
   clear aD ho
   refine ay.dY (ok:=il) B hS jI (v:=.pointer (some ⟨A.hb,0,none⟩)) rfl rfl (by k_ne) (by kernel_rfl) (fun T d=> ?_) (aA.out x w (fun _ _=>rfl) ⟨jI,hw.le,dJ.keep,hw.at_⟩)
   clear bc hw aA hn
   go_simp
  ·obtain ⟨v5,w5⟩:=bc.oo (.pointer (some ⟨ge,0,none⟩)) 5
   clear aD ho
   refine ay.dY (ok:=il) B hS jI (v:=BM e.kind e.who e.word) rfl rfl (by k_ne) (by kernel_rfl) (fun T d=> ?_) (aA.out x w (fun _ _=>rfl) ⟨jI,hw.le,dJ.keep,hw.at_⟩)
   have vI:w.heap[ge]?=some (.cells #[.string e.kind,.int .i64 e.who,.int .i64 e.word] 55 (0,0)):=by
    obtain ⟨L1,gT,g1,v1⟩:=x
    have hle:gT=0:=by
     refine j_ fun hx=> ?_
     have:=dJ.pc (by simp only;omega) 6 (by simp)
     rw [hn] at this;cases this
    subst hle
    exact hw.at_.2.2.2
   have h0:(w.re T d).cell? ⟨ge,0,none⟩=some (.string e.kind):=by show w.cell? _=_;rw [cV vI];rfl
   have h1:(w.re T d).cell? ⟨ge,1,none⟩=some (.int .i64 e.who):=by show w.cell? _=_;rw [cV vI];rfl
   have h2:(w.re T d).cell? ⟨ge,2,none⟩=some (.int .i64 e.word):=by show w.cell? _=_;rw [cV vI];rfl
   unfold BM
   clear bc hw aA hn
   go_simp
  ·have d5:=dq aD 5
   have d6:=dq aD 6
   obtain ⟨v19,w19⟩:=bc.vv (.pointer (some ⟨A.hb,0,none⟩)) 19 5 d5
   obtain ⟨v20,w20⟩:=bc.vv (BM e.kind e.who e.word) 20 6 d6
   clear aD ho
   have jH:x.ph=0:=by
    have e2:=dJ.fc
    rw [hn] at e2
    have:=of_decide_eq_false e2.symm
    omega
   obtain ⟨L1,gT,g1,v1⟩:=x
   simp only at jH
   subst jH
   obtain ⟨H1,K1,T1,vI⟩:=hw.at_
   refine ay.ctl B hS jI rfl (fun _=>bY (vs:=#[.pointer (some ⟨A.hb,0,none⟩),BM e.kind e.who e.word]) rfl rfl (by k_ne) rfl func100 rfl rfl (by simp only [List.map_toArray,S_,List.map_nil,v19,v20])) ?_
   rw [Li]
   refine A9 B jI H1 K1 T1 he cK fun w3 L3 gA H3 K3 T3=> ?_
   rw [<-xI]
   exact aA.out ⟨L3,1,g1,v1⟩ w3 (fun _ _=>rfl) ⟨gA,Z_ rfl,dJ.calls (by rw [hD];decide) (by decide) (by decide) (by decide) (by intro j hj;simp at hj;rcases hj with rfl|rfl<;>assumption),⟨by rw [Vt];exact H3,by rw [Qu];exact K3,T3⟩⟩
  ·have d7:=dq aD 7
   obtain ⟨v21,w21⟩:=bc.vv (.string ⟨ans.toArray⟩) 21 7 d7
   clear aD ho
   have jH:x.ph=1:=by
    have e1:=dJ.fc
    have e2:=dJ.fb
    rw [d7] at e1
    rw [hn] at e2
    have:=of_decide_eq_true e1.symm
    have:=of_decide_eq_false e2.symm
    omega
   obtain ⟨L1,gT,g1,v1⟩:=x
   simp only at jH
   subst jH
   obtain ⟨⟨vw,vb,vr,H1⟩,K1,T1⟩:=hw.at_
   refine ay.op (ok:=il) B hS jI rfl rfl (by k_ne) (by kernel_rfl) fun T d=>⟨.slice (some ⟨w.heap.size,0,none⟩) 1 1,(w.alloc (.cells #[.string ⟨ans.toArray⟩] 9)).re T d, ?_,fun hcut=>ay.re ?_ T d⟩
   ·clear bc hw aA hn H1 K1 T1
    go_simp
    exact ⟨rfl,rfl⟩
   ·have du:Lay C (w.alloc (.cells #[.string ⟨ans.toArray⟩] 9)):=⟨Cut.j8 hcut,jI.no⟩
    have F2:Im A w (w.alloc (.cells #[.string ⟨ans.toArray⟩] 9)):=⟨(Fr.alloc (w:=w) H1.big _).size,(Fr.alloc (w:=w) H1.big _).block⟩
    exact aA.out ⟨L1,2,w.heap.size,v1⟩ _ (fun j hj=>by
     have hne:j≠8:=fun e=>by rw [e,hn] at hj;cases hj
     unfold FA;split<;>first|rfl|exact absurd rfl hne) ⟨du,Z_ rfl,dJ.builds (by rw [hD];decide) (by decide) (by decide) (by decide),⟨⟨_,_,_,H1.alloc _⟩,K1.zt H1 F2,aU.zt T1 H1 F2,Z' w _⟩⟩
  ·have d4:=dq aD 4
   have d8:=dq aD 8
   obtain ⟨v18,w18⟩:=bc.vv va 18 4 d4
   obtain ⟨v22,w22⟩:=bc.vv (.slice (some ⟨x.g,0,none⟩) 1 1) 22 8 d8
   clear aD ho
   have jH:x.ph=2:=by
    have e1:=dJ.fb
    have e2:=dJ.fa
    rw [d8] at e1
    rw [hn] at e2
    have:=of_decide_eq_true e1.symm
    have:=of_decide_eq_false e2.symm
    omega
   obtain ⟨L1,gT,g1,v1⟩:=x
   simp only at jH
   subst jH
   obtain ⟨⟨vw,vb,vr,H1⟩,K1,T1,BI⟩:=hw.at_
   obtain ⟨i9,A5,Kl,nQ,nP⟩:=info_parts Oy
   have hrun:∀T d,∃g cap w6,(Builtin.append_ #[51,51] 51 #[va,.slice (some ⟨g1,0,none⟩) 1 1]).run p_ (w.re T d)=.ok (.slice (some ⟨g,0,none⟩) (S1.log.length+1) cap) w6/\w6.ownsRow A.B 9 1 (.slice (some ⟨g,0,none⟩) (S1.log.length+1) cap) (S1.log.length+1) ((S1.log.map fun s=>Value.string ⟨s.toArray⟩)++[.string ⟨ans.toArray⟩])/\(w.re T d).grownBy w6 va.ownBlock/\(va.ownBlock=some g\/g=w.heap.size)/\g<w6.heap.size:=fun T d=>
    run_append_lies (P:=p_) (w.re T d) 51 51 A.B 9 i9 _ 1 16 Tryz.underlying51 A5 Kl nQ nP rfl (by decide) va S1.log.length _ H1.log ⟨g1,0,none⟩ 1 1 [.string ⟨ans.toArray⟩] rfl (World.news_of_block (w:=w.re T d) BI) (by intro u hu;simp at hu;subst hu;rfl) (by decide) (by unfold maxLen;omega) (by omega) H1.big _ rfl
   have fz:∀g,va.ownBlock=some g->A.B<=g/\g<w.heap.size:=fun g e=>H1.log.lt g e
   refine ay.op (ok:=il) B hS jI rfl rfl (by k_ne) (by kernel_rfl) fun T d=> ?_
   obtain ⟨g,cap,w6,hr,yI,pZ,iP,mR⟩:=hrun T d
   refine ⟨.slice (some ⟨g,0,none⟩) (S1.log.length+1) cap,w6, ?_,fun hcut=> ?_⟩
   ·clear bc hw aA hn K1 T1 hrun
    simp only [List.getElem_toArray,List.getElem_cons_succ,List.getElem_cons_zero,V',resolve,invoke,builtin,Sem.run_bind,Sem.run_pure,Result.andThen_ok,List.map_toArray,S_,List.map_nil,v18,v22,hr]
   ·have NB:gD w w6 va.ownBlock:=⟨pZ.os,pZ.output,pZ.size,pZ.block⟩
    exact aA.out ⟨L1,3,g1,.slice (some ⟨g,0,none⟩) (S1.log.length+1) cap⟩ w6 (fun j hj=>by
     have hne:j≠9:=fun e=>by rw [e,hn] at hj;cases hj
     unfold FA;split<;>first|rfl|exact absurd rfl hne) ⟨⟨hcut,jI.no⟩,Z_ rfl,dJ.apps (by rw [hD];decide) (by decide) (by decide) (by decide) (by intro j hj;simp at hj;rcases hj with rfl|rfl<;>assumption),⟨w,⟨_,_,_,H1⟩,K1,T1,NB,yI,iP.imp (fun e=>e.symm) (fun e=>by rw [e];rfl)⟩⟩
  ·have d0:=dq aD 0
   obtain ⟨v14,Mr⟩:=bc.vv (.pointer (some ⟨A.hb,0,none⟩)) 14 0 d0
   clear aD ho
   refine ay.dY (ok:=il) B hS jI (v:=.pointer (some ⟨A.hb,0,none⟩)) rfl rfl (by k_ne) (by kernel_rfl) (fun T d=> ?_) (aA.out x w (fun _ _=>rfl) ⟨jI,hw.le,dJ.keep,hw.at_⟩)
   clear bc hw aA hn
   go_simp
  ·have d10:=dq aD 10
   obtain ⟨v24,w24⟩:=bc.vv (.pointer (some ⟨A.hb,0,none⟩)) 24 10 d10
   clear aD ho
   refine ay.dY (ok:=il) B hS jI (v:=.pointer (some ⟨A.hb,12,none⟩)) rfl rfl (by k_ne) (by kernel_rfl) (fun T d=> ?_) (aA.out x w (fun _ _=>rfl) ⟨jI,hw.le,dJ.keep,hw.at_⟩)
   clear bc hw aA hn
   go_simp
  ·have d11:=dq aD 11
   have d9:=dq aD 9
   obtain ⟨v25,w25⟩:=bc.vv (.pointer (some ⟨A.hb,12,none⟩)) 25 11 d11
   obtain ⟨v23,XY⟩:=bc.vv (x.v) 23 9 d9
   clear aD ho
   have jH:x.ph=3:=by
    have e1:=dJ.fa
    have e2:=dJ.fs
    rw [d9] at e1
    rw [hn] at e2
    have:=of_decide_eq_true e1.symm
    have:=of_decide_eq_false e2.symm
    omega
   obtain ⟨L1,gT,g1,v1⟩:=x
   simp only at jH
   subst jH
   obtain ⟨w1,⟨vw,vb,vr,H1⟩,K1,T1,wu,Gd,Vm⟩:=hw.at_
   have fz:∀g,va.ownBlock=some g->A.B<=g/\g<w1.heap.size:=fun g e=>H1.log.lt g e
   have hp:=H1.ML (s:=ans) (w':=w.re w1.tape w.drawn) (v:=v1) wu.W6 Gd
   have F6:Im A w1 (w.setCell ⟨A.hb,12,none⟩ v1):=⟨hp.2.size,fun i h1 h2 h3 h4 h5=>hp.2.block i h1 h2 h3 h4 h5⟩
   have sD:w.heap[A.hb]?=w1.heap[A.hb]?:=wu.block A.hb (E_ H1.ok.hb H1.big) (fun e=>by have:=(fz _ e.symm).1;have:=H1.ok.hb;omega)
   have c7:∀T d,(w.re T d).cell? ⟨A.hb,12,none⟩=some va:=fun _ _=>(J_ sD).trans H1.c.2.2.2.2.2.2.2.2.2.1
   have z7:∀T d,(w.re T d).frozen? ⟨A.hb,12,none⟩=false:=fun _ _=>(m_ sD).trans (H1.z 12)
   obtain ⟨a5,q5,zA⟩:=aE Gd
   refine ay.Wh (ok:=il) B hS jI rfl rfl (by k_ne) (by kernel_rfl) fun T d=>⟨(w.setCell ⟨A.hb,12,none⟩ v1).re T d, ?_,fun hcut=>ay.re ?_ T d⟩
   ·have h7:=c7 T d
    have f7:=z7 T d
    clear bc hw aA hn K1 T1 hp F6 c7 z7
    simp only at XY zA
    rw [zA] at XY
    rw [zA]
    go_simp
    exact nE _ _ _ _ _
   ·exact aA.out ⟨L1,4,g1,v1⟩ _ (fun _ _=>rfl) ⟨⟨Cut.j8 hcut,jI.no⟩,Z_ rfl,dJ.stores (by rw [hD];decide) (by decide) (by decide) (by decide),⟨⟨_,_,_,hp.1.heap rfl⟩,K1.zt H1 F6,aU.zt T1 H1 F6⟩⟩
 ·intro D x w hd hw
  obtain ⟨L1,gT,g1,v1⟩:=x
  have jH:gT=4:=by
   have e1:=hw.fl.fs
   rw [hd 12 (by decide)] at e1
   have:=of_decide_eq_true e1.symm
   have:=hw.le
   simp only at *
   omega
  subst jH
  obtain ⟨H1,K1,T1⟩:=hw.at_
  have:=hc w L1 v1 (.pointer (some ⟨A.hb,0,none⟩)) (.pointer (some ⟨A.hb,0,none⟩)) (.pointer (some ⟨A.hb,0,none⟩)) (.pointer (some ⟨A.hb,12,none⟩)) (va) (.pointer (some ⟨A.hb,0,none⟩)) (BM e.kind e.who e.word) (.string ⟨ans.toArray⟩) (.slice (some ⟨g1,0,none⟩) 1 1) (v1) (.pointer (some ⟨A.hb,0,none⟩)) (.pointer (some ⟨A.hb,12,none⟩)) hw.lay H1 K1 T1
  generalize bc:slotsOf _ bs (FA A e va ans ⟨L1,4,g1,v1⟩)=sl
  have eS:sl=#[.pointer (some ⟨A.hb,0,none⟩),z1,z2,z3,z4,.pointer (some ⟨ge,0,none⟩),z6,z7,z8,z9,dB,cZ,z12,de,.pointer (some ⟨A.hb,0,none⟩),.pointer (some ⟨A.hb,0,none⟩),.pointer (some ⟨A.hb,0,none⟩),.pointer (some ⟨A.hb,12,none⟩),va,.pointer (some ⟨A.hb,0,none⟩),BM e.kind e.who e.word,.string ⟨ans.toArray⟩,.slice (some ⟨g1,0,none⟩) 1 1,v1,.pointer (some ⟨A.hb,0,none⟩),.pointer (some ⟨A.hb,12,none⟩),z26,dD,z28,dC,dM,z31,dQ,dK,dP,dO,dV,z37,ey,ew,z40,eu,eK,eJ,eI,eH,z46,eQ,eN,z49,en,z51]:=by rw [<-bc,<-cn];kernel_rfl
  rw [eS]
  exact this
def Fy (A:Ha) (i8:Nat) (vt:M') (ki:Int) (x:Rx):Nat->M'
 |0=>.pointer (some ⟨A.hb,0,none⟩)
 |1=>.pointer (some ⟨A.hb,0,none⟩)
 |2=>.pointer (some ⟨A.hb,0,none⟩)
 |3=>.pointer (some ⟨A.hb,13,none⟩)
 |4=>vt
 |5=>.pointer (some ⟨A.hb,0,none⟩)
 |6=>.int .i64 (i8:Nat)
 |7=>.int .i64 ((i8+1:Nat):Int)
 |8=>.int .i64 ki
 |9=>.slice (some ⟨x.g,0,none⟩) 1 1
 |10=>x.v
 |11=>.pointer (some ⟨A.hb,0,none⟩)
 |12=>.pointer (some ⟨A.hb,13,none⟩)
 |_=>I'
def Ph8 (lo:Nat) (C:cS) (N0 h:Nat) (A:Ha) (S S1:Hs) (us wG:List Od) (va vt:M') (A:Ha) (i8:Nat) (vt:M') (ki:Int) (x:Rx) (w:J'):Prop:=
 match x.ph with
 |0=>cQ A va vt S w/\ik lo C A N0 h us x.L w/\aU A w
 |1=>cQ A va vt S1 w/\ik lo C A N0 h wG x.L w/\aU A w
 |2=>cQ A va vt S1 w/\ik lo C A N0 h wG x.L w/\aU A w/\w.heap[x.g]?=some (.cells #[.int .i64 ki] 3 (0,0))
 |3=>(∃w1,cQ A va vt S1 w1/\ik lo C A N0 h wG x.L w1/\aU A w1/\gD w1 w vt.ownBlock/\w.ownsRow A.B 3 1 x.v (S1.cg.length+1) ((S1.cg.map (ah .i64))++[.int .i64 ki])/\(x.v.ownBlock=vt.ownBlock\/x.v.ownBlock=some w1.heap.size))
 |_=>cQ A va x.v {S1 with cg:=S1.cg++[ki]} w/\ik lo C A N0 h wG x.L w/\aU A w
structure Wd8 (lo:Nat) (C:cS) (N0 h:Nat) (A:Ha) (S S1:Hs) (us wG:List Od) (va vt:M') (A:Ha) (i8:Nat) (vt:M') (ki:Int) (D:Array Bool) (x:Rx) (w:J'):Prop where
 lay:Lay C w
 le:x.ph<=4
 fl:Fl 8 9 10 13 [5,7] [4,9] D x.ph
 at_:Ph8 lo C N0 h A S S1 us wG va vt A i8 vt ki x w
theorem MD (B:eh p_ C b 0 ae Fin h) (hL:Lay C wl) (H:cQ A va vt S wl) (K:ik lo C A N0 h us L wl) (hT:aU A wl) {i8:Nat} (hi:i8<us.length) (hi2:i8<1000) (zp:lo<=i8) {ki:Int} (hki:ki=us[i8].k) (Ma:S1.cg.length<=1000) (Vt:S1=S) (Qu:wG=us) {z12 z20 z21 z22 z23 z24 z25 z26 z28 z31 z37 z40 z46 z49 z51:M'}
 (hc:∀w' L' v' (u37 u38 u39 u40 u41 u42 u43 u44 u45 u46 u47 u48 u49:M'),Lay C w'->cQ A va v' {S1 with cg:=S1.cg++[ki]} w'->ik lo C A N0 h wG L' w'->aU A w'->ay p_ C b 0 ae Fin Post h (aY b N h L') w' (G ((base 72).at ⟨#[.pointer (some ⟨A.hb,0,none⟩),z1,z2,z3,z4,z5,.int .i64 (i8:Nat),z7,z8,z9,dB,cZ,z12,de,dn,dm,dk,dj,dA,dz,z20,z21,z22,z23,z24,z25,z26,dD,z28,dC,dM,z31,dQ,dK,dP,dO,dV,u37,u38,u39,u40,u41,u42,u43,u44,u45,u46,u47,u48,u49,en,z51],[]⟩ K0) cs)):
 ay p_ C b 0 ae Fin Post h (aY b N h L) wl (G ((base 72).at ⟨#[.pointer (some ⟨A.hb,0,none⟩),z1,z2,z3,z4,z5,.int .i64 (i8:Nat),z7,z8,z9,dB,cZ,z12,de,dn,dm,dk,dj,dA,dz,z20,z21,z22,z23,z24,z25,z26,dD,z28,dC,dM,z31,dQ,dK,dP,dO,dV,z37,ey,ew,z40,eu,eK,eJ,eI,eH,z46,eQ,eN,z49,en,z51],[]⟩ (.code Sa::K0)) cs):=by
 generalize cn:(#[.pointer (some ⟨A.hb,0,none⟩),z1,z2,z3,z4,z5,.int .i64 (i8:Nat),z7,z8,z9,dB,cZ,z12,de,dn,dm,dk,dj,dA,dz,z20,z21,z22,z23,z24,z25,z26,dD,z28,dC,dM,z31,dQ,dK,dP,dO,dV,z37,ey,ew,z40,eu,eK,eJ,eI,eH,z46,eQ,eN,z49,en,z51]:Array M')=bs
 have oq:bs.size=52:=by rw [<-cn];rfl
 have HI:∀t,bs.getD t I'=(#[.pointer (some ⟨A.hb,0,none⟩),z1,z2,z3,z4,z5,.int .i64 (i8:Nat),z7,z8,z9,dB,cZ,z12,de,dn,dm,dk,dj,dA,dz,z20,z21,z22,z23,z24,z25,z26,dD,z28,dC,dM,z31,dQ,dK,dP,dO,dV,z37,ey,ew,z40,eu,eK,eJ,eI,eH,z46,eQ,eN,z49,en,z51]:Array M').getD t I':=fun t=>by rw [cn]
 simp only [Sa,qx,pK,ai,az,eV,f72,A_]
 refine ay.any (by kernel_rfl) B (Rs:=fun x:Rx=>aY b N h x.L) (kP:=⟨L,0,0,I'⟩) (fun x=>aH b N h x.L) (base:=bs) (by rw [oq];kernel_rfl) (by kernel_rfl) (fun x=>Fy A i8 vt ki x) (Wd8 lo C N0 h A S S1 us wG va vt A i8 vt ki) (fun _ _ _ h=>h.lay)
  ⟨hL,nz _,⟨rfl,rfl,rfl,rfl,fun h0=>absurd h0 (Nat.not_succ_le_zero _),fun h0=>absurd h0 (Nat.not_succ_le_zero _)⟩, ?_⟩ ?_ ?_
 ·exact ⟨H,K,hT⟩
 ·intro i o' ho D x w a rest hD bc hw hn aD k
  have hS:=aH b N h x.L
  have oJ:IntKind.i64.wrap ((i8:Int)+1)=((i8+1:Nat):Int):=by rw [IntWalk.i64_in _ (by omega)];rfl
  have hlt:i<14:=(cI ho)
  have dJ:=hw.fl
  have jI:=hw.lay
  have Gl:=bT oq
  have aA:=aa k
  clear k
  obtain rfl|rfl|rfl|rfl|rfl|rfl|rfl|rfl|rfl|rfl|rfl|rfl|rfl|rfl:i=0\/i=1\/i=2\/i=3\/i=4\/i=5\/i=6\/i=7\/i=8\/i=9\/i=10\/i=11\/i=12\/i=13:=by omega
  all_goals obtain rfl:=so ho rfl
  ·obtain ⟨v0,w0⟩:=bc.oo (.pointer (some ⟨A.hb,0,none⟩)) 0
   clear aD ho
   refine ay.dY (ok:=il) B hS jI (v:=.pointer (some ⟨A.hb,0,none⟩)) rfl rfl (by k_ne) (by kernel_rfl) (fun T d=> ?_) (aA.out x w (fun _ _=>rfl) ⟨jI,hw.le,dJ.keep,hw.at_⟩)
   clear bc hw aA hn
   go_simp
  ·obtain ⟨v0,w0⟩:=bc.oo (.pointer (some ⟨A.hb,0,none⟩)) 0
   clear aD ho
   refine ay.dY (ok:=il) B hS jI (v:=.pointer (some ⟨A.hb,0,none⟩)) rfl rfl (by k_ne) (by kernel_rfl) (fun T d=> ?_) (aA.out x w (fun _ _=>rfl) ⟨jI,hw.le,dJ.keep,hw.at_⟩)
   clear bc hw aA hn
   go_simp
  ·have d1:=dq aD 1
   obtain ⟨v38,XX⟩:=bc.vv (.pointer (some ⟨A.hb,0,none⟩)) 38 1 d1
   clear aD ho
   refine ay.dY (ok:=il) B hS jI (v:=.pointer (some ⟨A.hb,0,none⟩)) rfl rfl (by k_ne) (by kernel_rfl) (fun T d=> ?_) (aA.out x w (fun _ _=>rfl) ⟨jI,hw.le,dJ.keep,hw.at_⟩)
   clear bc hw aA hn
   go_simp
  ·have d2:=dq aD 2
   obtain ⟨v39,w39⟩:=bc.vv (.pointer (some ⟨A.hb,0,none⟩)) 39 2 d2
   clear aD ho
   refine ay.dY (ok:=il) B hS jI (v:=.pointer (some ⟨A.hb,13,none⟩)) rfl rfl (by k_ne) (by kernel_rfl) (fun T d=> ?_) (aA.out x w (fun _ _=>rfl) ⟨jI,hw.le,dJ.keep,hw.at_⟩)
   clear bc hw aA hn
   go_simp
  ·have d3:=dq aD 3
   obtain ⟨v40,XW⟩:=bc.vv (.pointer (some ⟨A.hb,13,none⟩)) 40 3 d3
   clear aD ho
   refine ay.dY (ok:=il) B hS jI (v:=vt) rfl rfl (by k_ne) (by kernel_rfl) (fun T d=> ?_) (aA.out x w (fun _ _=>rfl) ⟨jI,hw.le,dJ.keep,hw.at_⟩)
   have h0:(w.re T d).cell? ⟨A.hb,13,none⟩=some vt:=by
    obtain ⟨L1,gT,g1,v1⟩:=x
    have hle:gT<=2:=by
     refine j_ fun hx=> ?_
     have:=dJ.pa (by simp only;omega) 4 (by simp)
     rw [hn] at this;cases this
    obtain rfl|rfl|rfl:gT=0\/gT=1\/gT=2:=by omega
    ·obtain ⟨⟨vw,vb,vr,H1⟩,_⟩:=hw.at_;exact H1.c.2.2.2.2.2.2.2.2.2.2
    ·obtain ⟨⟨vw,vb,vr,H1⟩,_⟩:=hw.at_;exact H1.c.2.2.2.2.2.2.2.2.2.2
    ·obtain ⟨⟨vw,vb,vr,H1⟩,_⟩:=hw.at_;exact H1.c.2.2.2.2.2.2.2.2.2.2
   clear bc hw aA hn
   go_simp
  ·obtain ⟨v0,w0⟩:=bc.oo (.pointer (some ⟨A.hb,0,none⟩)) 0
   clear aD ho
   refine ay.dY (ok:=il) B hS jI (v:=.pointer (some ⟨A.hb,0,none⟩)) rfl rfl (by k_ne) (by kernel_rfl) (fun T d=> ?_) (aA.out x w (fun _ _=>rfl) ⟨jI,hw.le,dJ.keep,hw.at_⟩)
   clear bc hw aA hn
   go_simp
  ·obtain ⟨v6,w6⟩:=bc.oo (.int .i64 (i8:Nat)) 6
   clear aD ho
   refine ay.dY (ok:=il) B hS jI (v:=.int .i64 (i8:Nat)) rfl rfl (by k_ne) (by kernel_rfl) (fun T d=> ?_) (aA.out x w (fun _ _=>rfl) ⟨jI,hw.le,dJ.keep,hw.at_⟩)
   clear bc hw aA hn
   go_simp
  ·have d6:=dq aD 6
   obtain ⟨v43,XT⟩:=bc.vv (.int .i64 (i8:Nat)) 43 6 d6
   clear aD ho
   refine ay.dY (ok:=il) B hS jI (v:=.int .i64 ((i8+1:Nat):Int)) rfl rfl (by k_ne) (by kernel_rfl) (fun T d=> ?_) (aA.out x w (fun _ _=>rfl) ⟨jI,hw.le,dJ.keep,hw.at_⟩)
   clear bc hw aA hn
   go_simp
  ·have d5:=dq aD 5
   have d7:=dq aD 7
   obtain ⟨v42,XU⟩:=bc.vv (.pointer (some ⟨A.hb,0,none⟩)) 42 5 d5
   obtain ⟨v44,XS⟩:=bc.vv (.int .i64 ((i8+1:Nat):Int)) 44 7 d7
   clear aD ho
   have jH:x.ph=0:=by
    have e2:=dJ.fc
    rw [hn] at e2
    have:=of_decide_eq_false e2.symm
    omega
   obtain ⟨L1,gT,g1,v1⟩:=x
   simp only at jH
   subst jH
   obtain ⟨⟨vw,vb,vr,H1⟩,K1,T1⟩:=hw.at_
   refine ay.ctl B hS jI rfl (fun _=>bY (vs:=#[.pointer (some ⟨A.hb,0,none⟩),.int .i64 ((i8+1:Nat):Int),.int .i64 0,.int .i64 0]) rfl rfl (by k_ne) rfl func101 rfl rfl (by simp only [List.map_toArray,S_,List.map_nil,v42,v44];rfl)) ?_
   rw [pB]
   refine VT B jI H1 K1 T1 hi zp fun w3 gA H3 K3 T3=> ?_
   rw [<-hki]
   exact aA.out ⟨L1,1,g1,v1⟩ w3 (fun _ _=>rfl) ⟨gA,Z_ rfl,dJ.calls (by rw [hD];decide) (by decide) (by decide) (by decide) (by intro j hj;simp at hj;rcases hj with rfl|rfl<;>assumption),⟨⟨_,_,_,by rw [Vt];exact H3⟩,by rw [Qu];exact K3,T3⟩⟩
  ·have d8:=dq aD 8
   obtain ⟨v45,XR⟩:=bc.vv (.int .i64 ki) 45 8 d8
   clear aD ho
   have jH:x.ph=1:=by
    have e1:=dJ.fc
    have e2:=dJ.fb
    rw [d8] at e1
    rw [hn] at e2
    have:=of_decide_eq_true e1.symm
    have:=of_decide_eq_false e2.symm
    omega
   obtain ⟨L1,gT,g1,v1⟩:=x
   simp only at jH
   subst jH
   obtain ⟨⟨vw,vb,vr,H1⟩,K1,T1⟩:=hw.at_
   refine ay.op (ok:=il) B hS jI rfl rfl (by k_ne) (by kernel_rfl) fun T d=>⟨.slice (some ⟨w.heap.size,0,none⟩) 1 1,(w.alloc (.cells #[.int .i64 ki] 3)).re T d, ?_,fun hcut=>ay.re ?_ T d⟩
   ·clear bc hw aA hn H1 K1 T1
    go_simp
    exact ⟨rfl,rfl⟩
   ·have du:Lay C (w.alloc (.cells #[.int .i64 ki] 3)):=⟨Cut.j8 hcut,jI.no⟩
    have F2:Im A w (w.alloc (.cells #[.int .i64 ki] 3)):=⟨(Fr.alloc (w:=w) H1.big _).size,(Fr.alloc (w:=w) H1.big _).block⟩
    exact aA.out ⟨L1,2,w.heap.size,v1⟩ _ (fun j hj=>by
     have hne:j≠9:=fun e=>by rw [e,hn] at hj;cases hj
     unfold Fy;split<;>first|rfl|exact absurd rfl hne) ⟨du,Z_ rfl,dJ.builds (by rw [hD];decide) (by decide) (by decide) (by decide),⟨⟨_,_,_,H1.alloc _⟩,K1.zt H1 F2,aU.zt T1 H1 F2,Z' w _⟩⟩
  ·have d4:=dq aD 4
   have d9:=dq aD 9
   obtain ⟨v41,XV⟩:=bc.vv vt 41 4 d4
   obtain ⟨v46,XQ⟩:=bc.vv (.slice (some ⟨x.g,0,none⟩) 1 1) 46 9 d9
   clear aD ho
   have jH:x.ph=2:=by
    have e1:=dJ.fb
    have e2:=dJ.fa
    rw [d9] at e1
    rw [hn] at e2
    have:=of_decide_eq_true e1.symm
    have:=of_decide_eq_false e2.symm
    omega
   obtain ⟨L1,gT,g1,v1⟩:=x
   simp only at jH
   subst jH
   obtain ⟨⟨vw,vb,vr,H1⟩,K1,T1,BI⟩:=hw.at_
   obtain ⟨i9,A5,Kl,nQ,nP⟩:=info_parts CF
   have hrun:∀T d,∃g cap w6,(Builtin.append_ #[26,26] 26 #[vt,.slice (some ⟨g1,0,none⟩) 1 1]).run p_ (w.re T d)=.ok (.slice (some ⟨g,0,none⟩) (S1.cg.length+1) cap) w6/\w6.ownsRow A.B 3 1 (.slice (some ⟨g,0,none⟩) (S1.cg.length+1) cap) (S1.cg.length+1) ((S1.cg.map (ah .i64))++[.int .i64 ki])/\(w.re T d).grownBy w6 vt.ownBlock/\(vt.ownBlock=some g\/g=w.heap.size)/\g<w6.heap.size:=fun T d=>
    run_append_lies (P:=p_) (w.re T d) 26 26 A.B 3 i9 _ 1 8 Tryz.underlying26 A5 Kl nQ nP rfl (by decide) vt S1.cg.length _ H1.cg ⟨g1,0,none⟩ 1 1 [.int .i64 ki] rfl (World.news_of_block (w:=w.re T d) BI) (by intro u hu;simp at hu;subst hu;rfl) (by decide) (by unfold maxLen;omega) (by omega) H1.big _ rfl
   have fz:∀g,vt.ownBlock=some g->A.B<=g/\g<w.heap.size:=fun g e=>H1.cg.lt g e
   refine ay.op (ok:=il) B hS jI rfl rfl (by k_ne) (by kernel_rfl) fun T d=> ?_
   obtain ⟨g,cap,w6,hr,yI,pZ,iP,mR⟩:=hrun T d
   refine ⟨.slice (some ⟨g,0,none⟩) (S1.cg.length+1) cap,w6, ?_,fun hcut=> ?_⟩
   ·clear bc hw aA hn K1 T1 hrun
    simp only [List.getElem_toArray,List.getElem_cons_succ,List.getElem_cons_zero,V',resolve,invoke,builtin,Sem.run_bind,Sem.run_pure,Result.andThen_ok,List.map_toArray,S_,List.map_nil,v41,v46,hr]
   ·have NB:gD w w6 vt.ownBlock:=⟨pZ.os,pZ.output,pZ.size,pZ.block⟩
    exact aA.out ⟨L1,3,g1,.slice (some ⟨g,0,none⟩) (S1.cg.length+1) cap⟩ w6 (fun j hj=>by
     have hne:j≠10:=fun e=>by rw [e,hn] at hj;cases hj
     unfold Fy;split<;>first|rfl|exact absurd rfl hne) ⟨⟨hcut,jI.no⟩,Z_ rfl,dJ.apps (by rw [hD];decide) (by decide) (by decide) (by decide) (by intro j hj;simp at hj;rcases hj with rfl|rfl<;>assumption),⟨w,⟨_,_,_,H1⟩,K1,T1,NB,yI,iP.imp (fun e=>e.symm) (fun e=>by rw [e];rfl)⟩⟩
  ·have d0:=dq aD 0
   obtain ⟨v37,w37⟩:=bc.vv (.pointer (some ⟨A.hb,0,none⟩)) 37 0 d0
   clear aD ho
   refine ay.dY (ok:=il) B hS jI (v:=.pointer (some ⟨A.hb,0,none⟩)) rfl rfl (by k_ne) (by kernel_rfl) (fun T d=> ?_) (aA.out x w (fun _ _=>rfl) ⟨jI,hw.le,dJ.keep,hw.at_⟩)
   clear bc hw aA hn
   go_simp
  ·have d11:=dq aD 11
   obtain ⟨v48,Wb⟩:=bc.vv (.pointer (some ⟨A.hb,0,none⟩)) 48 11 d11
   clear aD ho
   refine ay.dY (ok:=il) B hS jI (v:=.pointer (some ⟨A.hb,13,none⟩)) rfl rfl (by k_ne) (by kernel_rfl) (fun T d=> ?_) (aA.out x w (fun _ _=>rfl) ⟨jI,hw.le,dJ.keep,hw.at_⟩)
   clear bc hw aA hn
   go_simp
  ·have d12:=dq aD 12
   have d10:=dq aD 10
   obtain ⟨v49,Wa⟩:=bc.vv (.pointer (some ⟨A.hb,13,none⟩)) 49 12 d12
   obtain ⟨v47,LS⟩:=bc.vv (x.v) 47 10 d10
   clear aD ho
   have jH:x.ph=3:=by
    have e1:=dJ.fa
    have e2:=dJ.fs
    rw [d10] at e1
    rw [hn] at e2
    have:=of_decide_eq_true e1.symm
    have:=of_decide_eq_false e2.symm
    omega
   obtain ⟨L1,gT,g1,v1⟩:=x
   simp only at jH
   subst jH
   obtain ⟨w1,⟨vw,vb,vr,H1⟩,K1,T1,wu,Gd,Vm⟩:=hw.at_
   have fz:∀g,vt.ownBlock=some g->A.B<=g/\g<w1.heap.size:=fun g e=>H1.cg.lt g e
   have hp:=H1.Jv (c:=ki) (w':=w.re w1.tape w.drawn) (v:=v1) wu.W6 Gd Vm
   have F6:Im A w1 (w.setCell ⟨A.hb,13,none⟩ v1):=⟨hp.2.size,fun i h1 h2 h3 h4 h5=>hp.2.block i h1 h2 h3 h4 h5⟩
   have sD:w.heap[A.hb]?=w1.heap[A.hb]?:=wu.block A.hb (E_ H1.ok.hb H1.big) (fun e=>by have:=(fz _ e.symm).1;have:=H1.ok.hb;omega)
   have c7:∀T d,(w.re T d).cell? ⟨A.hb,13,none⟩=some vt:=fun _ _=>(J_ sD).trans H1.c.2.2.2.2.2.2.2.2.2.2
   have z7:∀T d,(w.re T d).frozen? ⟨A.hb,13,none⟩=false:=fun _ _=>(m_ sD).trans (H1.z 13)
   obtain ⟨a5,q5,zA⟩:=aE Gd
   refine ay.Wh (ok:=il) B hS jI rfl rfl (by k_ne) (by kernel_rfl) fun T d=>⟨(w.setCell ⟨A.hb,13,none⟩ v1).re T d, ?_,fun hcut=>ay.re ?_ T d⟩
   ·have h7:=c7 T d
    have f7:=z7 T d
    clear bc hw aA hn K1 T1 hp F6 c7 z7
    simp only at LS zA
    rw [zA] at LS
    rw [zA]
    go_simp
    exact nE _ _ _ _ _
   ·exact aA.out ⟨L1,4,g1,v1⟩ _ (fun _ _=>rfl) ⟨⟨Cut.j8 hcut,jI.no⟩,Z_ rfl,dJ.stores (by rw [hD];decide) (by decide) (by decide) (by decide),⟨⟨_,_,_,hp.1.heap rfl⟩,K1.zt H1 F6,aU.zt T1 H1 F6⟩⟩
 ·intro D x w hd hw
  obtain ⟨L1,gT,g1,v1⟩:=x
  have jH:gT=4:=by
   have e1:=hw.fl.fs
   rw [hd 13 (by decide)] at e1
   have:=of_decide_eq_true e1.symm
   have:=hw.le
   simp only at *
   omega
  subst jH
  obtain ⟨H1,K1,T1⟩:=hw.at_
  have:=hc w L1 v1 (.pointer (some ⟨A.hb,0,none⟩)) (.pointer (some ⟨A.hb,0,none⟩)) (.pointer (some ⟨A.hb,0,none⟩)) (.pointer (some ⟨A.hb,13,none⟩)) (vt) (.pointer (some ⟨A.hb,0,none⟩)) (.int .i64 (i8:Nat)) (.int .i64 ((i8+1:Nat):Int)) (.int .i64 ki) (.slice (some ⟨g1,0,none⟩) 1 1) (v1) (.pointer (some ⟨A.hb,0,none⟩)) (.pointer (some ⟨A.hb,13,none⟩)) hw.lay H1 K1 T1
  generalize bc:slotsOf _ bs (Fy A i8 vt ki ⟨L1,4,g1,v1⟩)=sl
  have eS:sl=#[.pointer (some ⟨A.hb,0,none⟩),z1,z2,z3,z4,z5,.int .i64 (i8:Nat),z7,z8,z9,dB,cZ,z12,de,dn,dm,dk,dj,dA,dz,z20,z21,z22,z23,z24,z25,z26,dD,z28,dC,dM,z31,dQ,dK,dP,dO,dV,.pointer (some ⟨A.hb,0,none⟩),.pointer (some ⟨A.hb,0,none⟩),.pointer (some ⟨A.hb,0,none⟩),.pointer (some ⟨A.hb,13,none⟩),vt,.pointer (some ⟨A.hb,0,none⟩),.int .i64 (i8:Nat),.int .i64 ((i8+1:Nat):Int),.int .i64 ki,.slice (some ⟨g1,0,none⟩) 1 1,v1,.pointer (some ⟨A.hb,0,none⟩),.pointer (some ⟨A.hb,13,none⟩),en,z51]:=by rw [<-bc,<-cn];kernel_rfl
  rw [eS]
  exact this
def B6 (P:Int) (q:Hs × List Od) (e:Ev):Hs × List Od:=({(gZ P q.1 q.2 e).1 with log:=(gZ P q.1 q.2 e).1.log++[(gZ P q.1 q.2 e).2.2]},(gZ P q.1 q.2 e).2.1)
def eC (P:Int) (q:Hs × List Od) (evs:List Ev):Hs × List Od:=evs.foldl (B6 P) q
variable {evs:List Ev}
theorem zd {P:Int} {q:Hs × List Od} {k:Nat} (hk:k<evs.length):eC P q (evs.take (k+1))=B6 P (eC P q (evs.take k)) evs[k]:=by
 unfold eC
 rw [sC hk,List.foldl_append];rfl
def Dr (P:Int) (q:Hs × List Od) (evs:List Ev):Prop:=∀k (hk:k<evs.length),(evs[k]).ok (eC P q (evs.take k)).2.length/\BA (eC P q (evs.take k)).1 (eC P q (evs.take k)).2/\(gZ P (eC P q (evs.take k)).1 (eC P q (evs.take k)).2 evs[k]).1.log.length<=1000
def Dt (A:Ha) (ea:Option z_) (evs:List Ev):Prop:=evs=[]\/∃eb cs t f,ea=some ⟨eb,0,none⟩/\eb<A.n0/\eb≠A.hb/\A.h0[eb]?=some (Obj.cells cs t f)/\∀k (hk:k<evs.length),cs[k * 3]?=some (.string (evs[k]).kind)/\cs[k * 3+1]?=some (.int .i64 (evs[k]).who)/\cs[k * 3+2]?=some (.int .i64 (evs[k]).word)
theorem NI {p q:M'}:fZ p_ 72 #[p,q] .normal=(base 72).at ⟨#[p,q]++F_ 50 I',[]⟩ [.code eV]:=by kernel_rfl
theorem IH (B:eh p_ C b 0 ae Fin h) (hm:us.length<=999) (J7:S.cg=[])
 (hc:∀aK L' Io,Lay C aK->cQ A va Io {S with cg:=us.map (·.k)} aK->ik us.length C A N0 h us L' aK->aU A aK->ay p_ C b 0 ae Fin Post h (aY b N h L') aK (G (aI.at (aS.put ((av[aN]?).bind (·.dst)) (.tuple #[])) (.inRegion av sg::aV)) cs)):
 ∀m i,us.length - i=m->i<=us.length->∀(z1 z2 z3 z4 z5 z6 z7 z8 z9 dB cZ z12 de dn dm dk dj dA dz z20 z21 z22 z23 z24 z25 z26 dD z28 dC dK dP dO dV z37 ey ew z40 eu eK eJ eI eH z46 eQ eN z49 en z51 vt:M') (L:Nat->Os) (wl:J'),Lay C wl->cQ A va vt {S with cg:=(us.take i).map (·.k)} wl->ik i C A N0 h us L wl->aU A wl->
 ay p_ C b 0 ae Fin Post h (aY b N h L) wl (G ((base 72).at ⟨#[.pointer (some ⟨A.hb,0,none⟩),z1,z2,z3,z4,z5,z6,z7,z8,z9,dB,cZ,z12,de,dn,dm,dk,dj,dA,dz,z20,z21,z22,z23,z24,z25,z26,dD,z28,dC,.slice (some ⟨A.ob,0,none⟩) A.m A.co,.int .i64 (A.m:Nat),.int .i64 (i:Nat),dK,dP,dO,dV,z37,ey,ew,z40,eu,eK,eJ,eI,eH,z46,eQ,eN,z49,en,z51],[]⟩ [.code pK,.inLoop pK,.inBlock 2]) (aI.at aS (.inRegion av (aN::sg)::aV)::cs)):=by
 intro m
 induction m with
 |zero=>
  intro i Zf hi z1 z2 z3 z4 z5 z6 z7 z8 z9 dB cZ z12 de dn dm dk dj dA dz z20 z21 z22 z23 z24 z25 z26 dD z28 dC dK dP dO dV z37 ey ew z40 eu eK eJ eI eH z46 eQ eN z49 en z51 vt L wl hL H K hT
  have hS:=aH b N h L
  obtain rfl:i=us.length:=by omega
  have hlen:=K.len
  have hlt:((us.length:Int)<(us.length:Int))=False:=by simp
  generalize hK:[Item.inLoop pK,.inBlock 2]=K0
  rw [<-hlen]
  simp only [pK,ai,az,eV,f72,A_]
  iterate 6 refine B.n ?_
  subst hK
  refine ay.ctl B hS hL rfl (fun _=>stepG_exit rfl) ?_
  refine ay.ctl B hS hL rfl (fun _=>stepG_end) ?_
  refine ay.ctl B hS hL rfl (fun _=>fC rfl rfl func72 rfl) ?_
  rw [List.take_length] at H
  exact hc wl L vt hL H K hT
 |succ m ih=>
  intro i Zf hi z1 z2 z3 z4 z5 z6 z7 z8 z9 dB cZ z12 de dn dm dk dj dA dz z20 z21 z22 z23 z24 z25 z26 dD z28 dC dK dP dO dV z37 ey ew z40 eu eK eJ eI eH z46 eQ eN z49 en z51 vt L wl hL H K hT
  have hS:=aH b N h L
  have hlen:=K.len
  have hlt:i<us.length:=by omega
  have aEa:i<A.m:=by omega
  have gJ:(i:Int)<(A.m:Int):=by omega
  have oJ:IntKind.i64.wrap ((i:Int)+1)=((i+1:Nat):Int):=by rw [IntWalk.i64_in _ (by omega)];rfl
  have kc:=K.cells i hlt
  generalize hK:[Item.inLoop pK,.inBlock 2]=K0
  have e0:pK=.seq (ai 0 pK) (.seq (ai 1 pK) (.seq (.block 3 (.seq (ai 0 (match ai 2 pK with| .block _ c=>c|c=>c)) (.seq Sa (az 2 (match ai 2 pK with| .block _ c=>c|c=>c))))) (match az 2 pK with| .seq _ c=>c|c=>c))):=by kernel_rfl
  rw [e0]
  refine B.s ?_
  simp only [ai,pK,az,eV,f72,A_]
  iterate 5 refine B.n ?_
  refine ay.ctl B hS hL rfl (fun _=>stepG_skip) ?_
  refine B.s ?_
  refine ay.ctl B hS hL rfl (fun _=>stepG_block) ?_
  iterate 4 refine B.n ?_
  refine B.o (.chan (some us[i].x)) (fun T d=> ?_) ?_
  ·have h0:(wl.re T d).cell? ⟨A.ob,i,none⟩=some (.chan (some us[i].x)):=kc.1
   go_simp
  walk_nrm
  iterate 4 refine B.n ?_
  refine MD B hL H K hT hlt (by omega) (C_ _) (ki:=us[i].k) rfl (S1:={S with cg:=(us.take i).map (·.k)}) (wG:=us) (by simp only [List.length_map,Q_];omega) rfl rfl fun w2 L2 SY u37 u38 u39 u40 u41 u42 u43 u44 u45 u46 u47 u48 u49 du H2 K2 T2=> ?_
  have KP:=aH b N h L2
  have htk:(us.take i).map (·.k)++[us[i].k]=(us.take (i+1)).map (·.k):=by rw [sC hlt,List.map_append];rfl
  obtain ⟨kk,gv⟩:=(K2.kM (N0+i) us[i] (K2.n0 i hlt).1 (by rw [K2.live i hlt (C_ _)];rfl)).1
  have hxB:=(K2.kM (N0+i) us[i] (K2.n0 i hlt).1 (by rw [K2.live i hlt (C_ _)];rfl)).2
  iterate 2 refine B.n ?_
  refine PV B du K2.fo K2.ap (K2.n0 i hlt).1 (K2.n0 i hlt).2 (K2.live i hlt (C_ _)) gv rfl (fun w hw=>stepG_close (c:=us[i].x) rfl rfl (by k_ne) rfl rfl hw (by kernel_rfl)) (by kernel_rfl) rfl ?_
  have gA:Lay C (w2.setChan us[i].x 0 #[] true kk kk false):=du.setChan gv rfl _ _ _ _ _ _
  have kC:=gN.chan gv rfl 0 #[] true kk kk false
  obtain ⟨N3,N4,LU,H2⟩:=H2
  have H3:=H2.pf kC ⟨kk,gv⟩
  have K3:=K2.gone hlt gv
  have T3:=T2.pf kC ⟨kk,gv⟩
  rw [htk] at H3
  have zq:=aH b N h (upd L2 (N0+i) .gone)
  generalize w2.setChan us[i].x 0 #[] true kk kk false=w3 at *
  walk_nrm
  refine B.e ?_
  refine ay.ctl B zq gA rfl (fun _=>stepG_inBlock) ?_
  iterate 4 refine B.n ?_
  subst hK
  refine ay.ctl B zq gA rfl (fun _=>stepG_inLoop) ?_
  exact ih (i+1) (by omega) (by omega) _ _ _ _ _ _ _ _ _ _ _ _ _ _ _ _ _ _ _ _ _ _ _ _ _ _ _ _ _ _ _ _ _ _ _ _ _ _ _ _ _ _ _ _ _ _ _ _ SY _ w3 gA ⟨_,_,_,H3⟩ K3 T3
theorem aU.re (h:aU A w) (T:Nat->Question->Nat) (d:Nat):aU A (w.re T d):=h
theorem bN.re {L:Nat->Os} (K:bN C A N0 h us L w) (T:Nat->Question->Nat) (d:Nat):bN C A N0 h us L (w.re T d):=⟨K.len,K.small,K.live,K.n0,K.ap,K.fo,K.kM,K.cells⟩
variable {ea:Option z_} {ec:Nat}
theorem II (B:eh p_ C b 0 ae Fin h) (uO:Dt A ea evs) (hn:evs.length<=1000) (cK:Dr A.P (S,us) evs)
 (hc:∀aK L' IX (z1 z2 z3 z4 z5 z6 z7 z8 z9 dB cZ z12 de dn dm dk dj dA dz z20 z21 z22 z23 z24 z25 z26 dD z28 dC dM z31 dQ dK dP dO dV z37 ey ew z40 eu eK eJ eI eH z46 eQ eN z49 en z51:M'),Lay C aK->cQ A IX vt (eC A.P (S,us) evs).1 aK->bN C A N0 h (eC A.P (S,us) evs).2 L' aK->aU A aK->ay p_ C b 0 ae Fin Post h (aY b N h L') aK (G ((base 72).at ⟨#[.pointer (some ⟨A.hb,0,none⟩),z1,z2,z3,z4,z5,z6,z7,z8,z9,dB,cZ,z12,de,dn,dm,dk,dj,dA,dz,z20,z21,z22,z23,z24,z25,z26,dD,z28,dC,dM,z31,dQ,dK,dP,dO,dV,z37,ey,ew,z40,eu,eK,eJ,eI,eH,z46,eQ,eN,z49,en,z51],[]⟩ [.code (az 1 eV)]) (aI.at aS (.inRegion av (aN::sg)::aV)::cs))):
 ∀m k,evs.length - k=m->k<=evs.length->∀(z2 z3 z4 z5 z6 z7 cZ z12 de dn dm dk dj dA dz z20 z21 z22 z23 z24 z25 z26 dD z28 dC dM z31 dQ dK dP dO dV z37 ey ew z40 eu eK eJ eI eH z46 eQ eN z49 en z51 va:M') (L:Nat->Os) (wl:J'),Lay C wl->cQ A va vt (eC A.P (S,us) (evs.take k)).1 wl->bN C A N0 h (eC A.P (S,us) (evs.take k)).2 L wl->aU A wl->
 ay p_ C b 0 ae Fin Post h (aY b N h L) wl (G ((base 72).at ⟨#[.pointer (some ⟨A.hb,0,none⟩),.slice ea evs.length ec,z2,z3,z4,z5,z6,z7,.slice ea evs.length ec,.int .i64 (evs.length:Nat),.int .i64 (k:Nat),cZ,z12,de,dn,dm,dk,dj,dA,dz,z20,z21,z22,z23,z24,z25,z26,dD,z28,dC,dM,z31,dQ,dK,dP,dO,dV,z37,ey,ew,z40,eu,eK,eJ,eI,eH,z46,eQ,eN,z49,en,z51],[]⟩ [.code qx,.inLoop qx,.inBlock 0,.code (az 1 eV)]) (aI.at aS (.inRegion av (aN::sg)::aV)::cs)):=by
 intro m
 induction m with
 |zero=>
  intro k Zf hk z2 z3 z4 z5 z6 z7 cZ z12 de dn dm dk dj dA dz z20 z21 z22 z23 z24 z25 z26 dD z28 dC dM z31 dQ dK dP dO dV z37 ey ew z40 eu eK eJ eI eH z46 eQ eN z49 en z51 va L wl hL H K hT
  have hS:=aH b N h L
  obtain rfl:k=evs.length:=by omega
  have hlt:((evs.length:Int)<(evs.length:Int))=False:=by simp
  generalize hK:[Item.inLoop qx,.inBlock 0,.code (az 1 eV)]=K0
  simp only [qx,ai,az,eV,f72,A_]
  iterate 6 refine B.n ?_
  subst hK
  refine ay.ctl B hS hL rfl (fun _=>stepG_exit rfl) ?_
  rw [List.take_length] at H K
  exact hc wl L va _ _ _ _ _ _ _ _ _ _ _ _ _ _ _ _ _ _ _ _ _ _ _ _ _ _ _ _ _ _ _ _ _ _ _ _ _ _ _ _ _ _ _ _ _ _ _ _ _ _ _ hL H K hT
 |succ m ih=>
  intro k Zf hk z2 z3 z4 z5 z6 z7 cZ z12 de dn dm dk dj dA dz z20 z21 z22 z23 z24 z25 z26 dD z28 dC dM z31 dQ dK dP dO dV z37 ey ew z40 eu eK eJ eI eH z46 eQ eN z49 en z51 va L wl hL H K hT
  have hS:=aH b N h L
  have hlt:k<evs.length:=by omega
  have gJ:(k:Int)<(evs.length:Int):=by omega
  have oJ:IntKind.i64.wrap ((k:Int)+1)=((k+1:Nat):Int):=by rw [IntWalk.i64_in _ (by omega)];rfl
  obtain ⟨eb,WY,et,ef,rfl,heb,BH,hh0,hcs⟩:=uO.resolve_left (fun e=>by rw [e] at hlt;simp at hlt)
  have yc:wl.heap[eb]?=some (Obj.cells WY et ef):=hT.2.2 eb _ _ _ heb BH hh0
  obtain ⟨c1,c2,c3⟩:=hcs k hlt
  have j1:∀T d,(wl.re T d).cell? ⟨eb,k * 3,none⟩=some (.string (evs[k]).kind):=fun _ _=>(cV yc).trans c1
  have j2:∀T d,(wl.re T d).cell? ⟨eb,k * 3+1,none⟩=some (.int .i64 (evs[k]).who):=fun _ _=>(cV yc).trans c2
  have j3:∀T d,(wl.re T d).cell? ⟨eb,k * 3+2,none⟩=some (.int .i64 (evs[k]).word):=fun _ _=>(cV yc).trans c3
  generalize hK:[Item.inLoop qx,.inBlock 0,.code (az 1 eV)]=K0
  have e0:qx=.seq (ai 0 qx) (.seq (ai 1 qx) (.seq (.block 1 (.seq (ai 0 (match ai 2 qx with| .block _ c=>c|c=>c)) Sb)) (match az 2 qx with| .seq _ c=>c|c=>c))):=by kernel_rfl
  rw [e0]
  refine B.s ?_
  simp only [ai,qx,az,eV,f72,A_]
  iterate 5 refine B.n ?_
  refine ay.ctl B hS hL rfl (fun _=>stepG_skip) ?_
  refine B.s ?_
  refine ay.ctl B hS hL rfl (fun _=>stepG_block) ?_
  refine B.s ?_
  refine ay.code (ok:=il) B pA hS hL (AB (by kernel_rfl) rfl rfl ⟨_,func72⟩) ?_
  intro T d
  generalize hB:iM p_ C b 0 ae Fin Post h (aY b N h L) _ _ _=Bh
  replace hB:=aa hB
  have g1:=j1 T d
  have g2:=j2 T d
  have g3:=j3 T d
  have qK:=aa hL
  have ir:=aa hc
  have TQ:=aa ih
  have HH:=aa H
  have KH:=aa K
  have hTH:=aa hT
  have Y5:=aa cK
  clear hL hc ih H K hT cK j1 j2 j3 c1 c2 c3 yc hcs hh0
  generalize yM:evs[k]=ek at *
  go_wp2_with fail
  subst hB
  intro hcut
  subst yM
  obtain ⟨vw,vb,vr,H0⟩:=HH.out
  have hA:=(H0.heap (w':=wl.re T d) rfl).alloc (.cells #[.string (evs[k]).kind,.int .i64 (evs[k]).who,.int .i64 (evs[k]).word] 55)
  have F2:Im A (wl.re T d) ((wl.re T d).alloc (.cells #[.string (evs[k]).kind,.int .i64 (evs[k]).who,.int .i64 (evs[k]).word] 55)):=⟨(Fr.alloc (w:=wl.re T d) H0.big _).size,(Fr.alloc (w:=wl.re T d) H0.big _).block⟩
  have K2:=(KH.out.re T d).zt (H0.heap (w':=wl.re T d) rfl) F2
  have T2:=aU.zt (hTH.out.re T d) (H0.heap (w':=wl.re T d) rfl) F2
  have vI:((wl.re T d).alloc (.cells #[.string (evs[k]).kind,.int .i64 (evs[k]).who,.int .i64 (evs[k]).word] 55)).heap[(wl.re T d).heap.size]?=some (.cells #[.string (evs[k]).kind,.int .i64 (evs[k]).who,.int .i64 (evs[k]).word] 55 (0,0)):=Z' _ _
  have du:Lay C ((wl.re T d).alloc (.cells #[.string (evs[k]).kind,.int .i64 (evs[k]).who,.int .i64 (evs[k]).word] 55)):=⟨hcut,qK.out.no⟩
  clear F2
  generalize (wl.re T d).alloc (.cells #[.string (evs[k]).kind,.int .i64 (evs[k]).who,.int .i64 (evs[k]).word] 55)=w1 at *
  obtain ⟨o1,o2,o3⟩:=Y5.out k hlt
  have hst:=zd (P:=A.P) (q:=(S,us)) hlt
  refine ME B du ⟨_,_,_,hA⟩ K2 T2 o1 o2 vI (S1:=(gZ A.P (eC A.P (S,us) (evs.take k)).1 (eC A.P (S,us) (evs.take k)).2 evs[k]).1) (wG:=(gZ A.P (eC A.P (S,us) (evs.take k)).1 (eC A.P (S,us) (evs.take k)).2 evs[k]).2.1) (ans:=(gZ A.P (eC A.P (S,us) (evs.take k)).1 (eC A.P (S,us) (evs.take k)).2 evs[k]).2.2) o3 rfl rfl rfl fun w3 L3 va3 u14 u15 u16 u17 u18 u19 u20 u21 u22 u23 u24 u25 gA H3 K3 T3=> ?_
  have zq:=aH b N h L3
  refine ay.ctl B zq gA rfl (fun _=>stepG_inBlock) ?_
  iterate 4 refine B.n ?_
  subst hK
  refine ay.ctl B zq gA rfl (fun _=>stepG_inLoop) ?_
  exact TQ.out (k+1) (by omega) (by omega) _ _ _ _ _ _ _ _ _ _ _ _ _ _ _ _ _ _ _ _ _ _ _ _ _ _ _ _ _ _ _ _ _ _ _ _ _ _ _ _ _ _ _ _ _ _ _ va3 L3 w3 gA (by rw [hst];exact H3) (by rw [hst];exact K3) T3
theorem work (B:eh p_ C b 0 ae Fin h) (hL:Lay C wl) (H:cQ A va vt S wl) (K:bN C A N0 h us L wl) (hT:aU A wl) (uO:Dt A ea evs) (hn:evs.length<=1000) (cK:Dr A.P (S,us) evs) (hm:(eC A.P (S,us) evs).2.length<=999) (J7:(eC A.P (S,us) evs).1.cg=[])
 (hc:∀aK L' IX Io,Lay C aK->cQ A IX Io {(eC A.P (S,us) evs).1 with cg:=(eC A.P (S,us) evs).2.map (·.k)} aK->ik (eC A.P (S,us) evs).2.length C A N0 h (eC A.P (S,us) evs).2 L' aK->aU A aK->ay p_ C b 0 ae Fin Post h (aY b N h L') aK (G (aI.at (aS.put ((av[aN]?).bind (·.dst)) (.tuple #[])) (.inRegion av sg::aV)) cs)):
 ay p_ C b 0 ae Fin Post h (aY b N h L) wl (G ((base 72).at ⟨#[.pointer (some ⟨A.hb,0,none⟩),.slice ea evs.length ec]++F_ 50 I',[]⟩ [.code eV]) (aI.at aS (.inRegion av (aN::sg)::aV)::cs)):=by
 have hS:=aH b N h L
 have VJ:(#[.pointer (some ⟨A.hb,0,none⟩),.slice ea evs.length ec]++F_ 50 I':Array M')=#[.pointer (some ⟨A.hb,0,none⟩),.slice ea evs.length ec,I',I',I',I',I',I',I',I',I',I',I',I',I',I',I',I',I',I',I',I',I',I',I',I',I',I',I',I',I',I',I',I',I',I',I',I',I',I',I',I',I',I',I',I',I',I',I',I',I',I']:=by kernel_rfl
 rw [VJ]
 have e1:eV=.seq (.seq (ai 0 (ai 0 eV)) (.block 0 (.loop qx))) (az 1 eV):=by kernel_rfl
 rw [e1]
 iterate 2 refine B.n ?_
 generalize hX:[lN (Code.block 0 (.loop qx)),lN (az 1 eV)]=X0
 simp only [ai,eV,f72,A_]
 iterate 5 refine B.n ?_
 subst hX
 refine ay.ctl B hS hL rfl (fun _=>stepG_block) ?_
 refine ay.ctl B hS hL rfl (fun _=>stepG_loop) ?_
 refine II B (S:=S) (us:=us) uO hn cK (fun w2 L2 Sl z1 z2 z3 z4 z5 z6 z7 z8 z9 dB cZ z12 de dn dm dk dj dA dz z20 z21 z22 z23 z24 z25 z26 dD z28 dC dM z31 dQ dK dP dO dV z37 ey ew z40 eu eK eJ eI eH z46 eQ eN z49 en z51 du H2 K2 T2=> ?_) evs.length 0 rfl (nz _) _ _ _ _ _ _ _ _ _ _ _ _ _ _ _ _ _ _ _ _ _ _ _ _ _ _ _ _ _ _ _ _ _ _ _ _ _ _ _ _ _ _ _ _ _ _ _ va L wl hL H K hT
 have KP:=aH b N h L2
 have e2:az 1 eV=.seq (ai 1 eV) (.block 2 (.loop pK)):=by kernel_rfl
 rw [e2]
 refine B.s ?_
 generalize hX:[lN (Code.block 2 (.loop pK))]=X0
 simp only [ai,eV,f72,A_]
 obtain ⟨vw,vb,vr,H2⟩:=H2
 iterate 4 refine B.n ?_
 refine B.o (.slice (some ⟨A.ob,0,none⟩) A.m A.co) (fun T d=> ?_) ?_
 ·have h0:(w2.re T d).cell? ⟨A.hb,6,none⟩=some (.slice (some ⟨A.ob,0,none⟩) A.m A.co):=H2.c.2.2.2.1
  go_simp
 walk_nrm
 iterate 3 refine B.n ?_
 subst hX
 refine ay.ctl B KP du rfl (fun _=>stepG_block) ?_
 refine ay.ctl B KP du rfl (fun _=>stepG_loop) ?_
 have H3:cQ A Sl vt {(eC A.P (S,us) evs).1 with cg:=((eC A.P (S,us) evs).2.take 0).map (·.k)} w2:=by
  refine ⟨vw,vb,vr, ?_⟩
  have:({(eC A.P (S,us) evs).1 with cg:=((eC A.P (S,us) evs).2.take 0).map (·.k)}:Hs)=(eC A.P (S,us) evs).1:=by
   rw [List.take_zero,List.map_nil,<-J7]
  rw [this];exact H2
 exact IH B (S:=(eC A.P (S,us) evs).1) (us:=(eC A.P (S,us) evs).2) hm J7 (fun w3 L3 vt3 gA H3 K3 T3=>hc w3 L3 Sl vt3 gA H3 K3 T3) _ 0 rfl (nz _) _ _ _ _ _ _ _ _ _ _ _ _ _ _ _ _ _ _ _ _ _ _ _ _ _ _ _ _ _ _ _ _ _ _ _ _ _ _ _ _ _ _ _ _ _ _ _ _ vt L2 w2 du H3 K2.two T2
end
end Go.aC.Of
namespace Go.aC
open Go Go.Conc
def Sf (a:z_) (n b:Nat) (ob zk:Obj):Prop:=
 match ob with
 | .cells c e f=>∃f',zk=.cells c e f'/\(∀j,gd f j=true->gd f' j=true)/\(a.block=b->n≠0->∀j,a.off<=j->j<a.off+n->gd f' j=true)
 |_=>zk=ob
theorem gK (w:J') (a:z_) (n b:Nat) (ob:Obj) (h:w.heap[b]?=some ob):∃zk,(w.freeze a n).heap[b]?=some zk/\Sf a n b ob zk:=by
 unfold World.freeze
 by_cases hn:n=0
 ·rw [if_pos hn]
  refine ⟨ob,h, ?_⟩
  cases ob<;>first|rfl|exact ⟨_,rfl,fun _ h=>h,fun _ h=>absurd hn h⟩
 ·rw [if_neg hn]
  simp only [Array.getElem?_modify]
  by_cases e:a.block=b
  ·rw [if_pos e,h]
   refine ⟨_,rfl, ?_⟩
   cases ob<;>try rfl
   rename_i c el f
   obtain ⟨lo,hi⟩:=f
   refine ⟨_,rfl,fun j hj=> ?_,fun _ _ j h1 h2=> ?_⟩
   ·unfold gd at hj ⊢
    simp only [Bool.and_eq_true,decide_eq_true_eq] at hj ⊢
    split
    ·rename_i Wx;simp at Wx;omega
    ·simp only;omega
   ·unfold gd
    simp only [Bool.and_eq_true,decide_eq_true_eq]
    split<;>simp only<;>omega
  ·rw [if_neg e]
   refine ⟨ob,h, ?_⟩
   cases ob<;>first|rfl|exact ⟨_,rfl,fun _ h=>h,fun h=>absurd h e⟩
theorem eX (w:J') (a:z_) (n:Nat):(w.freeze a n).heap.size=w.heap.size:=by
 unfold World.freeze;split<;>simp
theorem Dk (w:J') (a:z_) (n:Nat) (x:z_):(w.freeze a n).cell? x=w.cell? x:=by
 unfold World.cell?
 cases hb:w.heap[x.block]? with
 |none=>
  have:(w.freeze a n).heap[x.block]?=none:=by
   rw [Array.getElem?_eq_none_iff] at hb ⊢;rw [eX];exact hb
  rw [this]
 |some ob=>
  obtain ⟨zk,h1,h2⟩:=gK w a n x.block ob hb
  rw [h1]
  cases ob<;>first|(rw [show _=_ from h2])|(obtain ⟨f',rfl,_⟩:=h2;rfl)
variable {w:J'}
theorem yQ {a:z_} {n:Nat} {x:z_} (h:w.frozen? x=true):(w.freeze a n).frozen? x=true:=by
 unfold World.frozen? at h ⊢
 cases hb:w.heap[x.block]? with
 |none=>rw [hb] at h;cases h
 |some ob=>
  obtain ⟨zk,h1,h2⟩:=gK w a n x.block ob hb
  rw [hb] at h;rw [h1]
  cases ob<;>first|(cases h;done)|skip
  obtain ⟨f',rfl,h3,_⟩:=h2
  exact h3 x.off h
variable {x k:Nat}
theorem rv {v:M'} (h:w.cell? ⟨x,k,none⟩=some v):(w.freeze ⟨x,k,none⟩ 1).frozen? ⟨x,k,none⟩=true:=by
 obtain ⟨c,e,f,hb,_⟩:=dF h
 obtain ⟨zk,h1,f',rfl,_,h3⟩:=gK w ⟨x,k,none⟩ 1 x _ hb
 unfold World.frozen?
 simp only [h1]
 exact h3 rfl (by decide) k (C_ _) (Nat.lt_succ_self _)
variable {wl:J'}
theorem bI.freeze (h:bI wl w) (a:z_) (n:Nat):bI (wl.freeze a n) w:=by
 refine ⟨(eX _ _ _).trans h.size,fun b o o' h1 h2=> ?_, ?_, ?_,fun b o h1=> ?_⟩
 ·obtain ⟨p,hp⟩:∃p,wl.heap[b]?=some p:=⟨_,H_ (by have:=(cI h1);rw [eX] at this;exact this)⟩
  obtain ⟨zk,e1,e2⟩:=gK wl a n b p hp
  rw [e1] at h1;cases h1
  have:=h.obj b p o' hp h2
  cases p<;>first|(rw [show _=_ from e2];exact this)|skip
  obtain ⟨f',rfl,h3,_⟩:=e2
  cases this with
  |same=>exact .cut (C_ _) (fun _ _=>rfl) (fun k hk=>h3 k hk)
  |cut g1 g2 g3=>exact .cut g1 g2 (fun k h=>h3 k (g3 k h))
  |blind hb=>cases hb
 ·unfold World.freeze;split<;>exact h.os
 ·unfold World.freeze;split<;>exact h.out
 ·obtain ⟨p,hp⟩:∃p,wl.heap[b]?=some p:=⟨_,H_ (by have:=(cI h1);rw [eX] at this;exact this)⟩
  obtain ⟨zk,e1,e2⟩:=gK wl a n b p hp
  rw [e1] at h1;cases h1
  have:=h.ic b p hp
  cases p<;>first|(rw [show _=_ from e2];exact this)|(obtain ⟨f',rfl,_⟩:=e2;rfl)
theorem Shut.freeze {n:Nat} {U:J'} (h:Shut n U wl) (a:z_) (m:Nat):Shut n U (wl.freeze a m):=by
 refine ⟨by rw [eX];exact h.size,fun b o hb ho=> ?_⟩
 obtain ⟨p,hp⟩:∃p,wl.heap[b]?=some p:=⟨_,H_ (by have:=(cI ho);rw [eX] at this;exact this)⟩
 obtain ⟨zk,e1,e2⟩:=gK wl a m b p hp
 rw [e1] at ho;cases ho
 obtain ⟨tz,h1,h2⟩:=h.obj b p hb hp
 refine ⟨tz,h1, ?_⟩
 cases p<;>first|(rw [show _=_ from e2];exact h2)|skip
 obtain ⟨f',rfl,h3,_⟩:=e2
 cases h2 with
 |cells g=>exact .cells fun k hk=>h3 k (g k hk)
 |other _ g1 _ _=>cases g1
end Go.aC
namespace Go.aC.Of
open Go Go.Conc Go.Conc.Lib Go.ConcR Go.ConcR.Gen Go.aC Go.Proofs
open Go.RowKit hiding Hid
open Go.ConcN (upd upd_ne upd_same)
def oH (w:J') (c:Nat) (cs:Array M') (t:Q'):J':={w with heap:=w.heap.setIfInBounds c (.cells cs t)}
variable {w:J'} {cs:Array M'}
theorem IL {w₁:J'} {c:Nat} {cs':Array M'} {t:Q'} (hb:w.heap[c]?=some (.cells cs' t)) (hs:cs.size<=cs'.size) (hc:∀k,k<cs.size->cs'[k]?=cs[k]?) (h:bI w w₁):bI (oH w c cs t) w₁:=by
 have hlt:=(cI hb)
 refine ⟨by simp [oH,h.size],fun b o o' h1 h2=> ?_,h.os,h.out,fun b o h1=> ?_⟩
 ·simp only [oH,Y_] at h1
  by_cases e:c=b
  ·subst e
   rw [if_pos rfl,if_pos hlt] at h1
   cases h1
   have:=h.obj c _ o' hb h2
   cases this with
   |same=>exact .cut hs hc (fun _ q=>q)
   |cut g1 g2 g3=>exact .cut (D_ hs g1) (fun k hk=>(g2 k (by omega)).trans (hc k hk)) (fun k q=>g3 k q)
   |blind hb=>cases hb
  ·rw [if_neg e] at h1;exact h.obj b o o' h1 h2
 ·simp only [oH,Y_] at h1
  by_cases e:c=b
  ·subst e;rw [if_pos rfl,if_pos hlt] at h1;cases h1;rfl
  ·rw [if_neg e] at h1;exact h.ic b o h1
theorem Bm {c r:Nat} {t:Q'} (h:r≠c):(oH w c cs t).heap[r]?=w.heap[r]?:=by
 simp only [oH]
 rw [Array.getElem?_setIfInBounds_ne (ru h)]
theorem HY {c:Nat} {t:Q'} (h:c<w.heap.size):(oH w c cs t).heap[c]?=some (.cells cs t):=by simp [oH,h]
variable {j:Nat}
theorem cell_of_block {b:Nat} {t:Q'} {v:M'} (hb:w.heap[b]?=some (.cells cs t)) (hj:cs[j]?=some v):w.cell? ⟨b,j,none⟩=some v/\w.frozen? ⟨b,j,none⟩=false:=by
 constructor
 ·unfold World.cell?;simp only [hb];simpa using hj
 ·unfold World.frozen?;simp only [hb];simp
def pI (b N:Nat) (L:Nat->Os) (_:Nat->Prop) (ρ:Nat->aX) (n:Nat):Prop:=n=N/\0<N/\∀j,j≠0->(L j).ok b (ρ j)
theorem iS (b N:Nat) (L:Nat->Os):Il (pI b N L):=fun _ _ _ _ _ h ha=>⟨h.1,h.2.1,fun j hj=>Os.Em (h.2.2 j hj) (ha j hj)⟩
variable {N:Nat}
theorem Ax {b:Nat} {rel:Nat->Prop} {ρ:Nat->aX} (hN:0<N) (h:Alone rel ρ N) (h0:∀j,(ρ j).isSelf=true->j=0):pI b N (fun _=>.gone) rel ρ N:=by
 refine ⟨rfl,hN,fun j hj=> ?_⟩
 rcases h.2 j with q|⟨d,q⟩|q
 ·exact .inr q
 ·rw [q];exact .inl rfl
 ·exact absurd (h0 j q) hj
def oO (bt:Nat) (l:Loc):Prop:=l=.cell ⟨bt,0,none⟩
variable {C:cS} {i bt:Nat}
theorem KS.hire {n:Nat} {S:Loc->Prop} (h:KS C i bt):KS (C.hire n S (fun _=>False)) i bt:=⟨h.on,.inl h.ts,h.tn⟩
section
variable {b:Nat} {L:Nat->Os} {Post:M'->J'->Prop} {k:Nat} {wl:J'} {g g':O'}
variable {x kk:Nat}
theorem QX (hN:0<N) (hL:Lay C wl) (hP:BB C L) (hD:Apart L) (ht:wl.cell? ⟨bt,0,none⟩=some (.chan (some x)))
 (gv:wl.heap[x]?=some (.chan 0 #[] false kk kk false)) (hxn:∀j u,j≠0->(L j).od=some u->u.x≠x) (hrun:g.status=.running) (hsp:∀w,stepG p_ true g w=.spawn g' (born p_ (call68 b bt)) w #[])
 (h:Lay (C.hire N (oO bt) (fun _=>False)) (wl.freeze ⟨bt,0,none⟩ 1)->BB (C.hire N (oO bt) (fun _=>False)) (upd L N (.live ⟨bt,x,0⟩))->Apart (upd L N (.live ⟨bt,x,0⟩))->
  Can p_ (C.hire N (oO bt) (fun _=>False)) b 0 Post k (pI b (N+1) (upd L N (.live ⟨bt,x,0⟩))) (wl.freeze ⟨bt,0,none⟩ 1) g'):Can p_ C b 0 Post (k+1) (pI b N L) wl g:=by
 have vis:∀y j v,wl.cell? ⟨y,j,none⟩=some v->¬C.Sh (.cell ⟨y,j,none⟩)/\¬C.Gr (.cell ⟨y,j,none⟩)/\∀g,¬C.Pv g (.cell ⟨y,j,none⟩):=fun y j v hv=>
  ⟨fun q=>absurd (hv.symm.trans (hL.cut.hid y j (.inl q)).2) (by simp),fun q=>absurd (hv.symm.trans (hL.cut.hid y j (.inr (.inl q))).2) (by simp),fun g=>hP.no g _⟩
 have Zl:KS (C.hire N (oO bt) (fun _=>False)) N bt:=⟨hP.on,.inr ⟨rfl,rfl⟩,(vis _ _ _ ht).1⟩
 have hD':Apart (upd L N (.live ⟨bt,x,0⟩)):=fun i j u v hi hj vG h1 h2=>by
  by_cases ei:i=N
  ·subst ei
   rw [O_] at h1;cases h1
   rw [P_ _ _ (ru vG)] at h2
   exact ru (hxn j v hj h2)
  ·rw [P_ _ _ ei] at h1
   by_cases ej:j=N
   ·subst ej
    rw [O_] at h2;cases h2
    exact hxn i u hi h1
   ·rw [P_ _ _ ej] at h2
    exact hD i j u v hi hj vG h1 h2
 have hP':BB (C.hire N (oO bt) (fun _=>False)) (upd L N (.live ⟨bt,x,0⟩)):=by
  refine ⟨hP.on,fun g l q=>q.elim (hP.no g l) (fun q=>q.2),fun j u hj hu=> ?_⟩
  by_cases e:j=N
  ·subst e;rw [O_] at hu;cases hu;exact Zl
  ·rw [P_ _ _ e] at hu;exact (hP.ks j u hj hu).hire
 have fJ:Lay (C.hire N (oO bt) (fun _=>False)) (wl.freeze ⟨bt,0,none⟩ 1):=by
  refine ⟨⟨fun y j hy=> ?_,fun y j hy=> ?_⟩,fun g r=>⟨fun q=>q.elim (hP.no g _) (fun q=>q.2),fun q=>q.elim (hL.no g r).2 (fun q=>by cases q.2)⟩⟩
  ·have pg:bS C y j:=by
    rcases hy with q|q|⟨g,q|q⟩
    ·exact .inl q
    ·exact .inr (.inl q)
    ·exact .inr (.inr ⟨g,q⟩)
    ·exact q.2.elim
   obtain ⟨h1,h2⟩:=hL.cut.hid y j pg
   exact ⟨by rw [eX];exact h1,by rw [Dk];exact h2⟩
  ·rw [eX]
   obtain ⟨g,q|⟨_,q⟩⟩:=hy
   ·obtain ⟨h1,h2⟩:=hL.cut.gd y j ⟨g,q⟩
    exact ⟨h1,yQ h2⟩
   ·cases q
    exact ⟨lC ht,rv ht⟩
 have hkw:∀w,bI wl w->(C.on->Live b 0 w)->KO b bt x w:=fun w hw hl=>⟨hw.cell ht,hl hP.on⟩
 refine Can.UJ (iS b N L) hL (N:=N) (S:=oO bt) (child:=born p_ (call68 b bt)) (r:=.seat (.recv x ZQ true) (mZ b bt x 0)) (aK:=wl.freeze ⟨bt,0,none⟩ 1) (fun rel ρ n hR=>hR.1) hrun hsp
  (fun w hw l hl=> ?_) (fun w hw Ni=> ?_) ⟨rfl,rfl,rfl,rfl,rfl,by simp⟩ (fun p h' he=> ?_) (fun rel ρ n hR p' h' he j p SL hj hp hc=> ?_) (fun w hw=>hw.freeze _ _) (fun _ _ hs=>hs.freeze _ _) (fun rel ρ n hR=> ?_) (h fJ hP' hD')
 ·rcases hl with rfl
  exact ⟨.inl ⟨bt,0,rfl,lC (hw.cell ht)⟩,vis _ _ _ ht⟩
 ·obtain ⟨n,hn⟩:=G5 (b:=b) (x:=x) Zl
  refine ⟨n+1,fun w w₁ g r=>xB Zl w w₁ g r,.inl ⟨n,rfl, ?_⟩⟩
  rw [RX (by omega)]
  exact hn w (hkw w hw Ni)
 ·simp only [aX.seat.injEq] at he
  obtain ⟨rfl,_⟩:=he
  exact ⟨kk,gv⟩
 ·simp only [aX.seat.injEq] at he
  obtain ⟨rfl,_⟩:=he
  have cK:=hR.2.2 j hj
  rw [hp] at cK
  obtain ⟨u,hu,rfl,_⟩:=nJ cK
  rfl
 ·obtain ⟨rfl,h0,h1⟩:=hR
  refine ⟨rfl,by omega,fun j hj=> ?_⟩
  by_cases e:j=n
  ·subst e;rw [O_,O_];rfl
  ·rw [P_ _ _ e,P_ _ _ e,P_ _ _ hj];exact h1 j hj
end
def call71 (b hv ev:Nat):Deferred:={target:=.fn (.func 71) #[.pointer (some ⟨b,0,none⟩),.pointer (some ⟨hv,0,none⟩),.pointer (some ⟨ev,0,none⟩)],args:=#[]}
noncomputable def xV:Code:=f71.body.getD .skip
noncomputable def Oo:Array y_:=match xV with| .seq _ (.region _ ops _)=>ops|_=>#[]
theorem Dp (b hv ev:Nat) (w:J'):stepG p_ false (born p_ (call71 b hv ev)) w=
 .go (G ((baseD 71).at ⟨#[.pointer (some ⟨b,0,none⟩),.pointer (some ⟨hv,0,none⟩),.pointer (some ⟨ev,0,none⟩)]++F_ 3 I',[]⟩ [.code xV]) [bot]) w #[]:=by
 simp [born,call71,stepG,unwind,callDeferred,invoke,callFunc,func71,f71,seen,GStep.after,G,fZ,Frame.at,baseD,bot,xV]
theorem Ce (F:Array M'):QuitsD p_ 2 0 (G {(baseD 71).at ⟨F,[]⟩ [] with mode:=.returning} [bot]):=by
 refine QuitsD.ctl (g':=G bot []) rfl (fun w=> ?_) ?_
 ·simp [G,stepG,unwind,doReturn,results,Frame.at,baseD,bot,func71,f71,seen,GStep.after,goexitEntry]
 refine QuitsD.ctl (g':={G bot [] with status:=.finished}) rfl (fun w=> ?_) ⟨rfl,rfl⟩
 simp [G,stepG,unwind,bot,goexitEntry,Frame.catches]
 rfl
theorem IJ {b:Nat} (b9:C.on) (F:Array M'):∃n,∀w,Live b 0 w->Goes p_ false (RB C b 0 i) (DR C i) (AtR0 p_ C b 0 i) n (G ((baseD 71).at ⟨F,[dcall 69 #[.pointer (some ⟨b,0,none⟩)]]⟩ [.inRegion Oo []]) [bot]) w:=by
 have W:=wkR b9 b 0 i
 simp only [Oo,xV,f71,A_]
 refine W.ctl rfl (fun _=>stepG_region_end) ?_
 refine W.ctl rfl (fun _=>stepG_end) ?_
 refine W.ctl rfl (fun _=>stepG_unwind_enter rfl Tryz.oN.f_done (nm_done Tryz.link) rfl) ?_
 exact Di Tryz.oN b9 (b:=b) (o:=0) (i:=i) (c:={(baseD 71).at ⟨F,[]⟩ [] with mode:=.returning}) (cs:=[bot]) rfl (Ce _)
section
variable {b N0 h:Nat} {L:Nat->Of.Os} {us:List Od} {A:Ha} {S:Hs} {va vt:M'} {Post:M'->J'->Prop} {wl:J'} {gm:O'} {ae:O'->J'->Prop}
variable {evs:List Ev} {ea:Option z_} {ec:Nat}
theorem Fc (B:eh p_ C b 0 ae (Fs p_ C gm) h) (hL:Lay C wl) (H:cQ A va vt S wl) (K:bN C A N0 h us L wl) (hT:aU A wl) {hv ev:Nat}
 (UQ:wl.cell? ⟨hv,0,none⟩=some (.pointer (some ⟨A.hb,0,none⟩))) (ZB:wl.cell? ⟨ev,0,none⟩=some (.slice ea evs.length ec)) (uO:Dt A ea evs) (hn:evs.length<=1000) (cK:Dr A.P (S,us) evs) (hm:(eC A.P (S,us) evs).2.length<=999) (J7:(eC A.P (S,us) evs).1.cg=[])
 {B₁:Nat} (hB:N<=B₁)
 (hc:∀aK IX Io,Lay C aK->cQ A IX Io {(eC A.P (S,us) evs).1 with cg:=(eC A.P (S,us) evs).2.map (·.k)} aK->aU A aK->Can p_ C b 0 Post 0 (db B₁) aK gm):
 ay p_ C b 0 ae (Fs p_ C gm) Post h (aY b N h L) wl (born p_ (call71 b hv ev)):=by
 have hS:=aH b N h L
 refine ay.ctl B hS hL rfl (Dp b hv ev) ?_
 have VJ:(#[.pointer (some ⟨b,0,none⟩),.pointer (some ⟨hv,0,none⟩),.pointer (some ⟨ev,0,none⟩)]++F_ 3 I':Array M')=#[.pointer (some ⟨b,0,none⟩),.pointer (some ⟨hv,0,none⟩),.pointer (some ⟨ev,0,none⟩),I',I',I']:=by kernel_rfl
 rw [VJ]
 simp only [xV,f71,A_]
 iterate 2 refine B.n ?_
 refine ay.ctl B hS hL rfl (fun _=>stepG_defer rfl rfl (by k_ne) rfl) ?_
 walk_nrm
 iterate 2 refine B.n ?_
 refine B.o (.pointer (some ⟨A.hb,0,none⟩)) (fun T d=> ?_) ?_
 ·have h0:(wl.re T d).cell? ⟨hv,0,none⟩=some (.pointer (some ⟨A.hb,0,none⟩)):=UQ
  go_simp
 walk_nrm
 refine B.o (.slice ea evs.length ec) (fun T d=> ?_) ?_
 ·have h0:(wl.re T d).cell? ⟨ev,0,none⟩=some (.slice ea evs.length ec):=ZB
  go_simp
 walk_nrm
 refine ay.ctl B hS hL rfl (fun _=>bY (vs:=#[.pointer (some ⟨A.hb,0,none⟩),.slice ea evs.length ec]) rfl rfl (by k_ne) rfl func72 rfl rfl (by kernel_rfl)) ?_
 rw [NI]
 refine work B hL H K hT uO hn cK hm J7 fun w2 L2 Sl SY du H2 K2 T2=> ?_
 walk_nrm
 refine ay.leaves B du (fun w hw Ni=> ?_) (B₁:=B₁) (fun rel ρ n hR=>by rw [hR.1];exact hB) (fun rel ρ n hR j hj KI=> ?_) (hc w2 Sl SY du H2 T2)
 ·obtain ⟨n,hn⟩:=IJ (b:=b) (i:=h) K2.fo.on _
  exact ⟨n,hn w (Ni K2.fo.on)⟩
 ·have h1:=hR.2 j hj KI
  cases hs:L2 j with
  |gone=>rw [hs] at h1;exact h1
  |live u=>
   obtain ⟨i,h2,h3,_⟩:=K2.Ip j u hj (by rw [hs];rfl)
   omega
end
end Go.aC.Of
namespace Go.aC.Of
section
open Go Go.Conc Go.Conc.Lib Go.ConcR Go.ConcR.Gen Go.aC Go.Proofs
open Go.RowKit hiding Hid
open Go.ConcN (upd upd_ne upd_same)
structure Raw where
 kind:ByteArray
 who:Int
 word:Int
def Raw.val (r:Raw):M':=BM r.kind r.who r.word
def dw (L O P:Int):Bool:=decide (1<=L)&&decide (L<=6)&&(decide (1<=O)&&decide (O<=4))&&(decide (1<=P)&&decide (P<=60))
def bu (r:Raw) (m:Int):Bool:=
 if m<1 then false else if 4<m then false else if r.who<1 then false else
 if r.kind=⟨#[114,105,110,103]⟩ then decide (r.who<=99)&&(decide (0<=r.word)&&decide (r.word<=9))
 else if r.kind=⟨#[104,97,110,103]⟩ then decide (r.who<=99)&&(r.word==0)
 else if r.kind=⟨#[97,110,115,119,101,114]⟩\/r.kind=⟨#[114,101,116,117,114,110]⟩ then decide (r.who<=m)&&(r.word==0)
 else if r.kind=⟨#[119,97,105,116]⟩ then decide (r.who<=60)&&(r.word==0)
 else false
theorem uX (w:J') (L O P:Int):d_ p_ 65 #[.agg #[.int .i64 L,.int .i64 O,.int .i64 P]] w fun e w'=>e=.returned (.bool (dw L O P))/\w'=w.alloc (.cells #[.int .i64 L,.int .i64 O,.int .i64 P] 28):=by
 have h0:(w.alloc (.cells #[.int .i64 L,.int .i64 O,.int .i64 P] 28)).cell? ⟨w.heap.size,0,none⟩=some (.int .i64 L):=bJ rfl
 have h1:(w.alloc (.cells #[.int .i64 L,.int .i64 O,.int .i64 P] 28)).cell? ⟨w.heap.size,1,none⟩=some (.int .i64 O):=bJ rfl
 have h2:(w.alloc (.cells #[.int .i64 L,.int .i64 O,.int .i64 P] 28)).cell? ⟨w.heap.size,2,none⟩=some (.int .i64 P):=bJ rfl
 go_enter func65,ntmps65
 go_wp2_with fail
 all_goals go_ret
 all_goals (refine ⟨?_,rfl⟩;simp [dw, *];try omega)
theorem xP (w:J') (r:Raw) (m:Int):d_ p_ 66 #[r.val,.int .i64 m] w fun e w'=>e=.returned (.bool (bu r m))/\w'=w.alloc (.cells #[.string r.kind,.int .i64 r.who,.int .i64 r.word] 55):=by
 obtain ⟨k,who,word⟩:=r
 show d_ p_ 66 #[.agg #[.string k,.int .i64 who,.int .i64 word],.int .i64 m] w _
 have h0:(w.alloc (.cells #[.string k,.int .i64 who,.int .i64 word] 55)).cell? ⟨w.heap.size,0,none⟩=some (.string k):=bJ rfl
 have h1:(w.alloc (.cells #[.string k,.int .i64 who,.int .i64 word] 55)).cell? ⟨w.heap.size,1,none⟩=some (.int .i64 who):=bJ rfl
 have h2:(w.alloc (.cells #[.string k,.int .i64 who,.int .i64 word] 55)).cell? ⟨w.heap.size,2,none⟩=some (.int .i64 word):=bJ rfl
 have xz:bu ⟨k,who,word⟩ m=bu ⟨k,who,word⟩ m:=rfl
 go_enter func66,ntmps66
 by_cases tV:k=⟨#[114,105,110,103]⟩
 ·subst tV
  go_wp2_with fail
  all_goals go_ret
  all_goals refine ⟨?_,rfl⟩
  all_goals first
   |contradiction
   |(have q1:(m<1)=False:=eq_false (by omega);have q2:(4<m)=False:=eq_false (by omega);have q3:(who<1)=False:=eq_false (by omega);simp [bu,q1,q2,q3, *];done)
   |(simp [bu, *];done)
   |(simp [bu, *];omega)
 by_cases tW:k=⟨#[104,97,110,103]⟩
 ·subst tW
  go_wp2_with fail
  all_goals go_ret
  all_goals refine ⟨?_,rfl⟩
  all_goals first
   |contradiction
   |(have q1:(m<1)=False:=eq_false (by omega);have q2:(4<m)=False:=eq_false (by omega);have q3:(who<1)=False:=eq_false (by omega);simp [bu,q1,q2,q3, *];done)
   |(simp [bu, *];done)
   |(simp [bu, *];omega)
 by_cases mM:k=⟨#[97,110,115,119,101,114]⟩
 ·subst mM
  go_wp2_with fail
  all_goals go_ret
  all_goals refine ⟨?_,rfl⟩
  all_goals first
   |contradiction
   |(have q1:(m<1)=False:=eq_false (by omega);have q2:(4<m)=False:=eq_false (by omega);have q3:(who<1)=False:=eq_false (by omega);simp [bu,q1,q2,q3, *];done)
   |(simp [bu, *];done)
   |(simp [bu, *];omega)
 by_cases mL:k=⟨#[114,101,116,117,114,110]⟩
 ·subst mL
  go_wp2_with fail
  all_goals go_ret
  all_goals refine ⟨?_,rfl⟩
  all_goals first
   |contradiction
   |(have q1:(m<1)=False:=eq_false (by omega);have q2:(4<m)=False:=eq_false (by omega);have q3:(who<1)=False:=eq_false (by omega);simp [bu,q1,q2,q3, *];done)
   |(simp [bu, *];done)
   |(simp [bu, *];omega)
 by_cases tU:k=⟨#[119,97,105,116]⟩
 ·subst tU
  go_wp2_with fail
  all_goals go_ret
  all_goals refine ⟨?_,rfl⟩
  all_goals first
   |contradiction
   |(have q1:(m<1)=False:=eq_false (by omega);have q2:(4<m)=False:=eq_false (by omega);have q3:(who<1)=False:=eq_false (by omega);simp [bu,q1,q2,q3, *];done)
   |(simp [bu, *];done)
   |(simp [bu, *];omega)
 have Qj:(k.toList==[114,105,110,103])=false:=by rw [<-(show (⟨#[114,105,110,103]⟩:ByteArray).toList=[114,105,110,103] from ByteArray.toList_eq ⟨#[114,105,110,103]⟩)];exact (Lib.bytes_beq_false_iff k ⟨#[114,105,110,103]⟩).2 tV
 have Qk:(k.toList==[104,97,110,103])=false:=by rw [<-(show (⟨#[104,97,110,103]⟩:ByteArray).toList=[104,97,110,103] from ByteArray.toList_eq ⟨#[104,97,110,103]⟩)];exact (Lib.bytes_beq_false_iff k ⟨#[104,97,110,103]⟩).2 tW
 have JW:(k.toList==[97,110,115,119,101,114])=false:=by rw [<-(show (⟨#[97,110,115,119,101,114]⟩:ByteArray).toList=[97,110,115,119,101,114] from ByteArray.toList_eq ⟨#[97,110,115,119,101,114]⟩)];exact (Lib.bytes_beq_false_iff k ⟨#[97,110,115,119,101,114]⟩).2 mM
 have JV:(k.toList==[114,101,116,117,114,110])=false:=by rw [<-(show (⟨#[114,101,116,117,114,110]⟩:ByteArray).toList=[114,101,116,117,114,110] from ByteArray.toList_eq ⟨#[114,101,116,117,114,110]⟩)];exact (Lib.bytes_beq_false_iff k ⟨#[114,101,116,117,114,110]⟩).2 mL
 have Qi:(k.toList==[119,97,105,116])=false:=by rw [<-(show (⟨#[119,97,105,116]⟩:ByteArray).toList=[119,97,105,116] from ByteArray.toList_eq ⟨#[119,97,105,116]⟩)];exact (Lib.bytes_beq_false_iff k ⟨#[119,97,105,116]⟩).2 tU
 go_wp2_with fail
 all_goals go_ret
 all_goals refine ⟨?_,rfl⟩
 all_goals first
  |contradiction
  |(have q1:(m<1)=False:=eq_false (by omega);have q2:(4<m)=False:=eq_false (by omega);have q3:(who<1)=False:=eq_false (by omega);simp [bu,q1,q2,q3, *];done)
  |(simp [bu, *];done)
  |(simp [bu, *];omega)
noncomputable def bz:Code:=f45.body.getD .skip
def fF (w:J') (ea:Option z_) (rs:List Raw):Prop:=rs=[]\/∃eb cs t f,ea=some ⟨eb,0,none⟩/\w.heap[eb]?=some (Obj.cells cs t f)/\∀k (hk:k<rs.length),cs[k * 3]?=some (.string (rs[k]).kind)/\cs[k * 3+1]?=some (.int .i64 (rs[k]).who)/\cs[k * 3+2]?=some (.int .i64 (rs[k]).word)
variable {w w':J'} {ea:Option z_}
theorem fF.keep {rs:List Raw} (h:fF w ea rs) (k:dI w w'):fF w' ea rs:=by
 rcases h with h|⟨eb,cs,t,f,h1,h2,h3⟩
 ·exact .inl h
 ·exact .inr ⟨eb,cs,t,f,h1,k.blk _ _ h2,h3⟩
variable {C:cS} {b o:Nat} {Post:M'->J'->Prop} {Bd:Nat} {wl:J'} {aI:Y'} {aS:Act} {av:Array y_} {aN:Nat} {sg:List Nat} {aV:List Item} {cs:List Y'} {L O P:Int} {ec:Nat} {rs:List Raw}
theorem P1 (hL:Lay C wl) (hlen:rs.length<=1048576)
 (oF:(dw L O P&&decide (rs.length<=60))=false->∀aK,Lay C aK->dI wl aK->Can p_ C b o Post 0 (db Bd) aK (G (aI.at (aS.put ((av[aN]?).bind (·.dst)) (.pointer none)) (.inRegion av sg::aV)) cs))
 (J9:dw L O P=true->rs.length<=60->∀aK g1 g2 (dB cZ z12 de dn dm dk dj:M'),Lay C aK->dI wl aK->aK.heap[g1]?=some (.cells #[.int .i64 L,.int .i64 O,.int .i64 P] 28 (0,0))->aK.heap[g2]?=some (.cells #[.slice ea rs.length ec] 30 (0,0))->wl.heap.size<=g1->wl.heap.size<=g2->g1≠g2->
  Can p_ C b o Post 0 (db Bd) aK (G ((base 45).at ⟨#[.agg #[.int .i64 L,.int .i64 O,.int .i64 P],.slice ea rs.length ec,.pointer (some ⟨g1,0,none⟩),.pointer (some ⟨g2,0,none⟩),.pointer none,I',I',I',I',I',dB,cZ,z12,de,dn,dm,dk,dj,I',I',I',I',I',I',I',I',I',I',I',I',I',I',I',I',I',I',I',I',I',I',I',I',I',I',I',I',I',I',I',I',I',I',I',I',I',I',I',I',I',I',I',I',I',I',I',I',I',I',I',I',I',I',I'],[]⟩ [.code (az 2 bz)]) (aI.at aS (.inRegion av (aN::sg)::aV)::cs))):
 Can p_ C b o Post 0 (db Bd) wl (G ((base 45).at ⟨#[.agg #[.int .i64 L,.int .i64 O,.int .i64 P],.slice ea rs.length ec]++F_ 71 I',[]⟩ [.code bz]) (aI.at aS (.inRegion av (aN::sg)::aV)::cs)):=by
 have hS:=cT Bd
 have VJ:(#[.agg #[.int .i64 L,.int .i64 O,.int .i64 P],.slice ea rs.length ec]++F_ 71 I':Array M')=#[.agg #[.int .i64 L,.int .i64 O,.int .i64 P],.slice ea rs.length ec,I',I',I',I',I',I',I',I',I',I',I',I',I',I',I',I',I',I',I',I',I',I',I',I',I',I',I',I',I',I',I',I',I',I',I',I',I',I',I',I',I',I',I',I',I',I',I',I',I',I',I',I',I',I',I',I',I',I',I',I',I',I',I',I',I',I',I',I',I',I',I']:=by kernel_rfl
 rw [VJ]
 have e1:bz=.seq (ai 0 bz) (.seq (ai 1 bz) (az 2 bz)):=by kernel_rfl
 rw [e1]
 refine hS.s hL ?_
 refine Can.cY pA hS hL (AB (by kernel_rfl) rfl rfl ⟨_,func45⟩) ?_
 intro T d W hW Bh hB
 have hz:f_ (W.heap.size=wl.heap.size):=aa (by rw [hW.out];rfl)
 have Gm:=aa oF
 have EO:=aa J9
 have qK:=aa hL
 clear oF J9 hL
 simp only [ai,bz,f45,A_]
 go_wp2_with fail
 have hB:=hB.out
 subst hB
 intro hc
 have k0:dI wl W:=by rw [hW.out];exact (dI.refl wl).re T d
 have k1:dI wl ((W.alloc (.cells #[.int .i64 L,.int .i64 O,.int .i64 P] 28)).alloc (.cells #[.slice ea rs.length ec] 30)):=(k0.alloc _).alloc _
 have x1:((W.alloc (.cells #[.int .i64 L,.int .i64 O,.int .i64 P] 28)).alloc (.cells #[.slice ea rs.length ec] 30)).heap[W.heap.size]?=some (.cells #[.int .i64 L,.int .i64 O,.int .i64 P] 28 (0,0)):=((dI.refl _).alloc _).blk _ _ (Z' W _)
 have x2:((W.alloc (.cells #[.int .i64 L,.int .i64 O,.int .i64 P] 28)).alloc (.cells #[.slice ea rs.length ec] 30)).heap[W.heap.size+1]?=some (.cells #[.slice ea rs.length ec] 30 (0,0)):=by
  have:=Z' (W.alloc (.cells #[.int .i64 L,.int .i64 O,.int .i64 P] 28)) (.cells #[.slice ea rs.length ec] 30)
  rw [B_] at this;exact this
 generalize (W.alloc (.cells #[.int .i64 L,.int .i64 O,.int .i64 P] 28)).alloc (.cells #[.slice ea rs.length ec] 30)=w1 at *
 have nU:Lay C w1:=⟨hc,qK.out.no⟩
 have BI:wl.heap.size<=W.heap.size:=Nat.le_of_eq hz.out.symm
 have Nu:wl.heap.size<=W.heap.size+1:=Nat.le_succ_of_le BI
 have mS:W.heap.size≠W.heap.size+1:=by omega
 generalize W.heap.size+1=g2 at *
 generalize W.heap.size=g1 at *
 clear hW hz k0 hc
 refine hS.s nU ?_
 refine Can.cY pA hS nU (AB (by kernel_rfl) rfl rfl ⟨_,func45⟩) ?_
 intro T d W hW Bh hB
 have k2:dI wl W:=by rw [hW.out];exact k1.re T d
 have y1:W.heap[g1]?=some (.cells #[.int .i64 L,.int .i64 O,.int .i64 P] 28 (0,0)):=by rw [hW.out];exact x1
 have y2:W.heap[g2]?=some (.cells #[.slice ea rs.length ec] 30 (0,0)):=by rw [hW.out];exact x2
 have c1:W.cell? ⟨g1,0,none⟩=some (.int .i64 L):=by rw [cV y1];rfl
 have c2:W.cell? ⟨g1,1,none⟩=some (.int .i64 O):=by rw [cV y1];rfl
 have c3:W.cell? ⟨g1,2,none⟩=some (.int .i64 P):=by rw [cV y1];rfl
 have k2:=aa k2
 have y1:=aa y1
 have y2:=aa y2
 clear hW k1 x1 x2 nU
 have hov:=aa (uX W L O P)
 simp only [ai,bz,f45,A_]
 go_wp2_with fail
 refine hov.out.mono ?_
 rintro e w2 ⟨rfl,wh⟩
 have k3:f_ (dI wl w2):=by rw [wh];exact k2.out.alloc _
 have v1:f_ (w2.heap[g1]?=some (.cells #[.int .i64 L,.int .i64 O,.int .i64 P] 28 (0,0))):=by rw [wh];exact ((dI.refl W).alloc _).blk _ _ y1.out
 have v2:f_ (w2.heap[g2]?=some (.cells #[.slice ea rs.length ec] 30 (0,0))):=by rw [wh];exact ((dI.refl W).alloc _).blk _ _ y2.out
 have c4:w2.cell? ⟨g2,0,none⟩=some (.slice ea rs.length ec):=by rw [cV v2.out];rfl
 clear wh k2 y1 y2 c1 c2 c3 hov
 cases cK:dw L O P with
 |false=>
  go_wp2_with fail
  have hB:=hB.out
  subst hB
  intro hc todo
  have du:Lay C w2:=⟨hc,qK.out.no⟩
  refine Can.ctl hS du rfl (fun _=>aZ rfl rfl func45 rfl) ?_
  exact Gm.out (by rw [cK];rfl) w2 du k3.out
 |true=>
  by_cases OZ:rs.length<=60
  ·have RF:¬(60<(rs.length:Int)):=by omega
   go_wp2_with fail
   have hB:=hB.out
   subst hB
   intro hc
   have du:Lay C w2:=⟨hc,qK.out.no⟩
   exact EO.out cK OZ w2 g1 g2 _ _ _ _ _ _ _ _ du k3.out v1.out v2.out BI Nu mS
  ·have RF:60<(rs.length:Int):=by omega
   go_wp2_with fail
   have hB:=hB.out
   subst hB
   intro hc todo
   have du:Lay C w2:=⟨hc,qK.out.no⟩
   refine Can.ctl hS du rfl (fun _=>aZ rfl rfl func45 rfl) ?_
   exact Gm.out (by rw [cK];simp [OZ]) w2 du k3.out
variable {g1 g2:Nat}
variable {dB cZ de dn dm dk dj:M'}
theorem PZ (hL:Lay C wl) (hlen:rs.length<=60) (bR:fF wl ea rs) (x1:wl.heap[g1]?=some (.cells #[.int .i64 L,.int .i64 O,.int .i64 P] 28 (0,0))) (x2:wl.heap[g2]?=some (.cells #[.slice ea rs.length ec] 30 (0,0))) {z12:M'}
 (oF:rs.all (fun r=>bu r O)=false->∀aK,Lay C aK->dI wl aK->Can p_ C b o Post 0 (db Bd) aK (G (aI.at (aS.put ((av[aN]?).bind (·.dst)) (.pointer none)) (.inRegion av sg::aV)) cs))
 (J9:rs.all (fun r=>bu r O)=true->∀aK (z6 dB cZ z12 de dn dm dk dj dA dz z20 z21 z22 z23 z24 z25 z26 dD z28 dC:M'),Lay C aK->dI wl aK->Can p_ C b o Post 0 (db Bd) aK (G ((base 45).at ⟨#[.agg #[.int .i64 L,.int .i64 O,.int .i64 P],.slice ea rs.length ec,.pointer (some ⟨g1,0,none⟩),.pointer (some ⟨g2,0,none⟩),.pointer none,I',z6,I',I',I',dB,cZ,z12,de,dn,dm,dk,dj,dA,dz,z20,z21,z22,z23,z24,z25,z26,dD,z28,dC,I',I',I',I',I',I',I',I',I',I',I',I',I',I',I',I',I',I',I',I',I',I',I',I',I',I',I',I',I',I',I',I',I',I',I',I',I',I',I',I',I',I',I'],[]⟩ [.code (az 3 bz)]) (aI.at aS (.inRegion av (aN::sg)::aV)::cs))):
 Can p_ C b o Post 0 (db Bd) wl (G ((base 45).at ⟨#[.agg #[.int .i64 L,.int .i64 O,.int .i64 P],.slice ea rs.length ec,.pointer (some ⟨g1,0,none⟩),.pointer (some ⟨g2,0,none⟩),.pointer none,I',I',I',I',I',dB,cZ,z12,de,dn,dm,dk,dj,I',I',I',I',I',I',I',I',I',I',I',I',I',I',I',I',I',I',I',I',I',I',I',I',I',I',I',I',I',I',I',I',I',I',I',I',I',I',I',I',I',I',I',I',I',I',I',I',I',I',I',I',I',I',I'],[]⟩ [.code (az 2 bz)]) (aI.at aS (.inRegion av (aN::sg)::aV)::cs)):=by
 have hS:=cT Bd
 have e1:az 2 bz=.seq (ai 2 bz) (az 3 bz):=by kernel_rfl
 rw [e1]
 refine hS.s hL ?_
 refine Can.cY pA hS hL (AB (by kernel_rfl) rfl rfl ⟨_,func45⟩) ?_
 intro T d W hW Bh hB
 have Gm:=aa oF
 have EO:=aa J9
 have qK:=aa hL
 have k0:f_ (dI wl W):=by rw [hW.out];exact (dI.refl wl).re T d
 have y1:f_ (W.heap[g1]?=some (.cells #[.int .i64 L,.int .i64 O,.int .i64 P] 28 (0,0))):=by rw [hW.out];exact x1
 have y2:W.heap[g2]?=some (.cells #[.slice ea rs.length ec] 30 (0,0)):=by rw [hW.out];exact x2
 have c4:W.cell? ⟨g2,0,none⟩=some (.slice ea rs.length ec):=by rw [cV y2];rfl
 have LZ:f_ (fF W ea rs):=bR.keep k0.out
 clear oF J9 hL x1 x2 bR y2 hW
 simp only [ai,bz,f45,A_]
 go_wp2_with fail
 have kk:f_ (dI W W):=dI.refl W
 clear c4
 go_loopw [20,4] (fun i p wr=>∃k:Nat,k<=rs.length/\i=.int .i64 k/\p=.pointer none/\f_ (∀j (hj:j<rs.length),j<k->bu rs[j] O=true)/\f_ (dI W wr)) (fun i _ _=>rs.length - (intOf i).toNat)
 case atStart=>exact ⟨0,nz _,rfl,rfl,aa (fun j hj h0=>by omega),kk⟩
 case round=>
  obtain ⟨k,hk,rfl,rfl,hT,WM⟩:=hrel
  by_cases hlt:k<rs.length
  ·have gJ:(k:Int)<(rs.length:Int):=by omega
   obtain ⟨eb,WY,et,ef,rfl,yc,hcs⟩:=LZ.out.resolve_left (fun e=>by rw [e] at hlt;simp at hlt)
   have oJ:=WM.out.blk _ _ yc
   obtain ⟨d1,d2,d3⟩:=hcs k hlt
   have j1:wr.cell? ⟨eb,k * 3,none⟩=some (.string (rs[k]).kind):=(cV oJ).trans d1
   have j2:wr.cell? ⟨eb,k * 3+1,none⟩=some (.int .i64 (rs[k]).who):=(cV oJ).trans d2
   have j3:wr.cell? ⟨eb,k * 3+2,none⟩=some (.int .i64 (rs[k]).word):=(cV oJ).trans d3
   obtain ⟨V,hV⟩:∃V,f_ (V=wr.alloc (.cells #[.string (rs[k]).kind,.int .i64 (rs[k]).who,.int .i64 (rs[k]).word] 55)):=⟨_,aa rfl⟩
   have kV:f_ (dI W V):=by rw [hV.out];exact WM.out.alloc _
   have m1:V.cell? ⟨g1,1,none⟩=some (.int .i64 O):=by rw [cV (kV.out.blk _ _ y1.out)];rfl
   have m2:V.cell? ⟨wr.heap.size,0,none⟩=some (.string (rs[k]).kind):=by rw [hV.out];exact bJ rfl
   have m3:V.cell? ⟨wr.heap.size,1,none⟩=some (.int .i64 (rs[k]).who):=by rw [hV.out];exact bJ rfl
   have m4:V.cell? ⟨wr.heap.size,2,none⟩=some (.int .i64 (rs[k]).word):=by rw [hV.out];exact bJ rfl
   have xG:=aa (xP V rs[k] O)
   clear d1 d2 d3 oJ hcs yc
   have YG:f_ (∀q,rs[k]=q->bu rs[k] O=bu q O):=fun q e=>by rw [e]
   generalize QF:rs[k]=r at *
   replace QF:=aa QF
   replace hV:=hV.out
   subst hV
   go_wp2_with fail
   refine xG.out.mono ?_
   rintro e w2 ⟨rfl,wh⟩
   have kw2:f_ (dI W w2):=by rw [wh];exact kV.out.alloc _
   clear xG wh m1 m2 m3 m4 kV WM
   cases hval:bu r O with
   |true=>
    go_wp2_with fail
    go_roundw
    case rel=>exact ⟨k+1,by omega,by go_num,rfl,aa (fun j hj hjk=>if e:j=k then by subst e;rw [QF.out];exact hval else hT.out j hj (by omega)),kw2⟩
    case measure=>simp [intOf];omega
   |false=>
    go_wp2_with fail
    have hB:=hB.out
    subst hB
    intro hc todo
    have du:Lay C w2:=⟨hc,qK.out.no⟩
    refine Can.ctl hS du rfl (fun _=>aZ rfl rfl func45 rfl) ?_
    exact Gm.out (List.all_eq_false.2 ⟨rs[k],List.getElem_mem hlt,by rw [QF.out,hval];simp⟩) w2 du (k0.out.trans kw2.out)
  ·obtain rfl:k=rs.length:=by omega
   have gJ:((rs.length:Int)<(rs.length:Int))=False:=by simp
   go_wp2_with fail
   have hB:=hB.out
   subst hB
   intro hc
   have du:Lay C wr:=⟨hc,qK.out.no⟩
   exact EO.out (by
    rw [List.all_eq_true]
    intro x hx
    obtain ⟨j,hj,rfl⟩:=List.getElem_of_mem hx
    exact hT.out j hj hj) wr _ _ _ _ _ _ _ _ _ _ _ _ _ _ _ _ _ _ _ _ _ du (k0.out.trans WM.out)
structure Bb where
 hb:Nat
 hv:Nat
 m1:Nat
 m2:Nat
 m3:Nat
 L:Int
 O:Int
 P:Int
def pD (X:Bb) (vl vo:M'):Array M':=
 #[.int .i64 X.L,.int .i64 X.O,.int .i64 X.P,vl,.map (some X.m1),.map (some X.m2),vo,.slice none 0 0,.slice none 0 0,.slice none 0 0,.map (some X.m3),.int .i64 0,.slice none 0 0,.slice none 0 0]
def gB (ls:List Nat):List M':=ls.map fun x=>Value.chan (some x)
structure jz (W0:J') (X:Bb) (ls qs:List Nat) (vl vo:M') (w:J'):Prop where
 old:gD W0 w none
 low:W0.heap.size<=X.hb/\W0.heap.size<=X.hv/\W0.heap.size<=X.m1/\W0.heap.size<=X.m2/\W0.heap.size<=X.m3
 box:w.heap[X.hb]?=some (.cells (pD X vl vo) 77 (0,0))
 hv:w.heap[X.hv]?=some (.cells #[.pointer (some ⟨X.hb,0,none⟩)] 68 (0,0))
 mp:w.heap[X.m1]?=some (.map #[] 0)/\w.heap[X.m2]?=some (.map #[] 0)/\w.heap[X.m3]?=some (.map #[] 0)
 LV:X.m1≠X.m2/\X.m1≠X.m3/\X.m2≠X.m3
 lines:w.ownsRow W0.heap.size 78 1 vl ls.length (gB ls)
 ops:w.ownsRow W0.heap.size 109 1 vo qs.length (gB qs)
 nd:ls.Nodup
 lt:∀x,x∈ls->W0.heap.size<=x/\x<w.heap.size
variable {B:Nat} {xs:List M'} {f:Nat × Nat}
theorem fD {e s n:Nat} {v:M'} (h:w.ownsRow B e s v n xs) {r:Nat} {cs:Array M'} {t:Q'} (hr:w.heap[r]?=some (.cells cs t f)) (hne:t≠e):some r≠v.ownBlock:=by
 intro e1
 rcases h.2 with ⟨rfl,_⟩|⟨g,cap,cur,rfl,_,hg,_⟩
 ·simp [Value.ownBlock] at e1
 ·simp only [Value.ownBlock,n_] at e1
  subst e1
  rw [hr] at hg
  simp at hg
  exact hne hg.2.1
theorem Ki {e s n:Nat} {v:M'} (h:w.ownsRow B e s v n xs) {r:Nat} {ob:Obj} (hr:w.heap[r]?=some ob) (hc:vV ob=false):some r≠v.ownBlock:=by
 intro e1
 rcases h.2 with ⟨rfl,_⟩|⟨g,cap,cur,rfl,_,hg,_⟩
 ·simp [Value.ownBlock] at e1
 ·simp only [Value.ownBlock,n_] at e1
  subst e1
  rw [hr] at hg
  simp only [n_] at hg
  rw [hg] at hc
  simp [vV] at hc
variable {W0:J'} {X:Bb} {ls qs:List Nat} {vl vo:M'}
theorem jz.go (h:jz W0 X ls qs vl vo w) (hg:gD w w' none):jz W0 X ls qs vl vo w':=by
 have hs:∀(r:Nat) (ob:Obj),w.heap[r]?=some ob->w'.heap[r]?=some ob:=fun r ob hr=>by
  rw [hg.block r (cI hr) (by simp)];exact hr
 exact ⟨h.old.trans hg,h.low,hs _ _ h.box,hs _ _ h.hv,⟨hs _ _ h.mp.1,hs _ _ h.mp.2.1,hs _ _ h.mp.2.2⟩,h.LV,cH h.lines fun g _ hk=>hg.block g hk (by simp),cH h.ops fun g _ hk=>hg.block g hk (by simp),h.nd,fun x hx=>⟨(h.lt x hx).1,E_ (h.lt x hx).2 hg.size⟩⟩
theorem jz.alloc (h:jz W0 X ls qs vl vo w) (o:Obj):jz W0 X ls qs vl vo (w.alloc o):=h.go (gD.alloc _ _ _)
theorem gD.drew (w:J') (r:Option Nat):gD w w.drew r:=⟨rfl,rfl,C_ _,fun _ _ _=>rfl⟩
theorem jz.drew (h:jz W0 X ls qs vl vo w):jz W0 X ls qs vl vo w.drew:=h.go (gD.drew _ _)
theorem jz.re (h:jz W0 X ls qs vl vo w) (T:Nat->Question->Nat) (d:Nat):jz W0 X ls qs vl vo (w.re T d):=h.go ((gD.refl w none).re T d)
theorem jz.cells (h:jz W0 X ls qs vl vo w):w.cell? ⟨X.hv,0,none⟩=some (.pointer (some ⟨X.hb,0,none⟩))/\w.cell? ⟨X.hb,3,none⟩=some vl/\w.cell? ⟨X.hb,6,none⟩=some vo/\w.frozen? ⟨X.hb,3,none⟩=false/\w.frozen? ⟨X.hb,6,none⟩=false:=
 ⟨by rw [cV h.hv];rfl,by rw [cV h.box];rfl,by rw [cV h.box];rfl,bX h.box,bX h.box⟩
theorem uS (a b:List Nat):gB (a++b)=gB a++gB b:=by simp [gB]
theorem jz.line (h:jz W0 X ls qs vl vo w) {v:M'} {c:Nat} (hg:gD w w' vl.ownBlock) (ho:w'.ownsRow W0.heap.size 78 1 v (ls.length+1) (gB ls++[.chan (some c)])) (hc:W0.heap.size<=c/\c<w'.heap.size) (hn:c∉ls):jz W0 X (ls++[c]) qs v vo (w'.setCell ⟨X.hb,3,none⟩ v):=by
 have fz:∀g,vl.ownBlock=some g->W0.heap.size<=g/\g<w.heap.size:=fun g e=>h.lines.lt g e
 have hs:∀(r:Nat) (ob:Obj),w.heap[r]?=some ob->some r≠vl.ownBlock->w'.heap[r]?=some ob:=fun r ob hr hne=>by
  rw [hg.block r (cI hr) hne];exact hr
 have ns:∀r,r≠X.hb->(w'.setCell ⟨X.hb,3,none⟩ v).heap[r]?=w'.heap[r]?:=fun r hr=>a_ w' ⟨X.hb,3,none⟩ r v hr
 have bx:=hs _ _ h.box (fD h.lines h.box (by decide))
 have nb:∀(r:Nat) (cs:Array M') (t:Q') (f:Nat × Nat),w'.heap[r]?=some (.cells cs t f)->t≠77->r≠X.hb:=fun r cs t f hr ht e=>by
  rw [e,bx] at hr;simp at hr;exact ht hr.2.1.symm
 have Qd:∀(r:Nat) (ob:Obj),w'.heap[r]?=some ob->vV ob=false->r≠X.hb:=fun r ob hr hc e=>by
  rw [e,bx] at hr
  simp only [n_] at hr
  rw [<-hr] at hc
  simp [vV] at hc
 obtain ⟨q1,q2,q3⟩:=h.mp
 have hv':=hs _ _ h.hv (fD h.lines h.hv (by decide))
 have p1:=hs _ _ q1 (Ki h.lines q1 rfl)
 have p2:=hs _ _ q2 (Ki h.lines q2 rfl)
 have p3:=hs _ _ q3 (Ki h.lines q3 rfl)
 have ops':w'.ownsRow W0.heap.size 109 1 vo qs.length (gB qs):=by
  have:=h.ops.kept (w':={w' with tape:=w.tape}) ⟨hg.os,rfl,hg.output,hg.size,hg.block⟩ (gF h.ops h.lines (by decide))
  exact this
 have oset:∀{e n:Nat} {v1:M'} {xs:List M'},e≠77->w'.ownsRow W0.heap.size e 1 v1 n xs->(w'.setCell ⟨X.hb,3,none⟩ v).ownsRow W0.heap.size e 1 v1 n xs:=fun {e n v1 xs} he hh=>by
  refine ⟨hh.1, ?_⟩
  rcases hh.2 with h0|⟨g,cap,cur,h1,h2,h3,h4⟩
  ·exact .inl h0
  ·exact .inr ⟨g,cap,cur,h1,h2,by rw [ns g (nb g _ _ _ h3 he)];exact h3,h4⟩
 refine ⟨⟨hg.os.trans h.old.os,hg.output.trans h.old.output,by rw [o_];exact D_ h.old.size hg.size,fun k hk _=> ?_⟩,h.low, ?_, ?_,⟨?_, ?_, ?_⟩,h.LV, ?_,oset (by decide) ops', ?_,fun x hx=> ?_⟩
 ·rw [ns k (by have:=h.low.1;omega),hg.block k (E_ hk h.old.size) (fun e=>by have:=(fz k e.symm).1;omega)]
  exact h.old.block k hk (by simp)
 ·rw [b_ w' X.hb 3 _ 77 v bx];rfl
 ·rw [ns _ (nb _ _ _ _ hv' (by decide))];exact hv'
 ·rw [ns _ (Qd _ _ p1 rfl)];exact p1
 ·rw [ns _ (Qd _ _ p2 rfl)];exact p2
 ·rw [ns _ (Qd _ _ p3 rfl)];exact p3
 ·rw [K_,uS];exact oset (by decide) ho
 ·rw [List.nodup_append]
  exact ⟨h.nd,by simp,fun a ha b hb=>by simp at hb;subst hb;exact fun e=>hn (e▸ha)⟩
 ·rw [o_]
  rcases List.mem_append.1 hx with hx|hx
  ·exact ⟨(h.lt x hx).1,E_ (h.lt x hx).2 hg.size⟩
  ·simp at hx;subst hx;exact hc
theorem jz.oper (h:jz W0 X ls qs vl vo w) {v:M'} {c:Nat} (hg:gD w w' vo.ownBlock) (ho:w'.ownsRow W0.heap.size 109 1 v (qs.length+1) (gB qs++[.chan (some c)])):jz W0 X ls (qs++[c]) vl v (w'.setCell ⟨X.hb,6,none⟩ v):=by
 have fz:∀g,vo.ownBlock=some g->W0.heap.size<=g/\g<w.heap.size:=fun g e=>h.ops.lt g e
 have hs:∀(r:Nat) (ob:Obj),w.heap[r]?=some ob->some r≠vo.ownBlock->w'.heap[r]?=some ob:=fun r ob hr hne=>by
  rw [hg.block r (cI hr) hne];exact hr
 have ns:∀r,r≠X.hb->(w'.setCell ⟨X.hb,6,none⟩ v).heap[r]?=w'.heap[r]?:=fun r hr=>a_ w' ⟨X.hb,6,none⟩ r v hr
 have bx:=hs _ _ h.box (fD h.ops h.box (by decide))
 have nb:∀(r:Nat) (cs:Array M') (t:Q') (f:Nat × Nat),w'.heap[r]?=some (.cells cs t f)->t≠77->r≠X.hb:=fun r cs t f hr ht e=>by
  rw [e,bx] at hr;simp at hr;exact ht hr.2.1.symm
 have Qd:∀(r:Nat) (ob:Obj),w'.heap[r]?=some ob->vV ob=false->r≠X.hb:=fun r ob hr hc e=>by
  rw [e,bx] at hr
  simp only [n_] at hr
  rw [<-hr] at hc
  simp [vV] at hc
 obtain ⟨q1,q2,q3⟩:=h.mp
 have hv':=hs _ _ h.hv (fD h.ops h.hv (by decide))
 have p1:=hs _ _ q1 (Ki h.ops q1 rfl)
 have p2:=hs _ _ q2 (Ki h.ops q2 rfl)
 have p3:=hs _ _ q3 (Ki h.ops q3 rfl)
 have Qg:w'.ownsRow W0.heap.size 78 1 vl ls.length (gB ls):=by
  have:=h.lines.kept (w':={w' with tape:=w.tape}) ⟨hg.os,rfl,hg.output,hg.size,hg.block⟩ (gF h.lines h.ops (by decide))
  exact this
 have oset:∀{e n:Nat} {v1:M'} {xs:List M'},e≠77->w'.ownsRow W0.heap.size e 1 v1 n xs->(w'.setCell ⟨X.hb,6,none⟩ v).ownsRow W0.heap.size e 1 v1 n xs:=fun {e n v1 xs} he hh=>by
  refine ⟨hh.1, ?_⟩
  rcases hh.2 with h0|⟨g,cap,cur,h1,h2,h3,h4⟩
  ·exact .inl h0
  ·exact .inr ⟨g,cap,cur,h1,h2,by rw [ns g (nb g _ _ _ h3 he)];exact h3,h4⟩
 refine ⟨⟨hg.os.trans h.old.os,hg.output.trans h.old.output,by rw [o_];exact D_ h.old.size hg.size,fun k hk _=> ?_⟩,h.low, ?_, ?_,⟨?_, ?_, ?_⟩,h.LV,oset (by decide) Qg, ?_,h.nd,fun x hx=> ?_⟩
 ·rw [ns k (by have:=h.low.1;omega),hg.block k (E_ hk h.old.size) (fun e=>by have:=(fz k e.symm).1;omega)]
  exact h.old.block k hk (by simp)
 ·rw [b_ w' X.hb 6 _ 77 v bx];rfl
 ·rw [ns _ (nb _ _ _ _ hv' (by decide))];exact hv'
 ·rw [ns _ (Qd _ _ p1 rfl)];exact p1
 ·rw [ns _ (Qd _ _ p2 rfl)];exact p2
 ·rw [ns _ (Qd _ _ p3 rfl)];exact p3
 ·rw [K_,uS];exact oset (by decide) ho
 ·rw [o_];exact ⟨(h.lt x hx).1,E_ (h.lt x hx).2 hg.size⟩
structure Ry where
 ph:Nat
 g:Nat
 c:Nat
 v:M'
theorem TK (w:J'):(Instr.makeChan 78 (.int .i64 0)).run p_ w=.ok (.chan (some w.heap.size)) (w.alloc (.chan 0 #[] false 0 0 false)):=TL w
theorem Ql:(Tryz.prog.info? 78).map (fun i=>(i.zero,i.size,i.bytes))=some (some (.chan none),1,8):=by kernel_rfl
theorem MW:(Tryz.prog.info? 109).map (fun i=>(i.zero,i.size,i.bytes))=some (some (.chan none),1,8):=by kernel_rfl
noncomputable def Se:Code:=match ai 4 bz with| .seq _ (.block _ (.loop c))=>c|_=>.skip
noncomputable def oI:Code:=match ai 6 bz with| .seq _ (.block _ (.loop c))=>c|_=>.skip
noncomputable def R12:Code:=match ai 2 Se with| .block _ c=>c|_=>.skip
noncomputable def R18:Code:=match ai 2 oI with| .block _ (.seq _ (.seq c _))=>c|_=>.skip
def wF (X:Bb) (vl vo:M') (x:Ry):Nat->M'
 |0=>.pointer (some ⟨X.hb,0,none⟩)
 |1=>.pointer (some ⟨X.hb,0,none⟩)
 |2=>.pointer (some ⟨X.hb,0,none⟩)
 |3=>.pointer (some ⟨X.hb,3,none⟩)
 |4=>vl
 |5=>.chan (some x.c)
 |6=>.slice (some ⟨x.g,0,none⟩) 1 1
 |7=>x.v
 |8=>.pointer (some ⟨X.hb,0,none⟩)
 |9=>.pointer (some ⟨X.hb,3,none⟩)
 |_=>I'
def aDe (W0:J') (X:Bb) (ls qs:List Nat) (vl vo:M') (x:Ry) (w:J'):Prop:=
 match x.ph with
 |0=>jz W0 X ls qs vl vo w/\True
 |1=>jz W0 X ls qs vl vo w/\W0.heap.size<=x.c/\x.c<w.heap.size/\x.c∉ls
 |2=>jz W0 X ls qs vl vo w/\W0.heap.size<=x.c/\x.c<w.heap.size/\x.c∉ls/\w.heap[x.g]?=some (.cells #[.chan (some x.c)] 78 (0,0))
 |3=>(∃w1,jz W0 X ls qs vl vo w1/\gD w1 w vl.ownBlock/\w.ownsRow W0.heap.size 78 1 x.v (ls.length+1) (gB ls++[.chan (some x.c)]))/\W0.heap.size<=x.c/\x.c<w.heap.size/\x.c∉ls
 |_=>jz W0 X (ls++[x.c]) qs x.v vo w/\W0.heap.size<=x.c/\x.c<w.heap.size/\x.c∉ls
structure aDc (W0:J') (X:Bb) (ls qs:List Nat) (vl vo:M') (D:Array Bool) (x:Ry) (w:J'):Prop where
 le:x.ph<=4
 fl:Fl 5 6 7 10 [] [4,6] D x.ph
 at_:aDe W0 X ls qs vl vo x w
variable {z0 z1 z2 z3 z4 z5 z6 z8 z9 dA dz dD dC dM dQ dK dP dO dV ey ew eu eK eJ eI eH eQ eN en iu iF iE iD iC iB nv nu np nk sW sV rH rG rF uu yb:M'} {Q:Exit->Act->J'->Prop}
theorem Tl (h:jz W0 X ls qs vl vo w) (hn:ls.length<=1000) {z12 z20 z21 z22 z23 z24 z25 z26 z28 z31 z37 z40 z46 z49 z51 z53 z59 z70 z72:M'}
 (hQ:∀w' v' (c':Nat) (u40 u41 u42 u43 u44 u45 u46 u47 u48 u49:M'),jz W0 X (ls++[c']) qs v' vo w'/\W0.heap.size<=c'/\c'<w'.heap.size/\c'∉ls->Q .normal ⟨#[z0,z1,z2,z3,z4,z5,z6,.pointer (some ⟨X.hv,0,none⟩),z8,z9,dB,cZ,z12,de,dn,dm,dk,dj,dA,dz,z20,z21,z22,z23,z24,z25,z26,dD,z28,dC,dM,z31,dQ,dK,dP,dO,dV,z37,ey,ew,u40,u41,u42,u43,u44,u45,u46,u47,u48,u49,en,z51,iu,z53,iF,iE,iD,iC,iB,z59,nv,nu,np,nk,sW,sV,rH,rG,rF,uu,z70,yb,z72],[]⟩ w'):
 Code.wp p_ R12 Q ⟨#[z0,z1,z2,z3,z4,z5,z6,.pointer (some ⟨X.hv,0,none⟩),z8,z9,dB,cZ,z12,de,dn,dm,dk,dj,dA,dz,z20,z21,z22,z23,z24,z25,z26,dD,z28,dC,dM,z31,dQ,dK,dP,dO,dV,z37,ey,ew,z40,eu,eK,eJ,eI,eH,z46,eQ,eN,z49,en,z51,iu,z53,iF,iE,iD,iC,iB,z59,nv,nu,np,nk,sW,sV,rH,rG,rF,uu,z70,yb,z72],[]⟩ w:=by
 refine wpN 73 fun bs cn oq HI=> ?_
 simp only [R12,Se,oI,ai,az,bz,f45,A_]
 refine mA (by kernel_rfl) (kP:=⟨0,0,0,I'⟩) (base:=bs) (by rw [oq];kernel_rfl) (by kernel_rfl) (fun x=>wF X vl vo x) (aDc W0 X ls qs vl vo )
  ⟨nz _,⟨rfl,rfl,rfl,rfl,fun h0=>absurd h0 (Nat.not_succ_le_zero _),fun h0=>absurd h0 (Nat.not_succ_le_zero _)⟩, ?_⟩ ?_ ?_
 ·exact ⟨h.drew,trivial⟩
 ·intro i o' ho D x w a hD bc hw bH aD K k
  have hlt:i<11:=(cI ho)
  have dJ:=hw.fl
  have Gl:=bT oq
  have aA:=aa k
  clear k
  obtain rfl|rfl|rfl|rfl|rfl|rfl|rfl|rfl|rfl|rfl|rfl:i=0\/i=1\/i=2\/i=3\/i=4\/i=5\/i=6\/i=7\/i=8\/i=9\/i=10:=by omega
  all_goals obtain rfl:=so ho rfl
  ·obtain ⟨v7,w7⟩:=bc.oo (.pointer (some ⟨X.hv,0,none⟩)) 7
   clear aD ho
   refine bj (v:=.pointer (some ⟨X.hb,0,none⟩)) (w':=w) rfl rfl ?_ (aA.out x w (fun _ _=>rfl) ⟨hw.le,dJ.keep,hw.at_⟩)
   have UQ:w.cell? ⟨X.hv,0,none⟩=some (.pointer (some ⟨X.hb,0,none⟩)):=by
    obtain ⟨gT,g1,c1,v1⟩:=x
    have hle:=hw.le
    simp only at hle
    obtain rfl|rfl|rfl|rfl|rfl:gT=0\/gT=1\/gT=2\/gT=3\/gT=4:=by omega
    ·exact hw.at_.1.cells.1
    ·exact hw.at_.1.cells.1
    ·exact hw.at_.1.cells.1
    ·obtain ⟨⟨w1,H1,wu,_⟩,_⟩:=hw.at_
     exact (J_ (wu.block X.hv (cI H1.hv) (fD H1.lines H1.hv (by decide)))).trans H1.cells.1
    ·exact hw.at_.1.cells.1
   clear bc hw aA bH
   go_simp
  ·obtain ⟨v7,w7⟩:=bc.oo (.pointer (some ⟨X.hv,0,none⟩)) 7
   clear aD ho
   refine bj (v:=.pointer (some ⟨X.hb,0,none⟩)) (w':=w) rfl rfl ?_ (aA.out x w (fun _ _=>rfl) ⟨hw.le,dJ.keep,hw.at_⟩)
   have UQ:w.cell? ⟨X.hv,0,none⟩=some (.pointer (some ⟨X.hb,0,none⟩)):=by
    obtain ⟨gT,g1,c1,v1⟩:=x
    have hle:=hw.le
    simp only at hle
    obtain rfl|rfl|rfl|rfl|rfl:gT=0\/gT=1\/gT=2\/gT=3\/gT=4:=by omega
    ·exact hw.at_.1.cells.1
    ·exact hw.at_.1.cells.1
    ·exact hw.at_.1.cells.1
    ·obtain ⟨⟨w1,H1,wu,_⟩,_⟩:=hw.at_
     exact (J_ (wu.block X.hv (cI H1.hv) (fD H1.lines H1.hv (by decide)))).trans H1.cells.1
    ·exact hw.at_.1.cells.1
   clear bc hw aA bH
   go_simp
  ·have d1:=dq aD 1
   obtain ⟨v41,XV⟩:=bc.vv (.pointer (some ⟨X.hb,0,none⟩)) 41 1 d1
   clear aD ho
   refine bj (v:=.pointer (some ⟨X.hb,0,none⟩)) (w':=w) rfl rfl ?_ (aA.out x w (fun _ _=>rfl) ⟨hw.le,dJ.keep,hw.at_⟩)
   clear bc hw aA bH
   go_simp
  ·have d2:=dq aD 2
   obtain ⟨v42,XU⟩:=bc.vv (.pointer (some ⟨X.hb,0,none⟩)) 42 2 d2
   clear aD ho
   refine bj (v:=.pointer (some ⟨X.hb,3,none⟩)) (w':=w) rfl rfl ?_ (aA.out x w (fun _ _=>rfl) ⟨hw.le,dJ.keep,hw.at_⟩)
   clear bc hw aA bH
   go_simp
  ·have d3:=dq aD 3
   obtain ⟨v43,XT⟩:=bc.vv (.pointer (some ⟨X.hb,3,none⟩)) 43 3 d3
   clear aD ho
   refine bj (v:=vl) (w':=w) rfl rfl ?_ (aA.out x w (fun _ _=>rfl) ⟨hw.le,dJ.keep,hw.at_⟩)
   have hB:jz W0 X ls qs vl vo w:=by
    obtain ⟨gT,g1,c1,v1⟩:=x
    have hle:gT<=2:=by
     refine j_ fun hx=> ?_
     have:=dJ.pa (by simp only;omega) 4 (by simp)
     rw [bH] at this;cases this
    obtain rfl|rfl|rfl:gT=0\/gT=1\/gT=2:=by omega
    ·exact hw.at_.1
    ·exact hw.at_.1
    ·exact hw.at_.1
   have hl3:=hB.cells.2.1
   clear bc hw aA bH
   go_simp
  ·clear aD ho
   have jH:x.ph=0:=by
    have e2:=dJ.fc
    rw [bH] at e2
    have:=of_decide_eq_false e2.symm
    omega
   obtain ⟨gT,g1,c1,v1⟩:=x
   simp only at jH
   subst jH
   have H1:=hw.at_.1
   have Ng:=TK w
   refine bj (v:=.chan (some w.heap.size)) (w':=w.alloc (.chan 0 #[] false 0 0 false)) rfl rfl ?_ ?_
   ·clear bc hw aA bH H1
    go_simp
   ·exact aA.out ⟨1,g1,w.heap.size,v1⟩ _ (fun j hj=>by
     have hne:j≠5:=fun e=>by rw [e,bH] at hj;cases hj
     unfold wF;split<;>first|rfl|exact absurd rfl hne) ⟨Z_ rfl,dJ.calls (by rw [hD];decide) (by decide) (by decide) (by decide) (by intro j hj;simp at hj),⟨H1.alloc _,H1.old.size,by rw [B_];exact Nat.lt_succ_self _,fun hm=>Nat.lt_irrefl _ (H1.lt _ hm).2⟩⟩
  ·have d5:=dq aD 5
   obtain ⟨v45,XR⟩:=bc.vv (.chan (some x.c)) 45 5 d5
   clear aD ho
   have jH:x.ph=1:=by
    have e1:=dJ.fc
    have e2:=dJ.fb
    rw [d5] at e1
    rw [bH] at e2
    have:=of_decide_eq_true e1.symm
    have:=of_decide_eq_false e2.symm
    omega
   obtain ⟨gT,g1,c1,v1⟩:=x
   simp only at jH
   subst jH
   have fH:=hw.at_
   refine bj (v:=.slice (some ⟨w.heap.size,0,none⟩) 1 1) (w':=w.alloc (.cells #[.chan (some c1)] 78)) rfl rfl ?_ ?_
   ·clear bc hw aA bH fH
    go_simp
   ·exact aA.out ⟨2,w.heap.size,c1,v1⟩ _ (fun j hj=>by
     have hne:j≠6:=fun e=>by rw [e,bH] at hj;cases hj
     unfold wF;split<;>first|rfl|exact absurd rfl hne) ⟨Z_ rfl,dJ.builds (by rw [hD];decide) (by decide) (by decide) (by decide),⟨fH.1.alloc _,fH.2.1,by rw [B_];exact Nat.lt_succ_of_lt fH.2.2.1,fH.2.2.2,Z' w _⟩⟩
  ·have d4:=dq aD 4
   have d6:=dq aD 6
   obtain ⟨v44,XS⟩:=bc.vv vl 44 4 d4
   obtain ⟨v46,XQ⟩:=bc.vv (.slice (some ⟨x.g,0,none⟩) 1 1) 46 6 d6
   clear aD ho
   have jH:x.ph=2:=by
    have e1:=dJ.fb
    have e2:=dJ.fa
    rw [d6] at e1
    rw [bH] at e2
    have:=of_decide_eq_true e1.symm
    have:=of_decide_eq_false e2.symm
    omega
   obtain ⟨gT,g1,c1,v1⟩:=x
   simp only at jH
   subst jH
   obtain ⟨H1,BK,BJ,OU,BI⟩:=hw.at_
   obtain ⟨i9,A5,Kl,nQ,nP⟩:=info_parts Ql
   obtain ⟨g,cap,w6,hr,yI,pZ,iP,mR⟩:=run_append_lies (P:=p_) w 70 70 W0.heap.size 78 i9 _ 1 8 Tryz.underlying70 A5 Kl nQ nP rfl (by decide) vl ls.length _ H1.lines ⟨g1,0,none⟩ 1 1 [.chan (some c1)] rfl (World.news_of_block (w:=w) BI) (by intro u hu;simp at hu;subst hu;rfl) (by decide) (by unfold maxLen;omega) (by omega) H1.old.size _ rfl
   refine bj (v:=.slice (some ⟨g,0,none⟩) (ls.length+1) cap) (w':=w6) rfl rfl ?_ ?_
   ·clear bc hw aA bH
    simp only [List.getElem_toArray,List.getElem_cons_succ,List.getElem_cons_zero,V',resolve,invoke,builtin,Sem.run_bind,Sem.run_pure,Result.andThen_ok,List.map_toArray,S_,List.map_nil,v44,v46,hr]
   ·have NB:gD w w6 vl.ownBlock:=⟨pZ.os,pZ.output,pZ.size,pZ.block⟩
    exact aA.out ⟨3,g1,c1,.slice (some ⟨g,0,none⟩) (ls.length+1) cap⟩ w6 (fun j hj=>by
     have hne:j≠7:=fun e=>by rw [e,bH] at hj;cases hj
     unfold wF;split<;>first|rfl|exact absurd rfl hne) ⟨Z_ rfl,dJ.apps (by rw [hD];decide) (by decide) (by decide) (by decide) (by intro j hj;simp at hj;rcases hj with rfl|rfl<;>assumption),⟨⟨w,H1,NB,yI⟩,BK,E_ BJ pZ.size,OU⟩⟩
  ·have d0:=dq aD 0
   obtain ⟨v40,XW⟩:=bc.vv (.pointer (some ⟨X.hb,0,none⟩)) 40 0 d0
   clear aD ho
   refine bj (v:=.pointer (some ⟨X.hb,0,none⟩)) (w':=w) rfl rfl ?_ (aA.out x w (fun _ _=>rfl) ⟨hw.le,dJ.keep,hw.at_⟩)
   clear bc hw aA bH
   go_simp
  ·have d8:=dq aD 8
   obtain ⟨v48,Wb⟩:=bc.vv (.pointer (some ⟨X.hb,0,none⟩)) 48 8 d8
   clear aD ho
   refine bj (v:=.pointer (some ⟨X.hb,3,none⟩)) (w':=w) rfl rfl ?_ (aA.out x w (fun _ _=>rfl) ⟨hw.le,dJ.keep,hw.at_⟩)
   clear bc hw aA bH
   go_simp
  ·have d9:=dq aD 9
   have d7:=dq aD 7
   obtain ⟨v49,Wa⟩:=bc.vv (.pointer (some ⟨X.hb,3,none⟩)) 49 9 d9
   obtain ⟨v47,LS⟩:=bc.vv (x.v) 47 7 d7
   clear aD ho
   have jH:x.ph=3:=by
    have e1:=dJ.fa
    have e2:=dJ.fs
    rw [d7] at e1
    rw [bH] at e2
    have:=of_decide_eq_true e1.symm
    have:=of_decide_eq_false e2.symm
    omega
   obtain ⟨gT,g1,c1,v1⟩:=x
   simp only at jH
   subst jH
   obtain ⟨⟨w1,H1,wu,Gd⟩,BK,BJ,OU⟩:=hw.at_
   have fz:∀g,vl.ownBlock=some g->W0.heap.size<=g/\g<w1.heap.size:=fun g e=>H1.lines.lt g e
   have sD:w.heap[X.hb]?=w1.heap[X.hb]?:=wu.block X.hb (cI H1.box) (fD H1.lines H1.box (by decide))
   have c7:w.cell? ⟨X.hb,3,none⟩=some vl:=(J_ sD).trans H1.cells.2.1
   have z7:w.frozen? ⟨X.hb,3,none⟩=false:=(m_ sD).trans H1.cells.2.2.2.1
   obtain ⟨a5,q5,zA⟩:=aE Gd
   refine gQ (w':=w.setCell ⟨X.hb,3,none⟩ v1) rfl rfl ?_ ?_
   ·clear bc hw aA bH fz sD
    simp only at LS zA
    rw [zA] at LS
    rw [zA]
    go_simp
   ·exact aA.out ⟨4,g1,c1,v1⟩ _ (fun _ _=>rfl) ⟨Z_ rfl,dJ.stores (by rw [hD];decide) (by decide) (by decide) (by decide),⟨H1.line wu Gd ⟨BK,BJ⟩ OU,BK,by rw [o_];exact BJ,OU⟩⟩
 ·intro D x w hd hw
  obtain ⟨gT,g1,c1,v1⟩:=x
  have jH:gT=4:=by
   have e1:=hw.fl.fs
   rw [hd 10 (by decide)] at e1
   have:=of_decide_eq_true e1.symm
   have:=hw.le
   simp only at *
   omega
  subst jH
  have:=hQ w v1 c1 (.pointer (some ⟨X.hb,0,none⟩)) (.pointer (some ⟨X.hb,0,none⟩)) (.pointer (some ⟨X.hb,0,none⟩)) (.pointer (some ⟨X.hb,3,none⟩)) (vl) (.chan (some c1)) (.slice (some ⟨g1,0,none⟩) 1 1) (v1) (.pointer (some ⟨X.hb,0,none⟩)) (.pointer (some ⟨X.hb,3,none⟩)) hw.at_
  generalize bc:slotsOf _ bs (wF X vl vo ⟨4,g1,c1,v1⟩)=sl
  have eS:sl=#[z0,z1,z2,z3,z4,z5,z6,.pointer (some ⟨X.hv,0,none⟩),z8,z9,dB,cZ,z12,de,dn,dm,dk,dj,dA,dz,z20,z21,z22,z23,z24,z25,z26,dD,z28,dC,dM,z31,dQ,dK,dP,dO,dV,z37,ey,ew,.pointer (some ⟨X.hb,0,none⟩),.pointer (some ⟨X.hb,0,none⟩),.pointer (some ⟨X.hb,0,none⟩),.pointer (some ⟨X.hb,3,none⟩),vl,.chan (some c1),.slice (some ⟨g1,0,none⟩) 1 1,v1,.pointer (some ⟨X.hb,0,none⟩),.pointer (some ⟨X.hb,3,none⟩),en,z51,iu,z53,iF,iE,iD,iC,iB,z59,nv,nu,np,nk,sW,sV,rH,rG,rF,uu,z70,yb,z72]:=by rw [<-bc,<-cn];kernel_rfl
  rw [eS]
  exact this
def zT (X:Bb) (vl vo:M') (g9 cq z9:Nat) (H9:Array Obj) (x:Ry):Nat->M'
 |0=>.pointer (some ⟨X.hb,0,none⟩)
 |1=>.pointer (some ⟨X.hb,0,none⟩)
 |2=>.pointer (some ⟨X.hb,0,none⟩)
 |3=>.pointer (some ⟨X.hb,6,none⟩)
 |4=>vo
 |5=>.chan (some cq)
 |6=>.slice (some ⟨x.g,0,none⟩) 1 1
 |7=>x.v
 |8=>.pointer (some ⟨X.hb,0,none⟩)
 |9=>.pointer (some ⟨X.hb,6,none⟩)
 |_=>I'
def aDd (W0:J') (X:Bb) (ls qs:List Nat) (vl vo:M') (g9 cq z9:Nat) (H9:Array Obj) (x:Ry) (w:J'):Prop:=
 match x.ph with
 |0=>jz W0 X ls qs vl vo w/\w.heap[g9]?=some (.cells #[.chan (some cq)] 109 (0,0))/\z9<=w.heap.size/\(∀k,k<z9->some k≠vo.ownBlock->k≠X.hb->w.heap[k]?=H9[k]?)
 |1=>jz W0 X ls qs vl vo w/\w.heap[g9]?=some (.cells #[.chan (some cq)] 109 (0,0))/\z9<=w.heap.size/\(∀k,k<z9->some k≠vo.ownBlock->k≠X.hb->w.heap[k]?=H9[k]?)
 |2=>jz W0 X ls qs vl vo w/\w.heap[g9]?=some (.cells #[.chan (some cq)] 109 (0,0))/\z9<=w.heap.size/\(∀k,k<z9->some k≠vo.ownBlock->k≠X.hb->w.heap[k]?=H9[k]?)/\w.heap[x.g]?=some (.cells #[.chan (some cq)] 109 (0,0))
 |3=>(∃w1,jz W0 X ls qs vl vo w1/\gD w1 w vo.ownBlock/\w.ownsRow W0.heap.size 109 1 x.v (qs.length+1) (gB qs++[.chan (some cq)]))/\w.heap[g9]?=some (.cells #[.chan (some cq)] 109 (0,0))/\z9<=w.heap.size/\(∀k,k<z9->some k≠vo.ownBlock->k≠X.hb->w.heap[k]?=H9[k]?)/\(x.v.ownBlock=vo.ownBlock\/∃g,x.v.ownBlock=some g/\z9<=g)
 |_=>jz W0 X ls (qs++[cq]) vl x.v w/\w.heap[g9]?=some (.cells #[.chan (some cq)] 109 (0,0))/\z9<=w.heap.size/\(∀k,k<z9->some k≠vo.ownBlock->k≠X.hb->w.heap[k]?=H9[k]?)/\(x.v.ownBlock=vo.ownBlock\/∃g,x.v.ownBlock=some g/\z9<=g)
structure aDb (W0:J') (X:Bb) (ls qs:List Nat) (vl vo:M') (g9 cq z9:Nat) (H9:Array Obj) (D:Array Bool) (x:Ry) (w:J'):Prop where
 le:x.ph<=4
 fl:Fl 5 6 7 10 [] [4,6] D x.ph
 at_:aDd W0 X ls qs vl vo g9 cq z9 H9 x w
theorem Tk (h:jz W0 X ls qs vl vo w) (hn:qs.length<=1000) {g9 cq z9:Nat} {H9:Array Obj} (hz9:z9<=w.heap.size) (hf9:∀k,k<z9->some k≠vo.ownBlock->k≠X.hb->w.heap[k]?=H9[k]?) (h9:w.heap[g9]?=some (.cells #[.chan (some cq)] 109 (0,0))) (Ud:∀w1:J',jz W0 X ls qs vl vo w1->w1.heap[g9]?=some (.cells #[.chan (some cq)] 109 (0,0))->some g9≠vo.ownBlock) {z12 z20 z21 z22 z23 z24 z25 z26 z28 z31 z37 z40 z46 z49 z51 z53 z59 z70 z72:M'}
 (hQ:∀w' v' (c':Nat) (u56 u57 u58 u59 u60 u61 u62 u63 u64 u65:M'),jz W0 X ls (qs++[cq]) vl v' w'/\w'.heap[g9]?=some (.cells #[.chan (some cq)] 109 (0,0))/\z9<=w'.heap.size/\(∀k,k<z9->some k≠vo.ownBlock->k≠X.hb->w'.heap[k]?=H9[k]?)/\(v'.ownBlock=vo.ownBlock\/∃g,v'.ownBlock=some g/\z9<=g)->Q .normal ⟨#[z0,z1,z2,z3,z4,z5,z6,.pointer (some ⟨X.hv,0,none⟩),z8,.pointer (some ⟨g9,0,none⟩),dB,cZ,z12,de,dn,dm,dk,dj,dA,dz,z20,z21,z22,z23,z24,z25,z26,dD,z28,dC,dM,z31,dQ,dK,dP,dO,dV,z37,ey,ew,z40,eu,eK,eJ,eI,eH,z46,eQ,eN,z49,en,z51,iu,z53,iF,iE,u56,u57,u58,u59,u60,u61,u62,u63,u64,u65,rH,rG,rF,uu,z70,yb,z72],[]⟩ w'):
 Code.wp p_ R18 Q ⟨#[z0,z1,z2,z3,z4,z5,z6,.pointer (some ⟨X.hv,0,none⟩),z8,.pointer (some ⟨g9,0,none⟩),dB,cZ,z12,de,dn,dm,dk,dj,dA,dz,z20,z21,z22,z23,z24,z25,z26,dD,z28,dC,dM,z31,dQ,dK,dP,dO,dV,z37,ey,ew,z40,eu,eK,eJ,eI,eH,z46,eQ,eN,z49,en,z51,iu,z53,iF,iE,iD,iC,iB,z59,nv,nu,np,nk,sW,sV,rH,rG,rF,uu,z70,yb,z72],[]⟩ w:=by
 refine wpN 73 fun bs cn oq HI=> ?_
 simp only [R18,Se,oI,ai,az,bz,f45,A_]
 refine mA (by kernel_rfl) (kP:=⟨0,0,0,I'⟩) (base:=bs) (by rw [oq];kernel_rfl) (by kernel_rfl) (fun x=>zT X vl vo g9 cq z9 H9 x) (aDb W0 X ls qs vl vo g9 cq z9 H9)
  ⟨nz _,⟨rfl,rfl,rfl,rfl,fun h0=>absurd h0 (Nat.not_succ_le_zero _),fun h0=>absurd h0 (Nat.not_succ_le_zero _)⟩, ?_⟩ ?_ ?_
 ·exact ⟨h.drew,h9,hz9,hf9⟩
 ·intro i o' ho D x w a hD bc hw bH aD K k
  have hlt:i<11:=(cI ho)
  have dJ:=hw.fl
  have Gl:=bT oq
  have aA:=aa k
  clear k
  obtain rfl|rfl|rfl|rfl|rfl|rfl|rfl|rfl|rfl|rfl|rfl:i=0\/i=1\/i=2\/i=3\/i=4\/i=5\/i=6\/i=7\/i=8\/i=9\/i=10:=by omega
  all_goals obtain rfl:=so ho rfl
  ·obtain ⟨v7,w7⟩:=bc.oo (.pointer (some ⟨X.hv,0,none⟩)) 7
   clear aD ho
   refine bj (v:=.pointer (some ⟨X.hb,0,none⟩)) (w':=w) rfl rfl ?_ (aA.out x w (fun _ _=>rfl) ⟨hw.le,dJ.keep,hw.at_⟩)
   have UQ:w.cell? ⟨X.hv,0,none⟩=some (.pointer (some ⟨X.hb,0,none⟩)):=by
    obtain ⟨gT,g1,c1,v1⟩:=x
    have hle:=hw.le
    simp only at hle
    obtain rfl|rfl|rfl|rfl|rfl:gT=0\/gT=1\/gT=2\/gT=3\/gT=4:=by omega
    ·exact hw.at_.1.cells.1
    ·exact hw.at_.1.cells.1
    ·exact hw.at_.1.cells.1
    ·obtain ⟨⟨w1,H1,wu,_⟩,_⟩:=hw.at_
     exact (J_ (wu.block X.hv (cI H1.hv) (fD H1.ops H1.hv (by decide)))).trans H1.cells.1
    ·exact hw.at_.1.cells.1
   clear bc hw aA bH
   go_simp
  ·obtain ⟨v7,w7⟩:=bc.oo (.pointer (some ⟨X.hv,0,none⟩)) 7
   clear aD ho
   refine bj (v:=.pointer (some ⟨X.hb,0,none⟩)) (w':=w) rfl rfl ?_ (aA.out x w (fun _ _=>rfl) ⟨hw.le,dJ.keep,hw.at_⟩)
   have UQ:w.cell? ⟨X.hv,0,none⟩=some (.pointer (some ⟨X.hb,0,none⟩)):=by
    obtain ⟨gT,g1,c1,v1⟩:=x
    have hle:=hw.le
    simp only at hle
    obtain rfl|rfl|rfl|rfl|rfl:gT=0\/gT=1\/gT=2\/gT=3\/gT=4:=by omega
    ·exact hw.at_.1.cells.1
    ·exact hw.at_.1.cells.1
    ·exact hw.at_.1.cells.1
    ·obtain ⟨⟨w1,H1,wu,_⟩,_⟩:=hw.at_
     exact (J_ (wu.block X.hv (cI H1.hv) (fD H1.ops H1.hv (by decide)))).trans H1.cells.1
    ·exact hw.at_.1.cells.1
   clear bc hw aA bH
   go_simp
  ·have d1:=dq aD 1
   obtain ⟨Kx,XK⟩:=bc.vv (.pointer (some ⟨X.hb,0,none⟩)) 57 1 d1
   clear aD ho
   refine bj (v:=.pointer (some ⟨X.hb,0,none⟩)) (w':=w) rfl rfl ?_ (aA.out x w (fun _ _=>rfl) ⟨hw.le,dJ.keep,hw.at_⟩)
   clear bc hw aA bH
   go_simp
  ·have d2:=dq aD 2
   obtain ⟨v58,V8⟩:=bc.vv (.pointer (some ⟨X.hb,0,none⟩)) 58 2 d2
   clear aD ho
   refine bj (v:=.pointer (some ⟨X.hb,6,none⟩)) (w':=w) rfl rfl ?_ (aA.out x w (fun _ _=>rfl) ⟨hw.le,dJ.keep,hw.at_⟩)
   clear bc hw aA bH
   go_simp
  ·have d3:=dq aD 3
   obtain ⟨v59,w59⟩:=bc.vv (.pointer (some ⟨X.hb,6,none⟩)) 59 3 d3
   clear aD ho
   refine bj (v:=vo) (w':=w) rfl rfl ?_ (aA.out x w (fun _ _=>rfl) ⟨hw.le,dJ.keep,hw.at_⟩)
   have hB:jz W0 X ls qs vl vo w:=by
    obtain ⟨gT,g1,c1,v1⟩:=x
    have hle:gT<=2:=by
     refine j_ fun hx=> ?_
     have:=dJ.pa (by simp only;omega) 4 (by simp)
     rw [bH] at this;cases this
    obtain rfl|rfl|rfl:gT=0\/gT=1\/gT=2:=by omega
    ·exact hw.at_.1
    ·exact hw.at_.1
    ·exact hw.at_.1
   have hl3:=hB.cells.2.2.1
   clear bc hw aA bH
   go_simp
  ·obtain ⟨v9,w9⟩:=bc.oo (.pointer (some ⟨g9,0,none⟩)) 9
   clear aD ho
   have jH:x.ph=0:=by
    have e2:=dJ.fc
    rw [bH] at e2
    have:=of_decide_eq_false e2.symm
    omega
   obtain ⟨gT,g1,c1,v1⟩:=x
   simp only at jH
   subst jH
   have fH:=hw.at_
   have h9:w.cell? ⟨g9,0,none⟩=some (.chan (some cq)):=by rw [cV fH.2.1];rfl
   refine bj (v:=.chan (some cq)) (w':=w) rfl rfl ?_ ?_
   ·clear bc hw aA bH fH
    go_simp
   ·exact aA.out ⟨1,g1,c1,v1⟩ _ (fun _ _=>rfl) ⟨Z_ rfl,dJ.calls (by rw [hD];decide) (by decide) (by decide) (by decide) (by intro j hj;simp at hj),fH⟩
  ·have d5:=dq aD 5
   obtain ⟨v61,w61⟩:=bc.vv (.chan (some cq)) 61 5 d5
   clear aD ho
   have jH:x.ph=1:=by
    have e1:=dJ.fc
    have e2:=dJ.fb
    rw [d5] at e1
    rw [bH] at e2
    have:=of_decide_eq_true e1.symm
    have:=of_decide_eq_false e2.symm
    omega
   obtain ⟨gT,g1,c1,v1⟩:=x
   simp only at jH
   subst jH
   have fH:=hw.at_
   refine bj (v:=.slice (some ⟨w.heap.size,0,none⟩) 1 1) (w':=w.alloc (.cells #[.chan (some cq)] 109)) rfl rfl ?_ ?_
   ·clear bc hw aA bH fH
    go_simp
   ·exact aA.out ⟨2,w.heap.size,c1,v1⟩ _ (fun j hj=>by
     have hne:j≠6:=fun e=>by rw [e,bH] at hj;cases hj
     unfold zT;split<;>first|rfl|exact absurd rfl hne) ⟨Z_ rfl,dJ.builds (by rw [hD];decide) (by decide) (by decide) (by decide),⟨fH.1.alloc _,((dI.refl w).alloc _).blk _ _ fH.2.1,by rw [B_];have:=fH.2.2.1;omega,fun k h1 h2 h3=>((gD.alloc w _ none).block k (E_ h1 fH.2.2.1) (by simp)).trans (fH.2.2.2 k h1 h2 h3),Z' w _⟩⟩
  ·have d4:=dq aD 4
   have d6:=dq aD 6
   obtain ⟨v60,w60⟩:=bc.vv vo 60 4 d4
   obtain ⟨v62,w62⟩:=bc.vv (.slice (some ⟨x.g,0,none⟩) 1 1) 62 6 d6
   clear aD ho
   have jH:x.ph=2:=by
    have e1:=dJ.fb
    have e2:=dJ.fa
    rw [d6] at e1
    rw [bH] at e2
    have:=of_decide_eq_true e1.symm
    have:=of_decide_eq_false e2.symm
    omega
   obtain ⟨gT,g1,c1,v1⟩:=x
   simp only at jH
   subst jH
   obtain ⟨H1,BK,rm,Mh,BI⟩:=hw.at_
   obtain ⟨i9,A5,Kl,nQ,nP⟩:=info_parts MW
   obtain ⟨g,cap,w6,hr,yI,pZ,iP,mR⟩:=run_append_lies (P:=p_) w 73 73 W0.heap.size 109 i9 _ 1 8 Tryz.underlying73 A5 Kl nQ nP rfl (by decide) vo qs.length _ H1.ops ⟨g1,0,none⟩ 1 1 [.chan (some cq)] rfl (World.news_of_block (w:=w) BI) (by intro u hu;simp at hu;subst hu;rfl) (by decide) (by unfold maxLen;omega) (by omega) H1.old.size _ rfl
   refine bj (v:=.slice (some ⟨g,0,none⟩) (qs.length+1) cap) (w':=w6) rfl rfl ?_ ?_
   ·clear bc hw aA bH
    simp only [List.getElem_toArray,List.getElem_cons_succ,List.getElem_cons_zero,V',resolve,invoke,builtin,Sem.run_bind,Sem.run_pure,Result.andThen_ok,List.map_toArray,S_,List.map_nil,v60,v62,hr]
   ·have NB:gD w w6 vo.ownBlock:=⟨pZ.os,pZ.output,pZ.size,pZ.block⟩
    exact aA.out ⟨3,g1,c1,.slice (some ⟨g,0,none⟩) (qs.length+1) cap⟩ w6 (fun j hj=>by
     have hne:j≠7:=fun e=>by rw [e,bH] at hj;cases hj
     unfold zT;split<;>first|rfl|exact absurd rfl hne) ⟨Z_ rfl,dJ.apps (by rw [hD];decide) (by decide) (by decide) (by decide) (by intro j hj;simp at hj;rcases hj with rfl|rfl<;>assumption),⟨⟨w,H1,NB,yI⟩,by rw [NB.block g9 (cI BK) (fun e=>Ud w H1 BK e)];exact BK,D_ rm pZ.size,(fun k h1 h2 h3=>(NB.block k (E_ h1 rm) h2).trans (Mh k h1 h2 h3)),iP.imp (fun e=>e.symm) (fun e=>⟨g,rfl,by omega⟩)⟩⟩
  ·have d0:=dq aD 0
   obtain ⟨v56,XL⟩:=bc.vv (.pointer (some ⟨X.hb,0,none⟩)) 56 0 d0
   clear aD ho
   refine bj (v:=.pointer (some ⟨X.hb,0,none⟩)) (w':=w) rfl rfl ?_ (aA.out x w (fun _ _=>rfl) ⟨hw.le,dJ.keep,hw.at_⟩)
   clear bc hw aA bH
   go_simp
  ·have d8:=dq aD 8
   obtain ⟨v64,w64⟩:=bc.vv (.pointer (some ⟨X.hb,0,none⟩)) 64 8 d8
   clear aD ho
   refine bj (v:=.pointer (some ⟨X.hb,6,none⟩)) (w':=w) rfl rfl ?_ (aA.out x w (fun _ _=>rfl) ⟨hw.le,dJ.keep,hw.at_⟩)
   clear bc hw aA bH
   go_simp
  ·have d9:=dq aD 9
   have d7:=dq aD 7
   obtain ⟨v65,w65⟩:=bc.vv (.pointer (some ⟨X.hb,6,none⟩)) 65 9 d9
   obtain ⟨v63,w63⟩:=bc.vv (x.v) 63 7 d7
   clear aD ho
   have jH:x.ph=3:=by
    have e1:=dJ.fa
    have e2:=dJ.fs
    rw [d7] at e1
    rw [bH] at e2
    have:=of_decide_eq_true e1.symm
    have:=of_decide_eq_false e2.symm
    omega
   obtain ⟨gT,g1,c1,v1⟩:=x
   simp only at jH
   subst jH
   obtain ⟨⟨w1,H1,wu,Gd⟩,BK,rm,Mh,AP⟩:=hw.at_
   have fz:∀g,vo.ownBlock=some g->W0.heap.size<=g/\g<w1.heap.size:=fun g e=>H1.ops.lt g e
   have sD:w.heap[X.hb]?=w1.heap[X.hb]?:=wu.block X.hb (cI H1.box) (fD H1.ops H1.box (by decide))
   have c7:w.cell? ⟨X.hb,6,none⟩=some vo:=(J_ sD).trans H1.cells.2.2.1
   have z7:w.frozen? ⟨X.hb,6,none⟩=false:=(m_ sD).trans H1.cells.2.2.2.2
   obtain ⟨a5,q5,zA⟩:=aE Gd
   refine gQ (w':=w.setCell ⟨X.hb,6,none⟩ v1) rfl rfl ?_ ?_
   ·clear bc hw aA bH fz sD
    simp only at w63 zA
    rw [zA] at w63
    rw [zA]
    go_simp
   ·exact aA.out ⟨4,g1,c1,v1⟩ _ (fun _ _=>rfl) ⟨Z_ rfl,dJ.stores (by rw [hD];decide) (by decide) (by decide) (by decide),⟨H1.oper wu Gd,by rw [a_ w ⟨X.hb,6,none⟩ g9 v1 (fun e=>by rw [show g9=X.hb from e,sD,H1.box] at BK;simp at BK)];exact BK,by rw [o_];exact rm,(fun k h1 h2 h3=>(a_ w ⟨X.hb,6,none⟩ k v1 h3).trans (Mh k h1 h2 h3)),AP⟩⟩
 ·intro D x w hd hw
  obtain ⟨gT,g1,c1,v1⟩:=x
  have jH:gT=4:=by
   have e1:=hw.fl.fs
   rw [hd 10 (by decide)] at e1
   have:=of_decide_eq_true e1.symm
   have:=hw.le
   simp only at *
   omega
  subst jH
  have:=hQ w v1 c1 (.pointer (some ⟨X.hb,0,none⟩)) (.pointer (some ⟨X.hb,0,none⟩)) (.pointer (some ⟨X.hb,0,none⟩)) (.pointer (some ⟨X.hb,6,none⟩)) (vo) (.chan (some cq)) (.slice (some ⟨g1,0,none⟩) 1 1) (v1) (.pointer (some ⟨X.hb,0,none⟩)) (.pointer (some ⟨X.hb,6,none⟩)) hw.at_
  generalize bc:slotsOf _ bs (zT X vl vo g9 cq z9 H9 ⟨4,g1,c1,v1⟩)=sl
  have eS:sl=#[z0,z1,z2,z3,z4,z5,z6,.pointer (some ⟨X.hv,0,none⟩),z8,.pointer (some ⟨g9,0,none⟩),dB,cZ,z12,de,dn,dm,dk,dj,dA,dz,z20,z21,z22,z23,z24,z25,z26,dD,z28,dC,dM,z31,dQ,dK,dP,dO,dV,z37,ey,ew,z40,eu,eK,eJ,eI,eH,z46,eQ,eN,z49,en,z51,iu,z53,iF,iE,.pointer (some ⟨X.hb,0,none⟩),.pointer (some ⟨X.hb,0,none⟩),.pointer (some ⟨X.hb,0,none⟩),.pointer (some ⟨X.hb,6,none⟩),vo,.chan (some cq),.slice (some ⟨g1,0,none⟩) 1 1,v1,.pointer (some ⟨X.hb,0,none⟩),.pointer (some ⟨X.hb,6,none⟩),rH,rG,rF,uu,z70,yb,z72]:=by rw [<-bc,<-cn];kernel_rfl
  rw [eS]
  exact this
theorem Ij {W:J'} (h1:X.m1=W.heap.size) (h2:X.m2=W.heap.size+1) (h3:X.m3=W.heap.size+2) (h4:X.hb=W.heap.size+3) (h5:X.hv=W.heap.size+4) (hw:w=((((W.alloc (.map #[] 0)).alloc (.map #[] 0)).alloc (.map #[] 0)).alloc (.cells (pD X (.slice none 0 0) (.slice none 0 0)) 77)).alloc (.cells #[.pointer (some ⟨X.hb,0,none⟩)] 68)):jz W X [] [] (.slice none 0 0) (.slice none 0 0) w:=by
 have s1:(W.alloc (.map #[] 0)).heap.size=W.heap.size+1:=by simp
 have s2:((W.alloc (.map #[] 0)).alloc (.map #[] 0)).heap.size=W.heap.size+2:=by simp
 have s3:(((W.alloc (.map #[] 0)).alloc (.map #[] 0)).alloc (.map #[] 0)).heap.size=W.heap.size+3:=by simp
 have s4:((((W.alloc (.map #[] 0)).alloc (.map #[] 0)).alloc (.map #[] 0)).alloc (.cells (pD X (.slice none 0 0) (.slice none 0 0)) 77)).heap.size=W.heap.size+4:=by simp
 have n1:=Z' W (.map #[] 0)
 have n2:=Z' (W.alloc (.map #[] 0)) (.map #[] 0)
 have n3:=Z' ((W.alloc (.map #[] 0)).alloc (.map #[] 0)) (.map #[] 0)
 have n4:=Z' (((W.alloc (.map #[] 0)).alloc (.map #[] 0)).alloc (.map #[] 0)) (.cells (pD X (.slice none 0 0) (.slice none 0 0)) 77)
 have n5:=Z' ((((W.alloc (.map #[] 0)).alloc (.map #[] 0)).alloc (.map #[] 0)).alloc (.cells (pD X (.slice none 0 0) (.slice none 0 0)) 77)) (.cells #[.pointer (some ⟨X.hb,0,none⟩)] 68)
 rw [s1] at n2
 rw [s2] at n3
 rw [s3] at n4
 rw [s4] at n5
 have k:∀(w:J') (o:Obj) (r:Nat) (ob:Obj),w.heap[r]?=some ob->(w.alloc o).heap[r]?=some ob:=fun w o r ob h=>((dI.refl w).alloc o).blk r ob h
 have G:gD W w none:=by rw [hw];exact ((((gD.alloc _ _ _).trans (gD.alloc _ _ _)).trans (gD.alloc _ _ _)).trans (gD.alloc _ _ _)).trans (gD.alloc _ _ _)
 refine ⟨G,⟨by omega,by omega,by omega,by omega,by omega⟩, ?_, ?_,⟨?_, ?_, ?_⟩,⟨by omega,by omega,by omega⟩,World.ownsRow_nil _ _ _ _,World.ownsRow_nil _ _ _ _,List.nodup_nil,fun x hx=>by cases hx⟩
 ·rw [h4,hw];exact k _ _ _ _ n4
 ·rw [h5,hw];exact n5
 ·rw [h1,hw];exact k _ _ _ _ (k _ _ _ _ (k _ _ _ _ (k _ _ _ _ n1)))
 ·rw [h2,hw];exact k _ _ _ _ (k _ _ _ _ (k _ _ _ _ n2))
 ·rw [h3,hw];exact k _ _ _ _ (k _ _ _ _ n3)
theorem jz.j8 {T:Nat->Question->Nat} {d:Nat} (B:jz (W0.re T d) X ls qs vl vo w):jz W0 X ls qs vl vo w:=⟨⟨B.old.os,B.old.output,B.old.size,B.old.block⟩,B.low,B.box,B.hv,B.mp,B.LV,B.lines,B.ops,B.nd,B.lt⟩
theorem Jk (hL:Lay C wl) (x1:wl.heap[g1]?=some (.cells #[.int .i64 L,.int .i64 O,.int .i64 P] 28 (0,0))) (l0:1<=L) (l1:L<=6) {z12 z20 z21 z22 z23 z24 z25 z26 z28:M'}
 (hc:∀aK X ls vl bw (z6 dB cZ z12 de dn dm dk dj dA dz z20 z21 z22 z23 z24 z25 z26 dD z28 dC dM z31 dQ dK dP dO dV z37 ey ew z40 eu eK eJ eI eH z46 eQ eN z49 en:M'),X.L=L->X.O=O->X.P=P->Lay C aK->jz wl X ls [] vl (.slice none 0 0) aK->(ls.length:Int)=L->aK.heap[bw]?=some (.cells #[.int .u64 0,.int .u32 0] 108 (0,0))->wl.heap.size<=bw->bw+1=aK.heap.size->Can p_ C b o Post 0 (db Bd) aK (G ((base 45).at ⟨#[.agg #[.int .i64 L,.int .i64 O,.int .i64 P],.slice ea rs.length ec,.pointer (some ⟨g1,0,none⟩),.pointer (some ⟨g2,0,none⟩),.pointer none,I',z6,.pointer (some ⟨X.hv,0,none⟩),.pointer (some ⟨bw,0,none⟩),I',dB,cZ,z12,de,dn,dm,dk,dj,dA,dz,z20,z21,z22,z23,z24,z25,z26,dD,z28,dC,dM,z31,dQ,dK,dP,dO,dV,z37,ey,ew,z40,eu,eK,eJ,eI,eH,z46,eQ,eN,z49,en,I',I',I',I',I',I',I',I',I',I',I',I',I',I',I',I',I',I',I',I',I',I'],[]⟩ [.code (az 6 bz)]) (aI.at aS (.inRegion av (aN::sg)::aV)::cs))):
 Can p_ C b o Post 0 (db Bd) wl (G ((base 45).at ⟨#[.agg #[.int .i64 L,.int .i64 O,.int .i64 P],.slice ea rs.length ec,.pointer (some ⟨g1,0,none⟩),.pointer (some ⟨g2,0,none⟩),.pointer none,I',z6,I',I',I',dB,cZ,z12,de,dn,dm,dk,dj,dA,dz,z20,z21,z22,z23,z24,z25,z26,dD,z28,dC,I',I',I',I',I',I',I',I',I',I',I',I',I',I',I',I',I',I',I',I',I',I',I',I',I',I',I',I',I',I',I',I',I',I',I',I',I',I',I',I',I',I',I'],[]⟩ [.code (az 3 bz)]) (aI.at aS (.inRegion av (aN::sg)::aV)::cs)):=by
 have hS:=cT Bd
 have e1:az 3 bz=.seq (ai 3 bz) (.seq (ai 4 bz) (.seq (ai 5 bz) (az 6 bz))):=by kernel_rfl
 rw [e1]
 refine hS.s hL ?_
 refine Can.cY pA hS hL (AB (by kernel_rfl) rfl rfl ⟨_,func45⟩) ?_
 intro T d W hW Bh hB
 have ir:=aa hc
 have qK:=aa hL
 have y1:W.heap[g1]?=some (.cells #[.int .i64 L,.int .i64 O,.int .i64 P] 28 (0,0)):=by rw [hW.out];exact x1
 have c1:W.cell? ⟨g1,0,none⟩=some (.int .i64 L):=by rw [cV y1];rfl
 have c2:W.cell? ⟨g1,1,none⟩=some (.int .i64 O):=by rw [cV y1];rfl
 have c3:W.cell? ⟨g1,2,none⟩=some (.int .i64 P):=by rw [cV y1];rfl
 have y1:=aa y1
 clear hc hL x1
 have q71:∀w:J',(Instr.makeMap 71 none).run p_ w=.ok (.map (some w.heap.size)) (w.alloc (.map #[] 0)):=fun w=>run_makeMap 71 w
 have q72:∀w:J',(Instr.makeMap 72 none).run p_ w=.ok (.map (some w.heap.size)) (w.alloc (.map #[] 0)):=fun w=>run_makeMap 72 w
 have q75:∀w:J',(Instr.makeMap 75 none).run p_ w=.ok (.map (some w.heap.size)) (w.alloc (.map #[] 0)):=fun w=>run_makeMap 75 w
 simp only [ai,bz,f45,A_]
 go_wp2_with fail
 have hB:=hB.out
 subst hB
 intro hcut
 obtain ⟨X,hX⟩:∃X:Bb,X=⟨W.heap.size+3,W.heap.size+4,W.heap.size,W.heap.size+1,W.heap.size+2,L,O,P⟩:=⟨_,rfl⟩
 have b1:jz W X [] [] (.slice none 0 0) (.slice none 0 0) (((((W.alloc (.map #[] 0)).alloc (.map #[] 0)).alloc (.map #[] 0)).alloc (.cells #[.int .i64 L,.int .i64 O,.int .i64 P,.slice none 0 0,.map (some W.heap.size),.map (some (W.heap.size+1)),.slice none 0 0,.slice none 0 0,.slice none 0 0,.slice none 0 0,.map (some (W.heap.size+1+1)),.int .i64 0,.slice none 0 0,.slice none 0 0] 77)).alloc (.cells #[.pointer (some ⟨W.heap.size+1+1+1,0,none⟩)] 68)):=
  Ij (by rw [hX]) (by rw [hX]) (by rw [hX]) (by rw [hX]) (by rw [hX]) (by rw [hX];rfl)
 have b1:=jz.j8 (T:=T) (d:=d) (by rw [<-hW.out];exact b1)
 have ehv:W.heap.size+1+1+1+1=X.hv:=by rw [hX]
 have eL:X.L=L:=by rw [hX]
 have eO:X.O=O:=by rw [hX]
 have eP:X.P=P:=by rw [hX]
 rw [ehv]
 generalize ((((W.alloc (.map #[] 0)).alloc (.map #[] 0)).alloc (.map #[] 0)).alloc (.cells #[.int .i64 L,.int .i64 O,.int .i64 P,.slice none 0 0,.map (some W.heap.size),.map (some (W.heap.size+1)),.slice none 0 0,.slice none 0 0,.slice none 0 0,.slice none 0 0,.map (some (W.heap.size+1+1)),.int .i64 0,.slice none 0 0,.slice none 0 0] 77)).alloc (.cells #[.pointer (some ⟨W.heap.size+1+1+1,0,none⟩)] 68)=w1 at *
 have nU:Lay C w1:=⟨hcut,qK.out.no⟩
 have gl:g1<wl.heap.size:=by
  have:=(cI y1.out)
  rw [hW.out] at this;exact this
 have XF:wl.heap[g1]?=some (.cells #[.int .i64 L,.int .i64 O,.int .i64 P] 28 (0,0)):=by
  have:=y1.out
  rw [hW.out] at this;exact this
 have XF:=aa XF
 generalize W.heap.size=zz at *
 clear hX ehv hcut q71 q72 q75 c1 c2 c3 y1 hW
 refine hS.s nU ?_
 refine Can.cY pA hS nU (AB (by kernel_rfl) rfl rfl ⟨_,func45⟩) ?_
 intro T' d' W hW Bh hB
 have b2:jz wl X [] [] (.slice none 0 0) (.slice none 0 0) W:=by rw [hW.out];exact b1.re T' d'
 have c1:W.cell? ⟨g1,0,none⟩=some (.int .i64 L):=by
  rw [J_ (b2.old.block g1 gl (by simp)),cV XF.out];rfl
 have b2:=aa b2
 clear b1 hW nU
 simp only [ai,bz,f45,A_]
 go_wp2_with fail
 clear c1
 go_loopw [38] (fun i wr=>∃k:Nat,∃ls vl,(k:Int)<=L/\i=.int .i64 k/\f_ (ls.length=k)/\f_ (jz wl X ls [] vl (.slice none 0 0) wr)) (fun i _=>L.toNat - (intOf i).toNat)
 case atStart=>exact ⟨0,[],_,by omega,rfl,aa rfl,b2⟩
 case round=>
  obtain ⟨k,ls,vl,hk,rfl,QU,Rz⟩:=hrel
  by_cases hlt:(k:Int)<L
  ·go_wp2_with fail
   refine Tl Rz.out (by rw [QU.out];omega) fun w' v' c' u40 u41 u42 u43 u44 u45 u46 u47 u48 u49 hB'=> ?_
   have jx:=aa hB'.1
   clear hB' Rz
   go_wp2_with fail
   go_roundw
   case rel=>exact ⟨k+1,_,_,by omega,by go_num,aa (by rw [K_,QU.out];rfl),jx⟩
   case measure=>simp [intOf];omega
  ·obtain rfl:L=(k:Int):=by omega
   have gJ:((k:Int)<(k:Int))=False:=by simp
   go_wp2_with fail
   have hB:=hB.out
   subst hB
   intro hcut
   have du:Lay C wr:=⟨hcut,qK.out.no⟩
   refine hS.s du ?_
   refine Can.cY pA hS du (AB (by kernel_rfl) rfl rfl ⟨_,func45⟩) ?_
   intro T3 d3 W3 Ix Bh hB
   have b3:f_ (jz wl X ls [] vl (.slice none 0 0) W3):=by rw [Ix.out];exact Rz.out.re T3 d3
   clear Rz hcut du Ix
   simp only [ai,bz,f45,A_]
   go_wp2_with fail
   have hB:=hB.out
   subst hB
   intro hcut
   exact ir.out _ X ls vl W3.heap.size _ _ _ _ _ _ _ _ _ _ _ _ _ _ _ _ _ _ _ _ _ _ _ _ _ _ _ _ _ _ _ _ _ _ _ _ _ _ _ _ _ _ eL eO eP ⟨hcut,qK.out.no⟩ (b3.out.alloc _) (by rw [QU.out]) (Z' W3 _) b3.out.old.size (by rw [B_])
variable {N:Nat}
theorem JP {oa:cS} {bw:Nat} {cs:Array M'} {t:Q'} (hb:w.heap[bw]?=some (.cells cs t (0,0))) (hL:Lay oa w):Lay (oa.anew N (Mo bw 0) True ⟨bw,0,none⟩) (oH w bw #[] t):=by
 have hlt:=(cI hb)
 have sz:(oH w bw #[] t).heap.size=w.heap.size:=by simp [oH]
 have self:∀k,(oH w bw #[] t).cell? ⟨bw,k,none⟩=none:=fun k=>by
  unfold World.cell?
  simp only [HY (t:=t) (cs:=#[]) hlt]
  simp
 refine ⟨⟨fun b k hk=> ?_,fun b k hk=> ?_⟩,fun g r=>⟨fun h=>h,fun h=>h⟩⟩
 ·by_cases e:b=bw
  ·subst e;exact ⟨by omega,self k⟩
  ·have fS:bS oa b k:=by
    rcases hk with hk|hk|⟨g,hk⟩
    ·exfalso
     rcases hk.2 with h|h
     ·injection h with h;injection h with h;exact e h
     ·injection h with h;injection h with h;exact e h
    ·rcases hk with h|h
     ·exact .inr (.inl h)
     ·exact .inl h
    ·exact hk.elim
   obtain ⟨h1,h2⟩:=hL.cut.hid b k fS
   refine ⟨by omega, ?_⟩
   unfold World.cell? at h2 ⊢
   simp only [Bm e]
   exact h2
 ·obtain ⟨g,hk⟩:=hk
  exact hk.elim
theorem jz.turn (h:jz W0 X ls qs vl vo w) {r:Nat} (hs:∀k,k≠r->w'.heap[k]?=w.heap[k]?) (hz:w'.heap.size=w.heap.size) (ho:w'.os=w.os) (hu:w'.output=w.output) (hr:W0.heap.size<=r) {cs:Array M'} {t:Q'} (hb:w.heap[r]?=some (.cells cs t f)) (h1:t≠77) (h2:t≠68) (h3:t≠78) (h4:some r≠vo.ownBlock):jz W0 X ls qs vl vo w':=by
 have ne:∀(k:Nat) (ob:Obj),w.heap[k]?=some ob->(k=r->False)->w'.heap[k]?=some ob:=fun k ob hk hn=>by rw [hs k hn];exact hk
 have cne:∀(k:Nat) (cs':Array M') (t':Q') (f':Nat × Nat),w.heap[k]?=some (.cells cs' t' f')->t'≠t->k=r->False:=fun k cs' t' f' hk ht e=>by
  rw [e,hb] at hk;simp at hk;exact ht hk.2.1.symm
 have LV:∀(k:Nat) (ob:Obj),w.heap[k]?=some ob->vV ob=false->k=r->False:=fun k ob hk hc e=>by
  rw [e,hb] at hk
  simp only [n_] at hk
  rw [<-hk] at hc;simp [vV] at hc
 have own:∀{e n:Nat} {v:M'} {xs:List M'},w.ownsRow W0.heap.size e 1 v n xs->some r≠v.ownBlock->w'.ownsRow W0.heap.size e 1 v n xs:=fun {e n v xs} hh hv=>by
  refine ⟨hh.1, ?_⟩
  rcases hh.2 with h0|⟨g,cap,cur,h1,h2,h3,h4⟩
  ·exact .inl h0
  ·exact .inr ⟨g,cap,cur,h1,h2,ne g _ h3 (fun e=>hv (by rw [h1,<-e];rfl)),h4⟩
 obtain ⟨q1,q2,q3⟩:=h.mp
 exact ⟨⟨ho.trans h.old.os,hu.trans h.old.output,by rw [hz];exact h.old.size,fun k hk hn=>by rw [hs k (by omega)];exact h.old.block k hk hn⟩,h.low,ne _ _ h.box (cne _ _ _ _ h.box (ru h1)),ne _ _ h.hv (cne _ _ _ _ h.hv (ru h2)),⟨ne _ _ q1 (LV _ _ q1 rfl),ne _ _ q2 (LV _ _ q2 rfl),ne _ _ q3 (LV _ _ q3 rfl)⟩,h.LV,own h.lines (fD h.lines hb h3),own h.ops h4,h.nd,fun x hx=>⟨(h.lt x hx).1,by rw [hz];exact (h.lt x hx).2⟩⟩
theorem p9 (w:J') (r:Nat):∀k,k≠r->(w.freeze ⟨r,0,none⟩ 1).heap[k]?=w.heap[k]?:=fun k hk=>by
 unfold World.freeze
 split
 ·rfl
 ·simp only [Array.getElem?_modify];rw [if_neg (ru hk)]
theorem xL (w:J') (r:Nat):(w.freeze ⟨r,0,none⟩ 1).os=w.os/\(w.freeze ⟨r,0,none⟩ 1).output=w.output:=by
 unfold World.freeze;split<;>exact ⟨rfl,rfl⟩
structure LL (C:cS) (N0:Nat) (us:List Od) (L:Nat->Os) (vo:M') (W0 w:J'):Prop where
 live:∀i (hi:i<us.length),L (N0+i)=.live us[i]
 Ip:∀j v,j≠0->(L j).od=some v->∃i,i<us.length/\j=N0+i
 ap:Apart L
 fo:BB C L
 kM:∀i (hi:i<us.length),w.heap[us[i].x]?=some (.chan 0 #[] false 0 0 false)/\W0.heap.size<=us[i].x
 O5:∀i (hi:i<us.length),(∃f,w.heap[us[i].bt]?=some (.cells #[.chan (some us[i].x)] 109 f))/\W0.heap.size<=us[i].bt/\some us[i].bt≠vo.ownBlock
 kz:∀i (hi:i<us.length),us[i].k=0
theorem TM (w:J'):(Instr.makeChan 109 (.int .i64 0)).run p_ w=.ok (.chan (some w.heap.size)) (w.alloc (.chan 0 #[] false 0 0 false)):=by
 obtain ⟨i,hi⟩:∃i,Tryz.prog.info? 142=some i:=Option.isSome_iff_exists.1 (by kernel_rfl)
 exact run_makeChan (P:=p_) (w:=w) (t:=109) (e:=142) (dir:=.both) (by kernel_rfl) hi .i64 0 (by decide) (by simp)
variable {bw N0:Nat} {L:Nat->Os} {us:List Od}
theorem LL.go {SZ:M'} (K:LL C N0 us L vo W0 w) (hg:∀(r:Nat) (ob:Obj),w.heap[r]?=some ob->some r≠vo.ownBlock->w'.heap[r]?=some ob) (hv:∀i (hi:i<us.length),some us[i].bt≠SZ.ownBlock) (hc:∀i (hi:i<us.length),some us[i].x≠vo.ownBlock):LL C N0 us L SZ W0 w':=
 ⟨K.live,K.Ip,K.ap,K.fo,fun i hi=>⟨hg _ _ (K.kM i hi).1 (hc i hi),(K.kM i hi).2⟩,fun i hi=>by
  obtain ⟨⟨f,h1⟩,h2,h3⟩:=K.O5 i hi
  exact ⟨⟨f,hg _ _ h1 h3⟩,h2,hv i hi⟩,K.kz⟩
noncomputable def Yv:Array y_:=match az 3 (match ai 2 oI with| .block _ c=>c|c=>c) with| .region _ ops _=>ops|_=>#[]
theorem P0 (o1:1<=O) (o4:O<=4) (hN0:0<N0) (Z7:N0<2000000000) (CV:bw<wl.heap.size->True)
 (hc:∀C' aK L' yW SZ (z0 z1 z4 z5 z6 z9 dB cZ z12 de dn dm dk dj dA dz z20 z21 z22 z23 z24 z25 z26 dD z28 dC dM z31 dQ dK dP dO dV z37 ey ew z40 eu eK eJ eI eH z46 eQ eN z49 en z51 iu z53 iF iE iD iC iB z59 nv nu np nk sW sV rH rG rF uu z70 yb z72:M'),(yW.length:Int)=O->Lay C' aK->jz W0 X ls (yW.map (·.x)) vl SZ aK->LL C' N0 yW L' SZ W0 aK->Can p_ C' bw 0 Post 0 (pI bw (N0+yW.length) L') aK (G ((base 45).at ⟨#[z0,z1,.pointer (some ⟨g1,0,none⟩),.pointer (some ⟨g2,0,none⟩),z4,z5,z6,.pointer (some ⟨X.hv,0,none⟩),.pointer (some ⟨bw,0,none⟩),z9,dB,cZ,z12,de,dn,dm,dk,dj,dA,dz,z20,z21,z22,z23,z24,z25,z26,dD,z28,dC,dM,z31,dQ,dK,dP,dO,dV,z37,ey,ew,z40,eu,eK,eJ,eI,eH,z46,eQ,eN,z49,en,z51,iu,z53,iF,iE,iD,iC,iB,z59,nv,nu,np,nk,sW,sV,rH,rG,rF,uu,z70,yb,z72],[]⟩ [.code (az 7 bz)]) (aI.at aS (.inRegion av (aN::sg)::aV)::cs))):
 ∀m i,O.toNat - i=m->(i:Int)<=O->∀(C:cS) (us:List Od) (L:Nat->Os) (wl:J') (z0 z1 z4 z5 z6 z9 dB cZ z12 de dn dm dk dj dA dz z20 z21 z22 z23 z24 z25 z26 dD z28 dC dM z31 dQ dK dP dO dV z37 ey ew z40 eu eK eJ eI eH z46 eQ eN z49 en z51 iF iE iD iC iB z59 nv nu np nk sW sV rH rG rF uu z70 yb z72 vo:M'),us.length=i->Lay C wl->jz W0 X ls (us.map (·.x)) vl vo wl->LL C N0 us L vo W0 wl->
 Can p_ C bw 0 Post 0 (pI bw (N0+i) L) wl (G ((base 45).at ⟨#[z0,z1,.pointer (some ⟨g1,0,none⟩),.pointer (some ⟨g2,0,none⟩),z4,z5,z6,.pointer (some ⟨X.hv,0,none⟩),.pointer (some ⟨bw,0,none⟩),z9,dB,cZ,z12,de,dn,dm,dk,dj,dA,dz,z20,z21,z22,z23,z24,z25,z26,dD,z28,dC,dM,z31,dQ,dK,dP,dO,dV,z37,ey,ew,z40,eu,eK,eJ,eI,eH,z46,eQ,eN,z49,en,z51,.int .i64 O,.int .i64 (i:Nat),iF,iE,iD,iC,iB,z59,nv,nu,np,nk,sW,sV,rH,rG,rF,uu,z70,yb,z72],[]⟩ [.code oI,.inLoop oI,.inBlock 4,.code (az 7 bz)]) (aI.at aS (.inRegion av (aN::sg)::aV)::cs)):=by
 intro m
 induction m with
 |zero=>
  intro i hm hi C us L wl z0 z1 z4 z5 z6 z9 dB cZ z12 de dn dm dk dj dA dz z20 z21 z22 z23 z24 z25 z26 dD z28 dC dM z31 dQ dK dP dO dV z37 ey ew z40 eu eK eJ eI eH z46 eQ eN z49 en z51 iF iE iD iC iB z59 nv nu np nk sW sV rH rG rF uu z70 yb z72 vo hlen hL hB K
  have hS:=iS bw (N0+i) L
  obtain rfl:O=(i:Int):=by omega
  have hlt:((i:Int)<(i:Int))=False:=by simp
  generalize hK:[Item.inLoop oI,.inBlock 4,.code (az 7 bz)]=K0
  simp only [oI,ai,az,bz,f45,A_]
  refine hS.steady.s hL ?_
  refine Can.ctl hS.steady hL rfl (fun _=>zb) ?_
  refine Can.op (ok:=il) hS.steady hL rfl rfl (by k_ne) (by kernel_rfl) (fun T d=>⟨.bool false,wl.re T d, ?_,fun _=>Can.re ?_ T d⟩)
  ·go_simp
  walk_nrm
  refine Can.ctl hS.steady hL rfl (fun _=>stepG_region_end) ?_
  refine hS.steady.s hL ?_
  refine Can.ctl hS.steady hL rfl (fun _=>stepG_cond rfl) ?_
  subst hK
  refine Can.ctl hS.steady hL rfl (fun _=>stepG_exit rfl) ?_
  subst hlen
  exact hc C wl L us vo _ _ _ _ _ _ _ _ _ _ _ _ _ _ _ _ _ _ _ _ _ _ _ _ _ _ _ _ _ _ _ _ _ _ _ _ _ _ _ _ _ _ _ _ _ _ _ _ _ _ _ _ _ _ _ _ _ _ _ _ _ _ _ _ _ _ _ _ _ rfl hL hB K
 |succ m ih=>
  intro i hm hi C us L wl z0 z1 z4 z5 z6 z9 dB cZ z12 de dn dm dk dj dA dz z20 z21 z22 z23 z24 z25 z26 dD z28 dC dM z31 dQ dK dP dO dV z37 ey ew z40 eu eK eJ eI eH z46 eQ eN z49 en z51 iF iE iD iC iB z59 nv nu np nk sW sV rH rG rF uu z70 yb z72 vo hlen hL hB K
  have hS:=iS bw (N0+i) L
  have hlt:(i:Int)<O:=by omega
  have oJ:IntKind.i64.wrap ((i:Int)+1)=((i+1:Nat):Int):=by rw [IntWalk.i64_in _ (by omega)];rfl
  generalize hK:[Item.inLoop oI,.inBlock 4,.code (az 7 bz)]=K0
  have e0:oI=.seq (ai 0 oI) (.seq (ai 1 oI) (.seq (.block 5 (.seq (ai 0 (match ai 2 oI with| .block _ c=>c|c=>c)) (.seq R18 (az 2 (match ai 2 oI with| .block _ c=>c|c=>c))))) (match az 2 oI with| .seq _ c=>c|c=>c))):=by kernel_rfl
  rw [e0]
  refine hS.steady.s hL ?_
  simp only [ai,oI,az,bz,f45,A_]
  refine Can.ctl hS.steady hL rfl (fun _=>zb) ?_
  refine Can.op (ok:=il) hS.steady hL rfl rfl (by k_ne) (by kernel_rfl) (fun T d=>⟨.bool true,wl.re T d, ?_,fun _=>Can.re ?_ T d⟩)
  ·go_simp
  walk_nrm
  refine Can.ctl hS.steady hL rfl (fun _=>stepG_region_end) ?_
  refine hS.steady.s hL ?_
  refine Can.ctl hS.steady hL rfl (fun _=>stepG_cond rfl) ?_
  refine Can.ctl hS.steady hL rfl (fun _=>stepG_skip) ?_
  refine hS.steady.s hL ?_
  refine Can.ctl hS.steady hL rfl (fun _=>stepG_block) ?_
  refine hS.steady.s hL ?_
  refine Can.cY pA hS.steady hL (AB (by kernel_rfl) rfl rfl ⟨_,func45⟩) ?_
  intro T d W hW Bh SH
  have b1:=aa (hB.re T d)
  have K1:f_ (LL C N0 us L vo W0 (wl.re T d)):=⟨K.live,K.Ip,K.ap,K.fo,K.kM,K.O5,K.kz⟩
  have qK:=aa hL
  have ir:=aa hc
  have TQ:=aa ih
  have e2:=hW.out
  rw [<-e2] at b1 K1
  clear hL hc ih hB K hW e2
  have Ng:=TM W
  go_wp2_with fail
  have hB:=SH.out
  subst hB
  intro hcut
  have Qz:(W.alloc (.chan 0 #[] false 0 0 false)).heap.size=W.heap.size+1:=by simp
  have n1:=((dI.refl _).alloc (.cells #[.chan (some W.heap.size)] 109)).blk _ _ (Z' W (.chan 0 #[] false 0 0 false))
  have n2:=Z' (W.alloc (.chan 0 #[] false 0 0 false)) (.cells #[.chan (some W.heap.size)] 109)
  rw [Qz] at n2
  have kW:dI W ((W.alloc (.chan 0 #[] false 0 0 false)).alloc (.cells #[.chan (some W.heap.size)] 109)):=((dI.refl W).alloc _).alloc _
  have b2:jz W0 X ls (us.map (·.x)) vl vo ((W.alloc (.chan 0 #[] false 0 0 false)).alloc (.cells #[.chan (some W.heap.size)] 109)):=(b1.out.alloc _).alloc _
  have du:Lay C ((W.alloc (.chan 0 #[] false 0 0 false)).alloc (.cells #[.chan (some W.heap.size)] 109)):=⟨hcut,qK.out.no⟩
  have yF:((W.alloc (.chan 0 #[] false 0 0 false)).alloc (.cells #[.chan (some W.heap.size)] 109)).heap.size=W.heap.size+2:=by simp
  have tX:W0.heap.size<=W.heap.size:=b1.out.old.size
  have Hm:f_ (∀j (hj:j<us.length),us[j].x<W.heap.size/\us[j].bt<W.heap.size):=aa fun j hj=>⟨(Array.getElem?_eq_some_iff.1 (K1.out.kM j hj).1).1,by obtain ⟨⟨f,h1⟩,_⟩:=K1.out.O5 j hj;exact (cI h1)⟩
  have YM:f_ (∀g,vo.ownBlock=some g->g<W.heap.size):=aa fun g e=>(b1.out.ops.lt g e).2
  have YG:f_ (∀j (hj:j<us.length),some us[j].x≠vo.ownBlock):=aa fun j hj=>Ki b1.out.ops (K1.out.kM j hj).1 rfl
  have K2:LL C N0 us L vo W0 ((W.alloc (.chan 0 #[] false 0 0 false)).alloc (.cells #[.chan (some W.heap.size)] 109)):=K1.out.go (fun r ob hr _=>kW.blk r ob hr) (fun j hj=>(K1.out.O5 j hj).2.2) YG.out
  generalize wh:(W.alloc (.chan 0 #[] false 0 0 false)).alloc (.cells #[.chan (some W.heap.size)] 109)=w2 at *
  clear wh Qz kW b1 K1 hcut Ng
  generalize W.heap.size=xx at *
  refine hS.steady.s du ?_
  refine Can.cY pA hS.steady du (AB (by kernel_rfl) rfl rfl ⟨_,func45⟩) ?_
  intro T3 d3 W3 Ix Bh SH
  have b3:jz W0 X ls (us.map (·.x)) vl vo W3:=by rw [Ix.out];exact b2.re T3 d3
  have n3:W3.heap[xx+1]?=some (.cells #[.chan (some xx)] 109 (0,0)):=by rw [Ix.out];exact n2
  have Oz:xx+2<=W3.heap.size:=by rw [Ix.out];exact Nat.le_of_eq yF.symm
  have f3:∀k,k<xx+2->some k≠vo.ownBlock->k≠X.hb->W3.heap[k]?=w2.heap[k]?:=fun k _ _ _=>by rw [Ix.out];rfl
  refine Tk b3 (by rw [List.length_map,hlen];omega) (g9:=xx+1) (cq:=xx) (z9:=xx+2) (H9:=w2.heap) Oz f3 n3 (fun w1 _ _ e=>by have:=YM.out _ e.symm;omega) fun w4 v4 c4 u56 u57 u58 u59 u60 u61 u62 u63 u64 u65 hp=> ?_
  obtain ⟨b4,n4,YE,f4,x4⟩:=hp
  have hB:=SH.out
  subst hB
  intro hcut
  have qv:Lay C w4:=⟨hcut,qK.out.no⟩
  clear Ix b3 n3 Oz f3
  have WK:∀(r:Nat) (ob:Obj),w2.heap[r]?=some ob->(∀cs f,ob≠.cells cs 77 f)->r≠X.hb:=fun r ob hr hn e=>by
   rw [e,b2.box] at hr
   exact hn _ _ (Option.some.inj hr).symm
  have hv4:∀j (hj:j<us.length),some us[j].bt≠v4.ownBlock:=fun j hj e=>by
   rcases x4 with h|⟨g,h,hg⟩
   ·exact (K2.O5 j hj).2.2 (by rw [<-h];exact e)
   ·rw [h] at e;injection e with e;have:=(Hm.out j hj).2;omega
  have K4:LL C N0 us L v4 W0 w4:=⟨K2.live,K2.Ip,K2.ap,K2.fo,fun j hj=>⟨by rw [f4 _ (by have:=(Hm.out j hj).1;omega) (YG.out j hj) (WK _ _ (K2.kM j hj).1 (by intro cs f h;cases h))];exact (K2.kM j hj).1,(K2.kM j hj).2⟩,fun j hj=>by
   obtain ⟨⟨f,h1⟩,h2,h3⟩:=K2.O5 j hj
   exact ⟨⟨f,by rw [f4 _ (by have:=(Hm.out j hj).2;omega) h3 (WK _ _ h1 (by intro cs f' h;injection h with _ h;cases h))];exact h1⟩,h2,hv4 j hj⟩,K2.kz⟩
  have n5:w4.heap[xx]?=some (.chan 0 #[] false 0 0 false):=by rw [f4 xx (by omega) (fun e=>by have:=YM.out _ e.symm;omega) (WK _ _ n1 (by intro cs f h;cases h))];exact n1
  have OC:some (xx+1)≠v4.ownBlock:=fun e=>by
   rcases x4 with h|⟨g,h,hg⟩
   ·have:=YM.out (xx+1) (by rw [<-h];exact e.symm);omega
   ·rw [h] at e;injection e with e;omega
  clear K2 b2 n1 n2 f4 x4 du yF WK
  refine hS.steady.s qv ?_
  refine Can.ctl hS.steady qv rfl (fun _=>zb) ?_
  refine Can.ctl hS.steady qv rfl (fun _=>I2 (p:=.pointer (some ⟨bw,0,none⟩)) (q:=.int .i64 1) Tryz.oN rfl rfl (by k_ne) rfl (by kernel_rfl)) ?_
  refine Can.VU Tryz.oN hS qv K4.fo.on (fun rel ρ n hR=>by have:=hR.1;omega) ?_
  walk_nrm
  refine Can.ctl hS.steady qv rfl (fun _=>stepG_region_end) ?_
  refine Can.ctl hS.steady qv rfl (fun _=>zb) ?_
  refine Can.op (ok:=il) hS.steady qv rfl rfl (by k_ne) (by kernel_rfl) (fun T d=>⟨.func (.func 68) #[] #[.pointer (some ⟨bw,0,none⟩),.pointer (some ⟨xx+1,0,none⟩)],w4.re T d, ?_,fun _=>Can.re ?_ T d⟩)
  ·go_simp
  walk_nrm
  have ht:w4.cell? ⟨xx+1,0,none⟩=some (.chan (some xx)):=by rw [cV n4];rfl
  apply QX (bt:=xx+1) (x:=xx) (kk:=0) (by omega) qv K4.fo K4.ap ht n5
  ·intro j u hj hu
   obtain ⟨i',lE,rfl⟩:=K4.Ip j u hj hu
   rw [K4.live i' lE] at hu
   cases hu
   have:=(Hm.out i' lE).1
   omega
  ·rfl
  ·intro w
   rw [stepG_spawn (d:=call68 bw (xx+1)) rfl rfl (by k_ne) (w':=w) (by go_simp;rfl) rfl,listed_nil (by simp [go_sem])]
  ·intro qu hP5 hD5
   have b5:jz W0 X ls (us.map (·.x)++[xx]) vl v4 (w4.freeze ⟨xx+1,0,none⟩ 1):=b4.turn (p9 w4 (xx+1)) (eX _ _ _) (xL w4 (xx+1)).1 (xL w4 (xx+1)).2 (by omega) n4 (by decide) (by decide) (by decide) OC
   obtain ⟨ob5,q5,f5,rfl,_⟩:=gK w4 ⟨xx+1,0,none⟩ 1 (xx+1) _ n4
   have K5:LL (C.hire (N0+i) (oO (xx+1)) (fun _=>False)) N0 (us++[⟨xx+1,xx,0⟩]) (upd L (N0+i) (.live ⟨xx+1,xx,0⟩)) v4 W0 (w4.freeze ⟨xx+1,0,none⟩ 1):=by
    have Nj:∀{j:Nat},j<(us++[(⟨xx+1,xx,0⟩:Od)]).length->j<us.length\/j=us.length:=fun {j} hj=>by rw [K_] at hj;simp at hj;omega
    have vI:∀{j:Nat} (hj:j<(us++[(⟨xx+1,xx,0⟩:Od)]).length) (h:j<us.length),(us++[(⟨xx+1,xx,0⟩:Od)])[j]=us[j]:=fun {j} hj h=>List.getElem_append_left h
    have Wy:∀(hj:us.length<(us++[(⟨xx+1,xx,0⟩:Od)]).length),(us++[(⟨xx+1,xx,0⟩:Od)])[us.length]=⟨xx+1,xx,0⟩:=fun hj=>by simp
    refine ⟨fun j hj=> ?_,fun j v hj hv=> ?_,hD5,hP5,fun j hj=> ?_,fun j hj=> ?_,fun j hj=> ?_⟩
    ·rcases Nj hj with h|h
     ·rw [vI hj h,P_ _ _ (by omega)];exact K4.live j h
     ·subst h;rw [Wy hj,<-hlen,O_]
    ·by_cases e:j=N0+i
     ·exact ⟨i,by rw [K_];simp;omega,e⟩
     ·rw [P_ _ _ e] at hv
      obtain ⟨i',h1,h2⟩:=K4.Ip j v hj hv
      exact ⟨i',by rw [K_];omega,h2⟩
    ·rcases Nj hj with h|h
     ·rw [vI hj h,p9 w4 (xx+1) _ (by have:=(Hm.out j h).1;omega)];exact K4.kM j h
     ·subst h;rw [Wy hj,p9 w4 (xx+1) _ (by simp)];exact ⟨n5,tX⟩
    ·rcases Nj hj with h|h
     ·obtain ⟨⟨f,h1⟩,h2,h3⟩:=K4.O5 j h
      rw [vI hj h,p9 w4 (xx+1) _ (by have:=(Hm.out j h).2;omega)]
      exact ⟨⟨f,h1⟩,h2,h3⟩
     ·subst h;rw [Wy hj];exact ⟨⟨f5,q5⟩,by show _<=xx+1;omega,OC⟩
    ·rcases Nj hj with h|h
     ·rw [vI hj h];exact K4.kz j h
     ·subst h;rw [Wy hj]
   have Rp:=iS bw (N0+i+1) (upd L (N0+i) (.live ⟨xx+1,xx,0⟩))
   generalize w4.freeze ⟨xx+1,0,none⟩ 1=w5 at *
   walk_nrm
   refine Can.ctl Rp.steady qu rfl (fun _=>stepG_region_end) ?_
   refine Can.ctl Rp.steady qu rfl (fun _=>stepG_inBlock) ?_
   refine Can.ctl Rp.steady qu rfl (fun _=>zb) ?_
   refine Can.op (ok:=il) Rp.steady qu rfl rfl (by k_ne) (by kernel_rfl) (fun T d=>⟨.int .i64 ((i+1:Nat):Int),w5.re T d, ?_,fun _=>Can.re ?_ T d⟩)
   ·go_simp
   walk_nrm
   refine Can.op (ok:=il) Rp.steady qu rfl rfl (by k_ne) (by kernel_rfl) (fun T d=>⟨.int .i64 ((i+1:Nat):Int),w5.re T d, ?_,fun _=>Can.re ?_ T d⟩)
   ·go_simp
   walk_nrm
   refine Can.ctl Rp.steady qu rfl (fun _=>stepG_region_end) ?_
   subst hK
   refine Can.ctl Rp.steady qu rfl (fun _=>stepG_inLoop) ?_
   refine TQ.out (i+1) (by omega) (by omega) _ (us++[⟨xx+1,xx,0⟩]) _ w5 _ _ _ _ _ _ _ _ _ _ _ _ _ _ _ _ _ _ _ _ _ _ _ _ _ _ _ _ _ _ _ _ _ _ _ _ _ _ _ _ _ _ _ _ _ _ _ _ _ _ _ _ _ _ _ _ _ _ _ _ _ _ _ _ _ _ _ v4 (by rw [K_,hlen];rfl) qu (by rw [List.map_append];exact b5) K5
def LK (ls:List Nat):Hs:=⟨ls,fun _=>none,fun _=>none,fun _=>none,[],[],[],0,[],[]⟩
def qO (w:J'):Prop:=∃g cs e f,Tryz.prog.globalNamed "internal/strconv.uint64pow10" =some g/\w.heap[g]?=some (Obj.cells cs e f)/\cs=(Lib.pow10Tab.map fun z=>ah .u64 z).toArray
theorem ra {m:Nat} (h:w.heap[m]?=some (.map #[] 0)) {K:Type} (enc:K->M'):ed w m enc (fun _=>none):=
 ⟨#[],0,h,by simp,fun _ _ h=>(by cases h),by simp⟩
variable {j:Nat}
theorem uR {xs:List Nat} (hj:j<xs.length):(gB xs)[j]?=some (.chan (some xs[j])):=by simp [gB,hj]
theorem LB (h:jz W0 X ls (us.map (·.x)) vl vo w) (K:LL C N0 us L vo W0 w) (h1:0<ls.length) (h2:0<us.length) (hm:us.length<=999) (hN0:0<N0) (hT:qO W0):
 ∃A:Ha,A.hb=X.hb/\A.L=X.L/\A.O=X.O/\A.P=X.P/\A.n0=w.heap.size/\A.h0=w.heap/\A.B=w.heap.size/\A.m=us.length/\cQ A (.slice none 0 0) (.slice none 0 0) (LK ls) w/\bN C A N0 (N0+us.length) us L w/\aU A w:=by
 obtain ⟨lb,cl,aDr,WV,hlb,Ku,hlc,HD,QU,hlt⟩:=cz h.lines h1
 obtain ⟨ob,co,aDq,WU,hob,Kq,hoc,hom,hos,hot⟩:=cz h.ops (by rw [List.length_map];exact h2)
 obtain ⟨q1,q2,q3⟩:=h.mp
 obtain ⟨l1,l2,l3,l4,l5⟩:=h.low
 have lt:∀(r:Nat) (ob:Obj),w.heap[r]?=some ob->r<w.heap.size:=fun r ob hr=>(cI hr)
 have cm:∀(a b:Nat) (cs:Array M') (t:Q') (f:Nat × Nat),w.heap[a]?=some (.cells cs t f)->w.heap[b]?=some (.map #[] 0)->a≠b:=fun a b cs t f ha hb e=>by rw [e,hb] at ha;cases ha
 have cc:∀(a b:Nat) (cs cs':Array M') (t t':Q') (f f':Nat × Nat),w.heap[a]?=some (.cells cs t f)->w.heap[b]?=some (.cells cs' t' f')->t≠t'->a≠b:=fun a b cs cs' t t' f f' ha hb ht e=>by
  rw [e,hb] at ha;simp at ha;exact ht ha.2.1.symm
 obtain ⟨d1,d2,d3⟩:=h.LV
 refine ⟨⟨w.heap.size,X.hb,lb,cl,ob,co,us.length,X.m1,X.m2,X.m3,X.L,X.O,X.P,w.heap.size,w.heap⟩,rfl,rfl,rfl,rfl,rfl,rfl,rfl,rfl,⟨.slice none 0 0,.slice none 0 0,.slice none 0 0, ?_⟩, ?_, ?_⟩
 ·refine ⟨⟨lt _ _ h.box,lt _ _ Ku,lt _ _ Kq,lt _ _ q1,lt _ _ q2,lt _ _ q3,⟨cm _ _ _ _ _ h.box q1,cm _ _ _ _ _ h.box q2,cm _ _ _ _ _ h.box q3,d1,d2,d3⟩,⟨cc _ _ _ _ _ _ _ _ Ku h.box (by decide),cm _ _ _ _ _ Ku q1,cm _ _ _ _ _ Ku q2,cm _ _ _ _ _ Ku q3⟩,⟨cc _ _ _ _ _ _ _ _ Kq h.box (by decide),cm _ _ _ _ _ Kq q1,cm _ _ _ _ _ Kq q2,cm _ _ _ _ _ Kq q3⟩⟩,C_ _, ?_,fun i hi=> ?_,ra q1 Bl,ra q2 _,ra q3 _,World.ownsRow_nil _ _ _ _,World.ownsRow_nil _ _ _ _,World.ownsRow_nil _ _ _ _,World.ownsRow_nil _ _ _ _,World.ownsRow_nil _ _ _ _,.inl rfl⟩
  ·rw [show w.heap[X.hb]?=_ from h.box,WV,WU,List.length_map];rfl
  ·have:=h.lines
   rw [WV] at this
   exact (this.cellAt i (by rw [Nat.mul_one];exact hi)).trans (uR hi)
 ·refine ⟨rfl,⟨hm,K.Ip⟩,K.live,fun i hi=>⟨by omega,by omega⟩,K.ap,K.fo,fun j v hj hv=> ?_,fun i hi=> ?_⟩
  ·obtain ⟨i,hi,rfl⟩:=K.Ip j v hj hv
   rw [K.live i hi] at hv
   cases hv
   exact ⟨⟨0,(K.kM i hi).1⟩,lt _ _ (K.kM i hi).1⟩
  ·obtain ⟨⟨f,hb⟩,_⟩:=K.O5 i hi
   have:=h.ops
   rw [WU] at this
   refine ⟨(this.cellAt i (by rw [List.length_map,Nat.mul_one];exact hi)).trans ((uR (by rw [List.length_map];exact hi)).trans (by rw [List.getElem_map])),by rw [cV hb];rfl,lt _ _ hb,cc _ _ _ _ _ _ _ _ hb h.box (by decide)⟩
 ·obtain ⟨g,cs,e,f,t1,t2,t3⟩:=hT
  have hg:=(cI t2)
  have old:∀(r:Nat) (ob:Obj),W0.heap[r]?=some ob->w.heap[r]?=some ob:=fun r ob hr=>by
   rw [h.old.block r (cI hr) (by simp)];exact hr
  exact ⟨⟨g,cs,e,f,t1,lt _ _ (old _ _ t2),fun e=>by rw [e] at hg;exact Nat.lt_irrefl _ (E_ hg l1),old _ _ t2,t3⟩,C_ _,fun g cs e f _ _ hh=>hh⟩
def Ev.raw (e:Ev):Raw:=⟨e.kind,e.who,e.word⟩
variable {A:Ha} {evs:List Ev}
theorem La (hn:A.n0=w.heap.size) (hh:A.h0=w.heap) (hb:W0.heap.size<=A.hb) (ho:∀(r:Nat) (ob:Obj),W0.heap[r]?=some ob->w.heap[r]?=some ob) (h:fF W0 ea (evs.map Ev.raw)):Dt A ea evs:=by
 rcases h with h|⟨eb,cs,t,f,h1,h2,h3⟩
 ·exact .inl (List.map_eq_nil_iff.1 h)
 ·refine .inr ⟨eb,cs,t,f,h1,by rw [hn];exact (Array.getElem?_eq_some_iff.1 (ho _ _ h2)).1,by have:=(cI h2);omega,by rw [hh];exact ho _ _ h2,fun k hk=> ?_⟩
  have:=h3 k (by rw [List.length_map];exact hk)
  simp only [List.getElem_map] at this
  exact this
noncomputable def JA:Array y_:=match ai 8 bz with| .region _ ops _=>ops|_=>#[]
noncomputable def j9:Array y_:=match ai 9 bz with| .region _ ops _=>ops|_=>#[]
variable {S:Hs} {va vt:M'} {hv:Nat}
theorem MA (hL:Lay C wl) (H:cQ A va vt S wl) (K:bN C A N0 (N0+us.length) us L wl) (hT:aU A wl) (hN0:0<N0) (Z7:N0+us.length+1<=Bd) (SI:Bd<2000000000)
 (BG:A.h0[hv]?=some (.cells #[.pointer (some ⟨A.hb,0,none⟩)] 68 (0,0))) (mP:hv<A.n0) (hvn:hv≠A.hb) (ev0:A.h0[g2]?=some (.cells #[.slice ea evs.length ec] 30 (0,0))) (WV:g2<A.n0) (evn:g2≠A.hb) (uO:Dt A ea evs) (hn:evs.length<=1000) (cK:Dr A.P (S,us) evs) (hm:(eC A.P (S,us) evs).2.length<=999) (J7:(eC A.P (S,us) evs).1.cg=[]) {z12 z20 z21 z22 z23 z24 z25 z26 z28 z31 z37 z40 z46 z49 z51 z53 z59 z70 z72:M'}
 (hc:∀aK IX Io,Lay C aK->cQ A IX Io {(eC A.P (S,us) evs).1 with cg:=(eC A.P (S,us) evs).2.map (·.k)} aK->aU A aK->Can p_ C bw 0 Post 0 (db Bd) aK (G (aI.at (aS.put ((av[aN]?).bind (·.dst)) (.pointer (some ⟨A.hb,0,none⟩))) (.inRegion av sg::aV)) cs)):
 Can p_ C bw 0 Post 0 (pI bw (N0+us.length) L) wl (G ((base 45).at ⟨#[z0,z1,.pointer (some ⟨g1,0,none⟩),.pointer (some ⟨g2,0,none⟩),z4,z5,z6,.pointer (some ⟨hv,0,none⟩),.pointer (some ⟨bw,0,none⟩),z9,dB,cZ,z12,de,dn,dm,dk,dj,dA,dz,z20,z21,z22,z23,z24,z25,z26,dD,z28,dC,dM,z31,dQ,dK,dP,dO,dV,z37,ey,ew,z40,eu,eK,eJ,eI,eH,z46,eQ,eN,z49,en,z51,iu,z53,iF,iE,iD,iC,iB,z59,nv,nu,np,nk,sW,sV,rH,rG,rF,uu,z70,yb,z72],[]⟩ [.code (az 7 bz)]) (aI.at aS (.inRegion av (aN::sg)::aV)::cs)):=by
 have hS:=iS bw (N0+us.length) L
 have b9:=K.fo.on
 have e1:az 7 bz=.seq (ai 7 bz) (.seq (ai 8 bz) (.seq (.region 24 j9 false) (az 10 bz))):=by kernel_rfl
 rw [e1]
 refine hS.steady.s hL ?_
 generalize hX:[lN (Code.seq (ai 8 bz) (.seq (.region 24 j9 false) (az 10 bz)))]=X0
 simp only [ai,bz,f45,A_]
 refine Can.ctl hS.steady hL rfl (fun _=>zb) ?_
 refine Can.ctl hS.steady hL rfl (fun _=>I2 (p:=.pointer (some ⟨bw,0,none⟩)) (q:=.int .i64 1) Tryz.oN rfl rfl (by k_ne) rfl (by kernel_rfl)) ?_
 refine Can.VU Tryz.oN hS hL b9 (fun rel ρ n hR=>by have:=hR.1;omega) ?_
 walk_nrm
 refine Can.ctl hS.steady hL rfl (fun _=>stepG_region_end) ?_
 subst hX
 refine hS.steady.s hL ?_
 generalize hX:[lN (Code.seq (.region 24 j9 false) (az 10 bz))]=X0
 simp only [ai,bz,f45,A_]
 refine Can.ctl hS.steady hL rfl (fun _=>zb) ?_
 refine Can.op (ok:=il) hS.steady hL rfl rfl (by k_ne) (by kernel_rfl) (fun T d=>⟨.func (.func 71) #[] #[.pointer (some ⟨bw,0,none⟩),.pointer (some ⟨hv,0,none⟩),.pointer (some ⟨g2,0,none⟩)],wl.re T d, ?_,fun _=>Can.re ?_ T d⟩)
 ·go_simp
 walk_nrm
 obtain ⟨NG,U1⟩:∃NG,NG=aI.at aS (.inRegion av (aN::sg)::aV):=⟨_,rfl⟩
 rw [<-U1]
 obtain ⟨aW,ZU⟩:∃aW:Act,aW=⟨#[z0,z1,.pointer (some ⟨g1,0,none⟩),.pointer (some ⟨g2,0,none⟩),z4,z5,z6,.pointer (some ⟨hv,0,none⟩),.pointer (some ⟨bw,0,none⟩),z9,dB,cZ,z12,de,dn,dm,dk,dj,dA,dz,z20,z21,z22,z23,z24,z25,z26,dD,z28,dC,dM,z31,dQ,dK,dP,dO,dV,z37,ey,ew,z40,eu,eK,eJ,eI,eH,z46,eQ,eN,z49,en,z51,iu,z53,iF,iE,iD,iC,iB,z59,nv,nu,np,nk,sW,sV,rH,rG,rF,.tuple #[],.func (.func 71) #[] #[.pointer (some ⟨bw,0,none⟩),.pointer (some ⟨hv,0,none⟩),.pointer (some ⟨g2,0,none⟩)],yb,z72],[]⟩:=⟨_,rfl⟩
 have B:eh p_ C bw 0 (ya Tryz.link bw 0 ((base 45).at aW (.inRegion j9 [0]::[.code (az 10 bz)])) (NG::cs)) (Fs p_ C (G ((base 45).at (aW.put ((j9[0]?).bind (·.dst)) (.tuple #[])) (.inRegion j9 []::[.code (az 10 bz)])) (NG::cs))) (N0+us.length):=
  ⟨by omega,fun g w h=>yT g w h,fun g w h=>waitRound Tryz.oN b9 bw 0 g w h⟩
 refine Can.leads (zM:=aY bw (N0+us.length+1) (N0+us.length) L) (ae:=ya Tryz.link bw 0 ((base 45).at aW (.inRegion j9 [0]::[.code (az 10 bz)])) (NG::cs)) (Fin:=Fs p_ C (G ((base 45).at (aW.put ((j9[0]?).bind (·.dst)) (.tuple #[])) (.inRegion j9 []::[.code (az 10 bz)])) (NG::cs))) (N:=N0+us.length) (child:=born p_ (call71 bw hv g2)) (g':=G ((base 45).at aW (.inRegion JA []::X0)) (NG::cs)) hS hL (fun rel ρ n hR=>hR.1) rfl (fun w=> ?_) b9 (fun w Ni=> ?_) (fun rel ρ n hR=> ?_) ?_
 ·rw [stepG_spawn (d:=call71 bw hv g2) rfl rfl (by k_ne) (w':=w) (by go_simp;rfl) rfl,listed_nil (by simp [go_sem]),ZU]
  rfl
 ·have W:=XI b9 bw 0
  have key:∃n,∀w,Live bw 0 w->Goes p_ true (RB C bw 0 0) (DW bw 0) (AtKd p_ C bw 0 (ya Tryz.link bw 0 ((base 45).at aW (.inRegion j9 [0]::[.code (az 10 bz)])) (NG::cs))) n (G ((base 45).at aW (.inRegion JA []::X0)) (NG::cs)) w:=by
   rw [<-hX]
   refine W.ctl rfl (fun _=>stepG_region_end) ?_
   refine W.ctl rfl (fun _=>stepG_seq) ?_
   refine W.ctl rfl (fun _=>stepG_region) ?_
   have er:List.range j9.size=[0]:=by kernel_rfl
   rw [er]
   refine W.ctl rfl (fun _=>Mx (p:=.pointer (some ⟨bw,0,none⟩)) Tryz.oN rfl rfl (by k_ne) rfl (by rw [ZU];kernel_rfl)) ?_
   exact waitStart Tryz.oN b9 bw 0
  obtain ⟨n,hn⟩:=key
  exact ⟨n,hn w Ni⟩
 ·obtain ⟨rfl,h0,h1⟩:=hR
  refine ⟨rfl,fun j hj KI=> ?_⟩
  rw [P_ _ _ KI,P_ _ _ hj];exact h1 j hj
 ·have wv:wl.cell? ⟨hv,0,none⟩=some (.pointer (some ⟨A.hb,0,none⟩)):=by rw [cV (hT.2.2 hv _ _ _ mP hvn BG)];rfl
  have we:wl.cell? ⟨g2,0,none⟩=some (.slice ea evs.length ec):=by rw [cV (hT.2.2 g2 _ _ _ WV evn ev0)];rfl
  refine Fc B hL H K hT wv we uO hn cK hm J7 (B₁:=Bd) Z7 fun w2 Sl SY du H2 T2=> ?_
  have KP:=cT Bd
  rw [ZU]
  have ep:(⟨#[z0,z1,.pointer (some ⟨g1,0,none⟩),.pointer (some ⟨g2,0,none⟩),z4,z5,z6,.pointer (some ⟨hv,0,none⟩),.pointer (some ⟨bw,0,none⟩),z9,dB,cZ,z12,de,dn,dm,dk,dj,dA,dz,z20,z21,z22,z23,z24,z25,z26,dD,z28,dC,dM,z31,dQ,dK,dP,dO,dV,z37,ey,ew,z40,eu,eK,eJ,eI,eH,z46,eQ,eN,z49,en,z51,iu,z53,iF,iE,iD,iC,iB,z59,nv,nu,np,nk,sW,sV,rH,rG,rF,.tuple #[],.func (.func 71) #[] #[.pointer (some ⟨bw,0,none⟩),.pointer (some ⟨hv,0,none⟩),.pointer (some ⟨g2,0,none⟩)],yb,z72],[]⟩:Act).put ((j9[0]?).bind (·.dst)) (.tuple #[])=⟨#[z0,z1,.pointer (some ⟨g1,0,none⟩),.pointer (some ⟨g2,0,none⟩),z4,z5,z6,.pointer (some ⟨hv,0,none⟩),.pointer (some ⟨bw,0,none⟩),z9,dB,cZ,z12,de,dn,dm,dk,dj,dA,dz,z20,z21,z22,z23,z24,z25,z26,dD,z28,dC,dM,z31,dQ,dK,dP,dO,dV,z37,ey,ew,z40,eu,eK,eJ,eI,eH,z46,eQ,eN,z49,en,z51,iu,z53,iF,iE,iD,iC,iB,z59,nv,nu,np,nk,sW,sV,rH,rG,rF,.tuple #[],.func (.func 71) #[] #[.pointer (some ⟨bw,0,none⟩),.pointer (some ⟨hv,0,none⟩),.pointer (some ⟨g2,0,none⟩)],.tuple #[],z72],[]⟩:=by kernel_rfl
  rw [ep]
  refine Can.ctl KP du rfl (fun _=>stepG_region_end) ?_
  refine Can.cY pA KP du (AB (by kernel_rfl) rfl rfl ⟨_,func45⟩) ?_
  intro T d W hW Bh hB
  have q1:W.cell? ⟨hv,0,none⟩=some (.pointer (some ⟨A.hb,0,none⟩)):=by
   rw [hW.out,show (w2.re T d).cell? _=w2.cell? ⟨hv,0,none⟩ from rfl,cV (T2.2.2 hv _ _ _ mP hvn BG)];rfl
  have ir:=aa hc
  have H2H:=aa H2
  have T2H:=aa T2
  clear hc H2 T2 H K hT
  simp only [az,bz,f45,A_]
  go_wp2_with fail
  have hB:=hB.out
  subst hB
  intro hcut todo
  have gA:Lay C W:=⟨hcut,du.no⟩
  rw [U1]
  refine Can.ctl KP gA rfl (fun _=>aZ rfl rfl func45 rfl) ?_
  obtain ⟨x1,x2,x3,x4⟩:=H2H.out
  exact ir.out W Sl SY gA (by rw [hW.out];exact ⟨x1,x2,x3,x4.heap rfl⟩) (by rw [hW.out];exact T2H.out)
end
end Go.aC.Of
