/-
  The reference's drawn records.
-/
import Derived.Conc.LeavingOf
import Derived.ChangeShapes
import Derived.ChangeSlices
import Derived.WideShapes
import Derived.ChangeArms
import Derived.Deep.Slices
import Derived.Deep.Fields
import Derived.Deep.DeepHandedRow
import Derived.LaidLaws
import Derived.Lib.LaidTab
import Derived.ChangeOld
import Derived.SevenTiedAt
import Derived.Test.YtnjkbffmmgckeaaGreatDoorPaa
import Derived.Test.YtnjkbffmmgckeaaGreatDoorPad
import Derived.Test.YtnjkbffmmgckeaaGreatDoorPam
set_option linter.all false
set_option maxRecDepth 100000
set_option maxHeartbeats 32000000
open Go renaming undef->I',World->J',Value->M',heap_alloc_new->Z',Calls->d_,Addr->z_
open Go.RowKit renaming Hid->f_,Below->g_
open Go.RowKit.Below renaming refl->h_
open Option renaming getD_some->A_
open Go.World renaming size_alloc->B_,grownBy_alloc->N_
open Nat renaming le_refl->C_,zero_le->nz
open Option.some renaming inj->M_
open Go.Proofs.Tryz renaming prog->p_
open Go.Frame renaming enter->fZ
open Go.Proofs.Tryz
namespace Go.aC.Of
section
open Go Go.Conc Go.Conc.Lib Go.ConcR.Gen Go.aC Go.Proofs
open Go.RowKit hiding Hid Below
variable {w:J'} {B:Nat} {ta:Option z_}
theorem aAp {tc:Nat} {ds:List Dd} (h:w.ownsRow B 55 3 (.slice ta ds.length tc) ds.length (cellsOf ds)):fF w ta (ds.map Dd.raw):=by
 cases ds with
 |nil=>exact .inl rfl
 |cons d0 dr=>
  obtain ⟨g,cap,cur,hv,_,hg,hc,_,hcs,aCg⟩:=h.2.resolve_left (fun e=>by simp at e)
  injection hv with h1 _ _
  subst h1
  refine .inr ⟨g,cur,_,_,rfl,hg,fun k hk=> ?_⟩
  rw [List.length_map] at hk
  have key:∀j,j<3->cur[k * 3+j]?=(((d0::dr)[k]).cells)[j]?:=fun j hj=>by
   have h3:=jr Dd.cells 3 (fun _=>rfl) (d0::dr) k j hk hj
   rw [<-h3,List.flatMap_def,show ((d0::dr).map Dd.cells).flatten=cellsOf (d0::dr) from rfl,<-aCg,List.getElem?_take_of_lt (by omega),Array.getElem?_toList]
  have e0:=key 0 (by omega)
  have e1:=key 1 (by omega)
  have e2:=key 2 (by omega)
  simp only [List.getElem_map]
  exact ⟨e0,e1,e2⟩
variable {g i:Nat} {R:List Rec}
theorem Gy {cap:Nat} (ho:w.ownsRow B 44 7 (.slice (some ⟨g,0,none⟩) R.length cap) R.length (cj R)) {k:Nat} (hi:i<R.length) (hk:k<7) {v:M'} {r:Rec} (hr:r.cells=(R[i]).cells.set k v):(w.setCell ⟨g,i * 7+k,none⟩ v).ownsRow B 44 7 (.slice (some ⟨g,0,none⟩) R.length cap) R.length (cj (R.set i r)):=by
 have:=(ho.stored (i * 7+k) v).1
 simpa [cj,sK Rec.cells 7 (fun _=>rfl) _ _ _ hi hk v r hr] using this
theorem aAz {cap:Nat} (ho:w.ownsRow B 44 7 (.slice (some ⟨g,0,none⟩) R.length cap) R.length (cj R)) (hi:i<R.length) (c l o f h t:Int) (k:Bs):
 (((((((w.setCell ⟨g,i * 7,none⟩ (.int .i64 c)).setCell ⟨g,i * 7+1,none⟩ (.int .i64 l)).setCell ⟨g,i * 7+2,none⟩ (.int .i64 o)).setCell ⟨g,i * 7+3,none⟩ (.int .i64 f)).setCell ⟨g,i * 7+4,none⟩ (.int .i64 h)).setCell ⟨g,i * 7+5,none⟩ (.int .i64 t)).setCell ⟨g,i * 7+6,none⟩ (.string ⟨k.toArray⟩)).ownsRow B 44 7 (.slice (some ⟨g,0,none⟩) R.length cap) R.length (cj (R.set i ⟨c,l,o,f,h,t,k⟩)):=by
 obtain ⟨r,hr⟩:∃r,R[i]=r:=⟨_,rfl⟩
 have h0:=Gy ho hi (k:=0) (by omega) (v:=.int .i64 c) (r:=⟨c,r.line,r.op,r.jy,r.heard,r.wI,r.fin⟩) (by rw [hr];rfl)
 have h1:=Gy (R:=R.set i ⟨c,r.line,r.op,r.jy,r.heard,r.wI,r.fin⟩) (by simpa using h0) (i:=i) (by simpa using hi) (k:=1) (by omega) (v:=.int .i64 l) (r:=⟨c,l,r.op,r.jy,r.heard,r.wI,r.fin⟩) (by rw [List.getElem_set_self];rfl)
 rw [List.set_set,List.length_set] at h1
 have h2:=Gy (R:=R.set i ⟨c,l,r.op,r.jy,r.heard,r.wI,r.fin⟩) (by simpa using h1) (i:=i) (by simpa using hi) (k:=2) (by omega) (v:=.int .i64 o) (r:=⟨c,l,o,r.jy,r.heard,r.wI,r.fin⟩) (by rw [List.getElem_set_self];rfl)
 rw [List.set_set,List.length_set] at h2
 have h3:=Gy (R:=R.set i ⟨c,l,o,r.jy,r.heard,r.wI,r.fin⟩) (by simpa using h2) (i:=i) (by simpa using hi) (k:=3) (by omega) (v:=.int .i64 f) (r:=⟨c,l,o,f,r.heard,r.wI,r.fin⟩) (by rw [List.getElem_set_self];rfl)
 rw [List.set_set,List.length_set] at h3
 have h4:=Gy (R:=R.set i ⟨c,l,o,f,r.heard,r.wI,r.fin⟩) (by simpa using h3) (i:=i) (by simpa using hi) (k:=4) (by omega) (v:=.int .i64 h) (r:=⟨c,l,o,f,h,r.wI,r.fin⟩) (by rw [List.getElem_set_self];rfl)
 rw [List.set_set,List.length_set] at h4
 have h5:=Gy (R:=R.set i ⟨c,l,o,f,h,r.wI,r.fin⟩) (by simpa using h4) (i:=i) (by simpa using hi) (k:=5) (by omega) (v:=.int .i64 t) (r:=⟨c,l,o,f,h,t,r.fin⟩) (by rw [List.getElem_set_self];rfl)
 rw [List.set_set,List.length_set] at h5
 have h6:=Gy (R:=R.set i ⟨c,l,o,f,h,t,r.fin⟩) (by simpa using h5) (i:=i) (by simpa using hi) (k:=6) (by omega) (v:=.string ⟨k.toArray⟩) (r:=⟨c,l,o,f,h,t,k⟩) (by rw [List.getElem_set_self];rfl)
 rw [List.set_set,List.length_set] at h6
 exact h6
def JI (g0 g p:Nat) (w:J') (e:Ending) (w':J'):Prop:=
 ∃(a:Option z_) (n:Nat) (R:List Rec) (p':Nat),e=.returned (.slice a R.length n)/\R.length<=1000/\w'.ownsRow w.heap.size 44 7 (.slice a R.length n) R.length (cj R)/\p'<=p/\Rd w' g0 g p'/\w.grownBy w' (some g)
variable {g0:Nat} {x1 x3 x4 x6 x7 x8 x9 x10 π ξ ν κ θ Z9 Z4 ZM ZJ ZI x21 Yf uP tt ti E' y' x28 x29 x30 x31 x32 x33 x34 x35 x36 x37 x38 x39 x40:M'} {a:Option z_} {w':J'}
theorem aAe {p:Nat} (hp:p<=500000) (hlt:g<w.heap.size) (χ:g0<=g) {n:Nat} (hn:R.length<=1000) (hR:∃q,q<=p+420/\Rd w' g0 g q) (lH:w.grownBy w' (some g)) (ho:w'.ownsRow w.heap.size 44 7 (.slice a R.length n) R.length (cj R)):(NA 4 (Pl f74)).wp p_ (bodyPost p_ f74 (JI g0 g (p+420) w)) ⟨#[.pointer (some ⟨g,0,none⟩),x1,.slice none 0 0,x3,x4,.slice a R.length n,x6,x7,x8,x9,x10,π,ξ,ν,κ,θ,Z9,Z4,ZM,ZJ,ZI,x21,Yf,uP,tt,ti,E',y',x28,x29,x30,x31,x32,x33,x34,x35,x36,x37,x38,x39,x40],[]⟩ w':=by
 have hoh:=aa ho
 clear ho
 generalize hQ:bodyPost p_ f74 (JI g0 g (p+420) w)=Q
 simp only [NA,Pl,f74]
 subst hQ
 obtain ⟨q,hq,hr⟩:=hR
 go_wp2_with fail
 go_ret
 exact ⟨_,_,R,q,rfl,hn,hoh.out,hq,hr,lH⟩
theorem aBv {p:Nat} (hp:p<=500000) (hlt:g<w.heap.size) (χ:g0<=g) {n:Nat} (hn:R.length<=1000) (hR:∃q,q<=p+400/\Rd w' g0 g q) (lH:w.grownBy w' (some g)) (ho:w'.ownsRow w.heap.size 44 7 (.slice a R.length n) R.length (cj R)):(NA 3 (Pl f74)).wp p_ (bodyPost p_ f74 (JI g0 g (p+420) w)) ⟨#[.pointer (some ⟨g,0,none⟩),x1,.slice none 0 0,x3,x4,.slice a R.length n,x6,x7,x8,x9,x10,π,ξ,ν,κ,θ,Z9,Z4,ZM,ZJ,ZI,x21,Yf,uP,tt,ti,E',y',x28,x29,x30,x31,x32,x33,x34,x35,x36,x37,x38,x39,x40],[]⟩ w':=by
 have hoh:=aa ho
 clear ho
 generalize hQ:bodyPost p_ f74 (JI g0 g (p+420) w)=Q
 simp only [NA,Pl,f74]
 subst hQ
 refine wp_seq_k fun K hK=> ?_
 have kk:=aa hK
 clear hK
 by_cases hz:R.length=0
 ·have hz':((R.length:Nat):Int)=0:=by omega
  have hzz:¬(0:Int)<(R.length:Int):=by omega
  clear hz hz'
  go_wp2_with fail
  refine kk.out _ _ ?_
  exact aAe hp hlt χ hn ⟨hR.choose,by have:=hR.choose_spec.1;omega,hR.choose_spec.2⟩ lH hoh.out
 have iq:(0:Int)<(R.length:Int):=by omega
 have hzh:=aa hz
 clear hz
 obtain ⟨b,hb⟩:∃b,a=some ⟨b,0,none⟩:=by
  obtain ⟨g1,cap,cur,hv,_⟩:=hoh.out.2.resolve_left (fun e=>hzh.out e.2)
  injection hv with h1 _ _
  exact ⟨g1,h1⟩
 subst hb
 go_wp2_with fail
 obtain ⟨q,hq,hr⟩:=hR
 refine (BX hr (by omega) (by omega)).mono ?_
 rintro e w3 ⟨y,rfl,hy,h3⟩
 have CV:w.heap.size<=b:=(hoh.out.lt b rfl).1
 have QK:=aa (hoh.out.kept h3.out.2 (.inr fun e=>by have e:some b=some g:=e;injection e with e;omega))
 have mS:=aa (lH.trans h3.out.2)
 clear hoh hr lH
 by_cases Wi:(y:Int)=0
 ·go_wp2_with fail
  refine (BX h3.out.1 (by omega) (by omega)).mono ?_
  rintro e w5 ⟨i,rfl,hi,h5⟩
  have ml:i<R.length:=by have:=hzh.out;omega
  have hic:(i:Int)<(R.length:Int):=by omega
  have Nd:=aa (QK.out.kept h5.out.2 (.inr fun e=>by have e:some b=some g:=e;injection e with e;omega))
  have τ:=aa (mS.out.trans h5.out.2)
  have lJ:R.length<=n:=by
   obtain ⟨g1,cap,cur,hv,_,_,hc,_⟩:=Nd.out.2.resolve_left (fun e=>hzh.out e.2)
   injection hv with _ _ h3
   omega
  obtain ⟨r,pk⟩:∃r,R[i]=r:=⟨_,rfl⟩
  have k5:∀j,j<7->w5.cell? ⟨b,i * 7+j,none⟩=r.cells[j]?:=fun j hj=>by rw [<-pk];exact (Nd.out.cellAt _ (by omega)).trans (jr Rec.cells 7 (fun _=>rfl) _ _ _ ml hj)
  have f5:∀j,w5.frozen? ⟨b,i * 7+j,none⟩=false:=fun j=>Nd.out.frozenAt _
  obtain ⟨e0,v0⟩:w5.cell? ⟨b,i * 7,none⟩=some (.int .i64 r.call)/\w5.frozen? ⟨b,i * 7,none⟩=false:=⟨k5 0 (by omega),f5 0⟩
  obtain ⟨e1,v1⟩:w5.cell? ⟨b,i * 7+1,none⟩=some (.int .i64 r.line)/\w5.frozen? ⟨b,i * 7+1,none⟩=false:=⟨k5 1 (by omega),f5 1⟩
  obtain ⟨e2,v2⟩:w5.cell? ⟨b,i * 7+2,none⟩=some (.int .i64 r.op)/\w5.frozen? ⟨b,i * 7+2,none⟩=false:=⟨k5 2 (by omega),f5 2⟩
  obtain ⟨e3,v3⟩:w5.cell? ⟨b,i * 7+3,none⟩=some (.int .i64 r.jy)/\w5.frozen? ⟨b,i * 7+3,none⟩=false:=⟨k5 3 (by omega),f5 3⟩
  obtain ⟨e4,v4⟩:w5.cell? ⟨b,i * 7+4,none⟩=some (.int .i64 r.heard)/\w5.frozen? ⟨b,i * 7+4,none⟩=false:=⟨k5 4 (by omega),f5 4⟩
  obtain ⟨e5,v5⟩:w5.cell? ⟨b,i * 7+5,none⟩=some (.int .i64 r.wI)/\w5.frozen? ⟨b,i * 7+5,none⟩=false:=⟨k5 5 (by omega),f5 5⟩
  obtain ⟨e6,v6⟩:w5.cell? ⟨b,i * 7+6,none⟩=some (.string ⟨r.fin.toArray⟩)/\w5.frozen? ⟨b,i * 7+6,none⟩=false:=⟨k5 6 (by omega),f5 6⟩
  have c76:=aa (WH r h5.out.1 (by omega))
  simp only [ZV] at c76
  have hrh:=aa pk
  clear k5 f5 pk h5 h3 hi hy QK mS
  go_wp2_with fail
  refine c76.out.mono ?_
  rintro e w6 ⟨_,p6,rfl,⟨⟨c,l,o,f,h,t,k⟩,rfl⟩,hp6,hR6,pZ⟩
  simp only [ZV]
  have yI:=aa (Nd.out.kept pZ (.inr fun e=>by have e:some b=some g:=e;injection e with e;omega))
  have aCs:=aa (τ.out.trans pZ)
  have k6:∀j,j<7->∃v,w6.cell? ⟨b,i * 7+j,none⟩=some v:=fun j hj=>⟨_,(yI.out.cellAt _ (by omega)).trans (by rw [List.getElem?_eq_getElem (by rw [Ad];omega)])⟩
  have f6:∀j,w6.frozen? ⟨b,i * 7+j,none⟩=false:=fun j=>yI.out.frozenAt _
  obtain ⟨u0,s0⟩:=k6 0 (by omega)
  obtain ⟨u1,s1⟩:=k6 1 (by omega)
  obtain ⟨u2,s2⟩:=k6 2 (by omega)
  obtain ⟨u3,s3⟩:=k6 3 (by omega)
  obtain ⟨u4,s4⟩:=k6 4 (by omega)
  obtain ⟨u5,s5⟩:=k6 5 (by omega)
  obtain ⟨u6,s6⟩:=k6 6 (by omega)
  rw [Nat.add_zero] at s0
  have d0:=f6 0
  rw [Nat.add_zero] at d0
  have d1:=f6 1
  have d2:=f6 2
  have d3:=f6 3
  have d4:=f6 4
  have d5:=f6 5
  have d6:=f6 6
  have aCt:=aa hR6
  clear k6 f6 Nd τ pZ hR6
  go_wp2_with fail
  refine kk.out _ _ ?_
  have hs:=aAz yI.out ml c l o f h t k
  have st:∀(W:J') (j:Nat) (v:M'),Rd W g0 g p6->Rd (W.setCell ⟨b,j,none⟩ v) g0 g p6:=fun W j v h=>h.kept (xp W b j v) (fun r e=>by injection e with e;subst e;exact ⟨by omega,by omega⟩) h.lt
  have sg:∀(W:J') (j:Nat) (v:M'),w.grownBy W (some g)->w.grownBy (W.setCell ⟨b,j,none⟩ v) (some g):=fun W j v h=>CC h CV v
  have hl:(R.set i ⟨c,l,o,f,h,t,k⟩).length=R.length:=List.length_set
  have xv:(((((((w6.setCell ⟨b,i * 7,none⟩ (.int .i64 c)).setCell ⟨b,i * 7+1,none⟩ (.int .i64 l)).setCell ⟨b,i * 7+2,none⟩ (.int .i64 o)).setCell ⟨b,i * 7+3,none⟩ (.int .i64 f)).setCell ⟨b,i * 7+4,none⟩ (.int .i64 h)).setCell ⟨b,i * 7+5,none⟩ (.int .i64 t)).setCell ⟨b,i * 7+6,none⟩ (.string ⟨k.toArray⟩)).ownsRow w.heap.size 44 7 (.slice (some ⟨b,0,none⟩) (R.set i ⟨c,l,o,f,h,t,k⟩).length n) (R.set i ⟨c,l,o,f,h,t,k⟩).length (cj (R.set i ⟨c,l,o,f,h,t,k⟩)):=by rw [hl];exact hs
  rw [<-hl]
  exact aAe hp hlt χ (by rw [hl];exact hn) ⟨p6,by omega,st _ _ _ (st _ _ _ (st _ _ _ (st _ _ _ (st _ _ _ (st _ _ _ (st _ _ _ aCt.out))))))⟩ (sg _ _ _ (sg _ _ _ (sg _ _ _ (sg _ _ _ (sg _ _ _ (sg _ _ _ (sg _ _ _ aCs.out))))))) xv
 ·have aCq:((y:Int)==0)=false:=by simpa using Wi
  go_wp2_with fail
  refine kk.out _ _ ?_
  exact aAe hp hlt χ hn ⟨q+1,by omega,h3.out.1⟩ mS.out QK.out
variable {L O P:Int} {rs:List Raw}
theorem ψ (h:R9 L O P rs R):R.length<=1000:=by
 cases ha:da L O P rs with
 |false=>rw [h.1 ha];exact nz _
 |true=>
  obtain ⟨evs,he,_,_,_,_,_,hk⟩:=pF ha
  rw [h.2 ha evs he]
  have:=hk.n1
  omega
theorem O4 (hb:g_ w.heap.size w w') (r:Option Nat):w.grownBy w' r:=⟨hb.os,hb.tape,hb.output,hb.size,fun k hk _=>hb.block k hk⟩
theorem Vv {p:Nat} (hR:Rd w g0 g p) (hp:p<=80000):
 d_ p_ 74 #[.pointer (some ⟨g,0,none⟩)] w (JI g0 g (p+420) w):=by
 have hlt:=hR.lt
 have χ:=hR.le
 go_enter func74,ntmps74
 refine wp_seq_k fun K hK=> ?_
 have kk:=aa hK
 clear hK
 go_wp2_with fail
 refine kk.out _ _ ?_
 refine wp_seq_k fun K hK=> ?_
 have kk1:=aa hK
 clear hK
 go_wp2_with fail
 refine (T8 hR (by omega)).mono ?_
 rintro e w1 ⟨x,y,z,ta,tc,ds,p1,rfl,Gj,iw,Iu,EU,BI⟩
 go_wp2_with fail
 refine kk1.out _ _ ?_
 obtain ⟨W,hW⟩:∃W,w1.alloc (.cells #[.int .i64 x,.int .i64 y,.int .i64 z] 28)=W:=⟨_,rfl⟩
 have lF:W.heap[w1.heap.size]?=some (.cells #[.int .i64 x,.int .i64 y,.int .i64 z] 28 (0,0)):=by rw [<-hW];exact Z' w1 _
 have aCh:fF W ta (ds.map Dd.raw):=by rw [<-hW];exact aAp (iw.alloc _)
 have hRW:Rd W g0 g p1:=by rw [<-hW];exact EU.alloc _
 have hgW:w.grownBy W (some g):=by rw [<-hW];exact BI.trans (N_ _ _ _)
 have c21:=NL (w:=W) (ea:=ta) (ec:=tc) (L:=x) (O:=y) (P:=z) aCh (by rw [List.length_map];omega)
 rw [List.length_map] at c21
 replace c21:=aa c21
 have g0':W.cell? ⟨w1.heap.size,0,none⟩=some (.int .i64 x):=aB lF
 have g1':W.cell? ⟨w1.heap.size,1,none⟩=some (.int .i64 y):=aB lF
 have g2':W.cell? ⟨w1.heap.size,2,none⟩=some (.int .i64 z):=aB lF
 rw [hW]
 clear hW lF aCh iw EU BI hR
 refine wp_seq_k fun K hK=> ?_
 have kk2:=aa hK
 clear hK
 go_wp2_with fail
 refine c21.out.mono ?_
 rintro e w2 ⟨u,R,rfl,bR,hb,xI⟩
 obtain ⟨au,cu,FT⟩:=aE bR
 subst FT
 have hRl:=ψ xI
 have Ky:=O4 hb (some g)
 have DD:Rd w2 g0 g p1:=hRW.kept (O4 hb none) (fun r e=>by cases e) hRW.lt
 have uJ:=gG bR (show w.heap.size<=W.heap.size from hgW.size)
 have Nu:=hgW.trans Ky
 have hh:=aa (And.intro uJ (And.intro DD Nu))
 clear bR hb xI uJ DD Nu Ky hgW hRW g0' g1' g2' c21
 go_wp2_with fail
 refine kk2.out _ _ ?_
 exact aBv (by omega) hlt χ hRl ⟨p1,by omega,hh.out.2.1⟩ hh.out.2.2 hh.out.1
variable {w0:J'} {z0 z1 z2 z3 z4 z5 z6:M'}
theorem aBu {p y ty:Nat} {a0 a1 a2 a3 a4 a5 a6:M'} (h1:w.heap[y]?=some (.cells #[z0,z1,z2,z3,z4,z5,z6] ty (0,0))) (hy:w0.heap.size<=y) (χ:g0<=g) (hg:g<w0.heap.size) (h2:∃q,q<=p/\Rd w g0 g q) (h3:w0.grownBy w (some g)):
 (((((((w.setCell ⟨y,0,none⟩ (a0)).setCell ⟨y,1,none⟩ (a1)).setCell ⟨y,2,none⟩ (a2)).setCell ⟨y,3,none⟩ (a3)).setCell ⟨y,4,none⟩ (a4)).setCell ⟨y,5,none⟩ (a5)).setCell ⟨y,6,none⟩ (a6)).heap[y]?=some (.cells #[a0,a1,a2,a3,a4,a5,a6] ty (0,0))/\(∃q,q<=p/\Rd (((((((w.setCell ⟨y,0,none⟩ (a0)).setCell ⟨y,1,none⟩ (a1)).setCell ⟨y,2,none⟩ (a2)).setCell ⟨y,3,none⟩ (a3)).setCell ⟨y,4,none⟩ (a4)).setCell ⟨y,5,none⟩ (a5)).setCell ⟨y,6,none⟩ (a6)) g0 g q)/\w0.grownBy (((((((w.setCell ⟨y,0,none⟩ (a0)).setCell ⟨y,1,none⟩ (a1)).setCell ⟨y,2,none⟩ (a2)).setCell ⟨y,3,none⟩ (a3)).setCell ⟨y,4,none⟩ (a4)).setCell ⟨y,5,none⟩ (a5)).setCell ⟨y,6,none⟩ (a6)) (some g):=by
 have st:∀(W:J') (j:Nat) (v:M'),(∃q,q<=p/\Rd W g0 g q)->∃q,q<=p/\Rd (W.setCell ⟨y,j,none⟩ v) g0 g q:=fun W j v h=>Et.aAy h hy χ hg j v
 have sg:∀(W:J') (j:Nat) (v:M'),w0.grownBy W (some g)->w0.grownBy (W.setCell ⟨y,j,none⟩ v) (some g):=fun W j v h=>CC h hy v
 have k0:(w.setCell ⟨y,0,none⟩ (a0)).heap[y]?=some (.cells #[a0,z1,z2,z3,z4,z5,z6] ty (0,0)):=n8 h1 a0
 have k1:((w.setCell ⟨y,0,none⟩ (a0)).setCell ⟨y,1,none⟩ (a1)).heap[y]?=some (.cells #[a0,a1,z2,z3,z4,z5,z6] ty (0,0)):=n8 k0 a1
 have k2:(((w.setCell ⟨y,0,none⟩ (a0)).setCell ⟨y,1,none⟩ (a1)).setCell ⟨y,2,none⟩ (a2)).heap[y]?=some (.cells #[a0,a1,a2,z3,z4,z5,z6] ty (0,0)):=n8 k1 a2
 have k3:((((w.setCell ⟨y,0,none⟩ (a0)).setCell ⟨y,1,none⟩ (a1)).setCell ⟨y,2,none⟩ (a2)).setCell ⟨y,3,none⟩ (a3)).heap[y]?=some (.cells #[a0,a1,a2,a3,z4,z5,z6] ty (0,0)):=n8 k2 a3
 have k4:(((((w.setCell ⟨y,0,none⟩ (a0)).setCell ⟨y,1,none⟩ (a1)).setCell ⟨y,2,none⟩ (a2)).setCell ⟨y,3,none⟩ (a3)).setCell ⟨y,4,none⟩ (a4)).heap[y]?=some (.cells #[a0,a1,a2,a3,a4,z5,z6] ty (0,0)):=n8 k3 a4
 have k5:((((((w.setCell ⟨y,0,none⟩ (a0)).setCell ⟨y,1,none⟩ (a1)).setCell ⟨y,2,none⟩ (a2)).setCell ⟨y,3,none⟩ (a3)).setCell ⟨y,4,none⟩ (a4)).setCell ⟨y,5,none⟩ (a5)).heap[y]?=some (.cells #[a0,a1,a2,a3,a4,a5,z6] ty (0,0)):=n8 k4 a5
 have k6:(((((((w.setCell ⟨y,0,none⟩ (a0)).setCell ⟨y,1,none⟩ (a1)).setCell ⟨y,2,none⟩ (a2)).setCell ⟨y,3,none⟩ (a3)).setCell ⟨y,4,none⟩ (a4)).setCell ⟨y,5,none⟩ (a5)).setCell ⟨y,6,none⟩ (a6)).heap[y]?=some (.cells #[a0,a1,a2,a3,a4,a5,a6] ty (0,0)):=n8 k5 a6
 exact ⟨k6,st _ _ _ (st _ _ _ (st _ _ _ (st _ _ _ (st _ _ _ (st _ _ _ (st _ _ _ h2)))))),sg _ _ _ (sg _ _ _ (sg _ _ _ (sg _ _ _ (sg _ _ _ (sg _ _ _ (sg _ _ _ h3))))))⟩
variable {X:Nat} {x5:M'} {l f h:Int}
theorem aBn {p:Nat} (hp:p<=500000) (hlt:g<w.heap.size) (χ:g0<=g) {c o t:Int} {k:List UInt8} (O:Et w g0 g (p+430) X w.heap.size 44 #[.int .i64 0,.int .i64 0,.int .i64 0,.int .i64 0,.int .i64 0,.int .i64 0,.string ⟨#[]⟩] #[.int .i64 c,.int .i64 l,.int .i64 o,.int .i64 f,.int .i64 h,.int .i64 t,.string ⟨k.toArray⟩] w'):(NA 5 (Pl f50)).wp p_ (bodyPost p_ f50 (CQ g0 g (p+430) w Wu)) ⟨#[.pointer (some ⟨g,0,none⟩),x1,.pointer (some ⟨w.heap.size,0,none⟩),x3,.pointer (some ⟨X,0,none⟩),x5,x6,x7,x8,x9,x10,π,ξ,ν,κ,θ,Z9,Z4,ZM,ZJ,ZI,x21,Yf,uP,tt,ti,E',y'],[]⟩ w':=by
 obtain ⟨⟨f0,f1,f2,f3,f4,f5,f6⟩,z0,z1,z2,z3,z4,z5,z6⟩:=AB O.box
 obtain ⟨⟨r0,r1,r2,r3,r4,r5,r6⟩,y0,y1,y2,y3,y4,y5,y6⟩:=AB O.res
 generalize hQ:bodyPost p_ f50 (CQ g0 g (p+430) w Wu)=Q
 simp only [NA,Pl,f50]
 subst hQ
 have hOh:=aa O
 clear O
 go_wp2_with fail
 have O:=hOh.out
 obtain ⟨b1,⟨q,hq,hr⟩,b2⟩:=aBu O.res (C_ _) χ hlt O.rd O.grown (a0:=.int .i64 c) (a1:=.int .i64 l) (a2:=.int .i64 o) (a3:=.int .i64 f) (a4:=.int .i64 h) (a5:=.int .i64 t) (a6:=.string ⟨k.toArray⟩)
 exact bodyPost_ret (Gv rfl rfl b1 Tryz.underlying44 rfl (by kernel_rfl)) rfl ⟨_,q,rfl,⟨⟨c,l,o,f,h,t,k⟩,rfl⟩,by omega,hr,b2⟩
theorem aBo {p:Nat} (hp:p<=500000) (hlt:g<w.heap.size) (χ:g0<=g) {c o t:Int} {k:List UInt8} (O:Et w g0 g (p+423) X w.heap.size 44 #[.int .i64 0,.int .i64 0,.int .i64 0,.int .i64 0,.int .i64 0,.int .i64 0,.string ⟨#[]⟩] #[.int .i64 c,.int .i64 l,.int .i64 o,.int .i64 f,.int .i64 h,.int .i64 t,.string ⟨k.toArray⟩] w'):(NA 4 (Pl f50)).wp p_ (bodyPost p_ f50 (CQ g0 g (p+430) w Wu)) ⟨#[.pointer (some ⟨g,0,none⟩),x1,.pointer (some ⟨w.heap.size,0,none⟩),x3,.pointer (some ⟨X,0,none⟩),x5,x6,x7,x8,x9,x10,π,ξ,ν,κ,θ,Z9,Z4,ZM,ZJ,ZI,x21,Yf,uP,tt,ti,E',y'],[]⟩ w':=by
 obtain ⟨⟨f0,f1,f2,f3,f4,f5,f6⟩,z0,z1,z2,z3,z4,z5,z6⟩:=AB O.box
 obtain ⟨⟨r0,r1,r2,r3,r4,r5,r6⟩,y0,y1,y2,y3,y4,y5,y6⟩:=AB O.res
 generalize hQ:bodyPost p_ f50 (CQ g0 g (p+430) w Wu)=Q
 simp only [NA,Pl,f50]
 subst hQ
 have hOh:=aa O
 clear O
 refine wp_seq_k fun K hK=> ?_
 have kk:=aa hK
 clear hK
 go_wp2_with fail
 obtain ⟨q,hq,hr⟩:=hOh.out.rd
 refine (BX hr (by omega) (by omega)).mono ?_
 rintro e w3 ⟨y,rfl,hy,h3⟩
 have O1:=aa (hOh.out.ED (p':=p+424) hlt h3.out.2 ⟨_,by omega,h3.out.1⟩)
 obtain ⟨⟨f0,f1,f2,f3,f4,f5,f6⟩,z0,z1,z2,z3,z4,z5,z6⟩:=AB O1.out.box
 by_cases Wi:(y:Int)=0
 ·obtain ⟨q1,hq1,hr1⟩:=O1.out.rd
  have c76:=aa (WH ⟨c,l,o,f,h,t,k⟩ hr1 (by omega))
  simp only [ZV] at c76
  clear hr hr1 h3
  go_wp2_with fail
  refine c76.out.mono ?_
  rintro e w4 ⟨_,p4,rfl,⟨⟨c',l',o',f',h',t',k'⟩,rfl⟩,hp4,hR4,Θ⟩
  simp only [ZV]
  have O2:=aa (O1.out.ED (p':=p+430) hlt Θ ⟨_,by omega,hR4⟩)
  obtain ⟨⟨r0,r1,r2,r3,r4,r5,r6⟩,y0,y1,y2,y3,y4,y5,y6⟩:=AB O2.out.res
  clear hR4 Θ c76
  go_wp2_with fail
  obtain ⟨b1,⟨q,hq,hr⟩,b2⟩:=aBu O2.out.res (C_ _) χ hlt O2.out.rd O2.out.grown (a0:=.int .i64 c') (a1:=.int .i64 l') (a2:=.int .i64 o') (a3:=.int .i64 f') (a4:=.int .i64 h') (a5:=.int .i64 t') (a6:=.string ⟨k'.toArray⟩)
  exact bodyPost_ret (Gv rfl rfl b1 Tryz.underlying44 rfl (by kernel_rfl)) rfl ⟨_,q,rfl,⟨⟨c',l',o',f',h',t',k'⟩,rfl⟩,by omega,hr,b2⟩
 ·have aCq:((y:Int)==0)=false:=by simpa using Wi
  go_wp2_with fail
  refine kk.out _ _ ?_
  exact aBn hp hlt χ (O1.out.less (by omega))
theorem aAv {p:Nat} (hR:Rd w g0 g p) (hp:p<=70000):
 d_ p_ 50 #[.pointer (some ⟨g,0,none⟩)] w (CQ g0 g (p+430) w Wu):=by
 have hlt:=hR.lt
 have χ:=hR.le
 have R0:=hR.alloc (.cells #[.int .i64 0,.int .i64 0,.int .i64 0,.int .i64 0,.int .i64 0,.int .i64 0,.string ⟨#[]⟩] 44)
 have k0:=N_ w (.cells #[.int .i64 0,.int .i64 0,.int .i64 0,.int .i64 0,.int .i64 0,.int .i64 0,.string ⟨#[]⟩] 44) (some g)
 go_enter func50,ntmps50
 refine wp_seq_k fun K hK=> ?_
 have kk:=aa hK
 clear hK
 go_wp2_with fail
 refine kk.out _ _ ?_
 refine wp_seq_k fun K hK=> ?_
 have kk1:=aa hK
 clear hK
 go_wp2_with fail
 refine (Vv R0 (by omega)).mono ?_
 rintro e w1 ⟨a,n,R,p1,rfl,hRl,bR,Iu,EU,BI⟩
 have z1:=BI.size
 rw [B_] at z1
 have EJ:w1.heap[w.heap.size]?=some (.cells #[.int .i64 0,.int .i64 0,.int .i64 0,.int .i64 0,.int .i64 0,.int .i64 0,.string ⟨#[]⟩] 44 (0,0)):=(BI.block _ (by rw [B_];omega) (by simp;omega)).trans (Z' w _)
 have hgw:=k0.trans BI
 have hh:=aa (And.intro bR (And.intro EU (And.intro hgw EJ)))
 have hl:=aa (fun b (e:(Value.slice a R.length n).ownBlock=some b)=>bR.lt b e)
 clear bR EU BI hgw R0 k0 hR
 go_wp2_with fail
 refine kk1.out _ _ ?_
 refine wp_seq_k fun K hK=> ?_
 have kk2:=aa hK
 clear hK
 by_cases hz:R.length=0
 ·have hz':((R.length:Int)==0)=true:=by simp [hz]
  have hzh:=aa hz
  clear hz
  go_wp2_with fail
  refine (BX hh.out.2.1 (by omega) (by omega)).mono ?_
  rintro e w3 ⟨y,rfl,hy,h3⟩
  have CK:IntKind.i64.wrap (3+(y:Int))=3+(y:Int):=IntWalk.i64_in _ (by omega)
  have US:w3.heap[w.heap.size]?=some (.cells #[.int .i64 0,.int .i64 0,.int .i64 0,.int .i64 0,.int .i64 0,.int .i64 0,.string ⟨#[]⟩] 44 (0,0)):=(h3.out.2.block _ (fw EJ) (by simp;omega)).trans EJ
  obtain ⟨⟨r0,r1,r2,r3,r4,r5,r6⟩,y0,y1,y2,y3,y4,y5,y6⟩:=AB US
  have aCr:=aa US
  have mS:=aa (hh.out.2.2.1.trans h3.out.2)
  clear US EJ
  go_wp2_with fail
  obtain ⟨b1,⟨q,hq,hr⟩,b2⟩:=aBu aCr.out (C_ _) χ hlt ⟨_,C_ _,h3.out.1⟩ mS.out (a0:=.int .i64 1) (a1:=.int .i64 1) (a2:=.int .i64 1) (a3:=.int .i64 1) (a4:=.int .i64 2) (a5:=.int .i64 (3+(y:Int))) (a6:=.string ⟨#[100,111,110,101]⟩)
  exact bodyPost_ret (Gv rfl rfl b1 Tryz.underlying44 rfl (by kernel_rfl)) rfl ⟨_,q,rfl,⟨⟨1,1,1,1,2,3+(y:Int),[100,111,110,101]⟩,rfl⟩,by omega,hr,b2⟩
 have hz':((R.length:Int)==0)=false:=beq_eq_false_iff_ne.2 (by omega)
 have hzh:=aa hz
 clear hz EJ
 obtain ⟨b,hb⟩:∃b,a=some ⟨b,0,none⟩:=by
  obtain ⟨g1,cap,cur,hv,_⟩:=hh.out.1.2.resolve_left (fun e=>hzh.out e.2)
  injection hv with h1 _ _
  exact ⟨g1,h1⟩
 subst hb
 go_wp2_with fail
 refine kk2.out _ _ ?_
 refine wp_seq_k fun K hK=> ?_
 have kk3:=aa hK
 clear hK
 go_wp2_with fail
 refine (BX hh.out.2.1 (by omega) (by omega)).mono ?_
 rintro e w3 ⟨i,rfl,hi,h3⟩
 have ml:i<R.length:=by have:=hzh.out;omega
 have hic:(i:Int)<(R.length:Int):=by omega
 have uf:=hl.out b rfl
 rw [B_] at uf
 have QK:=aa (hh.out.1.kept h3.out.2 (.inr fun e=>by have e:some b=some g:=e;injection e with e;omega))
 have mS:=aa (hh.out.2.2.1.trans h3.out.2)
 have US:=aa ((h3.out.2.block _ (fw hh.out.2.2.2) (by simp;omega)).trans hh.out.2.2.2)
 have lJ:R.length<=n:=by
  obtain ⟨g1,cap,cur,hv,_,_,hc,_⟩:=QK.out.2.resolve_left (fun e=>hzh.out e.2)
  injection hv with _ _ h3
  omega
 obtain ⟨r,pk⟩:∃r,R[i]=r:=⟨_,rfl⟩
 have k5:∀j,j<7->w3.cell? ⟨b,i * 7+j,none⟩=r.cells[j]?:=fun j hj=>by rw [<-pk];exact (QK.out.cellAt _ (by omega)).trans (jr Rec.cells 7 (fun _=>rfl) _ _ _ ml hj)
 obtain ⟨c,l,o,f,h,t,k⟩:=r
 have e0:w3.cell? ⟨b,i * 7,none⟩=some (.int .i64 c):=k5 0 (by omega)
 have e1:w3.cell? ⟨b,i * 7+1,none⟩=some (.int .i64 l):=k5 1 (by omega)
 have e2:w3.cell? ⟨b,i * 7+2,none⟩=some (.int .i64 o):=k5 2 (by omega)
 have e3:w3.cell? ⟨b,i * 7+3,none⟩=some (.int .i64 f):=k5 3 (by omega)
 have e4:w3.cell? ⟨b,i * 7+4,none⟩=some (.int .i64 h):=k5 4 (by omega)
 have e5:w3.cell? ⟨b,i * 7+5,none⟩=some (.int .i64 t):=k5 5 (by omega)
 have e6:w3.cell? ⟨b,i * 7+6,none⟩=some (.string ⟨k.toArray⟩):=k5 6 (by omega)
 have O3:Et w g0 g (p+423) w3.heap.size w.heap.size 44 #[.int .i64 0,.int .i64 0,.int .i64 0,.int .i64 0,.int .i64 0,.int .i64 0,.string ⟨#[]⟩] #[.int .i64 c,.int .i64 l,.int .i64 o,.int .i64 f,.int .i64 h,.int .i64 t,.string ⟨k.toArray⟩] (w3.alloc (.cells #[.int .i64 c,.int .i64 l,.int .i64 o,.int .i64 f,.int .i64 h,.int .i64 t,.string ⟨k.toArray⟩] 44)):=⟨Z' w3 _,br US.out,⟨p1+1,by omega,h3.out.1.alloc _⟩,mS.out.trans (N_ _ _ _),mS.out.size,C_ _,by have:=fw US.out;omega⟩
 have hO:=aa O3
 clear O3 k5 pk mS QK US h3 hi
 go_wp2_with fail
 refine kk3.out _ _ ?_
 exact aBo (by omega) hlt χ hO.out
variable {bs:List Int}
theorem aBg {c:Nat} (hA:Bg w a bs) (hu:∀b∈bs,PU b) (lJ:bs.length<=c):
 d_ p_ 26 #[.slice a bs.length c] w fun e w'=>∃r,e=.returned (ZV r)/\g_ w.heap.size w w':=by
 have hop:=aa (OW a c bs (w.alloc (.cells #[.int .i64 0,.int .i64 0,.int .i64 0,.int .i64 0,.int .i64 0,.int .i64 0,.string ⟨#[]⟩] 44)) (hA.below ((h_ _ w).alloc (C_ _) _) (C_ _)) hu lJ)
 rw [B_] at hop
 go_enter func26,ntmps26
 go_wp2_with fail
 refine hop.out.mono ?_
 rintro e w1 ⟨rfl,EU,eo⟩
 have z1:w.heap.size+2<=w1.heap.size:=by have:=EU.lt;omega
 have b1:w1.heap[w.heap.size]?=some (.cells #[.int .i64 0,.int .i64 0,.int .i64 0,.int .i64 0,.int .i64 0,.int .i64 0,.string ⟨#[]⟩] 44 (0,0)):=(eo.block _ (by omega)).trans (Z' w _)
 have B1:g_ w.heap.size w w1:=((h_ _ w).alloc (C_ _) _).trans (eo.mono (by omega))
 clear hop eo
 go_wp2_with fail
 refine (aAv EU (by omega)).mono ?_
 rintro e w2 ⟨_,p2,rfl,⟨⟨c,l,o,f,h,t,k⟩,rfl⟩,hp2,DD,Nu⟩
 simp only [ZV]
 have b2:w2.heap[w.heap.size]?=some (.cells #[.int .i64 0,.int .i64 0,.int .i64 0,.int .i64 0,.int .i64 0,.int .i64 0,.string ⟨#[]⟩] 44 (0,0)):=(Nu.block _ (by omega) (by simp)).trans b1
 have B2:g_ w.heap.size w w2:=B1.grown Nu (by omega) (fun k e=>by injection e with e;omega)
 obtain ⟨⟨r0,r1,r2,r3,r4,r5,r6⟩,y0,y1,y2,y3,y4,y5,y6⟩:=AB b2
 have b2h:=aa b2
 clear EU DD Nu b1 B1 b2
 go_wp2_with fail
 have b3:=n8 (n8 (n8 (n8 (n8 (n8 (n8 b2h.out (o:=0) (.int .i64 c)) (o:=1) (.int .i64 l)) (o:=2) (.int .i64 o)) (o:=3) (.int .i64 f)) (o:=4) (.int .i64 h)) (o:=5) (.int .i64 t)) (o:=6) (.string ⟨k.toArray⟩)
 refine bodyPost_ret (Gv rfl rfl b3 Tryz.underlying44 rfl (by kernel_rfl)) rfl ⟨⟨c,l,o,f,h,t,k⟩,rfl, ?_⟩
 exact ((((((B2.setCell (p:=⟨w.heap.size,0,none⟩) (C_ _) _).setCell (p:=⟨w.heap.size,1,none⟩) (C_ _) _).setCell (p:=⟨w.heap.size,2,none⟩) (C_ _) _).setCell (p:=⟨w.heap.size,3,none⟩) (C_ _) _).setCell (p:=⟨w.heap.size,4,none⟩) (C_ _) _).setCell (p:=⟨w.heap.size,5,none⟩) (C_ _) _).setCell (p:=⟨w.heap.size,6,none⟩) (C_ _) _
def CL (r:Rec):Prop:=(1<=r.call/\r.call<=99)/\(1<=r.line/\r.line<=6)/\(0<=r.op/\r.op<=4)/\(0<=r.jy/\r.jy<=3600)/\
 (r.fin=[111,112,101,110]/\r.wI= -1/\(r.op=0/\r.heard= -1\/r.op≠0/\r.jy<=r.heard/\r.heard<=3600)\/
  r.fin=[100,111,110,101]/\r.op≠0/\r.jy<=r.heard/\r.heard<=r.wI/\r.wI<=3600\/
  (r.fin=[108,101,102,116]\/r.fin=[116,105,114,101,100])/\r.op=0/\r.heard= -1/\r.jy<=r.wI/\r.wI<=3600)
def aBh (r:Rec) (w:J') (e:Ending) (w':J'):Prop:=∃b,e=.returned (.bool b)/\(b=true↔CL r)/\g_ w.heap.size w w'
instance (r:Rec):Decidable (CL r):=by unfold CL;infer_instance
theorem Ξ {c o t:Int}:CL ⟨c,l,o,f,h,t,[111,112,101,110]⟩↔((1<=c/\c<=99)/\(1<=l/\l<=6)/\(0<=o/\o<=4)/\(0<=f/\f<=3600)/\(t= -1/\(o=0/\h= -1\/o≠0/\f<=h/\h<=3600))):=by unfold CL;simp
theorem HT {c o t:Int}:CL ⟨c,l,o,f,h,t,[100,111,110,101]⟩↔((1<=c/\c<=99)/\(1<=l/\l<=6)/\(0<=o/\o<=4)/\(0<=f/\f<=3600)/\(o≠0/\f<=h/\h<=t/\t<=3600)):=by unfold CL;simp
theorem Δ {c o t:Int}:CL ⟨c,l,o,f,h,t,[108,101,102,116]⟩↔((1<=c/\c<=99)/\(1<=l/\l<=6)/\(0<=o/\o<=4)/\(0<=f/\f<=3600)/\(o=0/\h= -1/\f<=t/\t<=3600)):=by unfold CL;simp
theorem Γ {c o t:Int}:CL ⟨c,l,o,f,h,t,[116,105,114,101,100]⟩↔((1<=c/\c<=99)/\(1<=l/\l<=6)/\(0<=o/\o<=4)/\(0<=f/\f<=3600)/\(o=0/\h= -1/\f<=t/\t<=3600)):=by unfold CL;simp
variable {k:Bs}
theorem ω {c o t:Int} (h1:¬k=[111,112,101,110]) (h2:¬k=[100,111,110,101]) (h3:¬k=[108,101,102,116]) (h4:¬k=[116,105,114,101,100]):CL ⟨c,l,o,f,h,t,k⟩↔False:=by unfold CL;simp [h1,h2,h3,h4]
theorem Mt (r:Rec) (w:J'):d_ p_ 27 #[ZV r] w (aBh r w):=by
 obtain ⟨c,l,o,f,h,t,k⟩:=r
 simp only [ZV]
 by_cases k1:k=[111,112,101,110]
 ·subst k1
  go_enter func27,ntmps27
  go_wp2
  all_goals go_ret
  all_goals refine ⟨_,rfl, ?_,(h_ _ _).alloc (C_ _) _⟩
  all_goals
   rw [Ξ]
   simp only [sB,reduceCtorEq] at *
   try omega
 by_cases k2:k=[100,111,110,101]
 ·subst k2
  go_enter func27,ntmps27
  go_wp2
  all_goals go_ret
  all_goals refine ⟨_,rfl, ?_,(h_ _ _).alloc (C_ _) _⟩
  all_goals
   rw [HT]
   simp only [sB,reduceCtorEq] at *
   try omega
 by_cases k3:k=[108,101,102,116]
 ·subst k3
  go_enter func27,ntmps27
  go_wp2
  all_goals go_ret
  all_goals refine ⟨_,rfl, ?_,(h_ _ _).alloc (C_ _) _⟩
  all_goals
   rw [Δ]
   simp only [sB,reduceCtorEq] at *
   try omega
 by_cases k4:k=[116,105,114,101,100]
 ·subst k4
  go_enter func27,ntmps27
  go_wp2
  all_goals go_ret
  all_goals refine ⟨_,rfl, ?_,(h_ _ _).alloc (C_ _) _⟩
  all_goals
   rw [Γ]
   simp only [sB,reduceCtorEq] at *
   try omega
 have qk1:(k==[111,112,101,110])=false:=by simpa using k1
 have qk2:(k==[100,111,110,101])=false:=by simpa using k2
 have qk3:(k==[108,101,102,116])=false:=by simpa using k3
 have qk4:(k==[116,105,114,101,100])=false:=by simpa using k4
 go_enter func27,ntmps27
 go_wp2
 all_goals go_ret
 all_goals refine ⟨_,rfl, ?_,(h_ _ _).alloc (C_ _) _⟩
 all_goals
  rw [ω k1 k2 k3 k4]
  simp only [sB,reduceCtorEq] at *
  try omega
theorem MB (r:Rec) (w:J'):d_ p_ 27 #[ZV r] w fun e w'=>e=.returned (.bool (decide (CL r)))/\g_ w.heap.size w w':=
 (Mt r w).mono fun _ _ ⟨b,h1,h2,h3⟩=>⟨by rw [h1,show b=decide (CL r) from by rw [Bool.eq_iff_iff,h2,decide_eq_true_iff]],h3⟩
theorem KU (n lo hi:Int) (w:J') (b:Bool) (h:b=(decide (lo<=n)&&decide (n<=hi))):d_ p_ 52 #[.int .i64 n,.int .i64 lo,.int .i64 hi] w fun e w'=>e=.returned (.bool b)/\w'=w:=h▸dx n lo hi w
def Hp (r:Rec):Prop:=(r.jy<=r.wI/\r.wI<=3600)/\(r.fin=[100,111,110,101]/\(r.jy<=r.heard/\r.heard<=r.wI)/\0<r.op\/(r.fin=[108,101,102,116]\/r.fin=[116,105,114,101,100])/\r.heard= -1/\r.op=0)
def aBq (r:Rec) (w:J') (e:Ending) (w':J'):Prop:=∃b,e=.returned (.bool b)/\(b=true↔Hp r)/\g_ w.heap.size w w'
theorem Ou {c o t:Int}:Hp ⟨c,l,o,f,h,t,[100,111,110,101]⟩↔(f<=t/\t<=3600)/\(f<=h/\h<=t)/\0<o:=by unfold Hp;simp
theorem N6 {c o t:Int}:Hp ⟨c,l,o,f,h,t,[108,101,102,116]⟩↔(f<=t/\t<=3600)/\h= -1/\o=0:=by unfold Hp;simp
theorem NR {c o t:Int}:Hp ⟨c,l,o,f,h,t,[116,105,114,101,100]⟩↔(f<=t/\t<=3600)/\h= -1/\o=0:=by unfold Hp;simp
theorem NK {c o t:Int} (h2:¬k=[100,111,110,101]) (h3:¬k=[108,101,102,116]) (h4:¬k=[116,105,114,101,100]):Hp ⟨c,l,o,f,h,t,k⟩↔False:=by unfold Hp;simp [h2,h3,h4]
theorem aAi (r:Rec) (w:J'):d_ p_ 53 #[ZV r] w (aBq r w):=by
 obtain ⟨c,l,o,f,h,t,k⟩:=r
 simp only [ZV]
 obtain ⟨b1,e1⟩:∃b,b=(decide (f<=t)&&decide (t<=3600)):=⟨_,rfl⟩
 obtain ⟨b2,e2⟩:∃b,b=(decide (f<=h)&&decide (h<=t)):=⟨_,rfl⟩
 have c1:=aa (fun w=>KU t f 3600 w b1 e1)
 have c2:=aa (fun w=>KU h f t w b2 e2)
 have x1:b1=true↔f<=t/\t<=3600:=by rw [e1];simp
 have x2:b2=true↔f<=h/\h<=t:=by rw [e2];simp
 clear e1 e2
 replace x1:=aa x1
 replace x2:=aa x2
 cases b1
 ·by_cases k2:k=[100,111,110,101]
  ·subst k2
   go_enter func53,ntmps53
   go_wp2_with (go_at_call 52;(with_reducible first|refine (c1.out _).mono ?_|refine (c2.out _).mono ?_);rintro e w2 ⟨rfl,rfl⟩)
   all_goals go_ret
   all_goals refine ⟨_,rfl, ?_,(h_ _ _).alloc (C_ _) _⟩
   all_goals
    have x1:=x1.out
    have x2:=x2.out
    rw [Ou]
    simp only [sB,reduceCtorEq] at *
    try omega
  by_cases k3:k=[108,101,102,116]
  ·subst k3
   go_enter func53,ntmps53
   go_wp2_with (go_at_call 52;(with_reducible first|refine (c1.out _).mono ?_|refine (c2.out _).mono ?_);rintro e w2 ⟨rfl,rfl⟩)
   all_goals go_ret
   all_goals refine ⟨_,rfl, ?_,(h_ _ _).alloc (C_ _) _⟩
   all_goals
    have x1:=x1.out
    have x2:=x2.out
    rw [N6]
    simp only [sB,reduceCtorEq] at *
    try omega
  by_cases k4:k=[116,105,114,101,100]
  ·subst k4
   go_enter func53,ntmps53
   go_wp2_with (go_at_call 52;(with_reducible first|refine (c1.out _).mono ?_|refine (c2.out _).mono ?_);rintro e w2 ⟨rfl,rfl⟩)
   all_goals go_ret
   all_goals refine ⟨_,rfl, ?_,(h_ _ _).alloc (C_ _) _⟩
   all_goals
    have x1:=x1.out
    have x2:=x2.out
    rw [NR]
    simp only [sB,reduceCtorEq] at *
    try omega
  have qk2:(k==[100,111,110,101])=false:=by simpa using k2
  have qk3:(k==[108,101,102,116])=false:=by simpa using k3
  have qk4:(k==[116,105,114,101,100])=false:=by simpa using k4
  go_enter func53,ntmps53
  go_wp2_with (go_at_call 52;(with_reducible first|refine (c1.out _).mono ?_|refine (c2.out _).mono ?_);rintro e w2 ⟨rfl,rfl⟩)
  all_goals go_ret
  all_goals refine ⟨_,rfl, ?_,(h_ _ _).alloc (C_ _) _⟩
  all_goals
   have x1:=x1.out
   have x2:=x2.out
   rw [NK k2 k3 k4]
   simp only [sB,reduceCtorEq] at *
   try omega
 by_cases k2:k=[100,111,110,101]
 ·subst k2
  cases b2
  all_goals
   go_enter func53,ntmps53
   go_wp2_with (go_at_call 52;(with_reducible first|refine (c1.out _).mono ?_|refine (c2.out _).mono ?_);rintro e w2 ⟨rfl,rfl⟩)
   all_goals go_ret
   all_goals refine ⟨_,rfl, ?_,(h_ _ _).alloc (C_ _) _⟩
   all_goals
    have x1:=x1.out
    have x2:=x2.out
    rw [Ou]
    simp only [sB,reduceCtorEq] at *
    try omega
 by_cases k3:k=[108,101,102,116]
 ·subst k3
  go_enter func53,ntmps53
  go_wp2_with (go_at_call 52;(with_reducible first|refine (c1.out _).mono ?_|refine (c2.out _).mono ?_);rintro e w2 ⟨rfl,rfl⟩)
  all_goals go_ret
  all_goals refine ⟨_,rfl, ?_,(h_ _ _).alloc (C_ _) _⟩
  all_goals
   have x1:=x1.out
   have x2:=x2.out
   rw [N6]
   simp only [sB,reduceCtorEq] at *
   try omega
 by_cases k4:k=[116,105,114,101,100]
 ·subst k4
  go_enter func53,ntmps53
  go_wp2_with (go_at_call 52;(with_reducible first|refine (c1.out _).mono ?_|refine (c2.out _).mono ?_);rintro e w2 ⟨rfl,rfl⟩)
  all_goals go_ret
  all_goals refine ⟨_,rfl, ?_,(h_ _ _).alloc (C_ _) _⟩
  all_goals
   have x1:=x1.out
   have x2:=x2.out
   rw [NR]
   simp only [sB,reduceCtorEq] at *
   try omega
 have qk2:(k==[100,111,110,101])=false:=by simpa using k2
 have qk3:(k==[108,101,102,116])=false:=by simpa using k3
 have qk4:(k==[116,105,114,101,100])=false:=by simpa using k4
 go_enter func53,ntmps53
 go_wp2_with (go_at_call 52;(with_reducible first|refine (c1.out _).mono ?_|refine (c2.out _).mono ?_);rintro e w2 ⟨rfl,rfl⟩)
 all_goals go_ret
 all_goals refine ⟨_,rfl, ?_,(h_ _ _).alloc (C_ _) _⟩
 all_goals
  have x1:=x1.out
  have x2:=x2.out
  rw [NK k2 k3 k4]
  simp only [sB,reduceCtorEq] at *
  try omega
theorem aBa {c o t:Int} (h1:1<=c/\c<=99) (h2:1<=l/\l<=6) (h3:0<=o/\o<=4) (h4:0<=f/\f<=3600) (k1:¬k=[111,112,101,110]):Hp ⟨c,l,o,f,h,t,k⟩↔CL ⟨c,l,o,f,h,t,k⟩:=by
 by_cases k2:k=[100,111,110,101]
 ·subst k2;rw [Ou,HT];omega
 by_cases k3:k=[108,101,102,116]
 ·subst k3;rw [N6,Δ];omega
 by_cases k4:k=[116,105,114,101,100]
 ·subst k4;rw [NR,Γ];omega
 rw [NK k2 k3 k4,ω k1 k2 k3 k4]
theorem Kl (r:Rec) (w:J'):d_ p_ 29 #[ZV r] w (aBh r w):=by
 obtain ⟨c,l,o,f,h,t,k⟩:=r
 have i_:=aa (fun w=>aAi ⟨c,l,o,f,h,t,k⟩ w)
 simp only [ZV] at i_ ⊢
 obtain ⟨b1,e1⟩:∃b,b=(decide (1<=c)&&decide (c<=99)):=⟨_,rfl⟩
 have c1:=aa (fun w=>KU c 1 99 w b1 e1)
 have x1:b1=true↔1<=c/\c<=99:=by rw [e1];simp
 replace x1:=aa x1
 clear e1
 obtain ⟨b2,e2⟩:∃b,b=(decide (1<=l)&&decide (l<=6)):=⟨_,rfl⟩
 have c2:=aa (fun w=>KU l 1 6 w b2 e2)
 have x2:b2=true↔1<=l/\l<=6:=by rw [e2];simp
 replace x2:=aa x2
 clear e2
 obtain ⟨b3,e3⟩:∃b,b=(decide (0<=o)&&decide (o<=4)):=⟨_,rfl⟩
 have c3:=aa (fun w=>KU o 0 4 w b3 e3)
 have x3:b3=true↔0<=o/\o<=4:=by rw [e3];simp
 replace x3:=aa x3
 clear e3
 obtain ⟨b4,e4⟩:∃b,b=(decide (0<=f)&&decide (f<=3600)):=⟨_,rfl⟩
 have c4:=aa (fun w=>KU f 0 3600 w b4 e4)
 have x4:b4=true↔0<=f/\f<=3600:=by rw [e4];simp
 replace x4:=aa x4
 clear e4
 obtain ⟨b5,e5⟩:∃b,b=(decide (f<=h)&&decide (h<=3600)):=⟨_,rfl⟩
 have c5:=aa (fun w=>KU h f 3600 w b5 e5)
 have x5:b5=true↔f<=h/\h<=3600:=by rw [e5];simp
 replace x5:=aa x5
 clear e5
 cases b1
 ·go_enter func29,ntmps29
  go_wp2_with (first|(go_at_call 52;(with_reducible first|refine (c1.out _).mono ?_|refine (c2.out _).mono ?_|refine (c3.out _).mono ?_|refine (c4.out _).mono ?_|refine (c5.out _).mono ?_);rintro e w2 ⟨rfl,rfl⟩)|(go_at_call 53;(with_reducible refine (i_.out _).mono ?_);rintro e w2 ⟨b,rfl,hb,gb⟩))
  all_goals go_ret
  all_goals exact ⟨_,rfl,⟨(fun h=>by cases h),fun h=>x1.out.2 h.1⟩,(h_ _ _).alloc (C_ _) _⟩
 cases b2
 ·go_enter func29,ntmps29
  go_wp2_with (first|(go_at_call 52;(with_reducible first|refine (c1.out _).mono ?_|refine (c2.out _).mono ?_|refine (c3.out _).mono ?_|refine (c4.out _).mono ?_|refine (c5.out _).mono ?_);rintro e w2 ⟨rfl,rfl⟩)|(go_at_call 53;(with_reducible refine (i_.out _).mono ?_);rintro e w2 ⟨b,rfl,hb,gb⟩))
  all_goals go_ret
  all_goals exact ⟨_,rfl,⟨(fun h=>by cases h),fun h=>x2.out.2 h.2.1⟩,(h_ _ _).alloc (C_ _) _⟩
 cases b3
 ·go_enter func29,ntmps29
  go_wp2_with (first|(go_at_call 52;(with_reducible first|refine (c1.out _).mono ?_|refine (c2.out _).mono ?_|refine (c3.out _).mono ?_|refine (c4.out _).mono ?_|refine (c5.out _).mono ?_);rintro e w2 ⟨rfl,rfl⟩)|(go_at_call 53;(with_reducible refine (i_.out _).mono ?_);rintro e w2 ⟨b,rfl,hb,gb⟩))
  all_goals go_ret
  all_goals exact ⟨_,rfl,⟨(fun h=>by cases h),fun h=>x3.out.2 h.2.2.1⟩,(h_ _ _).alloc (C_ _) _⟩
 cases b4
 ·go_enter func29,ntmps29
  go_wp2_with (first|(go_at_call 52;(with_reducible first|refine (c1.out _).mono ?_|refine (c2.out _).mono ?_|refine (c3.out _).mono ?_|refine (c4.out _).mono ?_|refine (c5.out _).mono ?_);rintro e w2 ⟨rfl,rfl⟩)|(go_at_call 53;(with_reducible refine (i_.out _).mono ?_);rintro e w2 ⟨b,rfl,hb,gb⟩))
  all_goals go_ret
  all_goals exact ⟨_,rfl,⟨(fun h=>by cases h),fun h=>x4.out.2 h.2.2.2.1⟩,(h_ _ _).alloc (C_ _) _⟩
 have y1:=x1.out.1 rfl
 have y2:=x2.out.1 rfl
 have y3:=x3.out.1 rfl
 have y4:=x4.out.1 rfl
 clear x1 x2 x3 x4
 by_cases k1:k=[111,112,101,110]
 ·subst k1
  cases b5
  all_goals
   go_enter func29,ntmps29
   go_wp2_with (first|(go_at_call 52;(with_reducible first|refine (c1.out _).mono ?_|refine (c2.out _).mono ?_|refine (c3.out _).mono ?_|refine (c4.out _).mono ?_|refine (c5.out _).mono ?_);rintro e w2 ⟨rfl,rfl⟩)|(go_at_call 53;(with_reducible refine (i_.out _).mono ?_);rintro e w2 ⟨b,rfl,hb,gb⟩))
   all_goals go_ret
   all_goals refine ⟨_,rfl, ?_,(h_ _ _).alloc (C_ _) _⟩
   all_goals
    have x5:=x5.out
    rw [Ξ]
    simp only [sB,reduceCtorEq] at *
    try omega
 have q1:(k==[111,112,101,110])=false:=by simpa using k1
 have k1h:=aa k1
 have yh:=aa (And.intro y1 (And.intro y2 (And.intro y3 y4)))
 clear k1 y1 y2 y3 y4
 go_enter func29,ntmps29
 go_wp2_with (first|(go_at_call 52;(with_reducible first|refine (c1.out _).mono ?_|refine (c2.out _).mono ?_|refine (c3.out _).mono ?_|refine (c4.out _).mono ?_|refine (c5.out _).mono ?_);rintro e w2 ⟨rfl,rfl⟩)|(go_at_call 53;(with_reducible refine (i_.out _).mono ?_);rintro e w2 ⟨b,rfl,hb,gb⟩))
 all_goals go_ret
 all_goals exact ⟨_,rfl,hb.trans (aBa yh.out.1 yh.out.2.1 yh.out.2.2.1 yh.out.2.2.2 k1h.out),((h_ _ _).alloc (C_ _) _).trans (gb.mono (by rw [B_];omega))⟩
def E7 (r:Rec):Int:=if CL r/\r.fin=[100,111,110,101] then r.wI - r.heard else -1
theorem WT {r:Rec} (h:¬CL r):E7 r= -1:=if_neg fun e=>h e.1
theorem KR {r:Rec} (h:¬r.fin=[100,111,110,101]):E7 r= -1:=if_neg fun e=>h e.2
theorem YD (r:Rec) (w:J'):d_ p_ 28 #[ZV r] w fun e w'=>e=.returned (.int .i64 (E7 r))/\g_ w.heap.size w w':=by
 obtain ⟨c,l,o,f,h,t,k⟩:=r
 have cV:=aa (fun w=>Mt ⟨c,l,o,f,h,t,k⟩ w)
 obtain ⟨m,hm⟩:∃m,E7 ⟨c,l,o,f,h,t,k⟩=m:=⟨_,rfl⟩
 rw [hm]
 have Wg:=aa hm
 clear hm
 simp only [ZV] at cV ⊢
 go_enter func28,ntmps28
 go_wp2_with fail
 refine (cV.out _).mono ?_
 rintro e w2 ⟨b,rfl,hb,gb⟩
 have hB:f_ (g_ w.heap.size w w2):=((h_ _ _).alloc (C_ _) _).trans (gb.mono (by rw [B_];omega))
 have lF:w2.heap[w.heap.size]?=some (.cells #[.int .i64 c,.int .i64 l,.int .i64 o,.int .i64 f,.int .i64 h,.int .i64 t,.string ⟨k.toArray⟩] 44 (0,0)):=(gb.block _ (by rw [B_];omega)).trans (Z' w _)
 have Wr:=aa hb
 have Zk:=aa lF
 clear hb lF gb
 cases b
 ·go_wp2_with fail
  go_ret
  exact ⟨vV (by rw [<-Wg.out];exact (WT fun h=>by have:=Wr.out.2 h;cases this).symm),hB.out⟩
 by_cases k2:k=[100,111,110,101]
 ·subst k2
  have g4:w2.cell? ⟨w.heap.size,4,none⟩=some (.int .i64 h):=aB Zk.out
  have g5:w2.cell? ⟨w.heap.size,5,none⟩=some (.int .i64 t):=aB Zk.out
  have g6:w2.cell? ⟨w.heap.size,6,none⟩=some (.string ⟨#[100,111,110,101]⟩):=aB Zk.out
  have cK:=HT.1 (Wr.out.1 (by first|rfl|trivial))
  have hw:IntKind.i64.wrap (t - h)=t - h:=IntWalk.i64_in _ (by omega)
  clear cK
  go_wp2_with fail
  go_ret
  exact ⟨vV (by rw [<-Wg.out];exact (if_pos ⟨Wr.out.1 (by first|rfl|trivial),rfl⟩).symm),hB.out⟩
 ·have q2:(k==[100,111,110,101])=false:=by simpa using k2
  have g6:w2.cell? ⟨w.heap.size,6,none⟩=some (.string ⟨k.toArray⟩):=aB Zk.out
  go_wp2_with fail
  go_ret
  exact ⟨vV (by rw [<-Wg.out];exact (KR k2).symm),hB.out⟩
theorem W9 (r:Rec) (w:J'):d_ p_ 30 #[ZV r] w fun e w'=>e=.returned (.int .i64 (E7 r))/\g_ w.heap.size w w':=by
 obtain ⟨c,l,o,f,h,t,k⟩:=r
 have cV:=aa (fun w=>Kl ⟨c,l,o,f,h,t,k⟩ w)
 obtain ⟨m,hm⟩:∃m,E7 ⟨c,l,o,f,h,t,k⟩=m:=⟨_,rfl⟩
 rw [hm]
 have Wg:=aa hm
 clear hm
 simp only [ZV] at cV ⊢
 go_enter func30,ntmps30
 go_wp2_with fail
 refine (cV.out _).mono ?_
 rintro e w2 ⟨b,rfl,hb,gb⟩
 have hB:f_ (g_ w.heap.size w w2):=((h_ _ _).alloc (C_ _) _).trans (gb.mono (by rw [B_];omega))
 have lF:w2.heap[w.heap.size]?=some (.cells #[.int .i64 c,.int .i64 l,.int .i64 o,.int .i64 f,.int .i64 h,.int .i64 t,.string ⟨k.toArray⟩] 44 (0,0)):=(gb.block _ (by rw [B_];omega)).trans (Z' w _)
 have Wr:=aa hb
 have Zk:=aa lF
 clear hb lF gb
 cases b
 ·go_wp2_with fail
  go_ret
  exact ⟨vV (by rw [<-Wg.out];exact (WT fun h=>by have:=Wr.out.2 h;cases this).symm),hB.out⟩
 by_cases k2:k=[100,111,110,101]
 ·subst k2
  have g4:w2.cell? ⟨w.heap.size,4,none⟩=some (.int .i64 h):=aB Zk.out
  have g5:w2.cell? ⟨w.heap.size,5,none⟩=some (.int .i64 t):=aB Zk.out
  have g6:w2.cell? ⟨w.heap.size,6,none⟩=some (.string ⟨#[100,111,110,101]⟩):=aB Zk.out
  have cK:=HT.1 (Wr.out.1 (by first|rfl|trivial))
  have hw:IntKind.i64.wrap (t - h)=t - h:=IntWalk.i64_in _ (by omega)
  clear cK
  go_wp2_with fail
  go_ret
  exact ⟨vV (by rw [<-Wg.out];exact (if_pos ⟨Wr.out.1 (by first|rfl|trivial),rfl⟩).symm),hB.out⟩
 ·have q2:(k==[100,111,110,101])=false:=by simpa using k2
  have g6:w2.cell? ⟨w.heap.size,6,none⟩=some (.string ⟨k.toArray⟩):=aB Zk.out
  go_wp2_with fail
  go_ret
  exact ⟨vV (by rw [<-Wg.out];exact (KR k2).symm),hB.out⟩
end
section
open Go
def Ho (ck:Int) (r:Rec):Prop:=(0<=r.op/\0<=r.jy/\r.jy<=ck)/\
 (r.fin=eR/\r.wI= -1/\(r.op=0/\r.heard= -1\/r.op≠0/\r.jy<=r.heard/\r.heard<=ck)\/
  r.fin=iy/\r.op≠0/\r.jy<=r.heard/\r.heard<=r.wI/\r.wI<=ck\/
  (r.fin=ie\/r.fin=eT)/\r.op=0/\r.heard= -1/\r.jy<=r.wI/\r.wI<=ck)
def Df (m:Rm):Prop:=0<=m.clock/\∀r∈m.recs,Ho m.clock r
theorem Ho.later {a b:Int} {r:Rec} (h:Ho a r) (KN:a<=b):Ho b r:=by
 obtain ⟨⟨h1,h2,h3⟩,h4⟩:=h
 refine ⟨⟨h1,h2,by omega⟩, ?_⟩
 rcases h4 with ⟨e,k1,k2⟩|⟨e,k1,k2,k3,k4⟩|⟨e,k1,k2,k3,k4⟩
 ·exact .inl ⟨e,k1,k2.imp id fun ⟨x,y,z⟩=>⟨x,y,by omega⟩⟩
 ·exact .inr (.inl ⟨e,k1,k2,k3,by omega⟩)
 ·exact .inr (.inr ⟨e,k1,k2,k3,by omega⟩)
variable {ck:Int}
theorem Ho.isOpen {r:Rec} (h:Ho ck r) (ho:r.fin=eR):r.wI= -1/\(r.op=0/\r.heard= -1\/r.op≠0/\r.jy<=r.heard/\r.heard<=ck):=by
 rcases h.2 with ⟨_,k⟩|⟨e,_⟩|⟨e,_⟩
 ·exact k
 ·rw [ho] at e;exact absurd e (by decide)
 ·rw [ho] at e;exact absurd e (by decide)
variable {i:Nat} {r':Rec}
theorem Ww {rs:List Rec} (h:∀r∈rs,Ho ck r) (hr:Ho ck r'):∀r∈rs.set i r',Ho ck r:=fun r hm=>by
 rcases List.mem_or_eq_of_mem_set hm with h1|h1
 ·exact h r h1
 ·rw [h1];exact hr
theorem WE {rs:List Rec} (h:∀r∈rs,Ho ck r) (hr:Ho ck r'):∀r∈rs++[r'],Ho ck r:=fun r hm=>by
 rcases List.mem_append.1 hm with h1|h1
 ·exact h r h1
 ·rw [List.mem_singleton.1 h1];exact hr
theorem at_mem {rs:List Rec} {r:Rec} (h:rs[i]?=some r):r∈rs:=List.mem_iff_getElem?.2 ⟨i,h⟩
variable {m:Rm}
theorem Kj (h:Df m) {e:Bs} (hi:∀r,m.recs[i]?=some r->Ho m.clock {r with wI:=m.clock,fin:=e}):Df (jJ m i e)/\(jJ m i e).clock=m.clock:=by
 unfold jJ
 cases hr:m.recs[i]? with
 |none=>exact ⟨h,rfl⟩
 |some r=>exact ⟨⟨h.1,Ww h.2 (hi r hr)⟩,rfl⟩
theorem JH {r:Rec} (h:Ho ck r) (ho:r.fin=eR) (h0:r.op=0) {e:Bs} (he:e=ie\/e=eT):Ho ck {r with wI:=ck,fin:=e}:=by
 obtain ⟨k1,k2⟩:=h.isOpen ho
 rcases k2 with ⟨_,k2⟩|⟨k2,_⟩
 ·exact ⟨h.1,.inr (.inr ⟨he,h0,k2,h.1.2.2,Int.le_refl _⟩)⟩
 ·exact absurd h0 k2
variable {P:Int}
theorem aAb {m0:Rm} (hw:∀p∈m0.wait,∀i r,iA m0.recs i r->r.call=p.1->r.op=0):∀(l:List (Int × Int)) (q:Rm × Bs),(∀p∈l,p∈m0.wait)->Df q.1->(∀i r,iA q.1.recs i r->iA m0.recs i r)->Df (l.foldl (fB P) q).1:=by
 intro l
 induction l with
 |nil=>intro q _ h _;exact h
 |cons p l ih=>
  intro q hl h hq
  rw [List.foldl_cons]
  refine ih _ (fun x hx=>hl x (List.mem_cons_of_mem _ hx)) ?_ ?_
  all_goals
   unfold fB
   cases ho:dE q.1.recs p.1 with
   |none=>first|exact h|exact hq
   |some i=>
    obtain ⟨r,hr,hc⟩:=wT ho
    simp only [hr.1]
    by_cases hp:q.1.clock - r.jy>=P
    ·simp only [hp,if_true]
     first
      |exact ⟨(Kj h (fun r' sX=>by rw [hr.1] at sX;cases sX;exact JH (h.2 _ (at_mem hr.1)) hr.2 (hw p (hl p (List.mem_cons_self ..)) i r (hq i r hr) hc) (.inr rfl))).1.1,(Kj h (fun r' sX=>by rw [hr.1] at sX;cases sX;exact JH (h.2 _ (at_mem hr.1)) hr.2 (hw p (hl p (List.mem_cons_self ..)) i r (hq i r hr) hc) (.inr rfl))).1.2⟩
      |(intro j s hs
        unfold jJ at hs
        simp only [hr.1] at hs
        rcases (iA.set hr.1).1 hs with ⟨_,rfl,e⟩|⟨_,e⟩
        ·exact absurd e (show (eT:Bs)≠eR by decide)
        ·exact hq j s e)
    ·simp only [hp,if_false];first|exact h|exact hq
variable {nl no:Nat} {us:List Od}
theorem aAc {n:Nat} {S:Hs} (R:Rel nl no n S us m) (h:Df m) {e:Ev} (he:e.good no):Df (qy nl P m e).1:=by
 cases e with
 |ring c pt=>
  show Df (kS nl m c pt).1
  unfold kS
  split
  ·exact h
  ·split
   ·exact h
   ·exact ⟨h.1,WE h.2 ⟨⟨Int.le_refl _,h.1,Int.le_refl _⟩,.inl ⟨rfl,rfl,.inl ⟨rfl,rfl⟩⟩⟩⟩
 |hang c=>
  show Df (lv m c).1
  unfold lv
  cases ho:dE m.recs c with
  |none=>simp only [];split<;>exact h
  |some i=>
   obtain ⟨r,hr,hc⟩:=wT ho
   have hs:=h.2 _ (at_mem hr.1)
   simp only [hr.1]
   split
   ·rename_i hop
    refine (Kj h fun r' sX=> ?_).1
    rw [hr.1] at sX;cases sX
    obtain ⟨k1,k2⟩:=hs.isOpen hr.2
    rcases k2 with ⟨k2,_⟩|⟨k2,k3,k4⟩
    ·omega
    ·exact ⟨hs.1,.inr (.inl ⟨rfl,k2,k3,k4,Int.le_refl _⟩)⟩
   ·rename_i hop
    refine (Kj h fun r' sX=> ?_).1
    rw [hr.1] at sX;cases sX
    exact JH hs hr.2 (by have:=hs.1.1;omega) (.inl rfl)
 |answer i=>
  show Df (hZ m ((i+1:Nat):Int)).1
  unfold hZ
  split
  ·exact h
  ·split
   ·exact h
   ·split
    ·exact h
    ·rename_i p _ _ k hk
     obtain ⟨r,hr,hc⟩:=wT hk
     simp only [hr.1]
     have hs:=h.2 _ (at_mem hr.1)
     exact ⟨h.1,Ww h.2 ⟨⟨by show (0:Int)<=((i+1:Nat):Int);omega,hs.1.2⟩,.inl ⟨hr.2,(hs.isOpen hr.2).1,.inr ⟨by show ((i+1:Nat):Int)≠0;omega,hs.1.2.2,Int.le_refl _⟩⟩⟩⟩
 |back i=>
  show Df (lD nl m ((i+1:Nat):Int)).1
  unfold lD
  split
  ·exact h
  ·split
   ·exact h
   ·split
    ·exact h
    ·exact ⟨h.1,WE h.2 ⟨⟨by show (0:Int)<=((i+1:Nat):Int);omega,h.1,Int.le_refl _⟩,.inl ⟨rfl,rfl,.inr ⟨by show ((i+1:Nat):Int)≠0;omega,Int.le_refl _,Int.le_refl _⟩⟩⟩⟩
 |wait n'=>
  show Df (mB P m n').1
  unfold mB
  have hn:1<=n':=he.1
  refine aAb (m0:=m) (fun p hp i r hr hc=> ?_) _ _ (fun p hp=>hp) ⟨by show (0:Int)<=m.clock+n';have:=h.1;omega,fun r hr=>(h.2 r hr).later (by show m.clock<=m.clock+n';omega)⟩ (fun i r hr=>hr)
  obtain ⟨j,s,hs,hsc,h0⟩:=R.w1 p hp
  obtain rfl:=R.good.qM i j r s hr hs (hc.trans hsc.symm)
  have:=hr.1.symm.trans hs.1
  cases this
  exact h0
theorem RY {nl no:Nat} {ls:List Nat} {us:List Od} {P:Int} {evs:List Ev} (hd:ls.Nodup) (hl:ls.length=nl) (hu:us.length=no) (h0:∀u∈us,Od.k u=0) (he:∀e∈evs,Ev.good no e):∀k,k<=evs.length->Df (ja nl P (evs.take k))
 |0,_=>by rw [List.take_zero];exact ⟨Int.le_refl _,fun r hr=>by cases hr⟩
 |k+1,hk=>by
  have ih:=RY (P:=P) hd hl hu h0 he k (by omega)
  obtain ⟨R,_⟩:=wO (P:=P) hd hl hu h0 he k (by omega)
  rw [G6 (by omega)]
  exact aAc (P:=P) R ih (he _ (List.getElem_mem (by omega)))
variable {evs:List Ev}
theorem aBk (he:∀e∈evs,Ev.good no e) (hn:evs.length<=60) (rp:nl<=6) (hno:no<=4):∀r∈(ja nl P evs).recs,CL r:=by
 obtain ⟨o0,ho0⟩:∃o:Od,o.k=0:=⟨⟨0,0,0⟩,rfl⟩
 have hu:(List.replicate no o0).length=no:=List.length_replicate ..
 have h0:∀u∈List.replicate no o0,Od.k u=0:=fun u h=>by rw [List.eq_of_mem_replicate h];exact ho0
 have hl:(List.range nl).length=nl:=List.length_range ..
 have hS:=RY (P:=P) List.nodup_range hl hu h0 he evs.length (C_ _)
 obtain ⟨R,_⟩:=wO (P:=P) List.nodup_range hl hu h0 he evs.length (C_ _)
 rw [List.take_length] at hS R
 intro r hr
 obtain ⟨i,hi⟩:=List.mem_iff_getElem?.1 hr
 obtain ⟨g1,g2,g3⟩:=R.good.G8 i r hi
 have hc:=R.n4
 obtain ⟨⟨s1,s2,s3⟩,s4⟩:=hS.2 r hr
 have e:∀a b:Bs,a=b->a=b:=fun _ _ h=>h
 refine ⟨g3,⟨g1.1,by omega⟩,⟨g2.1,by omega⟩,⟨s2,by omega⟩, ?_⟩
 rcases s4 with ⟨f,k1,k2⟩|⟨f,k1,k2,k3,k4⟩|⟨f,k1,k2,k3,k4⟩
 ·exact .inl ⟨f,k1,k2.imp id fun ⟨x,y,z⟩=>⟨x,y,by omega⟩⟩
 ·exact .inr (.inl ⟨f,k1,k2,k3,by omega⟩)
 ·exact .inr (.inr ⟨f,k1,k2,k3,by omega⟩)
variable {L O:Int} {rs:List Raw} {R:List Rec}
theorem aCc (h:R9 L O P rs R):∀r∈R,CL r:=by
 cases ha:da L O P rs with
 |false=>rw [h.1 ha];intro r hr;cases hr
 |true=>
  obtain ⟨evs,he,hg,hn,hL,hO,_,_⟩:=pF ha
  rw [h.2 ha evs he]
  exact aBk hg hn (by omega) (by omega)
end
section
open Go Go.Conc Go.Conc.Lib Go.ConcR Go.ConcR.Gen Go.aC Go.Proofs
open Go.RowKit hiding Hid Below
open Go.ConcN (upd upd_ne upd_same)
theorem Vp (r:Rec) (w:J'):d_ p_ 29 #[ZV r] w fun e w'=>e=.returned (.bool (decide (CL r)))/\g_ w.heap.size w w':=
 (Kl r w).mono fun _ _ ⟨b,h1,h2,h3⟩=>⟨by rw [h1,show b=decide (CL r) from by rw [Bool.eq_iff_iff,h2,decide_eq_true_iff]],h3⟩
noncomputable def yP:Code:=Tryz.f6.body.getD .skip
variable {X:Nat} {W:J'} {Q:Exit->Act->J'->Prop} {z0 z1 z2 z3 z4 z8 z9 dB cZ de dn dm dk dj dA dz dD dC dM dQ dK dP dO dV ey ew eu eK eJ eI eH eQ eN en iu iF iE iD iC iB nv nu np nk sW sV rH rG rF uu yb HC EV Cd By AF z81 z82 z83 z84 z86 z88 z89 z90 z92 z94 z95 z96 z97 z98 z99:M'}
theorem aCp {r:Rec} {z12 z20 z21 z22 z23 z24 z25 z26 z28 z31 z37 z40 z46 z49 z51 z53 z59 z70 z72 z75 z76 z80 z85 z87 z91 z93:M'} (ZL:W.heap[X]?=some (.cells r.cells.toArray 44 (0,0)))
 (hQ:∀(Yk Yj Yi Yh Yg Sn Sm q34 q35 TE TC Om TB TA Tz Ty Tx Tw Tv Tu:M') w',g_ W.heap.size W w'->Q .normal ⟨#[z0,z1,z2,z3,z4,.pointer (some ⟨X,0,none⟩),.bool (decide (CL r)),.int .i64 (E7 r),z8,z9,dB,cZ,z12,de,dn,dm,dk,dj,dA,dz,z20,z21,z22,z23,z24,z25,z26,Yk,Yj,Yi,Yh,Yg,Sn,Sm,q34,q35,TE,TC,Om,TB,TA,Tz,Ty,Tx,Tw,Tv,Tu,.bool false,eN,z49,en,z51,iu,z53,iF,iE,iD,iC,iB,z59,nv,nu,np,nk,sW,sV,rH,rG,rF,uu,z70,yb,z72,HC,EV,z75,z76,Cd,By,AF,z80,z81,z82,z83,z84,z85,z86,z87,z88,z89,z90,z91,z92,z93,z94,z95,z96,z97,z98,z99],[]⟩ w'):(ai 5 yP).wp p_ Q ⟨#[z0,z1,z2,z3,z4,.pointer (some ⟨X,0,none⟩),.bool (decide (CL r)),.int .i64 (E7 r),z8,z9,dB,cZ,z12,de,dn,dm,dk,dj,dA,dz,z20,z21,z22,z23,z24,z25,z26,dD,z28,dC,dM,z31,dQ,dK,dP,dO,dV,z37,ey,ew,z40,eu,eK,eJ,eI,eH,z46,eQ,eN,z49,en,z51,iu,z53,iF,iE,iD,iC,iB,z59,nv,nu,np,nk,sW,sV,rH,rG,rF,uu,z70,yb,z72,HC,EV,z75,z76,Cd,By,AF,z80,z81,z82,z83,z84,z85,z86,z87,z88,z89,z90,z91,z92,z93,z94,z95,z96,z97,z98,z99],[]⟩ W:=by
 replace hQ:=aa hQ
 have c29:=aa (fun w=>Vp r w)
 have c30:=aa (fun w=>W9 r w)
 have hno:=aa (fun h=>WT (r:=r) h)
 have hot:=aa (fun h=>KR (r:=r) h)
 have ZD:f_ (CL r->r.fin=[100,111,110,101]->0<=E7 r):=fun h1 h2=>by
  obtain ⟨c,l,o,f,h,t,k⟩:=r
  have h2:k=[100,111,110,101]:=h2
  subst h2
  have:=HT.1 h1
  unfold E7
  rw [if_pos ⟨h1,rfl⟩]
  show 0<=t - h
  omega
 obtain ⟨n,hn⟩:∃n,E7 r=n:=⟨_,rfl⟩
 rw [hn] at c30 hno hot ZD hQ ⊢
 obtain ⟨Z8,cK⟩:∃Z8,decide (CL r)=Z8:=⟨_,rfl⟩
 rw [cK] at c29 hQ ⊢
 have η:=aa cK
 obtain ⟨c,l,o,f,h,t,k⟩:=r
 simp only [ZV] at c29 c30
 replace ZL:=aa ZL
 obtain ⟨⟨f0,f1,f2,f3,f4,f5,f6⟩,_⟩:=AB ZL.out
 clear hn cK
 simp only [ai,yP,Tryz.f6,A_]
 cases Z8
 ·have CP:n= -1:=hno.out (of_decide_eq_false η.out)
  subst CP
  clear hno hot ZD
  go_wp2_with (first|(go_at_call 29;(with_reducible refine (c29.out _).mono ?_);rintro e w2 ⟨rfl,HJ⟩;have M0:=(HJ.block X (fw ZL.out)).trans ZL.out;obtain ⟨⟨g0,g1,g2,g3,g4,g5,g6⟩,_⟩:=AB M0;replace HJ:=aa HJ;replace M0:=aa M0)|(go_at_call 30;(with_reducible refine (c30.out _).mono ?_);rintro e w3 ⟨rfl,Mi⟩;have hx3:=(Mi.block X (fw M0.out)).trans M0.out;obtain ⟨⟨e0,e1,e2,e3,e4,e5,e6⟩,_⟩:=AB hx3;replace Mi:=aa Mi;replace hx3:=aa hx3))
  exact hQ.out _ _ _ _ _ _ _ _ _ _ _ _ _ _ _ _ _ _ _ _ _ (HJ.out.trans (Mi.out.mono HJ.out.size))
 ·by_cases hk:k=[100,111,110,101]
  ·have Dx:0<=n:=ZD.out (of_decide_eq_true η.out) hk
   subst hk
   clear hno hot ZD
   go_wp2_with (first|(go_at_call 29;(with_reducible refine (c29.out _).mono ?_);rintro e w2 ⟨rfl,HJ⟩;have M0:=(HJ.block X (fw ZL.out)).trans ZL.out;obtain ⟨⟨g0,g1,g2,g3,g4,g5,g6⟩,_⟩:=AB M0;replace HJ:=aa HJ;replace M0:=aa M0)|(go_at_call 30;(with_reducible refine (c30.out _).mono ?_);rintro e w3 ⟨rfl,Mi⟩;have hx3:=(Mi.block X (fw M0.out)).trans M0.out;obtain ⟨⟨e0,e1,e2,e3,e4,e5,e6⟩,_⟩:=AB hx3;replace Mi:=aa Mi;replace hx3:=aa hx3))
   exact hQ.out _ _ _ _ _ _ _ _ _ _ _ _ _ _ _ _ _ _ _ _ _ (HJ.out.trans (Mi.out.mono HJ.out.size))
  ·have CP:n= -1:=hot.out hk
   subst CP
   have fS:(k==[100,111,110,101])=false:=by simpa using hk
   clear hno hot ZD hk
   go_wp2_with (first|(go_at_call 29;(with_reducible refine (c29.out _).mono ?_);rintro e w2 ⟨rfl,HJ⟩;have M0:=(HJ.block X (fw ZL.out)).trans ZL.out;obtain ⟨⟨g0,g1,g2,g3,g4,g5,g6⟩,_⟩:=AB M0;replace HJ:=aa HJ;replace M0:=aa M0)|(go_at_call 30;(with_reducible refine (c30.out _).mono ?_);rintro e w3 ⟨rfl,Mi⟩;have hx3:=(Mi.block X (fw M0.out)).trans M0.out;obtain ⟨⟨e0,e1,e2,e3,e4,e5,e6⟩,_⟩:=AB hx3;replace Mi:=aa Mi;replace hx3:=aa hx3))
   exact hQ.out _ _ _ _ _ _ _ _ _ _ _ _ _ _ _ _ _ _ _ _ _ (HJ.out.trans (Mi.out.mono HJ.out.size))
variable {R:List Rec} {z5 z6:M'}
theorem aCo {ar:Option z_} {cr:Nat} {z7 z12 z20 z21 z22 z23 z24 z25 z26 z28 z31 z37 z40 z46 z49 z51 z53 z59 z70 z72 z75 z76 z80 z85 z87 z91 z93:M'} (hrd:gL W (.slice ar R.length cr) R.length (cj R)) (hR:R.length<=1000) (eU:∀r∈R,CL r)
 (hQ:∀(q4 q12 Tt q60 q61 q62 q63 q64 q65 q66 q67 q68 q69 q70:M') w',g_ W.heap.size W w'->Q .normal ⟨#[z0,z1,z2,z3,q4,z5,z6,z7,z8,z9,.slice ar R.length cr,cZ,q12,de,dn,dm,dk,dj,dA,dz,z20,z21,z22,z23,z24,z25,z26,dD,z28,dC,dM,z31,dQ,dK,dP,dO,dV,z37,ey,ew,z40,eu,eK,eJ,eI,eH,z46,eQ,eN,z49,en,z51,iu,z53,iF,iE,iD,iC,iB,Tt,q60,q61,q62,q63,q64,q65,q66,q67,q68,q69,q70,yb,z72,HC,EV,z75,z76,Cd,By,AF,z80,z81,z82,z83,z84,z85,z86,z87,z88,z89,z90,z91,z92,z93,z94,z95,z96,z97,z98,z99],[]⟩ w'):(ai 8 yP).wp p_ Q ⟨#[z0,z1,z2,z3,z4,z5,z6,z7,z8,z9,.slice ar R.length cr,cZ,z12,de,dn,dm,dk,dj,dA,dz,z20,z21,z22,z23,z24,z25,z26,dD,z28,dC,dM,z31,dQ,dK,dP,dO,dV,z37,ey,ew,z40,eu,eK,eJ,eI,eH,z46,eQ,eN,z49,en,z51,iu,z53,iF,iE,iD,iC,iB,z59,nv,nu,np,nk,sW,sV,rH,rG,rF,uu,z70,yb,z72,HC,EV,z75,z76,Cd,By,AF,z80,z81,z82,z83,z84,z85,z86,z87,z88,z89,z90,z91,z92,z93,z94,z95,z96,z97,z98,z99],[]⟩ W:=by
 replace hQ:=aa hQ
 replace eU:=aa eU
 replace hrd:=aa hrd
 simp only [ai,yP,Tryz.f6,A_]
 go_wp2
 go_loopw [12] (fun i wr=>∃k:Nat,k<=R.length/\i=.int .i64 k/\g_ W.heap.size W wr) (fun i _=>R.length - (intOf i).toNat)
 case atStart=>exact ⟨0,nz _,rfl,h_ _ _⟩
 case round=>
  obtain ⟨k,hk,rfl,hb⟩:=hrel
  by_cases hlt:k<R.length
  ·obtain ⟨g1,rfl,BK,p0,p1,p2,p3,p4,p5,p6⟩:=RP (hrd.out.VG hb (C_ _)) hlt
   have gJ:(k:Int)<(R.length:Int):=by omega
   have c27:=aa (fun w=>MB R[k] w)
   rw [decide_eq_true (eU.out _ (List.getElem_mem hlt))] at c27
   simp only [ZV] at c27
   generalize R[k]=r at *
   obtain ⟨r0,r1,r2,r3,r4,r5,r6⟩:=r
   simp only at *
   go_wp2_with fail
   refine (c27.out _).mono ?_
   rintro e w1 ⟨rfl,eo⟩
   go_wp2
   go_roundw
   case rel=>exact ⟨k+1,by omega,by go_num,hb.trans (eo.mono hb.size)⟩
   case measure=>simp [intOf];omega
  ·go_wp2
   exact hQ.out _ _ _ _ _ _ _ _ _ _ _ _ _ _ _ hb
theorem aCn {r:Rec} {z12 z20 z21 z22 z23 z24 z25 z26 z28 z31 z37 z40 z46 z49 z51 z53 z59 z70 z72 z75 z76 z80 z85 z87 z91 z93:M'} (ZL:W.heap[X]?=some (.cells r.cells.toArray 44 (0,0)))
 (hQ:∀(a:Act),a.tmps[4]?=some (.bool true)->a.defers=[]->Q .ret a W):(az 9 yP).wp p_ Q ⟨#[z0,z1,z2,z3,z4,.pointer (some ⟨X,0,none⟩),.bool (decide (CL r)),.int .i64 (E7 r),z8,z9,dB,cZ,z12,de,dn,dm,dk,dj,dA,dz,z20,z21,z22,z23,z24,z25,z26,dD,z28,dC,dM,z31,dQ,dK,dP,dO,dV,z37,ey,ew,z40,eu,eK,eJ,eI,eH,z46,eQ,eN,z49,en,z51,iu,z53,iF,iE,iD,iC,iB,z59,nv,nu,np,nk,sW,sV,rH,rG,rF,uu,z70,yb,z72,HC,EV,z75,z76,Cd,By,AF,z80,z81,z82,z83,z84,z85,z86,z87,z88,z89,z90,z91,z92,z93,z94,z95,z96,z97,z98,z99],[]⟩ W:=by
 replace hQ:=aa hQ
 have lI:f_ (CL r->(r.heard<=max r.wI 3600/\0<=r.jy)/\(r.fin=[100,111,110,101]->E7 r<=r.wI - r.jy/\IntKind.i64.wrap (r.wI - r.jy)=r.wI - r.jy)):=fun h1=>by
  have h0:=h1
  obtain ⟨c,l,o,f,h,t,k⟩:=r
  obtain ⟨_,_,_,⟨a1,a2⟩,a3⟩:=h1
  simp only at a1 a2 a3 ⊢
  refine ⟨⟨by rcases a3 with ⟨_,b1,b2⟩|⟨_,b1,b2,b3,b4⟩|⟨_,b1,b2,b3,b4⟩<;>omega,a1⟩,fun e=> ?_⟩
  subst e
  have:=HT.1 h0
  unfold E7
  rw [if_pos ⟨h0,rfl⟩]
  exact ⟨by show t - h<=t - f;omega,IntWalk.i64_in _ (by omega)⟩
 obtain ⟨n,hn⟩:∃n,E7 r=n:=⟨_,rfl⟩
 rw [hn] at lI ⊢
 obtain ⟨Z8,cK⟩:∃Z8,decide (CL r)=Z8:=⟨_,rfl⟩
 rw [cK]
 have η:=aa cK
 obtain ⟨c,l,o,f,h,t,k⟩:=r
 obtain ⟨⟨f0,f1,f2,f3,f4,f5,f6⟩,_⟩:=AB ZL
 clear hn cK ZL
 simp only [az,yP,Tryz.f6,A_]
 cases Z8
 ·clear lI
  go_wp2_with fail
  exact hQ.out _ rfl rfl
 ·obtain ⟨⟨y1,y2⟩,y3⟩:=lI.out (of_decide_eq_true η.out)
  simp only at y1 y2 y3
  have y1':(h<=max t 3600)=True:=eq_true y1
  have y2':(0<=f)=True:=eq_true y2
  clear lI
  by_cases hk:k=[100,111,110,101]
  ·obtain ⟨y4,y5⟩:=y3 hk
   subst hk
   clear y3
   go_wp2_with fail
   exact hQ.out _ rfl rfl
  ·have fS:(k==[100,111,110,101])=false:=by simpa using hk
   clear y3 hk
   go_wp2_with fail
   exact hQ.out _ rfl rfl
def aBb:List FuncId:=[21,26,27,28,29,30,31,42,43,50,51,52,53,54,62,63,64,74,75,76,77,78,82,83,84,85,86,107,108,109,110,111,112,113,114,115,116]
def ok6 (f:FuncId):Bool:=aBb.contains f
theorem aAq:gM p_ ok6:=zh aBb (fun f h=>by unfold ok6 at h;simpa using h) (List.all_eq_true.1 (show (aBb.all (Al ok6))=true by kernel_rfl))
variable {w w':J'} {a:Option z_} {bs:List Int}
theorem E6 (h:Bg w a bs) (k:cG none w w'):Bg w' a bs:=by
 rcases h with h|⟨b,off,rfl,hb,hc⟩
 ·exact .inl h
 ·exact .inr ⟨b,off,rfl,Nat.lt_of_lt_of_le hb k.size,fun i hi=>k.cell (fun e=>by cases e) (hc i hi)⟩
theorem JK (h:qO w) (k:cG none w w'):qO w':=by
 obtain ⟨g,cs,e,f,h2,h3,h4⟩:=h
 exact ⟨g,cs,e,f,h2,k.blk _ _ _ _ (fun e=>by cases e) h3,h4⟩
variable {ta:Option z_} {rs:List Raw}
theorem aBm (h:fF w ta rs) (k:cG none w w'):fF w' ta rs:=by
 rcases h with h|⟨eb,cs,t,f,h1,h2,h3⟩
 ·exact .inl h
 ·exact .inr ⟨eb,cs,t,f,h1,k.blk _ _ _ _ (fun e=>by cases e) h2,h3⟩
theorem aAx {v:M'} {n:Nat} {xs:List M'} (h:gL w v n xs) (k:cG none w w'):gL w' v n xs:=by
 refine ⟨h.1,fun hl=> ?_⟩
 obtain ⟨g,cap,hv,hc,hcell⟩:=h.2 hl
 refine ⟨g,cap,hv,hc,fun j hj=> ?_⟩
 have h0:=hcell j hj
 rw [List.getElem?_eq_getElem hj] at h0 ⊢
 exact k.cell (fun e=>by cases e) h0
variable {B:Nat}
theorem aBl {v:M'} (h:w.ownsRow B 44 7 v R.length (cj R)):gL w v R.length (cj R):=Ed h (fun hl=>by rw [Ad] at hl;omega)
theorem aBz {p q:M'}:fZ p_ 6 #[p,q] .normal=(base 6).at ⟨#[p,q,I',I',I',I',I',I',I',I',I',I',I',I',I',I',I',I',I',I',I',I',I',I',I',I',I',I',I',I',I',I',I',I',I',I',I',I',I',I',I',I',I',I',I',I',I',I',I',I',I',I',I',I',I',I',I',I',I',I',I',I',I',I',I',I',I',I',I',I',I',I',I',I',I',I',I',I',I',I',I',I',I',I',I',I',I',I',I',I',I',I',I',I',I',I',I',I',I',I'],[]⟩ [.code yP]:=by kernel_rfl
variable {C:cS} {b Bd:Nat} {wl:J'}
theorem aCa {o:Nat} {tmps:Array M'} {todo:List Item} (hL:Lay C wl) (h4:tmps[4]?=some (.bool true)):
 Can p_ C b o (fun v _=>v=.bool true) 0 (db Bd) wl (G {(base 6).at ⟨tmps,[]⟩ todo with mode:=.returning} []):=by
 refine Can.mono (Rs:=Alone) (Can.ends (v:=.bool true) hL rfl (fun w hw=> ?_) (fun _ _=>rfl)) (fun _ _ _ h=>h.1)
 have hr:(results Tryz.f6 tmps).runT p_ w #[]=(.ok (.bool true) w,#[]):=by
  simp [results,Tryz.results6,h4,Sem.runT]
 refine ⟨seen p_ 6 #[], ?_, ?_⟩
 ·simp only [stepG,G,Frame.at,base,unwind,func6]
  rw [hr]
  simp [doReturn,GStep.after,Result.D6]
 ·intro e he;rw [seen_none] at he;simp at he
theorem cd6 {o k:Nat} {Post:M'->J'->Prop} {Rs:(Nat->Prop)->(Nat->aX)->Nat->Prop} {a:Act} {x y:Code} {K:List Item} {cs:List Frame} (hS:jK Rs) (hL:Lay C wl) (h:∀T d W,Eqd W (wl.re T d)->∀B,Eqd B (Go.aC.Behind p_ C b o Post k Rs (base 6) (.code y::K) cs)->f_ (Eqd W (wl.re T d))->f_ (cG none wl W)->x.wp p_ B a W) (hf:je p_ ok6 x=true:=by kernel_rfl) (hd:a.defers=[]:=by exact rfl):Can p_ C b o Post k Rs wl (G ((base 6).at a (.code (.seq x y)::K)) cs):=Can.ctl hS hL rfl (fun _=>stepG_seq) (Can.cY aAq hS hL (aF hf hd rfl ⟨_,func6⟩) fun T d W hW B hB=>h T d W hW B hB (aa hW) (.of_heap (by rw [hW.out];rfl)))
variable {w0:J'}
theorem aCm {o:Nat} {a1 a2:Option z_} {c1 c2:Nat} {mT bs2:List Int} (SI:Bd<900000000) (WL:Lay C w0) (hA:Bg w0 a1 mT) (Wm:∀n∈mT,PU n) (aBd:mT.length<=c1) (VA:Bg w0 a2 bs2) (Su:∀n∈bs2,PU n) (aBc:bs2.length<=c2) (sr:qO w0):
 Can p_ C b o (fun v _=>v=.bool true) 0 (db Bd) w0 (G (fZ p_ 6 #[.slice a1 mT.length c1,.slice a2 bs2.length c2] .normal) []):=by
 have hS:=cT Bd
 have e0:az 0 yP=.seq (ai 0 yP) (az 1 yP):=by kernel_rfl
 have e1:az 1 yP=.seq (ai 1 yP) (az 2 yP):=by kernel_rfl
 have e2:az 2 yP=.seq (ai 2 yP) (az 3 yP):=by kernel_rfl
 have e3:az 3 yP=.seq (ai 3 yP) (az 4 yP):=by kernel_rfl
 have e4:az 4 yP=.seq (ai 4 yP) (az 5 yP):=by kernel_rfl
 have e5:az 5 yP=.seq (ai 5 yP) (az 6 yP):=by kernel_rfl
 have e6:az 6 yP=.seq (ai 6 yP) (az 7 yP):=by kernel_rfl
 have e7:az 7 yP=.seq (ai 7 yP) (az 8 yP):=by kernel_rfl
 have e8:az 8 yP=.seq (ai 8 yP) (az 9 yP):=by kernel_rfl
 rw [aBz,show yP=az 0 yP from rfl]
 have hA1:=aa hA
 have hJ:=aa VA
 have hT:=aa sr
 clear hA VA sr
 rw [e0]
 refine cd6 hS WL fun T d W hW Bh hB ij kW=> ?_
 clear hW
 simp only [ai,yP,Tryz.f6,A_]
 go_wp2_with fail
 have hB:=hB.out
 subst hB
 intro hcut
 have hW:=ij.out.out
 subst hW
 refine Can.re ?_ T d
 clear hcut ij kW
 by_cases n1:(1048576:Int)<(mT.length:Int)
 ·
  rw [e1]
  refine cd6 hS WL fun T d W hW Bh hB ij kW=> ?_
  clear hW
  simp only [ai,yP,Tryz.f6,A_]
  go_wp2_with fail
  have hB:=hB.out
  subst hB
  intro hcut todo
  have hW:=ij.out.out
  subst hW
  refine Can.re ?_ T d
  exact aCa WL rfl
 by_cases n2:(1048576:Int)<(bs2.length:Int)
 ·
  rw [e1]
  refine cd6 hS WL fun T d W hW Bh hB ij kW=> ?_
  clear hW
  simp only [ai,yP,Tryz.f6,A_]
  go_wp2_with fail
  have hB:=hB.out
  subst hB
  intro hcut todo
  have hW:=ij.out.out
  subst hW
  refine Can.re ?_ T d
  exact aCa WL rfl
 rw [e1]
 refine cd6 hS WL fun T d W hW Bh hB ij kW=> ?_
 clear hW
 simp only [ai,yP,Tryz.f6,A_]
 go_wp2_with fail
 have hB:=hB.out
 subst hB
 intro hcut
 have hW:=ij.out.out
 subst hW
 refine Can.re ?_ T d
 clear hcut ij kW
 clear n1 n2
 rw [e2]
 refine cd6 hS WL fun T d W hW Bh hB ij kW=> ?_
 have aCj:f_ (Bg W a1 mT):=E6 hA1.out kW.out
 clear hW
 simp only [ai,yP,Tryz.f6,A_]
 go_wp2_with fail
 refine (aBg aCj.out Wm aBd).mono ?_
 rintro e wb ⟨⟨c,l,o,f,h,t,k⟩,rfl,hb⟩
 simp only [ZV]
 have K:f_ (cG none W (wb.alloc (.cells #[.int .i64 c,.int .i64 l,.int .i64 o,.int .i64 f,.int .i64 h,.int .i64 t,.string ⟨k.toArray⟩] 44))):=(cG.bW hb).trans (.bW ((h_ _ _).alloc (C_ _) _))
 clear hb aCj
 go_wp2_with fail
 have hB:=hB.out
 subst hB
 intro hcut
 have K2:=kW.out.trans K.out
 have hX:=aa (Z' wb (.cells #[.int .i64 c,.int .i64 l,.int .i64 o,.int .i64 f,.int .i64 h,.int .i64 t,.string ⟨k.toArray⟩] 44))
 generalize wb.alloc (.cells #[.int .i64 c,.int .i64 l,.int .i64 o,.int .i64 f,.int .i64 h,.int .i64 t,.string ⟨k.toArray⟩] 44)=w1 at *
 generalize wb.heap.size=X at *
 replace hJ:f_ (Bg w1 a2 bs2):=E6 hJ.out K2
 replace hT:f_ (qO w1):=JK hT.out K2
 have nU:Lay C w1:=⟨hcut,WL.no⟩
 clear hcut ij kW
 clear K K2 hA1
 rw [e3]
 refine cd6 hS nU fun T d W hW Bh hB ij kW=> ?_
 have hXW:f_ (W.heap[X]?=some (.cells #[.int .i64 c,.int .i64 l,.int .i64 o,.int .i64 f,.int .i64 h,.int .i64 t,.string ⟨k.toArray⟩] 44 (0,0))):=kW.out.blk _ _ _ _ (fun e=>by cases e) hX.out
 have cF:=aa (MB ⟨c,l,o,f,h,t,k⟩ W)
 simp only [ZV] at cF
 obtain ⟨⟨f0,f1,f2,f3,f4,f5,f6⟩,_⟩:=AB hXW.out
 clear hW
 simp only [ai,yP,Tryz.f6,A_]
 go_wp2_with fail
 refine cF.out.mono ?_
 rintro e w2 ⟨rfl,hb⟩
 have K:f_ (cG none W w2):=.bW hb
 clear hb cF hXW f0 f1 f2 f3 f4 f5 f6
 go_wp2_with fail
 have hB:=hB.out
 subst hB
 intro hcut
 have K2:=kW.out.trans K.out
 replace hJ:f_ (Bg w2 a2 bs2):=E6 hJ.out K2
 replace hT:f_ (qO w2):=JK hT.out K2
 replace hX:f_ (w2.heap[X]?=some (.cells #[.int .i64 c,.int .i64 l,.int .i64 o,.int .i64 f,.int .i64 h,.int .i64 t,.string ⟨k.toArray⟩] 44 (0,0))):=K2.blk _ _ _ _ (fun e=>by cases e) hX.out
 have du:Lay C w2:=⟨hcut,nU.no⟩
 clear hcut ij kW
 clear K K2
 rw [e4]
 refine cd6 hS du fun T d W hW Bh hB ij kW=> ?_
 have hXW:f_ (W.heap[X]?=some (.cells #[.int .i64 c,.int .i64 l,.int .i64 o,.int .i64 f,.int .i64 h,.int .i64 t,.string ⟨k.toArray⟩] 44 (0,0))):=kW.out.blk _ _ _ _ (fun e=>by cases e) hX.out
 have cF:=aa (YD ⟨c,l,o,f,h,t,k⟩ W)
 simp only [ZV] at cF
 obtain ⟨⟨f0,f1,f2,f3,f4,f5,f6⟩,_⟩:=AB hXW.out
 clear hW
 simp only [ai,yP,Tryz.f6,A_]
 go_wp2_with fail
 refine cF.out.mono ?_
 rintro e w3 ⟨rfl,hb⟩
 have K:f_ (cG none W w3):=.bW hb
 clear hb cF hXW f0 f1 f2 f3 f4 f5 f6
 go_wp2_with fail
 have hB:=hB.out
 subst hB
 intro hcut
 have K2:=kW.out.trans K.out
 replace hJ:f_ (Bg w3 a2 bs2):=E6 hJ.out K2
 replace hT:f_ (qO w3):=JK hT.out K2
 replace hX:f_ (w3.heap[X]?=some (.cells #[.int .i64 c,.int .i64 l,.int .i64 o,.int .i64 f,.int .i64 h,.int .i64 t,.string ⟨k.toArray⟩] 44 (0,0))):=K2.blk _ _ _ _ (fun e=>by cases e) hX.out
 have gA:Lay C w3:=⟨hcut,du.no⟩
 clear hcut ij kW
 clear K K2
 rw [e5]
 refine cd6 hS gA fun T d W hW Bh hB ij kW=> ?_
 have hXW:f_ (W.heap[X]?=some (.cells #[.int .i64 c,.int .i64 l,.int .i64 o,.int .i64 f,.int .i64 h,.int .i64 t,.string ⟨k.toArray⟩] 44 (0,0))):=kW.out.blk _ _ _ _ (fun e=>by cases e) hX.out
 clear hW
 refine aCp (r:=⟨c,l,o,f,h,t,k⟩) hXW.out ?_
 intro Yk Yj Yi Yh Yg Sn Sm q34 q35 TE TC Om TB TA Tz Ty Tx Tw Tv Tu w4 hb
 have K2:=kW.out.trans (.bW hb)
 have hB:=hB.out
 subst hB
 intro hcut
 replace hJ:f_ (Bg w4 a2 bs2):=E6 hJ.out K2
 replace hT:f_ (qO w4):=JK hT.out K2
 replace hX:f_ (w4.heap[X]?=some (.cells #[.int .i64 c,.int .i64 l,.int .i64 o,.int .i64 f,.int .i64 h,.int .i64 t,.string ⟨k.toArray⟩] 44 (0,0))):=K2.blk _ _ _ _ (fun e=>by cases e) hX.out
 have qv:Lay C w4:=⟨hcut,gA.no⟩
 clear hcut ij kW
 clear K2 hb hXW
 rw [e6]
 refine cd6 hS qv fun T d W hW Bh hB ij kW=> ?_
 have hJW:f_ (Bg W a2 bs2):=E6 hJ.out kW.out
 clear hW
 simp only [ai,yP,Tryz.f6,A_]
 go_wp2_with fail
 refine (aBf hJW.out Su aBc).mono ?_
 rintro e wb ⟨x,y,z,ta,tc,ds,rfl,Gj,iw,hb⟩
 have K:f_ (cG none W (wb.alloc (.cells #[.int .i64 x,.int .i64 y,.int .i64 z] 28))):=(cG.bW hb).trans (.bW ((h_ _ _).alloc (C_ _) _))
 have hR:f_ (fF (wb.alloc (.cells #[.int .i64 x,.int .i64 y,.int .i64 z] 28)) ta (ds.map Dd.raw)):=aAp (iw.alloc _)
 clear hb iw hJW
 go_wp2_with fail
 have hB:=hB.out
 subst hB
 intro hcut
 have K2:=kW.out.trans K.out
 have hY:=aa (Z' wb (.cells #[.int .i64 x,.int .i64 y,.int .i64 z] 28))
 generalize wb.alloc (.cells #[.int .i64 x,.int .i64 y,.int .i64 z] 28)=w5 at *
 generalize wb.heap.size=Y at *
 replace hT:f_ (qO w5):=JK hT.out K2
 replace hX:f_ (w5.heap[X]?=some (.cells #[.int .i64 c,.int .i64 l,.int .i64 o,.int .i64 f,.int .i64 h,.int .i64 t,.string ⟨k.toArray⟩] 44 (0,0))):=K2.blk _ _ _ _ (fun e=>by cases e) hX.out
 have qu:Lay C w5:=⟨hcut,qv.no⟩
 clear hcut ij kW
 clear K K2 hJ
 rw [e7]
 refine Can.ctl hS qu rfl (fun _=>stepG_seq) ?_
 generalize hK:[Item.code (az 8 yP)]=aEh
 simp only [ai,yP,Tryz.f6,A_]
 refine Can.ctl hS qu rfl (fun _=>zb) ?_
 refine Can.op (ok:=ok6) hS qu rfl rfl (by k_ne) (by kernel_rfl) (fun T d=>⟨.agg #[.int .i64 x,.int .i64 y,.int .i64 z],w5.re T d, ?_,fun _=>Can.re ?_ T d⟩)
 ·have g0:(w5.re T d).cell? ⟨Y,0,none⟩=some (.int .i64 x):=aB hY.out
  have g1:(w5.re T d).cell? ⟨Y,1,none⟩=some (.int .i64 y):=aB hY.out
  have g2:(w5.re T d).cell? ⟨Y,2,none⟩=some (.int .i64 z):=aB hY.out
  go_simp
 walk_nrm
 refine Can.op (ok:=ok6) hS qu rfl rfl (by k_ne) (by kernel_rfl) (fun T d=>⟨.slice ta ds.length tc,w5.re T d, ?_,fun _=>Can.re ?_ T d⟩)
 ·go_simp
 walk_nrm
 refine Can.ctl hS qu rfl (fun _=>bY (vs:=#[.agg #[.int .i64 x,.int .i64 y,.int .i64 z],.slice ta ds.length tc]) rfl rfl (by k_ne) rfl func22 rfl rfl (by kernel_rfl)) ?_
 have HD:(ds.map Dd.raw).length=ds.length:=List.length_map ..
 rw [<-HD]
 refine call22 qu (by rw [HD];omega) hR.out hT.out (by omega) ?_
 intro C2 b2 o2 w6 res R Mj xq hsz bR xI
 rw [HD]
 walk_nrm
 have hRl:=ψ xI
 have eU:=aa (aCc xI)
 obtain ⟨ar,cr,FT⟩:=aE bR
 subst FT
 have hL:=aa (aBl bR)
 have K:cG none w5 w6:=.JD xq hsz
 replace hT:f_ (qO w6):=JK hT.out K
 replace hX:f_ (w6.heap[X]?=some (.cells #[.int .i64 c,.int .i64 l,.int .i64 o,.int .i64 f,.int .i64 h,.int .i64 t,.string ⟨k.toArray⟩] 44 (0,0))):=K.blk _ _ _ _ (fun e=>by cases e) hX.out
 replace hY:f_ (w6.heap[Y]?=some (.cells #[.int .i64 x,.int .i64 y,.int .i64 z] 28 (0,0))):=K.blk _ _ _ _ (fun e=>by cases e) hY.out
 replace hR:f_ (fF w6 ta (ds.map Dd.raw)):=aBm hR.out K
 have KP:=cT (Bd+5)
 have Iz:=Mj
 obtain ⟨Z8,cK⟩:∃Z8,da x y z (ds.map Dd.raw)=Z8:=⟨_,rfl⟩
 rw [cK]
 clear Mj xq hsz bR xI HD K cK hR hT hY
 refine Can.op (ok:=ok6) KP Iz rfl rfl (by k_ne) (by kernel_rfl) (fun T d=>⟨.tuple #[.slice ar R.length cr,.bool Z8],w6.re T d, ?_,fun _=>Can.re ?_ T d⟩)
 ·go_simp
 walk_nrm
 refine Can.op (ok:=ok6) KP Iz rfl rfl (by k_ne) (by kernel_rfl) (fun T d=>⟨.slice ar R.length cr,w6.re T d, ?_,fun _=>Can.re ?_ T d⟩)
 ·go_simp
 walk_nrm
 refine Can.op (ok:=ok6) KP Iz rfl rfl (by k_ne) (by kernel_rfl) (fun T d=>⟨.bool Z8,w6.re T d, ?_,fun _=>Can.re ?_ T d⟩)
 ·go_simp
 walk_nrm
 refine Can.op (ok:=ok6) KP Iz rfl rfl (by k_ne) (by kernel_rfl) (fun T d=>⟨.slice ar R.length cr,w6.re T d, ?_,fun _=>Can.re ?_ T d⟩)
 ·go_simp
 walk_nrm
 refine Can.op (ok:=ok6) KP Iz rfl rfl (by k_ne) (by kernel_rfl) (fun T d=>⟨.bool Z8,w6.re T d, ?_,fun _=>Can.re ?_ T d⟩)
 ·go_simp
 walk_nrm
 refine Can.ctl KP Iz rfl (fun _=>stepG_region_end) ?_
 subst hK
 rw [e8]
 refine cd6 KP Iz fun T d W hW Bh hB ij kW=> ?_
 have hLW:f_ (gL W (.slice ar R.length cr) R.length (cj R)):=aAx hL.out kW.out
 clear hW
 refine aCo hLW.out hRl eU.out ?_
 intro q4 q12 Tt q60 q61 q62 q63 q64 q65 q66 q67 q68 q69 q70 w7 hb
 have K2:=kW.out.trans (.bW hb)
 have hB:=hB.out
 subst hB
 intro hcut
 replace hX:f_ (w7.heap[X]?=some (.cells #[.int .i64 c,.int .i64 l,.int .i64 o,.int .i64 f,.int .i64 h,.int .i64 t,.string ⟨k.toArray⟩] 44 (0,0))):=K2.blk _ _ _ _ (fun e=>by cases e) hX.out
 replace hL:f_ (gL w7 (.slice ar R.length cr) R.length (cj R)):=aAx hL.out K2
 have jv:Lay C2 w7:=⟨hcut,Iz.no⟩
 clear hcut ij kW
 clear K2 hb hLW
 refine Can.cY aAq KP jv (aF (by kernel_rfl) rfl rfl ⟨_,func6⟩) ?_
 intro T d W hW Bh hB
 have ij:=aa hW
 have kW:f_ (cG none w7 W):=.of_heap (by rw [hW.out];rfl)
 have hXW:f_ (W.heap[X]?=some (.cells #[.int .i64 c,.int .i64 l,.int .i64 o,.int .i64 f,.int .i64 h,.int .i64 t,.string ⟨k.toArray⟩] 44 (0,0))):=kW.out.blk _ _ _ _ (fun e=>by cases e) hX.out
 clear hW
 refine aCn (r:=⟨c,l,o,f,h,t,k⟩) hXW.out ?_
 intro a h4 hdf
 have hB:=hB.out
 subst hB
 intro hcut todo
 have hW:=ij.out.out
 subst hW
 refine Can.re ?_ T d
 obtain ⟨tm,df⟩:=a
 subst hdf
 exact aCa jv h4
noncomputable def ba:Code:=Tryz.f3.body.getD .skip
noncomputable def δ:Code:=Tryz.f4.body.getD .skip
end
end Go.aC.Of
namespace Go
open Go.Conc
theorem Claim7.vE (Lk:Looks) {p:Pinned} {s:OpenSpec} {c:OpenClaim} (kinds:List LaidKind) (tests:Bool) (Rk:Bool × String) (lk:Bool)
 (hc:c.holds p s) (hw:c.wfByText s=true) (YR:c.laidByTextAt Lk p kinds tests)
 (hst:c.start=.entering) (BH:c.noBlocks=false/\c.again=false) (hm:p.checked.prog.mainIs=some (Rk.1,Rk.2.toList)) (hn:(!Rk.1&&Rk.2.isEmpty&& !lk)=false)
 (hl:∀f fn,p.checked.prog.funcNamed c.func=some f->p.checked.prog.funcs[f]?=some fn->lk=p.checked.prog.looks []/\∀(j:Nat) t,fn.params[j]?=some t->p.checked.prog.wantsStandIn t=false)
 (hg:true=c.goesBy p.checked.prog):
 Claim7.holds p (.plain s) {stood:={row:=c,standIns:=[],harness:=Rk,looks:=lk},kinds:=[],alts:=[],goes:=true,laidByText:=true,laidKinds:=kinds,laidTests:=tests,laidLooks:=Lk}:=by
 have h6:Claim7.isSixth {stood:={row:=c,standIns:=[],harness:=Rk,looks:=lk},kinds:=[]}=false:=by simpa [Claim7.isSixth] using hn
 have h1:=Claim7.tied_new_at Lk kinds tests (Claim7.new_of_sixth hc Rk lk hst BH hm h6 hl) hw
 exact ⟨h1,(fun D hD=>by cases hD),YR,(fun h=>by cases h),hg⟩
section
variable {H:Type} {enc:TypeId × M'->H}
theorem kI {a:Assume} {C:Checked} {os:Os} {f:FuncId} {fn:Func} {s:ChangeSpec} {conds:List PathCond} {apart fresh handsOn again:Bool} {laid:List (String × DataW Unit)}
 (own:ownKnob C.prog.godebug=none) (started:os.Started) (xF:C.prog.funcs[f]?=some fn)
 (witness:∃(w:J') (tape:Tape) (i:Input),w.os=os/\(w.forCall tape i).Shaped C.prog/\i.vars=[]/\Input.okWide C.prog (w.forCall tape i) .any w.heap.size f i/\
  (OpenSpec.ofChange s).preRow enc C.prog fn conds apart laid (w.forCall tape i).memory i.args/\a.holds C.prog (lone (fZ C.prog f i.args .normal) [] (w.forCall tape i)))
 (runs:∀(W:J') (base:Nat) (args:Array M') (ds gs:List (DataW H)) (before:List MemPlace),
  (∀(j:Nat) t v,fn.params[j]?=some t->args[j]?=some v->Value.okWide C.prog W .any base t v)->
  DataW.Whole enc C.prog fn.params.toList s.vars apart W args.toList ds gs before->
  laidMetH C.prog laid W->
  ∃M last o w' t',runNT C.prog (M+1) (solo (G (fZ C.prog f args .normal) []) W) #[]=(.ended o w',t')/\runN C.prog M (solo (G (fZ C.prog f args .normal) []) W)=.next last/\
   step C.prog last=.ended o w'/\Conc.Good C.prog (fun v W'=>s.post enc C.prog fn apart fresh handsOn again W args v W') last o w' t'):
 ReturnsInLeavingWide a C os f .any ((OpenSpec.ofChange s).preRow enc C.prog fn conds apart laid) (s.post enc C.prog fn apart fresh handsOn again):=by
 refine returnsInLeavingWide_of_good own started witness ?_
 intro w tape i _ _ _ cK Y2 _
 obtain ⟨_,_,_,fn',Zx,_,_,_,_,hval⟩:=cK
 have e:fn'=fn:=M_ (Zx.symm.trans xF)
 subst e
 obtain ⟨⟨hp,hl⟩,hz⟩:=Y2
 obtain ⟨ds,gs,before,hw,hc,hk⟩:=OpenSpec.pre_parts hp
 have gC:=DataW.Whole.of_heap (w':=w.forCall tape i) (by rfl) hw
 obtain ⟨M,last,o,w',t',h1,h2,h3,h4⟩:=runs (w.forCall tape i) w.heap.size i.args ds gs before hval gC (hl.of_heap (by rfl))
 exact ⟨M,last,o,w',t',h1,h2,h3,h4.mono fun v hp=>ChangeSpec.post_blind hp⟩
end
end Go
namespace Go.aC.Of
open Go Go.Conc Go.Conc.Lib Go.ConcR Go.ConcR.Gen Go.aC Go.Proofs
open Go.RowKit hiding Hid Below
open Go.Deep Go.ChangeShapes Go.WideShapes
def NZ (d:Dd):Prop:=d.act.length<=9223372036854775807/\True/\True
theorem yY {P:Program} {W:J'} {name:String} {k:IntKind} {zs:List Int} {g:Nat} {t e:TypeId} {n:Nat}
 (hg:P.globalNamed name=some g) (hty:(P.globals[g]?).map (·.type)=some t) (ht:P.underlying t=some (.array n e)) (he:P.underlying e=some (.int k)) (hce:P.cellsOf e=1) (Q9:P.cellsOf t=n):
 ∀{l:List (String × DataW Unit)} {ps:List MemPlace},DataW.LaidVars P W l ps->(name,Lib.tabData k zs)∈l->Lib.TabIs P W name k zs
 |[],_,_,h=>by cases h
 |(m,d)::r,ps,h,hm=>by
  obtain ⟨g',t',cs,fuel,p,q,iJ,M7,YO,hd,hr,_⟩:=h
  rcases List.mem_cons.1 hm with e1|hm
  ·cases e1
   obtain rfl:=M_ (hg.symm.trans iJ)
   obtain rfl:=M_ (hty.symm.trans M7)
   unfold Lib.TabIs
   rw [YO,<-Lib.cells_of_tab ht he hce Q9 hd]
  ·exact yY hg hty ht he hce Q9 hr hm
variable {W:J'}
theorem PS (h:Lib.TabIs p_ W "internal/strconv.uint64pow10" .u64 Lib.pow10Tab):qO (oR W):=by
 unfold Lib.TabIs World.var? at h
 cases hg:Tryz.prog.globalNamed "internal/strconv.uint64pow10" with
 |none=>rw [hg] at h;cases h
 |some g=>
  rw [hg] at h
  simp only [Option.bind_some] at h
  split at h
  ·rename_i cs t f hb
   obtain rfl:=M_ h
   exact ⟨g,_,t,_,hg,by rw [kR,hb];rfl,rfl⟩
  ·cases h
section
variable {H:Type} {enc:TypeId × M'->H} {base:Nat} {sp:Nat->Bool} {held:Bool}
end
end Go.aC.Of
