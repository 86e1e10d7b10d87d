/-
  runHall: what is checked first.
-/
import Derived.Test.YtnjkbffmmgckeaaGreatDoorPaa
import Derived.Test.YtnjkbffmmgckeaaGreatDoorPad
import Derived.Test.YtnjkbffmmgckeaaGreatDoorPae
import Derived.Test.YtnjkbffmmgckeaaGreatDoorPah
set_option linter.all false
set_option maxRecDepth 100000
set_option maxHeartbeats 32000000
open Go renaming undef->I',World->J',Value->M',TypeId->Q',heap_alloc_new->Z',heap_setCell_other->a_,heap_setCell_same->b_
open Go.RowKit renaming Hid->f_
open Option renaming getD_some->A_
open Go.World renaming size_alloc->B_,cell?_of_block->J_,frozen?_of_block->m_,size_setCell->o_
open Nat renaming le_trans->D_,lt_of_lt_of_le->E_,le_of_ble_eq_true->Z_,zero_le->nz
open Array renaming replicate->F_
open List renaming getElem?_eq_getElem->G_,length_append->K_,map_cons->S_
open Bool renaming and_eq_true->T_
open Option.some renaming injEq->n_
open Go.Proofs.Tryz renaming prog->p_
open Go.Proofs.Tryz
namespace Go.aC.Of
section
open Go Go.Conc Go.Conc.Lib Go.ConcR Go.ConcR.Gen Go.aC Go.Proofs
open Go.RowKit hiding Hid
open Go.ConcN (upd upd_ne upd_same)
noncomputable def bz:Code:=f45.body.getD .skip
def fF (w:J') (ea:Option Addr) (rs:List Raw):Prop:=rs=[]\/∃eb cs t f,ea=some ⟨eb,0,none⟩/\w.heap[eb]?=some (Obj.cells cs t f)/\∀k (hk:k<rs.length),cs[k * 3]?=some (.string (rs[k]).kind)/\cs[k * 3+1]?=some (.int .i64 (rs[k]).who)/\cs[k * 3+2]?=some (.int .i64 (rs[k]).word)
variable {w w':J'} {ea:Option Addr}
theorem fF.keep {rs:List Raw} (h:fF w ea rs) (k:dI w w'):fF w' ea rs:=by
 rcases h with h|⟨eb,cs,t,f,h1,h2,h3⟩
 ·exact .inl h
 ·exact .inr ⟨eb,cs,t,f,h1,k.blk _ _ h2,h3⟩
variable {C:cS} {b o:Nat} {Post:M'->J'->Prop} {Bd:Nat} {wl:J'} {aI:Frame} {aS:Act} {av:Array Oper} {aN:Nat} {ak:List Nat} {aV:List Item} {cs:List Frame} {L O P:Int} {ec:Nat} {rs:List Raw}
theorem P1 (hL:Lay C wl) (hlen:rs.length<=1048576)
 (oF:(dw L O P&&decide (rs.length<=60))=false->∀aK,Lay C aK->dI wl aK->Can p_ C b o Post 0 (db Bd) aK (G (aI.at (aS.put ((av[aN]?).bind (·.dst)) (.pointer none)) (.inRegion av ak::aV)) cs))
 (pr:dw L O P=true->rs.length<=60->∀aK g1 g2 (dB cZ z12 de dn dm dk dj:M'),Lay C aK->dI wl aK->aK.heap[g1]?=some (.cells #[.int .i64 L,.int .i64 O,.int .i64 P] 28 (0,0))->aK.heap[g2]?=some (.cells #[.slice ea rs.length ec] 30 (0,0))->wl.heap.size<=g1->wl.heap.size<=g2->g1≠g2->
  Can p_ C b o Post 0 (db Bd) aK (G ((base 45).at ⟨#[.agg #[.int .i64 L,.int .i64 O,.int .i64 P],.slice ea rs.length ec,.pointer (some ⟨g1,0,none⟩),.pointer (some ⟨g2,0,none⟩),.pointer none,I',I',I',I',I',dB,cZ,z12,de,dn,dm,dk,dj,I',I',I',I',I',I',I',I',I',I',I',I',I',I',I',I',I',I',I',I',I',I',I',I',I',I',I',I',I',I',I',I',I',I',I',I',I',I',I',I',I',I',I',I',I',I',I',I',I',I',I',I',I',I',I'],[]⟩ [.code (az 2 bz)]) (aI.at aS (.inRegion av (aN::ak)::aV)::cs))):
 Can p_ C b o Post 0 (db Bd) wl (G ((base 45).at ⟨#[.agg #[.int .i64 L,.int .i64 O,.int .i64 P],.slice ea rs.length ec]++F_ 71 I',[]⟩ [.code bz]) (aI.at aS (.inRegion av (aN::ak)::aV)::cs)):=by
 have hS:=cT Bd
 have VJ:(#[.agg #[.int .i64 L,.int .i64 O,.int .i64 P],.slice ea rs.length ec]++F_ 71 I':Array M')=#[.agg #[.int .i64 L,.int .i64 O,.int .i64 P],.slice ea rs.length ec,I',I',I',I',I',I',I',I',I',I',I',I',I',I',I',I',I',I',I',I',I',I',I',I',I',I',I',I',I',I',I',I',I',I',I',I',I',I',I',I',I',I',I',I',I',I',I',I',I',I',I',I',I',I',I',I',I',I',I',I',I',I',I',I',I',I',I',I',I',I',I']:=by kernel_rfl
 rw [VJ]
 have e1:bz=.seq (ai 0 bz) (.seq (ai 1 bz) (az 2 bz)):=by kernel_rfl
 rw [e1]
 refine hS.s hL ?_
 refine Can.cY pA hS hL (aF (by kernel_rfl) rfl rfl ⟨_,func45⟩) ?_
 intro T d W hW Bh hB
 have hz:f_ (W.heap.size=wl.heap.size):=aa (by rw [hW.out];rfl)
 have Gm:=aa oF
 have EO:=aa pr
 have qK:=aa hL
 clear oF pr hL
 simp only [ai,bz,f45,A_]
 go_wp2_with fail
 have hB:=hB.out
 subst hB
 intro hc
 have k0:dI wl W:=by rw [hW.out];exact (dI.refl wl).re T d
 have k1:dI wl ((W.alloc (.cells #[.int .i64 L,.int .i64 O,.int .i64 P] 28)).alloc (.cells #[.slice ea rs.length ec] 30)):=(k0.alloc _).alloc _
 have x1:((W.alloc (.cells #[.int .i64 L,.int .i64 O,.int .i64 P] 28)).alloc (.cells #[.slice ea rs.length ec] 30)).heap[W.heap.size]?=some (.cells #[.int .i64 L,.int .i64 O,.int .i64 P] 28 (0,0)):=((dI.refl _).alloc _).blk _ _ (Z' W _)
 have x2:((W.alloc (.cells #[.int .i64 L,.int .i64 O,.int .i64 P] 28)).alloc (.cells #[.slice ea rs.length ec] 30)).heap[W.heap.size+1]?=some (.cells #[.slice ea rs.length ec] 30 (0,0)):=by
  have:=Z' (W.alloc (.cells #[.int .i64 L,.int .i64 O,.int .i64 P] 28)) (.cells #[.slice ea rs.length ec] 30)
  rw [B_] at this;exact this
 generalize (W.alloc (.cells #[.int .i64 L,.int .i64 O,.int .i64 P] 28)).alloc (.cells #[.slice ea rs.length ec] 30)=w1 at *
 have nU:Lay C w1:=⟨hc,qK.out.no⟩
 have BI:wl.heap.size<=W.heap.size:=Nat.le_of_eq hz.out.symm
 have Nu:wl.heap.size<=W.heap.size+1:=Nat.le_succ_of_le BI
 have mS:W.heap.size≠W.heap.size+1:=by omega
 generalize W.heap.size+1=g2 at *
 generalize W.heap.size=g1 at *
 clear hW hz k0 hc
 refine hS.s nU ?_
 refine Can.cY pA hS nU (aF (by kernel_rfl) rfl rfl ⟨_,func45⟩) ?_
 intro T d W hW Bh hB
 have k2:dI wl W:=by rw [hW.out];exact k1.re T d
 have y1:W.heap[g1]?=some (.cells #[.int .i64 L,.int .i64 O,.int .i64 P] 28 (0,0)):=by rw [hW.out];exact x1
 have y2:W.heap[g2]?=some (.cells #[.slice ea rs.length ec] 30 (0,0)):=by rw [hW.out];exact x2
 have c1:W.cell? ⟨g1,0,none⟩=some (.int .i64 L):=by rw [aB y1];rfl
 have c2:W.cell? ⟨g1,1,none⟩=some (.int .i64 O):=by rw [aB y1];rfl
 have c3:W.cell? ⟨g1,2,none⟩=some (.int .i64 P):=by rw [aB y1];rfl
 have k2:=aa k2
 have y1:=aa y1
 have y2:=aa y2
 clear hW k1 x1 x2 nU
 have hov:=aa (uX W L O P)
 simp only [ai,bz,f45,A_]
 go_wp2_with fail
 refine hov.out.mono ?_
 rintro e w2 ⟨rfl,wh⟩
 have k3:f_ (dI wl w2):=by rw [wh];exact k2.out.alloc _
 have v1:f_ (w2.heap[g1]?=some (.cells #[.int .i64 L,.int .i64 O,.int .i64 P] 28 (0,0))):=by rw [wh];exact ((dI.refl W).alloc _).blk _ _ y1.out
 have v2:f_ (w2.heap[g2]?=some (.cells #[.slice ea rs.length ec] 30 (0,0))):=by rw [wh];exact ((dI.refl W).alloc _).blk _ _ y2.out
 have c4:w2.cell? ⟨g2,0,none⟩=some (.slice ea rs.length ec):=by rw [aB v2.out];rfl
 clear wh k2 y1 y2 c1 c2 c3 hov
 cases cK:dw L O P with
 |false=>
  go_wp2_with fail
  have hB:=hB.out
  subst hB
  intro hc todo
  have du:Lay C w2:=⟨hc,qK.out.no⟩
  refine Can.ctl hS du rfl (fun _=>aZ rfl rfl func45 rfl) ?_
  exact Gm.out (by rw [cK];rfl) w2 du k3.out
 |true=>
  by_cases OZ:rs.length<=60
  ·have RF:¬(60<(rs.length:Int)):=by omega
   go_wp2_with fail
   have hB:=hB.out
   subst hB
   intro hc
   have du:Lay C w2:=⟨hc,qK.out.no⟩
   exact EO.out cK OZ w2 g1 g2 _ _ _ _ _ _ _ _ du k3.out v1.out v2.out BI Nu mS
  ·have RF:60<(rs.length:Int):=by omega
   go_wp2_with fail
   have hB:=hB.out
   subst hB
   intro hc todo
   have du:Lay C w2:=⟨hc,qK.out.no⟩
   refine Can.ctl hS du rfl (fun _=>aZ rfl rfl func45 rfl) ?_
   exact Gm.out (by rw [cK];simp [OZ]) w2 du k3.out
variable {g1 g2:Nat}
variable {dB cZ de dn dm dk dj:M'}
theorem PZ (hL:Lay C wl) (hlen:rs.length<=60) (bR:fF wl ea rs) (x1:wl.heap[g1]?=some (.cells #[.int .i64 L,.int .i64 O,.int .i64 P] 28 (0,0))) (x2:wl.heap[g2]?=some (.cells #[.slice ea rs.length ec] 30 (0,0))) {z12:M'}
 (oF:rs.all (fun r=>bu r O)=false->∀aK,Lay C aK->dI wl aK->Can p_ C b o Post 0 (db Bd) aK (G (aI.at (aS.put ((av[aN]?).bind (·.dst)) (.pointer none)) (.inRegion av ak::aV)) cs))
 (pr:rs.all (fun r=>bu r O)=true->∀aK (z6 dB cZ z12 de dn dm dk dj dA dz z20 z21 z22 z23 z24 z25 z26 dD z28 dC:M'),Lay C aK->dI wl aK->Can p_ C b o Post 0 (db Bd) aK (G ((base 45).at ⟨#[.agg #[.int .i64 L,.int .i64 O,.int .i64 P],.slice ea rs.length ec,.pointer (some ⟨g1,0,none⟩),.pointer (some ⟨g2,0,none⟩),.pointer none,I',z6,I',I',I',dB,cZ,z12,de,dn,dm,dk,dj,dA,dz,z20,z21,z22,z23,z24,z25,z26,dD,z28,dC,I',I',I',I',I',I',I',I',I',I',I',I',I',I',I',I',I',I',I',I',I',I',I',I',I',I',I',I',I',I',I',I',I',I',I',I',I',I',I',I',I',I',I'],[]⟩ [.code (az 3 bz)]) (aI.at aS (.inRegion av (aN::ak)::aV)::cs))):
 Can p_ C b o Post 0 (db Bd) wl (G ((base 45).at ⟨#[.agg #[.int .i64 L,.int .i64 O,.int .i64 P],.slice ea rs.length ec,.pointer (some ⟨g1,0,none⟩),.pointer (some ⟨g2,0,none⟩),.pointer none,I',I',I',I',I',dB,cZ,z12,de,dn,dm,dk,dj,I',I',I',I',I',I',I',I',I',I',I',I',I',I',I',I',I',I',I',I',I',I',I',I',I',I',I',I',I',I',I',I',I',I',I',I',I',I',I',I',I',I',I',I',I',I',I',I',I',I',I',I',I',I',I'],[]⟩ [.code (az 2 bz)]) (aI.at aS (.inRegion av (aN::ak)::aV)::cs)):=by
 have hS:=cT Bd
 have e1:az 2 bz=.seq (ai 2 bz) (az 3 bz):=by kernel_rfl
 rw [e1]
 refine hS.s hL ?_
 refine Can.cY pA hS hL (aF (by kernel_rfl) rfl rfl ⟨_,func45⟩) ?_
 intro T d W hW Bh hB
 have Gm:=aa oF
 have EO:=aa pr
 have qK:=aa hL
 have k0:f_ (dI wl W):=by rw [hW.out];exact (dI.refl wl).re T d
 have y1:f_ (W.heap[g1]?=some (.cells #[.int .i64 L,.int .i64 O,.int .i64 P] 28 (0,0))):=by rw [hW.out];exact x1
 have y2:W.heap[g2]?=some (.cells #[.slice ea rs.length ec] 30 (0,0)):=by rw [hW.out];exact x2
 have c4:W.cell? ⟨g2,0,none⟩=some (.slice ea rs.length ec):=by rw [aB y2];rfl
 have LZ:f_ (fF W ea rs):=bR.keep k0.out
 clear oF pr hL x1 x2 bR y2 hW
 simp only [ai,bz,f45,A_]
 go_wp2_with fail
 have kk:f_ (dI W W):=dI.refl W
 clear c4
 go_loopw [20,4] (fun i p wr=>∃k:Nat,k<=rs.length/\i=.int .i64 k/\p=.pointer none/\f_ (∀j (hj:j<rs.length),j<k->bu rs[j] O=true)/\f_ (dI W wr)) (fun i _ _=>rs.length - (intOf i).toNat)
 case atStart=>exact ⟨0,nz _,rfl,rfl,aa (fun j hj h0=>by omega),kk⟩
 case round=>
  obtain ⟨k,hk,rfl,rfl,hT,WM⟩:=hrel
  by_cases hlt:k<rs.length
  ·have gJ:(k:Int)<(rs.length:Int):=by omega
   obtain ⟨eb,WY,et,ef,rfl,yc,hcs⟩:=LZ.out.resolve_left (fun e=>by rw [e] at hlt;simp at hlt)
   have oJ:=WM.out.blk _ _ yc
   obtain ⟨d1,d2,d3⟩:=hcs k hlt
   have j1:wr.cell? ⟨eb,k * 3,none⟩=some (.string (rs[k]).kind):=(aB oJ).trans d1
   have j2:wr.cell? ⟨eb,k * 3+1,none⟩=some (.int .i64 (rs[k]).who):=(aB oJ).trans d2
   have j3:wr.cell? ⟨eb,k * 3+2,none⟩=some (.int .i64 (rs[k]).word):=(aB oJ).trans d3
   obtain ⟨V,hV⟩:∃V,f_ (V=wr.alloc (.cells #[.string (rs[k]).kind,.int .i64 (rs[k]).who,.int .i64 (rs[k]).word] 55)):=⟨_,aa rfl⟩
   have kV:f_ (dI W V):=by rw [hV.out];exact WM.out.alloc _
   have m1:V.cell? ⟨g1,1,none⟩=some (.int .i64 O):=by rw [aB (kV.out.blk _ _ y1.out)];rfl
   have m2:V.cell? ⟨wr.heap.size,0,none⟩=some (.string (rs[k]).kind):=by rw [hV.out];exact bJ rfl
   have m3:V.cell? ⟨wr.heap.size,1,none⟩=some (.int .i64 (rs[k]).who):=by rw [hV.out];exact bJ rfl
   have m4:V.cell? ⟨wr.heap.size,2,none⟩=some (.int .i64 (rs[k]).word):=by rw [hV.out];exact bJ rfl
   have xG:=aa (xP V rs[k] O)
   clear d1 d2 d3 oJ hcs yc
   have YG:f_ (∀q,rs[k]=q->bu rs[k] O=bu q O):=fun q e=>by rw [e]
   generalize QF:rs[k]=r at *
   replace QF:=aa QF
   replace hV:=hV.out
   subst hV
   go_wp2_with fail
   refine xG.out.mono ?_
   rintro e w2 ⟨rfl,wh⟩
   have kw2:f_ (dI W w2):=by rw [wh];exact kV.out.alloc _
   clear xG wh m1 m2 m3 m4 kV WM
   cases hval:bu r O with
   |true=>
    go_wp2_with fail
    go_roundw
    case rel=>exact ⟨k+1,by omega,by go_num,rfl,aa (fun j hj hjk=>if e:j=k then by subst e;rw [QF.out];exact hval else hT.out j hj (by omega)),kw2⟩
    case measure=>simp [intOf];omega
   |false=>
    go_wp2_with fail
    have hB:=hB.out
    subst hB
    intro hc todo
    have du:Lay C w2:=⟨hc,qK.out.no⟩
    refine Can.ctl hS du rfl (fun _=>aZ rfl rfl func45 rfl) ?_
    exact Gm.out (List.all_eq_false.2 ⟨rs[k],List.getElem_mem hlt,by rw [QF.out,hval];simp⟩) w2 du (k0.out.trans kw2.out)
  ·obtain rfl:k=rs.length:=by omega
   have gJ:((rs.length:Int)<(rs.length:Int))=False:=by simp
   go_wp2_with fail
   have hB:=hB.out
   subst hB
   intro hc
   have du:Lay C wr:=⟨hc,qK.out.no⟩
   exact EO.out (by
    rw [List.all_eq_true]
    intro x hx
    obtain ⟨j,hj,rfl⟩:=List.getElem_of_mem hx
    exact hT.out j hj hj) wr _ _ _ _ _ _ _ _ _ _ _ _ _ _ _ _ _ _ _ _ _ du (k0.out.trans WM.out)
structure Bb where
 hb:Nat
 hv:Nat
 m1:Nat
 m2:Nat
 m3:Nat
 L:Int
 O:Int
 P:Int
def pD (X:Bb) (vl vo:M'):Array M':=
 #[.int .i64 X.L,.int .i64 X.O,.int .i64 X.P,vl,.map (some X.m1),.map (some X.m2),vo,.slice none 0 0,.slice none 0 0,.slice none 0 0,.map (some X.m3),.int .i64 0,.slice none 0 0,.slice none 0 0]
def gB (ls:List Nat):List M':=ls.map fun x=>Value.chan (some x)
structure jz (W0:J') (X:Bb) (ls qs:List Nat) (vl vo:M') (w:J'):Prop where
 old:gD W0 w none
 low:W0.heap.size<=X.hb/\W0.heap.size<=X.hv/\W0.heap.size<=X.m1/\W0.heap.size<=X.m2/\W0.heap.size<=X.m3
 box:w.heap[X.hb]?=some (.cells (pD X vl vo) 77 (0,0))
 hv:w.heap[X.hv]?=some (.cells #[.pointer (some ⟨X.hb,0,none⟩)] 68 (0,0))
 mp:w.heap[X.m1]?=some (.map #[] 0)/\w.heap[X.m2]?=some (.map #[] 0)/\w.heap[X.m3]?=some (.map #[] 0)
 LV:X.m1≠X.m2/\X.m1≠X.m3/\X.m2≠X.m3
 lines:w.ownsRow W0.heap.size 78 1 vl ls.length (gB ls)
 ops:w.ownsRow W0.heap.size 109 1 vo qs.length (gB qs)
 nd:ls.Nodup
 lt:∀x,x∈ls->W0.heap.size<=x/\x<w.heap.size
variable {B:Nat} {xs:List M'} {f:Nat × Nat}
theorem fD {e s n:Nat} {v:M'} (h:w.ownsRow B e s v n xs) {r:Nat} {cs:Array M'} {t:Q'} (hr:w.heap[r]?=some (.cells cs t f)) (hne:t≠e):some r≠v.ownBlock:=by
 intro e1
 rcases h.2 with ⟨rfl,_⟩|⟨g,cap,cur,rfl,_,hg,_⟩
 ·simp [Value.ownBlock] at e1
 ·simp only [Value.ownBlock,n_] at e1
  subst e1
  rw [hr] at hg
  simp at hg
  exact hne hg.2.1
theorem nF {e s n:Nat} {v:M'} (h:w.ownsRow B e s v n xs) {r:Nat} {ob:Obj} (hr:w.heap[r]?=some ob) (hc:aR ob=false):some r≠v.ownBlock:=by
 intro e1
 rcases h.2 with ⟨rfl,_⟩|⟨g,cap,cur,rfl,_,hg,_⟩
 ·simp [Value.ownBlock] at e1
 ·simp only [Value.ownBlock,n_] at e1
  subst e1
  rw [hr] at hg
  simp only [n_] at hg
  rw [hg] at hc
  simp [aR] at hc
variable {W0:J'} {X:Bb} {ls qs:List Nat} {vl vo:M'}
theorem jz.go (h:jz W0 X ls qs vl vo w) (hg:gD w w' none):jz W0 X ls qs vl vo w':=by
 have hs:∀(r:Nat) (ob:Obj),w.heap[r]?=some ob->w'.heap[r]?=some ob:=fun r ob hr=>by
  rw [hg.block r (cI hr) (by simp)];exact hr
 exact ⟨h.old.trans hg,h.low,hs _ _ h.box,hs _ _ h.hv,⟨hs _ _ h.mp.1,hs _ _ h.mp.2.1,hs _ _ h.mp.2.2⟩,h.LV,cH h.lines fun g _ hk=>hg.block g hk (by simp),cH h.ops fun g _ hk=>hg.block g hk (by simp),h.nd,fun x hx=>⟨(h.lt x hx).1,E_ (h.lt x hx).2 hg.size⟩⟩
theorem jz.alloc (h:jz W0 X ls qs vl vo w) (o:Obj):jz W0 X ls qs vl vo (w.alloc o):=h.go (gD.alloc _ _ _)
theorem gD.drew (w:J') (r:Option Nat):gD w w.drew r:=⟨rfl,rfl,Nat.le_refl _,fun _ _ _=>rfl⟩
theorem jz.drew (h:jz W0 X ls qs vl vo w):jz W0 X ls qs vl vo w.drew:=h.go (gD.drew _ _)
theorem jz.re (h:jz W0 X ls qs vl vo w) (T:Nat->Question->Nat) (d:Nat):jz W0 X ls qs vl vo (w.re T d):=h.go ((gD.refl w none).re T d)
theorem jz.cells (h:jz W0 X ls qs vl vo w):w.cell? ⟨X.hv,0,none⟩=some (.pointer (some ⟨X.hb,0,none⟩))/\w.cell? ⟨X.hb,3,none⟩=some vl/\w.cell? ⟨X.hb,6,none⟩=some vo/\w.frozen? ⟨X.hb,3,none⟩=false/\w.frozen? ⟨X.hb,6,none⟩=false:=
 ⟨by rw [aB h.hv];rfl,by rw [aB h.box];rfl,by rw [aB h.box];rfl,bX h.box,bX h.box⟩
theorem uS (a b:List Nat):gB (a++b)=gB a++gB b:=by simp [gB]
theorem jz.line (h:jz W0 X ls qs vl vo w) {v:M'} {c:Nat} (hg:gD w w' vl.ownBlock) (ho:w'.ownsRow W0.heap.size 78 1 v (ls.length+1) (gB ls++[.chan (some c)])) (hc:W0.heap.size<=c/\c<w'.heap.size) (hn:c∉ls):jz W0 X (ls++[c]) qs v vo (w'.setCell ⟨X.hb,3,none⟩ v):=by
 have fz:∀g,vl.ownBlock=some g->W0.heap.size<=g/\g<w.heap.size:=fun g e=>h.lines.lt g e
 have hs:∀(r:Nat) (ob:Obj),w.heap[r]?=some ob->some r≠vl.ownBlock->w'.heap[r]?=some ob:=fun r ob hr hne=>by
  rw [hg.block r (cI hr) hne];exact hr
 have ns:∀r,r≠X.hb->(w'.setCell ⟨X.hb,3,none⟩ v).heap[r]?=w'.heap[r]?:=fun r hr=>a_ w' ⟨X.hb,3,none⟩ r v hr
 have bx:=hs _ _ h.box (fD h.lines h.box (by decide))
 have nb:∀(r:Nat) (cs:Array M') (t:Q') (f:Nat × Nat),w'.heap[r]?=some (.cells cs t f)->t≠77->r≠X.hb:=fun r cs t f hr ht e=>by
  rw [e,bx] at hr;simp at hr;exact ht hr.2.1.symm
 have Qd:∀(r:Nat) (ob:Obj),w'.heap[r]?=some ob->aR ob=false->r≠X.hb:=fun r ob hr hc e=>by
  rw [e,bx] at hr
  simp only [n_] at hr
  rw [<-hr] at hc
  simp [aR] at hc
 obtain ⟨q1,q2,q3⟩:=h.mp
 have hv':=hs _ _ h.hv (fD h.lines h.hv (by decide))
 have p1:=hs _ _ q1 (nF h.lines q1 rfl)
 have p2:=hs _ _ q2 (nF h.lines q2 rfl)
 have p3:=hs _ _ q3 (nF h.lines q3 rfl)
 have ops':w'.ownsRow W0.heap.size 109 1 vo qs.length (gB qs):=by
  have:=h.ops.kept (w':={w' with tape:=w.tape}) ⟨hg.os,rfl,hg.output,hg.size,hg.block⟩ (gF h.ops h.lines (by decide))
  exact this
 have oset:∀{e n:Nat} {v1:M'} {xs:List M'},e≠77->w'.ownsRow W0.heap.size e 1 v1 n xs->(w'.setCell ⟨X.hb,3,none⟩ v).ownsRow W0.heap.size e 1 v1 n xs:=fun {e n v1 xs} he hh=>by
  refine ⟨hh.1, ?_⟩
  rcases hh.2 with h0|⟨g,cap,cur,h1,h2,h3,h4⟩
  ·exact .inl h0
  ·exact .inr ⟨g,cap,cur,h1,h2,by rw [ns g (nb g _ _ _ h3 he)];exact h3,h4⟩
 refine ⟨⟨hg.os.trans h.old.os,hg.output.trans h.old.output,by rw [o_];exact D_ h.old.size hg.size,fun k hk _=> ?_⟩,h.low, ?_, ?_,⟨?_, ?_, ?_⟩,h.LV, ?_,oset (by decide) ops', ?_,fun x hx=> ?_⟩
 ·rw [ns k (by have:=h.low.1;omega),hg.block k (E_ hk h.old.size) (fun e=>by have:=(fz k e.symm).1;omega)]
  exact h.old.block k hk (by simp)
 ·rw [b_ w' X.hb 3 _ 77 v bx];rfl
 ·rw [ns _ (nb _ _ _ _ hv' (by decide))];exact hv'
 ·rw [ns _ (Qd _ _ p1 rfl)];exact p1
 ·rw [ns _ (Qd _ _ p2 rfl)];exact p2
 ·rw [ns _ (Qd _ _ p3 rfl)];exact p3
 ·rw [K_,uS];exact oset (by decide) ho
 ·rw [List.nodup_append]
  exact ⟨h.nd,by simp,fun a ha b hb=>by simp at hb;subst hb;exact fun e=>hn (e▸ha)⟩
 ·rw [o_]
  rcases List.mem_append.1 hx with hx|hx
  ·exact ⟨(h.lt x hx).1,E_ (h.lt x hx).2 hg.size⟩
  ·simp at hx;subst hx;exact hc
theorem jz.oper (h:jz W0 X ls qs vl vo w) {v:M'} {c:Nat} (hg:gD w w' vo.ownBlock) (ho:w'.ownsRow W0.heap.size 109 1 v (qs.length+1) (gB qs++[.chan (some c)])):jz W0 X ls (qs++[c]) vl v (w'.setCell ⟨X.hb,6,none⟩ v):=by
 have fz:∀g,vo.ownBlock=some g->W0.heap.size<=g/\g<w.heap.size:=fun g e=>h.ops.lt g e
 have hs:∀(r:Nat) (ob:Obj),w.heap[r]?=some ob->some r≠vo.ownBlock->w'.heap[r]?=some ob:=fun r ob hr hne=>by
  rw [hg.block r (cI hr) hne];exact hr
 have ns:∀r,r≠X.hb->(w'.setCell ⟨X.hb,6,none⟩ v).heap[r]?=w'.heap[r]?:=fun r hr=>a_ w' ⟨X.hb,6,none⟩ r v hr
 have bx:=hs _ _ h.box (fD h.ops h.box (by decide))
 have nb:∀(r:Nat) (cs:Array M') (t:Q') (f:Nat × Nat),w'.heap[r]?=some (.cells cs t f)->t≠77->r≠X.hb:=fun r cs t f hr ht e=>by
  rw [e,bx] at hr;simp at hr;exact ht hr.2.1.symm
 have Qd:∀(r:Nat) (ob:Obj),w'.heap[r]?=some ob->aR ob=false->r≠X.hb:=fun r ob hr hc e=>by
  rw [e,bx] at hr
  simp only [n_] at hr
  rw [<-hr] at hc
  simp [aR] at hc
 obtain ⟨q1,q2,q3⟩:=h.mp
 have hv':=hs _ _ h.hv (fD h.ops h.hv (by decide))
 have p1:=hs _ _ q1 (nF h.ops q1 rfl)
 have p2:=hs _ _ q2 (nF h.ops q2 rfl)
 have p3:=hs _ _ q3 (nF h.ops q3 rfl)
 have Qg:w'.ownsRow W0.heap.size 78 1 vl ls.length (gB ls):=by
  have:=h.lines.kept (w':={w' with tape:=w.tape}) ⟨hg.os,rfl,hg.output,hg.size,hg.block⟩ (gF h.lines h.ops (by decide))
  exact this
 have oset:∀{e n:Nat} {v1:M'} {xs:List M'},e≠77->w'.ownsRow W0.heap.size e 1 v1 n xs->(w'.setCell ⟨X.hb,6,none⟩ v).ownsRow W0.heap.size e 1 v1 n xs:=fun {e n v1 xs} he hh=>by
  refine ⟨hh.1, ?_⟩
  rcases hh.2 with h0|⟨g,cap,cur,h1,h2,h3,h4⟩
  ·exact .inl h0
  ·exact .inr ⟨g,cap,cur,h1,h2,by rw [ns g (nb g _ _ _ h3 he)];exact h3,h4⟩
 refine ⟨⟨hg.os.trans h.old.os,hg.output.trans h.old.output,by rw [o_];exact D_ h.old.size hg.size,fun k hk _=> ?_⟩,h.low, ?_, ?_,⟨?_, ?_, ?_⟩,h.LV,oset (by decide) Qg, ?_,h.nd,fun x hx=> ?_⟩
 ·rw [ns k (by have:=h.low.1;omega),hg.block k (E_ hk h.old.size) (fun e=>by have:=(fz k e.symm).1;omega)]
  exact h.old.block k hk (by simp)
 ·rw [b_ w' X.hb 6 _ 77 v bx];rfl
 ·rw [ns _ (nb _ _ _ _ hv' (by decide))];exact hv'
 ·rw [ns _ (Qd _ _ p1 rfl)];exact p1
 ·rw [ns _ (Qd _ _ p2 rfl)];exact p2
 ·rw [ns _ (Qd _ _ p3 rfl)];exact p3
 ·rw [K_,uS];exact oset (by decide) ho
 ·rw [o_];exact ⟨(h.lt x hx).1,E_ (h.lt x hx).2 hg.size⟩
structure Ry where
 ph:Nat
 g:Nat
 c:Nat
 v:M'
theorem TK (w:J'):(Instr.makeChan 78 (.int .i64 0)).run p_ w=.ok (.chan (some w.heap.size)) (w.alloc (.chan 0 #[] false 0 0 false)):=TL w
theorem Ql:(Tryz.prog.info? 78).map (fun i=>(i.zero,i.size,i.bytes))=some (some (.chan none),1,8):=by kernel_rfl
theorem MW:(Tryz.prog.info? 109).map (fun i=>(i.zero,i.size,i.bytes))=some (some (.chan none),1,8):=by kernel_rfl
noncomputable def Se:Code:=match ai 4 bz with| .seq _ (.block _ (.loop c))=>c|_=>.skip
noncomputable def oI:Code:=match ai 6 bz with| .seq _ (.block _ (.loop c))=>c|_=>.skip
noncomputable def R12:Code:=match ai 2 Se with| .block _ c=>c|_=>.skip
noncomputable def R18:Code:=match ai 2 oI with| .block _ (.seq _ (.seq c _))=>c|_=>.skip
def wF (X:Bb) (vl vo:M') (x:Ry):Nat->M'
 |0=>.pointer (some ⟨X.hb,0,none⟩)
 |1=>.pointer (some ⟨X.hb,0,none⟩)
 |2=>.pointer (some ⟨X.hb,0,none⟩)
 |3=>.pointer (some ⟨X.hb,3,none⟩)
 |4=>vl
 |5=>.chan (some x.c)
 |6=>.slice (some ⟨x.g,0,none⟩) 1 1
 |7=>x.v
 |8=>.pointer (some ⟨X.hb,0,none⟩)
 |9=>.pointer (some ⟨X.hb,3,none⟩)
 |_=>I'
def aDe (W0:J') (X:Bb) (ls qs:List Nat) (vl vo:M') (x:Ry) (w:J'):Prop:=
 match x.ph with
 |0=>jz W0 X ls qs vl vo w/\True
 |1=>jz W0 X ls qs vl vo w/\W0.heap.size<=x.c/\x.c<w.heap.size/\x.c∉ls
 |2=>jz W0 X ls qs vl vo w/\W0.heap.size<=x.c/\x.c<w.heap.size/\x.c∉ls/\w.heap[x.g]?=some (.cells #[.chan (some x.c)] 78 (0,0))
 |3=>(∃w1,jz W0 X ls qs vl vo w1/\gD w1 w vl.ownBlock/\w.ownsRow W0.heap.size 78 1 x.v (ls.length+1) (gB ls++[.chan (some x.c)]))/\W0.heap.size<=x.c/\x.c<w.heap.size/\x.c∉ls
 |_=>jz W0 X (ls++[x.c]) qs x.v vo w/\W0.heap.size<=x.c/\x.c<w.heap.size/\x.c∉ls
structure aDc (W0:J') (X:Bb) (ls qs:List Nat) (vl vo:M') (D:Array Bool) (x:Ry) (w:J'):Prop where
 le:x.ph<=4
 fl:Fl 5 6 7 10 [] [4,6] D x.ph
 at_:aDe W0 X ls qs vl vo x w
variable {z0 z1 z2 z3 z4 z5 z6 z8 z9 dA dz dD dC dM dQ dK dP dO dV ey ew eu eK eJ eI eH eQ eN en iu iF iE iD iC iB nv nu np nk sW sV rH rG rF uu yb:M'} {Q:Exit->Act->J'->Prop}
theorem Tl (h:jz W0 X ls qs vl vo w) (hn:ls.length<=1000) {z12 z20 z21 z22 z23 z24 z25 z26 z28 z31 z37 z40 z46 z49 z51 z53 z59 z70 z72:M'}
 (hQ:∀w' v' (c':Nat) (u40 u41 u42 u43 u44 u45 u46 u47 u48 u49:M'),jz W0 X (ls++[c']) qs v' vo w'/\W0.heap.size<=c'/\c'<w'.heap.size/\c'∉ls->Q .normal ⟨#[z0,z1,z2,z3,z4,z5,z6,.pointer (some ⟨X.hv,0,none⟩),z8,z9,dB,cZ,z12,de,dn,dm,dk,dj,dA,dz,z20,z21,z22,z23,z24,z25,z26,dD,z28,dC,dM,z31,dQ,dK,dP,dO,dV,z37,ey,ew,u40,u41,u42,u43,u44,u45,u46,u47,u48,u49,en,z51,iu,z53,iF,iE,iD,iC,iB,z59,nv,nu,np,nk,sW,sV,rH,rG,rF,uu,z70,yb,z72],[]⟩ w'):
 Code.wp p_ R12 Q ⟨#[z0,z1,z2,z3,z4,z5,z6,.pointer (some ⟨X.hv,0,none⟩),z8,z9,dB,cZ,z12,de,dn,dm,dk,dj,dA,dz,z20,z21,z22,z23,z24,z25,z26,dD,z28,dC,dM,z31,dQ,dK,dP,dO,dV,z37,ey,ew,z40,eu,eK,eJ,eI,eH,z46,eQ,eN,z49,en,z51,iu,z53,iF,iE,iD,iC,iB,z59,nv,nu,np,nk,sW,sV,rH,rG,rF,uu,z70,yb,z72],[]⟩ w:=by
 refine wpN 73 fun bs cn oq HI=> ?_
 simp only [R12,Se,oI,ai,az,bz,f45,A_]
 refine mA (by kernel_rfl) (kP:=⟨0,0,0,I'⟩) (base:=bs) (by rw [oq];kernel_rfl) (by kernel_rfl) (fun x=>wF X vl vo x) (aDc W0 X ls qs vl vo )
  ⟨nz _,⟨rfl,rfl,rfl,rfl,fun h0=>absurd h0 (Nat.not_succ_le_zero _),fun h0=>absurd h0 (Nat.not_succ_le_zero _)⟩, ?_⟩ ?_ ?_
 ·exact ⟨h.drew,trivial⟩
 ·intro i o' ho D x w a hD bc hw bH aD K k
  have hlt:i<11:=(cI ho)
  have dJ:=hw.fl
  have Gl:=bT oq
  have aA:=aa k
  clear k
  obtain rfl|rfl|rfl|rfl|rfl|rfl|rfl|rfl|rfl|rfl|rfl:i=0\/i=1\/i=2\/i=3\/i=4\/i=5\/i=6\/i=7\/i=8\/i=9\/i=10:=by omega
  all_goals obtain rfl:=so ho rfl
  ·obtain ⟨v7,w7⟩:=bc.oo (.pointer (some ⟨X.hv,0,none⟩)) 7
   clear aD ho
   refine bj (v:=.pointer (some ⟨X.hb,0,none⟩)) (w':=w) rfl rfl ?_ (aA.out x w (fun _ _=>rfl) ⟨hw.le,dJ.keep,hw.at_⟩)
   have UQ:w.cell? ⟨X.hv,0,none⟩=some (.pointer (some ⟨X.hb,0,none⟩)):=by
    obtain ⟨gT,g1,c1,v1⟩:=x
    have hle:=hw.le
    simp only at hle
    obtain rfl|rfl|rfl|rfl|rfl:gT=0\/gT=1\/gT=2\/gT=3\/gT=4:=by omega
    ·exact hw.at_.1.cells.1
    ·exact hw.at_.1.cells.1
    ·exact hw.at_.1.cells.1
    ·obtain ⟨⟨w1,H1,wu,_⟩,_⟩:=hw.at_
     exact (J_ (wu.block X.hv (cI H1.hv) (fD H1.lines H1.hv (by decide)))).trans H1.cells.1
    ·exact hw.at_.1.cells.1
   clear bc hw aA bH
   go_simp
  ·obtain ⟨v7,w7⟩:=bc.oo (.pointer (some ⟨X.hv,0,none⟩)) 7
   clear aD ho
   refine bj (v:=.pointer (some ⟨X.hb,0,none⟩)) (w':=w) rfl rfl ?_ (aA.out x w (fun _ _=>rfl) ⟨hw.le,dJ.keep,hw.at_⟩)
   have UQ:w.cell? ⟨X.hv,0,none⟩=some (.pointer (some ⟨X.hb,0,none⟩)):=by
    obtain ⟨gT,g1,c1,v1⟩:=x
    have hle:=hw.le
    simp only at hle
    obtain rfl|rfl|rfl|rfl|rfl:gT=0\/gT=1\/gT=2\/gT=3\/gT=4:=by omega
    ·exact hw.at_.1.cells.1
    ·exact hw.at_.1.cells.1
    ·exact hw.at_.1.cells.1
    ·obtain ⟨⟨w1,H1,wu,_⟩,_⟩:=hw.at_
     exact (J_ (wu.block X.hv (cI H1.hv) (fD H1.lines H1.hv (by decide)))).trans H1.cells.1
    ·exact hw.at_.1.cells.1
   clear bc hw aA bH
   go_simp
  ·have d1:=dq aD 1
   obtain ⟨v41,XV⟩:=bc.vv (.pointer (some ⟨X.hb,0,none⟩)) 41 1 d1
   clear aD ho
   refine bj (v:=.pointer (some ⟨X.hb,0,none⟩)) (w':=w) rfl rfl ?_ (aA.out x w (fun _ _=>rfl) ⟨hw.le,dJ.keep,hw.at_⟩)
   clear bc hw aA bH
   go_simp
  ·have d2:=dq aD 2
   obtain ⟨v42,XU⟩:=bc.vv (.pointer (some ⟨X.hb,0,none⟩)) 42 2 d2
   clear aD ho
   refine bj (v:=.pointer (some ⟨X.hb,3,none⟩)) (w':=w) rfl rfl ?_ (aA.out x w (fun _ _=>rfl) ⟨hw.le,dJ.keep,hw.at_⟩)
   clear bc hw aA bH
   go_simp
  ·have d3:=dq aD 3
   obtain ⟨v43,XT⟩:=bc.vv (.pointer (some ⟨X.hb,3,none⟩)) 43 3 d3
   clear aD ho
   refine bj (v:=vl) (w':=w) rfl rfl ?_ (aA.out x w (fun _ _=>rfl) ⟨hw.le,dJ.keep,hw.at_⟩)
   have hB:jz W0 X ls qs vl vo w:=by
    obtain ⟨gT,g1,c1,v1⟩:=x
    have hle:gT<=2:=by
     refine Classical.byContradiction fun hx=> ?_
     have:=dJ.pa (by simp only;omega) 4 (by simp)
     rw [bH] at this;cases this
    obtain rfl|rfl|rfl:gT=0\/gT=1\/gT=2:=by omega
    ·exact hw.at_.1
    ·exact hw.at_.1
    ·exact hw.at_.1
   have hl3:=hB.cells.2.1
   clear bc hw aA bH
   go_simp
  ·clear aD ho
   have jH:x.ph=0:=by
    have e2:=dJ.fc
    rw [bH] at e2
    have:=of_decide_eq_false e2.symm
    omega
   obtain ⟨gT,g1,c1,v1⟩:=x
   simp only at jH
   subst jH
   have H1:=hw.at_.1
   have Ng:=TK w
   refine bj (v:=.chan (some w.heap.size)) (w':=w.alloc (.chan 0 #[] false 0 0 false)) rfl rfl ?_ ?_
   ·clear bc hw aA bH H1
    go_simp
   ·exact aA.out ⟨1,g1,w.heap.size,v1⟩ _ (fun j hj=>by
     have hne:j≠5:=fun e=>by rw [e,bH] at hj;cases hj
     unfold wF;split<;>first|rfl|exact absurd rfl hne) ⟨Z_ rfl,dJ.calls (by rw [hD];decide) (by decide) (by decide) (by decide) (by intro j hj;simp at hj),⟨H1.alloc _,H1.old.size,by rw [B_];exact Nat.lt_succ_self _,fun hm=>Nat.lt_irrefl _ (H1.lt _ hm).2⟩⟩
  ·have d5:=dq aD 5
   obtain ⟨v45,XR⟩:=bc.vv (.chan (some x.c)) 45 5 d5
   clear aD ho
   have jH:x.ph=1:=by
    have e1:=dJ.fc
    have e2:=dJ.fb
    rw [d5] at e1
    rw [bH] at e2
    have:=of_decide_eq_true e1.symm
    have:=of_decide_eq_false e2.symm
    omega
   obtain ⟨gT,g1,c1,v1⟩:=x
   simp only at jH
   subst jH
   have fH:=hw.at_
   refine bj (v:=.slice (some ⟨w.heap.size,0,none⟩) 1 1) (w':=w.alloc (.cells #[.chan (some c1)] 78)) rfl rfl ?_ ?_
   ·clear bc hw aA bH fH
    go_simp
   ·exact aA.out ⟨2,w.heap.size,c1,v1⟩ _ (fun j hj=>by
     have hne:j≠6:=fun e=>by rw [e,bH] at hj;cases hj
     unfold wF;split<;>first|rfl|exact absurd rfl hne) ⟨Z_ rfl,dJ.builds (by rw [hD];decide) (by decide) (by decide) (by decide),⟨fH.1.alloc _,fH.2.1,by rw [B_];exact Nat.lt_succ_of_lt fH.2.2.1,fH.2.2.2,Z' w _⟩⟩
  ·have d4:=dq aD 4
   have d6:=dq aD 6
   obtain ⟨v44,XS⟩:=bc.vv vl 44 4 d4
   obtain ⟨v46,XQ⟩:=bc.vv (.slice (some ⟨x.g,0,none⟩) 1 1) 46 6 d6
   clear aD ho
   have jH:x.ph=2:=by
    have e1:=dJ.fb
    have e2:=dJ.fa
    rw [d6] at e1
    rw [bH] at e2
    have:=of_decide_eq_true e1.symm
    have:=of_decide_eq_false e2.symm
    omega
   obtain ⟨gT,g1,c1,v1⟩:=x
   simp only at jH
   subst jH
   obtain ⟨H1,BK,BJ,OU,BI⟩:=hw.at_
   obtain ⟨i9,A5,nR,nQ,nP⟩:=info_parts Ql
   obtain ⟨g,cap,w6,hr,yI,pZ,iP,mR⟩:=run_append_lies (P:=p_) w 70 70 W0.heap.size 78 i9 _ 1 8 Tryz.underlying70 A5 nR nQ nP rfl (by decide) vl ls.length _ H1.lines ⟨g1,0,none⟩ 1 1 [.chan (some c1)] rfl (World.news_of_block (w:=w) BI) (by intro u hu;simp at hu;subst hu;rfl) (by decide) (by unfold maxLen;omega) (by omega) H1.old.size _ rfl
   refine bj (v:=.slice (some ⟨g,0,none⟩) (ls.length+1) cap) (w':=w6) rfl rfl ?_ ?_
   ·clear bc hw aA bH
    simp only [List.getElem_toArray,List.getElem_cons_succ,List.getElem_cons_zero,execOp,resolve,invoke,builtin,Sem.run_bind,Sem.run_pure,Result.andThen_ok,List.map_toArray,S_,List.map_nil,v44,v46,hr]
   ·have NB:gD w w6 vl.ownBlock:=⟨pZ.os,pZ.output,pZ.size,pZ.block⟩
    exact aA.out ⟨3,g1,c1,.slice (some ⟨g,0,none⟩) (ls.length+1) cap⟩ w6 (fun j hj=>by
     have hne:j≠7:=fun e=>by rw [e,bH] at hj;cases hj
     unfold wF;split<;>first|rfl|exact absurd rfl hne) ⟨Z_ rfl,dJ.apps (by rw [hD];decide) (by decide) (by decide) (by decide) (by intro j hj;simp at hj;rcases hj with rfl|rfl<;>assumption),⟨⟨w,H1,NB,yI⟩,BK,E_ BJ pZ.size,OU⟩⟩
  ·have d0:=dq aD 0
   obtain ⟨v40,XW⟩:=bc.vv (.pointer (some ⟨X.hb,0,none⟩)) 40 0 d0
   clear aD ho
   refine bj (v:=.pointer (some ⟨X.hb,0,none⟩)) (w':=w) rfl rfl ?_ (aA.out x w (fun _ _=>rfl) ⟨hw.le,dJ.keep,hw.at_⟩)
   clear bc hw aA bH
   go_simp
  ·have d8:=dq aD 8
   obtain ⟨v48,Wb⟩:=bc.vv (.pointer (some ⟨X.hb,0,none⟩)) 48 8 d8
   clear aD ho
   refine bj (v:=.pointer (some ⟨X.hb,3,none⟩)) (w':=w) rfl rfl ?_ (aA.out x w (fun _ _=>rfl) ⟨hw.le,dJ.keep,hw.at_⟩)
   clear bc hw aA bH
   go_simp
  ·have d9:=dq aD 9
   have d7:=dq aD 7
   obtain ⟨v49,Wa⟩:=bc.vv (.pointer (some ⟨X.hb,3,none⟩)) 49 9 d9
   obtain ⟨v47,LS⟩:=bc.vv (x.v) 47 7 d7
   clear aD ho
   have jH:x.ph=3:=by
    have e1:=dJ.fa
    have e2:=dJ.fs
    rw [d7] at e1
    rw [bH] at e2
    have:=of_decide_eq_true e1.symm
    have:=of_decide_eq_false e2.symm
    omega
   obtain ⟨gT,g1,c1,v1⟩:=x
   simp only at jH
   subst jH
   obtain ⟨⟨w1,H1,wu,Gd⟩,BK,BJ,OU⟩:=hw.at_
   have fz:∀g,vl.ownBlock=some g->W0.heap.size<=g/\g<w1.heap.size:=fun g e=>H1.lines.lt g e
   have sD:w.heap[X.hb]?=w1.heap[X.hb]?:=wu.block X.hb (cI H1.box) (fD H1.lines H1.box (by decide))
   have c7:w.cell? ⟨X.hb,3,none⟩=some vl:=(J_ sD).trans H1.cells.2.1
   have z7:w.frozen? ⟨X.hb,3,none⟩=false:=(m_ sD).trans H1.cells.2.2.2.1
   obtain ⟨a5,q5,zA⟩:=aE Gd
   refine gQ (w':=w.setCell ⟨X.hb,3,none⟩ v1) rfl rfl ?_ ?_
   ·clear bc hw aA bH fz sD
    simp only at LS zA
    rw [zA] at LS
    rw [zA]
    go_simp
   ·exact aA.out ⟨4,g1,c1,v1⟩ _ (fun _ _=>rfl) ⟨Z_ rfl,dJ.stores (by rw [hD];decide) (by decide) (by decide) (by decide),⟨H1.line wu Gd ⟨BK,BJ⟩ OU,BK,by rw [o_];exact BJ,OU⟩⟩
 ·intro D x w hd hw
  obtain ⟨gT,g1,c1,v1⟩:=x
  have jH:gT=4:=by
   have e1:=hw.fl.fs
   rw [hd 10 (by decide)] at e1
   have:=of_decide_eq_true e1.symm
   have:=hw.le
   simp only at *
   omega
  subst jH
  have:=hQ w v1 c1 (.pointer (some ⟨X.hb,0,none⟩)) (.pointer (some ⟨X.hb,0,none⟩)) (.pointer (some ⟨X.hb,0,none⟩)) (.pointer (some ⟨X.hb,3,none⟩)) (vl) (.chan (some c1)) (.slice (some ⟨g1,0,none⟩) 1 1) (v1) (.pointer (some ⟨X.hb,0,none⟩)) (.pointer (some ⟨X.hb,3,none⟩)) hw.at_
  generalize bc:slotsOf _ bs (wF X vl vo ⟨4,g1,c1,v1⟩)=sl
  have eS:sl=#[z0,z1,z2,z3,z4,z5,z6,.pointer (some ⟨X.hv,0,none⟩),z8,z9,dB,cZ,z12,de,dn,dm,dk,dj,dA,dz,z20,z21,z22,z23,z24,z25,z26,dD,z28,dC,dM,z31,dQ,dK,dP,dO,dV,z37,ey,ew,.pointer (some ⟨X.hb,0,none⟩),.pointer (some ⟨X.hb,0,none⟩),.pointer (some ⟨X.hb,0,none⟩),.pointer (some ⟨X.hb,3,none⟩),vl,.chan (some c1),.slice (some ⟨g1,0,none⟩) 1 1,v1,.pointer (some ⟨X.hb,0,none⟩),.pointer (some ⟨X.hb,3,none⟩),en,z51,iu,z53,iF,iE,iD,iC,iB,z59,nv,nu,np,nk,sW,sV,rH,rG,rF,uu,z70,yb,z72]:=by rw [<-bc,<-cn];kernel_rfl
  rw [eS]
  exact this
def zT (X:Bb) (vl vo:M') (g9 cq z9:Nat) (H9:Array Obj) (x:Ry):Nat->M'
 |0=>.pointer (some ⟨X.hb,0,none⟩)
 |1=>.pointer (some ⟨X.hb,0,none⟩)
 |2=>.pointer (some ⟨X.hb,0,none⟩)
 |3=>.pointer (some ⟨X.hb,6,none⟩)
 |4=>vo
 |5=>.chan (some cq)
 |6=>.slice (some ⟨x.g,0,none⟩) 1 1
 |7=>x.v
 |8=>.pointer (some ⟨X.hb,0,none⟩)
 |9=>.pointer (some ⟨X.hb,6,none⟩)
 |_=>I'
def aDd (W0:J') (X:Bb) (ls qs:List Nat) (vl vo:M') (g9 cq z9:Nat) (H9:Array Obj) (x:Ry) (w:J'):Prop:=
 match x.ph with
 |0=>jz W0 X ls qs vl vo w/\w.heap[g9]?=some (.cells #[.chan (some cq)] 109 (0,0))/\z9<=w.heap.size/\(∀k,k<z9->some k≠vo.ownBlock->k≠X.hb->w.heap[k]?=H9[k]?)
 |1=>jz W0 X ls qs vl vo w/\w.heap[g9]?=some (.cells #[.chan (some cq)] 109 (0,0))/\z9<=w.heap.size/\(∀k,k<z9->some k≠vo.ownBlock->k≠X.hb->w.heap[k]?=H9[k]?)
 |2=>jz W0 X ls qs vl vo w/\w.heap[g9]?=some (.cells #[.chan (some cq)] 109 (0,0))/\z9<=w.heap.size/\(∀k,k<z9->some k≠vo.ownBlock->k≠X.hb->w.heap[k]?=H9[k]?)/\w.heap[x.g]?=some (.cells #[.chan (some cq)] 109 (0,0))
 |3=>(∃w1,jz W0 X ls qs vl vo w1/\gD w1 w vo.ownBlock/\w.ownsRow W0.heap.size 109 1 x.v (qs.length+1) (gB qs++[.chan (some cq)]))/\w.heap[g9]?=some (.cells #[.chan (some cq)] 109 (0,0))/\z9<=w.heap.size/\(∀k,k<z9->some k≠vo.ownBlock->k≠X.hb->w.heap[k]?=H9[k]?)/\(x.v.ownBlock=vo.ownBlock\/∃g,x.v.ownBlock=some g/\z9<=g)
 |_=>jz W0 X ls (qs++[cq]) vl x.v w/\w.heap[g9]?=some (.cells #[.chan (some cq)] 109 (0,0))/\z9<=w.heap.size/\(∀k,k<z9->some k≠vo.ownBlock->k≠X.hb->w.heap[k]?=H9[k]?)/\(x.v.ownBlock=vo.ownBlock\/∃g,x.v.ownBlock=some g/\z9<=g)
structure aDb (W0:J') (X:Bb) (ls qs:List Nat) (vl vo:M') (g9 cq z9:Nat) (H9:Array Obj) (D:Array Bool) (x:Ry) (w:J'):Prop where
 le:x.ph<=4
 fl:Fl 5 6 7 10 [] [4,6] D x.ph
 at_:aDd W0 X ls qs vl vo g9 cq z9 H9 x w
theorem Tk (h:jz W0 X ls qs vl vo w) (hn:qs.length<=1000) {g9 cq z9:Nat} {H9:Array Obj} (hz9:z9<=w.heap.size) (hf9:∀k,k<z9->some k≠vo.ownBlock->k≠X.hb->w.heap[k]?=H9[k]?) (h9:w.heap[g9]?=some (.cells #[.chan (some cq)] 109 (0,0))) (Ud:∀w1:J',jz W0 X ls qs vl vo w1->w1.heap[g9]?=some (.cells #[.chan (some cq)] 109 (0,0))->some g9≠vo.ownBlock) {z12 z20 z21 z22 z23 z24 z25 z26 z28 z31 z37 z40 z46 z49 z51 z53 z59 z70 z72:M'}
 (hQ:∀w' v' (c':Nat) (u56 u57 u58 u59 u60 u61 u62 u63 u64 u65:M'),jz W0 X ls (qs++[cq]) vl v' w'/\w'.heap[g9]?=some (.cells #[.chan (some cq)] 109 (0,0))/\z9<=w'.heap.size/\(∀k,k<z9->some k≠vo.ownBlock->k≠X.hb->w'.heap[k]?=H9[k]?)/\(v'.ownBlock=vo.ownBlock\/∃g,v'.ownBlock=some g/\z9<=g)->Q .normal ⟨#[z0,z1,z2,z3,z4,z5,z6,.pointer (some ⟨X.hv,0,none⟩),z8,.pointer (some ⟨g9,0,none⟩),dB,cZ,z12,de,dn,dm,dk,dj,dA,dz,z20,z21,z22,z23,z24,z25,z26,dD,z28,dC,dM,z31,dQ,dK,dP,dO,dV,z37,ey,ew,z40,eu,eK,eJ,eI,eH,z46,eQ,eN,z49,en,z51,iu,z53,iF,iE,u56,u57,u58,u59,u60,u61,u62,u63,u64,u65,rH,rG,rF,uu,z70,yb,z72],[]⟩ w'):
 Code.wp p_ R18 Q ⟨#[z0,z1,z2,z3,z4,z5,z6,.pointer (some ⟨X.hv,0,none⟩),z8,.pointer (some ⟨g9,0,none⟩),dB,cZ,z12,de,dn,dm,dk,dj,dA,dz,z20,z21,z22,z23,z24,z25,z26,dD,z28,dC,dM,z31,dQ,dK,dP,dO,dV,z37,ey,ew,z40,eu,eK,eJ,eI,eH,z46,eQ,eN,z49,en,z51,iu,z53,iF,iE,iD,iC,iB,z59,nv,nu,np,nk,sW,sV,rH,rG,rF,uu,z70,yb,z72],[]⟩ w:=by
 refine wpN 73 fun bs cn oq HI=> ?_
 simp only [R18,Se,oI,ai,az,bz,f45,A_]
 refine mA (by kernel_rfl) (kP:=⟨0,0,0,I'⟩) (base:=bs) (by rw [oq];kernel_rfl) (by kernel_rfl) (fun x=>zT X vl vo g9 cq z9 H9 x) (aDb W0 X ls qs vl vo g9 cq z9 H9)
  ⟨nz _,⟨rfl,rfl,rfl,rfl,fun h0=>absurd h0 (Nat.not_succ_le_zero _),fun h0=>absurd h0 (Nat.not_succ_le_zero _)⟩, ?_⟩ ?_ ?_
 ·exact ⟨h.drew,h9,hz9,hf9⟩
 ·intro i o' ho D x w a hD bc hw bH aD K k
  have hlt:i<11:=(cI ho)
  have dJ:=hw.fl
  have Gl:=bT oq
  have aA:=aa k
  clear k
  obtain rfl|rfl|rfl|rfl|rfl|rfl|rfl|rfl|rfl|rfl|rfl:i=0\/i=1\/i=2\/i=3\/i=4\/i=5\/i=6\/i=7\/i=8\/i=9\/i=10:=by omega
  all_goals obtain rfl:=so ho rfl
  ·obtain ⟨v7,w7⟩:=bc.oo (.pointer (some ⟨X.hv,0,none⟩)) 7
   clear aD ho
   refine bj (v:=.pointer (some ⟨X.hb,0,none⟩)) (w':=w) rfl rfl ?_ (aA.out x w (fun _ _=>rfl) ⟨hw.le,dJ.keep,hw.at_⟩)
   have UQ:w.cell? ⟨X.hv,0,none⟩=some (.pointer (some ⟨X.hb,0,none⟩)):=by
    obtain ⟨gT,g1,c1,v1⟩:=x
    have hle:=hw.le
    simp only at hle
    obtain rfl|rfl|rfl|rfl|rfl:gT=0\/gT=1\/gT=2\/gT=3\/gT=4:=by omega
    ·exact hw.at_.1.cells.1
    ·exact hw.at_.1.cells.1
    ·exact hw.at_.1.cells.1
    ·obtain ⟨⟨w1,H1,wu,_⟩,_⟩:=hw.at_
     exact (J_ (wu.block X.hv (cI H1.hv) (fD H1.ops H1.hv (by decide)))).trans H1.cells.1
    ·exact hw.at_.1.cells.1
   clear bc hw aA bH
   go_simp
  ·obtain ⟨v7,w7⟩:=bc.oo (.pointer (some ⟨X.hv,0,none⟩)) 7
   clear aD ho
   refine bj (v:=.pointer (some ⟨X.hb,0,none⟩)) (w':=w) rfl rfl ?_ (aA.out x w (fun _ _=>rfl) ⟨hw.le,dJ.keep,hw.at_⟩)
   have UQ:w.cell? ⟨X.hv,0,none⟩=some (.pointer (some ⟨X.hb,0,none⟩)):=by
    obtain ⟨gT,g1,c1,v1⟩:=x
    have hle:=hw.le
    simp only at hle
    obtain rfl|rfl|rfl|rfl|rfl:gT=0\/gT=1\/gT=2\/gT=3\/gT=4:=by omega
    ·exact hw.at_.1.cells.1
    ·exact hw.at_.1.cells.1
    ·exact hw.at_.1.cells.1
    ·obtain ⟨⟨w1,H1,wu,_⟩,_⟩:=hw.at_
     exact (J_ (wu.block X.hv (cI H1.hv) (fD H1.ops H1.hv (by decide)))).trans H1.cells.1
    ·exact hw.at_.1.cells.1
   clear bc hw aA bH
   go_simp
  ·have d1:=dq aD 1
   obtain ⟨Kx,XK⟩:=bc.vv (.pointer (some ⟨X.hb,0,none⟩)) 57 1 d1
   clear aD ho
   refine bj (v:=.pointer (some ⟨X.hb,0,none⟩)) (w':=w) rfl rfl ?_ (aA.out x w (fun _ _=>rfl) ⟨hw.le,dJ.keep,hw.at_⟩)
   clear bc hw aA bH
   go_simp
  ·have d2:=dq aD 2
   obtain ⟨v58,V8⟩:=bc.vv (.pointer (some ⟨X.hb,0,none⟩)) 58 2 d2
   clear aD ho
   refine bj (v:=.pointer (some ⟨X.hb,6,none⟩)) (w':=w) rfl rfl ?_ (aA.out x w (fun _ _=>rfl) ⟨hw.le,dJ.keep,hw.at_⟩)
   clear bc hw aA bH
   go_simp
  ·have d3:=dq aD 3
   obtain ⟨v59,w59⟩:=bc.vv (.pointer (some ⟨X.hb,6,none⟩)) 59 3 d3
   clear aD ho
   refine bj (v:=vo) (w':=w) rfl rfl ?_ (aA.out x w (fun _ _=>rfl) ⟨hw.le,dJ.keep,hw.at_⟩)
   have hB:jz W0 X ls qs vl vo w:=by
    obtain ⟨gT,g1,c1,v1⟩:=x
    have hle:gT<=2:=by
     refine Classical.byContradiction fun hx=> ?_
     have:=dJ.pa (by simp only;omega) 4 (by simp)
     rw [bH] at this;cases this
    obtain rfl|rfl|rfl:gT=0\/gT=1\/gT=2:=by omega
    ·exact hw.at_.1
    ·exact hw.at_.1
    ·exact hw.at_.1
   have hl3:=hB.cells.2.2.1
   clear bc hw aA bH
   go_simp
  ·obtain ⟨v9,w9⟩:=bc.oo (.pointer (some ⟨g9,0,none⟩)) 9
   clear aD ho
   have jH:x.ph=0:=by
    have e2:=dJ.fc
    rw [bH] at e2
    have:=of_decide_eq_false e2.symm
    omega
   obtain ⟨gT,g1,c1,v1⟩:=x
   simp only at jH
   subst jH
   have fH:=hw.at_
   have h9:w.cell? ⟨g9,0,none⟩=some (.chan (some cq)):=by rw [aB fH.2.1];rfl
   refine bj (v:=.chan (some cq)) (w':=w) rfl rfl ?_ ?_
   ·clear bc hw aA bH fH
    go_simp
   ·exact aA.out ⟨1,g1,c1,v1⟩ _ (fun _ _=>rfl) ⟨Z_ rfl,dJ.calls (by rw [hD];decide) (by decide) (by decide) (by decide) (by intro j hj;simp at hj),fH⟩
  ·have d5:=dq aD 5
   obtain ⟨v61,w61⟩:=bc.vv (.chan (some cq)) 61 5 d5
   clear aD ho
   have jH:x.ph=1:=by
    have e1:=dJ.fc
    have e2:=dJ.fb
    rw [d5] at e1
    rw [bH] at e2
    have:=of_decide_eq_true e1.symm
    have:=of_decide_eq_false e2.symm
    omega
   obtain ⟨gT,g1,c1,v1⟩:=x
   simp only at jH
   subst jH
   have fH:=hw.at_
   refine bj (v:=.slice (some ⟨w.heap.size,0,none⟩) 1 1) (w':=w.alloc (.cells #[.chan (some cq)] 109)) rfl rfl ?_ ?_
   ·clear bc hw aA bH fH
    go_simp
   ·exact aA.out ⟨2,w.heap.size,c1,v1⟩ _ (fun j hj=>by
     have hne:j≠6:=fun e=>by rw [e,bH] at hj;cases hj
     unfold zT;split<;>first|rfl|exact absurd rfl hne) ⟨Z_ rfl,dJ.builds (by rw [hD];decide) (by decide) (by decide) (by decide),⟨fH.1.alloc _,((dI.refl w).alloc _).blk _ _ fH.2.1,by rw [B_];have:=fH.2.2.1;omega,fun k h1 h2 h3=>((gD.alloc w _ none).block k (E_ h1 fH.2.2.1) (by simp)).trans (fH.2.2.2 k h1 h2 h3),Z' w _⟩⟩
  ·have d4:=dq aD 4
   have d6:=dq aD 6
   obtain ⟨v60,w60⟩:=bc.vv vo 60 4 d4
   obtain ⟨v62,w62⟩:=bc.vv (.slice (some ⟨x.g,0,none⟩) 1 1) 62 6 d6
   clear aD ho
   have jH:x.ph=2:=by
    have e1:=dJ.fb
    have e2:=dJ.fa
    rw [d6] at e1
    rw [bH] at e2
    have:=of_decide_eq_true e1.symm
    have:=of_decide_eq_false e2.symm
    omega
   obtain ⟨gT,g1,c1,v1⟩:=x
   simp only at jH
   subst jH
   obtain ⟨H1,BK,rm,Mh,BI⟩:=hw.at_
   obtain ⟨i9,A5,nR,nQ,nP⟩:=info_parts MW
   obtain ⟨g,cap,w6,hr,yI,pZ,iP,mR⟩:=run_append_lies (P:=p_) w 73 73 W0.heap.size 109 i9 _ 1 8 Tryz.underlying73 A5 nR nQ nP rfl (by decide) vo qs.length _ H1.ops ⟨g1,0,none⟩ 1 1 [.chan (some cq)] rfl (World.news_of_block (w:=w) BI) (by intro u hu;simp at hu;subst hu;rfl) (by decide) (by unfold maxLen;omega) (by omega) H1.old.size _ rfl
   refine bj (v:=.slice (some ⟨g,0,none⟩) (qs.length+1) cap) (w':=w6) rfl rfl ?_ ?_
   ·clear bc hw aA bH
    simp only [List.getElem_toArray,List.getElem_cons_succ,List.getElem_cons_zero,execOp,resolve,invoke,builtin,Sem.run_bind,Sem.run_pure,Result.andThen_ok,List.map_toArray,S_,List.map_nil,v60,v62,hr]
   ·have NB:gD w w6 vo.ownBlock:=⟨pZ.os,pZ.output,pZ.size,pZ.block⟩
    exact aA.out ⟨3,g1,c1,.slice (some ⟨g,0,none⟩) (qs.length+1) cap⟩ w6 (fun j hj=>by
     have hne:j≠7:=fun e=>by rw [e,bH] at hj;cases hj
     unfold zT;split<;>first|rfl|exact absurd rfl hne) ⟨Z_ rfl,dJ.apps (by rw [hD];decide) (by decide) (by decide) (by decide) (by intro j hj;simp at hj;rcases hj with rfl|rfl<;>assumption),⟨⟨w,H1,NB,yI⟩,by rw [NB.block g9 (cI BK) (fun e=>Ud w H1 BK e)];exact BK,D_ rm pZ.size,(fun k h1 h2 h3=>(NB.block k (E_ h1 rm) h2).trans (Mh k h1 h2 h3)),iP.imp (fun e=>e.symm) (fun e=>⟨g,rfl,by omega⟩)⟩⟩
  ·have d0:=dq aD 0
   obtain ⟨v56,XL⟩:=bc.vv (.pointer (some ⟨X.hb,0,none⟩)) 56 0 d0
   clear aD ho
   refine bj (v:=.pointer (some ⟨X.hb,0,none⟩)) (w':=w) rfl rfl ?_ (aA.out x w (fun _ _=>rfl) ⟨hw.le,dJ.keep,hw.at_⟩)
   clear bc hw aA bH
   go_simp
  ·have d8:=dq aD 8
   obtain ⟨v64,w64⟩:=bc.vv (.pointer (some ⟨X.hb,0,none⟩)) 64 8 d8
   clear aD ho
   refine bj (v:=.pointer (some ⟨X.hb,6,none⟩)) (w':=w) rfl rfl ?_ (aA.out x w (fun _ _=>rfl) ⟨hw.le,dJ.keep,hw.at_⟩)
   clear bc hw aA bH
   go_simp
  ·have d9:=dq aD 9
   have d7:=dq aD 7
   obtain ⟨v65,w65⟩:=bc.vv (.pointer (some ⟨X.hb,6,none⟩)) 65 9 d9
   obtain ⟨v63,w63⟩:=bc.vv (x.v) 63 7 d7
   clear aD ho
   have jH:x.ph=3:=by
    have e1:=dJ.fa
    have e2:=dJ.fs
    rw [d7] at e1
    rw [bH] at e2
    have:=of_decide_eq_true e1.symm
    have:=of_decide_eq_false e2.symm
    omega
   obtain ⟨gT,g1,c1,v1⟩:=x
   simp only at jH
   subst jH
   obtain ⟨⟨w1,H1,wu,Gd⟩,BK,rm,Mh,AP⟩:=hw.at_
   have fz:∀g,vo.ownBlock=some g->W0.heap.size<=g/\g<w1.heap.size:=fun g e=>H1.ops.lt g e
   have sD:w.heap[X.hb]?=w1.heap[X.hb]?:=wu.block X.hb (cI H1.box) (fD H1.ops H1.box (by decide))
   have c7:w.cell? ⟨X.hb,6,none⟩=some vo:=(J_ sD).trans H1.cells.2.2.1
   have z7:w.frozen? ⟨X.hb,6,none⟩=false:=(m_ sD).trans H1.cells.2.2.2.2
   obtain ⟨a5,q5,zA⟩:=aE Gd
   refine gQ (w':=w.setCell ⟨X.hb,6,none⟩ v1) rfl rfl ?_ ?_
   ·clear bc hw aA bH fz sD
    simp only at w63 zA
    rw [zA] at w63
    rw [zA]
    go_simp
   ·exact aA.out ⟨4,g1,c1,v1⟩ _ (fun _ _=>rfl) ⟨Z_ rfl,dJ.stores (by rw [hD];decide) (by decide) (by decide) (by decide),⟨H1.oper wu Gd,by rw [a_ w ⟨X.hb,6,none⟩ g9 v1 (fun e=>by rw [show g9=X.hb from e,sD,H1.box] at BK;simp at BK)];exact BK,by rw [o_];exact rm,(fun k h1 h2 h3=>(a_ w ⟨X.hb,6,none⟩ k v1 h3).trans (Mh k h1 h2 h3)),AP⟩⟩
 ·intro D x w hd hw
  obtain ⟨gT,g1,c1,v1⟩:=x
  have jH:gT=4:=by
   have e1:=hw.fl.fs
   rw [hd 10 (by decide)] at e1
   have:=of_decide_eq_true e1.symm
   have:=hw.le
   simp only at *
   omega
  subst jH
  have:=hQ w v1 c1 (.pointer (some ⟨X.hb,0,none⟩)) (.pointer (some ⟨X.hb,0,none⟩)) (.pointer (some ⟨X.hb,0,none⟩)) (.pointer (some ⟨X.hb,6,none⟩)) (vo) (.chan (some cq)) (.slice (some ⟨g1,0,none⟩) 1 1) (v1) (.pointer (some ⟨X.hb,0,none⟩)) (.pointer (some ⟨X.hb,6,none⟩)) hw.at_
  generalize bc:slotsOf _ bs (zT X vl vo g9 cq z9 H9 ⟨4,g1,c1,v1⟩)=sl
  have eS:sl=#[z0,z1,z2,z3,z4,z5,z6,.pointer (some ⟨X.hv,0,none⟩),z8,.pointer (some ⟨g9,0,none⟩),dB,cZ,z12,de,dn,dm,dk,dj,dA,dz,z20,z21,z22,z23,z24,z25,z26,dD,z28,dC,dM,z31,dQ,dK,dP,dO,dV,z37,ey,ew,z40,eu,eK,eJ,eI,eH,z46,eQ,eN,z49,en,z51,iu,z53,iF,iE,.pointer (some ⟨X.hb,0,none⟩),.pointer (some ⟨X.hb,0,none⟩),.pointer (some ⟨X.hb,0,none⟩),.pointer (some ⟨X.hb,6,none⟩),vo,.chan (some cq),.slice (some ⟨g1,0,none⟩) 1 1,v1,.pointer (some ⟨X.hb,0,none⟩),.pointer (some ⟨X.hb,6,none⟩),rH,rG,rF,uu,z70,yb,z72]:=by rw [<-bc,<-cn];kernel_rfl
  rw [eS]
  exact this
theorem Ij {W:J'} (h1:X.m1=W.heap.size) (h2:X.m2=W.heap.size+1) (h3:X.m3=W.heap.size+2) (h4:X.hb=W.heap.size+3) (h5:X.hv=W.heap.size+4) (hw:w=((((W.alloc (.map #[] 0)).alloc (.map #[] 0)).alloc (.map #[] 0)).alloc (.cells (pD X (.slice none 0 0) (.slice none 0 0)) 77)).alloc (.cells #[.pointer (some ⟨X.hb,0,none⟩)] 68)):jz W X [] [] (.slice none 0 0) (.slice none 0 0) w:=by
 have s1:(W.alloc (.map #[] 0)).heap.size=W.heap.size+1:=by simp
 have s2:((W.alloc (.map #[] 0)).alloc (.map #[] 0)).heap.size=W.heap.size+2:=by simp
 have s3:(((W.alloc (.map #[] 0)).alloc (.map #[] 0)).alloc (.map #[] 0)).heap.size=W.heap.size+3:=by simp
 have s4:((((W.alloc (.map #[] 0)).alloc (.map #[] 0)).alloc (.map #[] 0)).alloc (.cells (pD X (.slice none 0 0) (.slice none 0 0)) 77)).heap.size=W.heap.size+4:=by simp
 have n1:=Z' W (.map #[] 0)
 have n2:=Z' (W.alloc (.map #[] 0)) (.map #[] 0)
 have n3:=Z' ((W.alloc (.map #[] 0)).alloc (.map #[] 0)) (.map #[] 0)
 have n4:=Z' (((W.alloc (.map #[] 0)).alloc (.map #[] 0)).alloc (.map #[] 0)) (.cells (pD X (.slice none 0 0) (.slice none 0 0)) 77)
 have n5:=Z' ((((W.alloc (.map #[] 0)).alloc (.map #[] 0)).alloc (.map #[] 0)).alloc (.cells (pD X (.slice none 0 0) (.slice none 0 0)) 77)) (.cells #[.pointer (some ⟨X.hb,0,none⟩)] 68)
 rw [s1] at n2
 rw [s2] at n3
 rw [s3] at n4
 rw [s4] at n5
 have k:∀(w:J') (o:Obj) (r:Nat) (ob:Obj),w.heap[r]?=some ob->(w.alloc o).heap[r]?=some ob:=fun w o r ob h=>((dI.refl w).alloc o).blk r ob h
 have G:gD W w none:=by rw [hw];exact ((((gD.alloc _ _ _).trans (gD.alloc _ _ _)).trans (gD.alloc _ _ _)).trans (gD.alloc _ _ _)).trans (gD.alloc _ _ _)
 refine ⟨G,⟨by omega,by omega,by omega,by omega,by omega⟩, ?_, ?_,⟨?_, ?_, ?_⟩,⟨by omega,by omega,by omega⟩,World.ownsRow_nil _ _ _ _,World.ownsRow_nil _ _ _ _,List.nodup_nil,fun x hx=>by cases hx⟩
 ·rw [h4,hw];exact k _ _ _ _ n4
 ·rw [h5,hw];exact n5
 ·rw [h1,hw];exact k _ _ _ _ (k _ _ _ _ (k _ _ _ _ (k _ _ _ _ n1)))
 ·rw [h2,hw];exact k _ _ _ _ (k _ _ _ _ (k _ _ _ _ n2))
 ·rw [h3,hw];exact k _ _ _ _ (k _ _ _ _ n3)
theorem jz.j8 {T:Nat->Question->Nat} {d:Nat} (B:jz (W0.re T d) X ls qs vl vo w):jz W0 X ls qs vl vo w:=⟨⟨B.old.os,B.old.output,B.old.size,B.old.block⟩,B.low,B.box,B.hv,B.mp,B.LV,B.lines,B.ops,B.nd,B.lt⟩
theorem Jk (hL:Lay C wl) (x1:wl.heap[g1]?=some (.cells #[.int .i64 L,.int .i64 O,.int .i64 P] 28 (0,0))) (l0:1<=L) (l1:L<=6) {z12 z20 z21 z22 z23 z24 z25 z26 z28:M'}
 (hc:∀aK X ls vl bw (z6 dB cZ z12 de dn dm dk dj dA dz z20 z21 z22 z23 z24 z25 z26 dD z28 dC dM z31 dQ dK dP dO dV z37 ey ew z40 eu eK eJ eI eH z46 eQ eN z49 en:M'),X.L=L->X.O=O->X.P=P->Lay C aK->jz wl X ls [] vl (.slice none 0 0) aK->(ls.length:Int)=L->aK.heap[bw]?=some (.cells #[.int .u64 0,.int .u32 0] 108 (0,0))->wl.heap.size<=bw->bw+1=aK.heap.size->Can p_ C b o Post 0 (db Bd) aK (G ((base 45).at ⟨#[.agg #[.int .i64 L,.int .i64 O,.int .i64 P],.slice ea rs.length ec,.pointer (some ⟨g1,0,none⟩),.pointer (some ⟨g2,0,none⟩),.pointer none,I',z6,.pointer (some ⟨X.hv,0,none⟩),.pointer (some ⟨bw,0,none⟩),I',dB,cZ,z12,de,dn,dm,dk,dj,dA,dz,z20,z21,z22,z23,z24,z25,z26,dD,z28,dC,dM,z31,dQ,dK,dP,dO,dV,z37,ey,ew,z40,eu,eK,eJ,eI,eH,z46,eQ,eN,z49,en,I',I',I',I',I',I',I',I',I',I',I',I',I',I',I',I',I',I',I',I',I',I'],[]⟩ [.code (az 6 bz)]) (aI.at aS (.inRegion av (aN::ak)::aV)::cs))):
 Can p_ C b o Post 0 (db Bd) wl (G ((base 45).at ⟨#[.agg #[.int .i64 L,.int .i64 O,.int .i64 P],.slice ea rs.length ec,.pointer (some ⟨g1,0,none⟩),.pointer (some ⟨g2,0,none⟩),.pointer none,I',z6,I',I',I',dB,cZ,z12,de,dn,dm,dk,dj,dA,dz,z20,z21,z22,z23,z24,z25,z26,dD,z28,dC,I',I',I',I',I',I',I',I',I',I',I',I',I',I',I',I',I',I',I',I',I',I',I',I',I',I',I',I',I',I',I',I',I',I',I',I',I',I',I',I',I',I',I'],[]⟩ [.code (az 3 bz)]) (aI.at aS (.inRegion av (aN::ak)::aV)::cs)):=by
 have hS:=cT Bd
 have e1:az 3 bz=.seq (ai 3 bz) (.seq (ai 4 bz) (.seq (ai 5 bz) (az 6 bz))):=by kernel_rfl
 rw [e1]
 refine hS.s hL ?_
 refine Can.cY pA hS hL (aF (by kernel_rfl) rfl rfl ⟨_,func45⟩) ?_
 intro T d W hW Bh hB
 have ir:=aa hc
 have qK:=aa hL
 have y1:W.heap[g1]?=some (.cells #[.int .i64 L,.int .i64 O,.int .i64 P] 28 (0,0)):=by rw [hW.out];exact x1
 have c1:W.cell? ⟨g1,0,none⟩=some (.int .i64 L):=by rw [aB y1];rfl
 have c2:W.cell? ⟨g1,1,none⟩=some (.int .i64 O):=by rw [aB y1];rfl
 have c3:W.cell? ⟨g1,2,none⟩=some (.int .i64 P):=by rw [aB y1];rfl
 have y1:=aa y1
 clear hc hL x1
 have q71:∀w:J',(Instr.makeMap 71 none).run p_ w=.ok (.map (some w.heap.size)) (w.alloc (.map #[] 0)):=fun w=>run_makeMap 71 w
 have q72:∀w:J',(Instr.makeMap 72 none).run p_ w=.ok (.map (some w.heap.size)) (w.alloc (.map #[] 0)):=fun w=>run_makeMap 72 w
 have q75:∀w:J',(Instr.makeMap 75 none).run p_ w=.ok (.map (some w.heap.size)) (w.alloc (.map #[] 0)):=fun w=>run_makeMap 75 w
 simp only [ai,bz,f45,A_]
 go_wp2_with fail
 have hB:=hB.out
 subst hB
 intro hcut
 obtain ⟨X,hX⟩:∃X:Bb,X=⟨W.heap.size+3,W.heap.size+4,W.heap.size,W.heap.size+1,W.heap.size+2,L,O,P⟩:=⟨_,rfl⟩
 have b1:jz W X [] [] (.slice none 0 0) (.slice none 0 0) (((((W.alloc (.map #[] 0)).alloc (.map #[] 0)).alloc (.map #[] 0)).alloc (.cells #[.int .i64 L,.int .i64 O,.int .i64 P,.slice none 0 0,.map (some W.heap.size),.map (some (W.heap.size+1)),.slice none 0 0,.slice none 0 0,.slice none 0 0,.slice none 0 0,.map (some (W.heap.size+1+1)),.int .i64 0,.slice none 0 0,.slice none 0 0] 77)).alloc (.cells #[.pointer (some ⟨W.heap.size+1+1+1,0,none⟩)] 68)):=
  Ij (by rw [hX]) (by rw [hX]) (by rw [hX]) (by rw [hX]) (by rw [hX]) (by rw [hX];rfl)
 have b1:=jz.j8 (T:=T) (d:=d) (by rw [<-hW.out];exact b1)
 have ehv:W.heap.size+1+1+1+1=X.hv:=by rw [hX]
 have eL:X.L=L:=by rw [hX]
 have eO:X.O=O:=by rw [hX]
 have eP:X.P=P:=by rw [hX]
 rw [ehv]
 generalize ((((W.alloc (.map #[] 0)).alloc (.map #[] 0)).alloc (.map #[] 0)).alloc (.cells #[.int .i64 L,.int .i64 O,.int .i64 P,.slice none 0 0,.map (some W.heap.size),.map (some (W.heap.size+1)),.slice none 0 0,.slice none 0 0,.slice none 0 0,.slice none 0 0,.map (some (W.heap.size+1+1)),.int .i64 0,.slice none 0 0,.slice none 0 0] 77)).alloc (.cells #[.pointer (some ⟨W.heap.size+1+1+1,0,none⟩)] 68)=w1 at *
 have nU:Lay C w1:=⟨hcut,qK.out.no⟩
 have gl:g1<wl.heap.size:=by
  have:=(cI y1.out)
  rw [hW.out] at this;exact this
 have XF:wl.heap[g1]?=some (.cells #[.int .i64 L,.int .i64 O,.int .i64 P] 28 (0,0)):=by
  have:=y1.out
  rw [hW.out] at this;exact this
 have XF:=aa XF
 generalize W.heap.size=zz at *
 clear hX ehv hcut q71 q72 q75 c1 c2 c3 y1 hW
 refine hS.s nU ?_
 refine Can.cY pA hS nU (aF (by kernel_rfl) rfl rfl ⟨_,func45⟩) ?_
 intro T' d' W hW Bh hB
 have b2:jz wl X [] [] (.slice none 0 0) (.slice none 0 0) W:=by rw [hW.out];exact b1.re T' d'
 have c1:W.cell? ⟨g1,0,none⟩=some (.int .i64 L):=by
  rw [J_ (b2.old.block g1 gl (by simp)),aB XF.out];rfl
 have b2:=aa b2
 clear b1 hW nU
 simp only [ai,bz,f45,A_]
 go_wp2_with fail
 clear c1
 go_loopw [38] (fun i wr=>∃k:Nat,∃ls vl,(k:Int)<=L/\i=.int .i64 k/\f_ (ls.length=k)/\f_ (jz wl X ls [] vl (.slice none 0 0) wr)) (fun i _=>L.toNat - (intOf i).toNat)
 case atStart=>exact ⟨0,[],_,by omega,rfl,aa rfl,b2⟩
 case round=>
  obtain ⟨k,ls,vl,hk,rfl,QU,Rz⟩:=hrel
  by_cases hlt:(k:Int)<L
  ·go_wp2_with fail
   refine Tl Rz.out (by rw [QU.out];omega) fun w' v' c' u40 u41 u42 u43 u44 u45 u46 u47 u48 u49 hB'=> ?_
   have jx:=aa hB'.1
   clear hB' Rz
   go_wp2_with fail
   go_roundw
   case rel=>exact ⟨k+1,_,_,by omega,by go_num,aa (by rw [K_,QU.out];rfl),jx⟩
   case measure=>simp [intOf];omega
  ·obtain rfl:L=(k:Int):=by omega
   have gJ:((k:Int)<(k:Int))=False:=by simp
   go_wp2_with fail
   have hB:=hB.out
   subst hB
   intro hcut
   have du:Lay C wr:=⟨hcut,qK.out.no⟩
   refine hS.s du ?_
   refine Can.cY pA hS du (aF (by kernel_rfl) rfl rfl ⟨_,func45⟩) ?_
   intro T3 d3 W3 Ix Bh hB
   have b3:f_ (jz wl X ls [] vl (.slice none 0 0) W3):=by rw [Ix.out];exact Rz.out.re T3 d3
   clear Rz hcut du Ix
   simp only [ai,bz,f45,A_]
   go_wp2_with fail
   have hB:=hB.out
   subst hB
   intro hcut
   exact ir.out _ X ls vl W3.heap.size _ _ _ _ _ _ _ _ _ _ _ _ _ _ _ _ _ _ _ _ _ _ _ _ _ _ _ _ _ _ _ _ _ _ _ _ _ _ _ _ _ _ eL eO eP ⟨hcut,qK.out.no⟩ (b3.out.alloc _) (by rw [QU.out]) (Z' W3 _) b3.out.old.size (by rw [B_])
theorem JP {oa:cS} {bw N:Nat} {cs:Array M'} {t:Q'} (hb:w.heap[bw]?=some (.cells cs t (0,0))) (hL:Lay oa w):Lay (oa.anew N (Mo bw 0) True ⟨bw,0,none⟩) (oH w bw #[] t):=by
 have hlt:=(cI hb)
 have sz:(oH w bw #[] t).heap.size=w.heap.size:=by simp [oH]
 have self:∀k,(oH w bw #[] t).cell? ⟨bw,k,none⟩=none:=fun k=>by
  unfold World.cell?
  simp only [HY (t:=t) (cs:=#[]) hlt]
  simp
 refine ⟨⟨fun b k hk=> ?_,fun b k hk=> ?_⟩,fun g r=>⟨fun h=>h,fun h=>h⟩⟩
 ·by_cases e:b=bw
  ·subst e;exact ⟨by omega,self k⟩
  ·have fS:bS oa b k:=by
    rcases hk with hk|hk|⟨g,hk⟩
    ·exfalso
     rcases hk.2 with h|h
     ·injection h with h;injection h with h;exact e h
     ·injection h with h;injection h with h;exact e h
    ·rcases hk with h|h
     ·exact .inr (.inl h)
     ·exact .inl h
    ·exact hk.elim
   obtain ⟨h1,h2⟩:=hL.cut.hid b k fS
   refine ⟨by omega, ?_⟩
   unfold World.cell? at h2 ⊢
   simp only [Bm e]
   exact h2
 ·obtain ⟨g,hk⟩:=hk
  exact hk.elim
theorem jz.turn (h:jz W0 X ls qs vl vo w) {r:Nat} (hs:∀k,k≠r->w'.heap[k]?=w.heap[k]?) (hz:w'.heap.size=w.heap.size) (ho:w'.os=w.os) (hu:w'.output=w.output) (hr:W0.heap.size<=r) {cs:Array M'} {t:Q'} (hb:w.heap[r]?=some (.cells cs t f)) (h1:t≠77) (h2:t≠68) (h3:t≠78) (h4:some r≠vo.ownBlock):jz W0 X ls qs vl vo w':=by
 have ne:∀(k:Nat) (ob:Obj),w.heap[k]?=some ob->(k=r->False)->w'.heap[k]?=some ob:=fun k ob hk hn=>by rw [hs k hn];exact hk
 have cne:∀(k:Nat) (cs':Array M') (t':Q') (f':Nat × Nat),w.heap[k]?=some (.cells cs' t' f')->t'≠t->k=r->False:=fun k cs' t' f' hk ht e=>by
  rw [e,hb] at hk;simp at hk;exact ht hk.2.1.symm
 have LV:∀(k:Nat) (ob:Obj),w.heap[k]?=some ob->aR ob=false->k=r->False:=fun k ob hk hc e=>by
  rw [e,hb] at hk
  simp only [n_] at hk
  rw [<-hk] at hc;simp [aR] at hc
 have own:∀{e n:Nat} {v:M'} {xs:List M'},w.ownsRow W0.heap.size e 1 v n xs->some r≠v.ownBlock->w'.ownsRow W0.heap.size e 1 v n xs:=fun {e n v xs} hh hv=>by
  refine ⟨hh.1, ?_⟩
  rcases hh.2 with h0|⟨g,cap,cur,h1,h2,h3,h4⟩
  ·exact .inl h0
  ·exact .inr ⟨g,cap,cur,h1,h2,ne g _ h3 (fun e=>hv (by rw [h1,<-e];rfl)),h4⟩
 obtain ⟨q1,q2,q3⟩:=h.mp
 exact ⟨⟨ho.trans h.old.os,hu.trans h.old.output,by rw [hz];exact h.old.size,fun k hk hn=>by rw [hs k (by omega)];exact h.old.block k hk hn⟩,h.low,ne _ _ h.box (cne _ _ _ _ h.box (Ne.symm h1)),ne _ _ h.hv (cne _ _ _ _ h.hv (Ne.symm h2)),⟨ne _ _ q1 (LV _ _ q1 rfl),ne _ _ q2 (LV _ _ q2 rfl),ne _ _ q3 (LV _ _ q3 rfl)⟩,h.LV,own h.lines (fD h.lines hb h3),own h.ops h4,h.nd,fun x hx=>⟨(h.lt x hx).1,by rw [hz];exact (h.lt x hx).2⟩⟩
theorem p9 (w:J') (r:Nat):∀k,k≠r->(w.freeze ⟨r,0,none⟩ 1).heap[k]?=w.heap[k]?:=fun k hk=>by
 unfold World.freeze
 split
 ·rfl
 ·simp only [Array.getElem?_modify];rw [if_neg (Ne.symm hk)]
theorem xL (w:J') (r:Nat):(w.freeze ⟨r,0,none⟩ 1).os=w.os/\(w.freeze ⟨r,0,none⟩ 1).output=w.output:=by
 unfold World.freeze;split<;>exact ⟨rfl,rfl⟩
structure LL (C:cS) (N0:Nat) (us:List Od) (L:Nat->Os) (vo:M') (W0 w:J'):Prop where
 live:∀i (hi:i<us.length),L (N0+i)=.live us[i]
 Ip:∀j v,j≠0->(L j).od=some v->∃i,i<us.length/\j=N0+i
 ap:Apart L
 fo:BB C L
 kM:∀i (hi:i<us.length),w.heap[us[i].x]?=some (.chan 0 #[] false 0 0 false)/\W0.heap.size<=us[i].x
 O5:∀i (hi:i<us.length),(∃f,w.heap[us[i].bt]?=some (.cells #[.chan (some us[i].x)] 109 f))/\W0.heap.size<=us[i].bt/\some us[i].bt≠vo.ownBlock
 kz:∀i (hi:i<us.length),us[i].k=0
theorem TM (w:J'):(Instr.makeChan 109 (.int .i64 0)).run p_ w=.ok (.chan (some w.heap.size)) (w.alloc (.chan 0 #[] false 0 0 false)):=by
 obtain ⟨i,hi⟩:∃i,Tryz.prog.info? 142=some i:=Option.isSome_iff_exists.1 (by kernel_rfl)
 exact run_makeChan (P:=p_) (w:=w) (t:=109) (e:=142) (dir:=.both) (by kernel_rfl) hi .i64 0 (by decide) (by simp)
variable {bw N0:Nat} {L:Nat->Os} {us:List Od}
theorem LL.go {SZ:M'} (K:LL C N0 us L vo W0 w) (hg:∀(r:Nat) (ob:Obj),w.heap[r]?=some ob->some r≠vo.ownBlock->w'.heap[r]?=some ob) (hv:∀i (hi:i<us.length),some us[i].bt≠SZ.ownBlock) (hc:∀i (hi:i<us.length),some us[i].x≠vo.ownBlock):LL C N0 us L SZ W0 w':=
 ⟨K.live,K.Ip,K.ap,K.fo,fun i hi=>⟨hg _ _ (K.kM i hi).1 (hc i hi),(K.kM i hi).2⟩,fun i hi=>by
  obtain ⟨⟨f,h1⟩,h2,h3⟩:=K.O5 i hi
  exact ⟨⟨f,hg _ _ h1 h3⟩,h2,hv i hi⟩,K.kz⟩
noncomputable def Yv:Array Oper:=match az 3 (match ai 2 oI with| .block _ c=>c|c=>c) with| .region _ ops _=>ops|_=>#[]
theorem P0 (o1:1<=O) (o4:O<=4) (hN0:0<N0) (Z7:N0<2000000000) (CV:bw<wl.heap.size->True)
 (hc:∀C' aK L' yW SZ (z0 z1 z4 z5 z6 z9 dB cZ z12 de dn dm dk dj dA dz z20 z21 z22 z23 z24 z25 z26 dD z28 dC dM z31 dQ dK dP dO dV z37 ey ew z40 eu eK eJ eI eH z46 eQ eN z49 en z51 iu z53 iF iE iD iC iB z59 nv nu np nk sW sV rH rG rF uu z70 yb z72:M'),(yW.length:Int)=O->Lay C' aK->jz W0 X ls (yW.map (·.x)) vl SZ aK->LL C' N0 yW L' SZ W0 aK->Can p_ C' bw 0 Post 0 (pI bw (N0+yW.length) L') aK (G ((base 45).at ⟨#[z0,z1,.pointer (some ⟨g1,0,none⟩),.pointer (some ⟨g2,0,none⟩),z4,z5,z6,.pointer (some ⟨X.hv,0,none⟩),.pointer (some ⟨bw,0,none⟩),z9,dB,cZ,z12,de,dn,dm,dk,dj,dA,dz,z20,z21,z22,z23,z24,z25,z26,dD,z28,dC,dM,z31,dQ,dK,dP,dO,dV,z37,ey,ew,z40,eu,eK,eJ,eI,eH,z46,eQ,eN,z49,en,z51,iu,z53,iF,iE,iD,iC,iB,z59,nv,nu,np,nk,sW,sV,rH,rG,rF,uu,z70,yb,z72],[]⟩ [.code (az 7 bz)]) (aI.at aS (.inRegion av (aN::ak)::aV)::cs))):
 ∀m i,O.toNat - i=m->(i:Int)<=O->∀(C:cS) (us:List Od) (L:Nat->Os) (wl:J') (z0 z1 z4 z5 z6 z9 dB cZ z12 de dn dm dk dj dA dz z20 z21 z22 z23 z24 z25 z26 dD z28 dC dM z31 dQ dK dP dO dV z37 ey ew z40 eu eK eJ eI eH z46 eQ eN z49 en z51 iF iE iD iC iB z59 nv nu np nk sW sV rH rG rF uu z70 yb z72 vo:M'),us.length=i->Lay C wl->jz W0 X ls (us.map (·.x)) vl vo wl->LL C N0 us L vo W0 wl->
 Can p_ C bw 0 Post 0 (pI bw (N0+i) L) wl (G ((base 45).at ⟨#[z0,z1,.pointer (some ⟨g1,0,none⟩),.pointer (some ⟨g2,0,none⟩),z4,z5,z6,.pointer (some ⟨X.hv,0,none⟩),.pointer (some ⟨bw,0,none⟩),z9,dB,cZ,z12,de,dn,dm,dk,dj,dA,dz,z20,z21,z22,z23,z24,z25,z26,dD,z28,dC,dM,z31,dQ,dK,dP,dO,dV,z37,ey,ew,z40,eu,eK,eJ,eI,eH,z46,eQ,eN,z49,en,z51,.int .i64 O,.int .i64 (i:Nat),iF,iE,iD,iC,iB,z59,nv,nu,np,nk,sW,sV,rH,rG,rF,uu,z70,yb,z72],[]⟩ [.code oI,.inLoop oI,.inBlock 4,.code (az 7 bz)]) (aI.at aS (.inRegion av (aN::ak)::aV)::cs)):=by
 intro m
 induction m with
 |zero=>
  intro i hm hi C us L wl z0 z1 z4 z5 z6 z9 dB cZ z12 de dn dm dk dj dA dz z20 z21 z22 z23 z24 z25 z26 dD z28 dC dM z31 dQ dK dP dO dV z37 ey ew z40 eu eK eJ eI eH z46 eQ eN z49 en z51 iF iE iD iC iB z59 nv nu np nk sW sV rH rG rF uu z70 yb z72 vo hlen hL hB K
  have hS:=iS bw (N0+i) L
  obtain rfl:O=(i:Int):=by omega
  have hlt:((i:Int)<(i:Int))=False:=by simp
  generalize hK:[Item.inLoop oI,.inBlock 4,.code (az 7 bz)]=K0
  simp only [oI,ai,az,bz,f45,A_]
  refine hS.steady.s hL ?_
  refine Can.ctl hS.steady hL rfl (fun _=>zb) ?_
  refine Can.op (ok:=il) hS.steady hL rfl rfl (by k_ne) (by kernel_rfl) (fun T d=>⟨.bool false,wl.re T d, ?_,fun _=>Can.re ?_ T d⟩)
  ·go_simp
  walk_nrm
  refine Can.ctl hS.steady hL rfl (fun _=>stepG_region_end) ?_
  refine hS.steady.s hL ?_
  refine Can.ctl hS.steady hL rfl (fun _=>stepG_cond rfl) ?_
  subst hK
  refine Can.ctl hS.steady hL rfl (fun _=>stepG_exit rfl) ?_
  subst hlen
  exact hc C wl L us vo _ _ _ _ _ _ _ _ _ _ _ _ _ _ _ _ _ _ _ _ _ _ _ _ _ _ _ _ _ _ _ _ _ _ _ _ _ _ _ _ _ _ _ _ _ _ _ _ _ _ _ _ _ _ _ _ _ _ _ _ _ _ _ _ _ _ _ _ _ rfl hL hB K
 |succ m ih=>
  intro i hm hi C us L wl z0 z1 z4 z5 z6 z9 dB cZ z12 de dn dm dk dj dA dz z20 z21 z22 z23 z24 z25 z26 dD z28 dC dM z31 dQ dK dP dO dV z37 ey ew z40 eu eK eJ eI eH z46 eQ eN z49 en z51 iF iE iD iC iB z59 nv nu np nk sW sV rH rG rF uu z70 yb z72 vo hlen hL hB K
  have hS:=iS bw (N0+i) L
  have hlt:(i:Int)<O:=by omega
  have oJ:IntKind.i64.wrap ((i:Int)+1)=((i+1:Nat):Int):=by rw [IntWalk.i64_in _ (by omega)];rfl
  generalize hK:[Item.inLoop oI,.inBlock 4,.code (az 7 bz)]=K0
  have e0:oI=.seq (ai 0 oI) (.seq (ai 1 oI) (.seq (.block 5 (.seq (ai 0 (match ai 2 oI with| .block _ c=>c|c=>c)) (.seq R18 (az 2 (match ai 2 oI with| .block _ c=>c|c=>c))))) (match az 2 oI with| .seq _ c=>c|c=>c))):=by kernel_rfl
  rw [e0]
  refine hS.steady.s hL ?_
  simp only [ai,oI,az,bz,f45,A_]
  refine Can.ctl hS.steady hL rfl (fun _=>zb) ?_
  refine Can.op (ok:=il) hS.steady hL rfl rfl (by k_ne) (by kernel_rfl) (fun T d=>⟨.bool true,wl.re T d, ?_,fun _=>Can.re ?_ T d⟩)
  ·go_simp
  walk_nrm
  refine Can.ctl hS.steady hL rfl (fun _=>stepG_region_end) ?_
  refine hS.steady.s hL ?_
  refine Can.ctl hS.steady hL rfl (fun _=>stepG_cond rfl) ?_
  refine Can.ctl hS.steady hL rfl (fun _=>stepG_skip) ?_
  refine hS.steady.s hL ?_
  refine Can.ctl hS.steady hL rfl (fun _=>stepG_block) ?_
  refine hS.steady.s hL ?_
  refine Can.cY pA hS.steady hL (aF (by kernel_rfl) rfl rfl ⟨_,func45⟩) ?_
  intro T d W hW Bh SH
  have b1:=aa (hB.re T d)
  have K1:f_ (LL C N0 us L vo W0 (wl.re T d)):=⟨K.live,K.Ip,K.ap,K.fo,K.kM,K.O5,K.kz⟩
  have qK:=aa hL
  have ir:=aa hc
  have TQ:=aa ih
  have e2:=hW.out
  rw [<-e2] at b1 K1
  clear hL hc ih hB K hW e2
  have Ng:=TM W
  go_wp2_with fail
  have hB:=SH.out
  subst hB
  intro hcut
  have Qz:(W.alloc (.chan 0 #[] false 0 0 false)).heap.size=W.heap.size+1:=by simp
  have n1:=((dI.refl _).alloc (.cells #[.chan (some W.heap.size)] 109)).blk _ _ (Z' W (.chan 0 #[] false 0 0 false))
  have n2:=Z' (W.alloc (.chan 0 #[] false 0 0 false)) (.cells #[.chan (some W.heap.size)] 109)
  rw [Qz] at n2
  have kW:dI W ((W.alloc (.chan 0 #[] false 0 0 false)).alloc (.cells #[.chan (some W.heap.size)] 109)):=((dI.refl W).alloc _).alloc _
  have b2:jz W0 X ls (us.map (·.x)) vl vo ((W.alloc (.chan 0 #[] false 0 0 false)).alloc (.cells #[.chan (some W.heap.size)] 109)):=(b1.out.alloc _).alloc _
  have du:Lay C ((W.alloc (.chan 0 #[] false 0 0 false)).alloc (.cells #[.chan (some W.heap.size)] 109)):=⟨hcut,qK.out.no⟩
  have yF:((W.alloc (.chan 0 #[] false 0 0 false)).alloc (.cells #[.chan (some W.heap.size)] 109)).heap.size=W.heap.size+2:=by simp
  have tX:W0.heap.size<=W.heap.size:=b1.out.old.size
  have Hm:f_ (∀j (hj:j<us.length),us[j].x<W.heap.size/\us[j].bt<W.heap.size):=aa fun j hj=>⟨(Array.getElem?_eq_some_iff.1 (K1.out.kM j hj).1).1,by obtain ⟨⟨f,h1⟩,_⟩:=K1.out.O5 j hj;exact (cI h1)⟩
  have YM:f_ (∀g,vo.ownBlock=some g->g<W.heap.size):=aa fun g e=>(b1.out.ops.lt g e).2
  have YG:f_ (∀j (hj:j<us.length),some us[j].x≠vo.ownBlock):=aa fun j hj=>nF b1.out.ops (K1.out.kM j hj).1 rfl
  have K2:LL C N0 us L vo W0 ((W.alloc (.chan 0 #[] false 0 0 false)).alloc (.cells #[.chan (some W.heap.size)] 109)):=K1.out.go (fun r ob hr _=>kW.blk r ob hr) (fun j hj=>(K1.out.O5 j hj).2.2) YG.out
  generalize wh:(W.alloc (.chan 0 #[] false 0 0 false)).alloc (.cells #[.chan (some W.heap.size)] 109)=w2 at *
  clear wh Qz kW b1 K1 hcut Ng
  generalize W.heap.size=xx at *
  refine hS.steady.s du ?_
  refine Can.cY pA hS.steady du (aF (by kernel_rfl) rfl rfl ⟨_,func45⟩) ?_
  intro T3 d3 W3 Ix Bh SH
  have b3:jz W0 X ls (us.map (·.x)) vl vo W3:=by rw [Ix.out];exact b2.re T3 d3
  have n3:W3.heap[xx+1]?=some (.cells #[.chan (some xx)] 109 (0,0)):=by rw [Ix.out];exact n2
  have Oz:xx+2<=W3.heap.size:=by rw [Ix.out];exact Nat.le_of_eq yF.symm
  have f3:∀k,k<xx+2->some k≠vo.ownBlock->k≠X.hb->W3.heap[k]?=w2.heap[k]?:=fun k _ _ _=>by rw [Ix.out];rfl
  refine Tk b3 (by rw [List.length_map,hlen];omega) (g9:=xx+1) (cq:=xx) (z9:=xx+2) (H9:=w2.heap) Oz f3 n3 (fun w1 _ _ e=>by have:=YM.out _ e.symm;omega) fun w4 v4 c4 u56 u57 u58 u59 u60 u61 u62 u63 u64 u65 hp=> ?_
  obtain ⟨b4,n4,YE,f4,x4⟩:=hp
  have hB:=SH.out
  subst hB
  intro hcut
  have qv:Lay C w4:=⟨hcut,qK.out.no⟩
  clear Ix b3 n3 Oz f3
  have WK:∀(r:Nat) (ob:Obj),w2.heap[r]?=some ob->(∀cs f,ob≠.cells cs 77 f)->r≠X.hb:=fun r ob hr hn e=>by
   rw [e,b2.box] at hr
   exact hn _ _ (Option.some.inj hr).symm
  have hv4:∀j (hj:j<us.length),some us[j].bt≠v4.ownBlock:=fun j hj e=>by
   rcases x4 with h|⟨g,h,hg⟩
   ·exact (K2.O5 j hj).2.2 (by rw [<-h];exact e)
   ·rw [h] at e;injection e with e;have:=(Hm.out j hj).2;omega
  have K4:LL C N0 us L v4 W0 w4:=⟨K2.live,K2.Ip,K2.ap,K2.fo,fun j hj=>⟨by rw [f4 _ (by have:=(Hm.out j hj).1;omega) (YG.out j hj) (WK _ _ (K2.kM j hj).1 (by intro cs f h;cases h))];exact (K2.kM j hj).1,(K2.kM j hj).2⟩,fun j hj=>by
   obtain ⟨⟨f,h1⟩,h2,h3⟩:=K2.O5 j hj
   exact ⟨⟨f,by rw [f4 _ (by have:=(Hm.out j hj).2;omega) h3 (WK _ _ h1 (by intro cs f' h;injection h with _ h;cases h))];exact h1⟩,h2,hv4 j hj⟩,K2.kz⟩
  have n5:w4.heap[xx]?=some (.chan 0 #[] false 0 0 false):=by rw [f4 xx (by omega) (fun e=>by have:=YM.out _ e.symm;omega) (WK _ _ n1 (by intro cs f h;cases h))];exact n1
  have OC:some (xx+1)≠v4.ownBlock:=fun e=>by
   rcases x4 with h|⟨g,h,hg⟩
   ·have:=YM.out (xx+1) (by rw [<-h];exact e.symm);omega
   ·rw [h] at e;injection e with e;omega
  clear K2 b2 n1 n2 f4 x4 du yF WK
  refine hS.steady.s qv ?_
  refine Can.ctl hS.steady qv rfl (fun _=>zb) ?_
  refine Can.ctl hS.steady qv rfl (fun _=>I2 (p:=.pointer (some ⟨bw,0,none⟩)) (q:=.int .i64 1) Tryz.oN rfl rfl (by k_ne) rfl (by kernel_rfl)) ?_
  refine Can.VU Tryz.oN hS qv K4.fo.on (fun rel ρ n hR=>by have:=hR.1;omega) ?_
  walk_nrm
  refine Can.ctl hS.steady qv rfl (fun _=>stepG_region_end) ?_
  refine Can.ctl hS.steady qv rfl (fun _=>zb) ?_
  refine Can.op (ok:=il) hS.steady qv rfl rfl (by k_ne) (by kernel_rfl) (fun T d=>⟨.func (.func 68) #[] #[.pointer (some ⟨bw,0,none⟩),.pointer (some ⟨xx+1,0,none⟩)],w4.re T d, ?_,fun _=>Can.re ?_ T d⟩)
  ·go_simp
  walk_nrm
  have ht:w4.cell? ⟨xx+1,0,none⟩=some (.chan (some xx)):=by rw [aB n4];rfl
  apply QX (bt:=xx+1) (x:=xx) (kk:=0) (by omega) qv K4.fo K4.ap ht n5
  ·intro j u hj hu
   obtain ⟨i',lE,rfl⟩:=K4.Ip j u hj hu
   rw [K4.live i' lE] at hu
   cases hu
   have:=(Hm.out i' lE).1
   omega
  ·rfl
  ·intro w
   rw [stepG_spawn (d:=call68 bw (xx+1)) rfl rfl (by k_ne) (w':=w) (by go_simp;rfl) rfl,listed_nil (by simp [go_sem])]
  ·intro qu hP5 hD5
   have b5:jz W0 X ls (us.map (·.x)++[xx]) vl v4 (w4.freeze ⟨xx+1,0,none⟩ 1):=b4.turn (p9 w4 (xx+1)) (eX _ _ _) (xL w4 (xx+1)).1 (xL w4 (xx+1)).2 (by omega) n4 (by decide) (by decide) (by decide) OC
   obtain ⟨ob5,q5,f5,rfl,_⟩:=gK w4 ⟨xx+1,0,none⟩ 1 (xx+1) _ n4
   have K5:LL (C.hire (N0+i) (oO (xx+1)) (fun _=>False)) N0 (us++[⟨xx+1,xx,0⟩]) (upd L (N0+i) (.live ⟨xx+1,xx,0⟩)) v4 W0 (w4.freeze ⟨xx+1,0,none⟩ 1):=by
    have Nj:∀{j:Nat},j<(us++[(⟨xx+1,xx,0⟩:Od)]).length->j<us.length\/j=us.length:=fun {j} hj=>by rw [K_] at hj;simp at hj;omega
    have vI:∀{j:Nat} (hj:j<(us++[(⟨xx+1,xx,0⟩:Od)]).length) (h:j<us.length),(us++[(⟨xx+1,xx,0⟩:Od)])[j]=us[j]:=fun {j} hj h=>List.getElem_append_left h
    have Wy:∀(hj:us.length<(us++[(⟨xx+1,xx,0⟩:Od)]).length),(us++[(⟨xx+1,xx,0⟩:Od)])[us.length]=⟨xx+1,xx,0⟩:=fun hj=>by simp
    refine ⟨fun j hj=> ?_,fun j v hj hv=> ?_,hD5,hP5,fun j hj=> ?_,fun j hj=> ?_,fun j hj=> ?_⟩
    ·rcases Nj hj with h|h
     ·rw [vI hj h,upd_ne _ _ (by omega)];exact K4.live j h
     ·subst h;rw [Wy hj,<-hlen,upd_same]
    ·by_cases e:j=N0+i
     ·exact ⟨i,by rw [K_];simp;omega,e⟩
     ·rw [upd_ne _ _ e] at hv
      obtain ⟨i',h1,h2⟩:=K4.Ip j v hj hv
      exact ⟨i',by rw [K_];omega,h2⟩
    ·rcases Nj hj with h|h
     ·rw [vI hj h,p9 w4 (xx+1) _ (by have:=(Hm.out j h).1;omega)];exact K4.kM j h
     ·subst h;rw [Wy hj,p9 w4 (xx+1) _ (by simp)];exact ⟨n5,tX⟩
    ·rcases Nj hj with h|h
     ·obtain ⟨⟨f,h1⟩,h2,h3⟩:=K4.O5 j h
      rw [vI hj h,p9 w4 (xx+1) _ (by have:=(Hm.out j h).2;omega)]
      exact ⟨⟨f,h1⟩,h2,h3⟩
     ·subst h;rw [Wy hj];exact ⟨⟨f5,q5⟩,by show _<=xx+1;omega,OC⟩
    ·rcases Nj hj with h|h
     ·rw [vI hj h];exact K4.kz j h
     ·subst h;rw [Wy hj]
   have Rp:=iS bw (N0+i+1) (upd L (N0+i) (.live ⟨xx+1,xx,0⟩))
   generalize w4.freeze ⟨xx+1,0,none⟩ 1=w5 at *
   walk_nrm
   refine Can.ctl Rp.steady qu rfl (fun _=>stepG_region_end) ?_
   refine Can.ctl Rp.steady qu rfl (fun _=>stepG_inBlock) ?_
   refine Can.ctl Rp.steady qu rfl (fun _=>zb) ?_
   refine Can.op (ok:=il) Rp.steady qu rfl rfl (by k_ne) (by kernel_rfl) (fun T d=>⟨.int .i64 ((i+1:Nat):Int),w5.re T d, ?_,fun _=>Can.re ?_ T d⟩)
   ·go_simp
   walk_nrm
   refine Can.op (ok:=il) Rp.steady qu rfl rfl (by k_ne) (by kernel_rfl) (fun T d=>⟨.int .i64 ((i+1:Nat):Int),w5.re T d, ?_,fun _=>Can.re ?_ T d⟩)
   ·go_simp
   walk_nrm
   refine Can.ctl Rp.steady qu rfl (fun _=>stepG_region_end) ?_
   subst hK
   refine Can.ctl Rp.steady qu rfl (fun _=>stepG_inLoop) ?_
   refine TQ.out (i+1) (by omega) (by omega) _ (us++[⟨xx+1,xx,0⟩]) _ w5 _ _ _ _ _ _ _ _ _ _ _ _ _ _ _ _ _ _ _ _ _ _ _ _ _ _ _ _ _ _ _ _ _ _ _ _ _ _ _ _ _ _ _ _ _ _ _ _ _ _ _ _ _ _ _ _ _ _ _ _ _ _ _ _ _ _ _ v4 (by rw [K_,hlen];rfl) qu (by rw [List.map_append];exact b5) K5
def LK (ls:List Nat):Hs:=⟨ls,fun _=>none,fun _=>none,fun _=>none,[],[],[],0,[],[]⟩
def qO (w:J'):Prop:=∃g cs e f,Tryz.prog.globalNamed "internal/strconv.uint64pow10" =some g/\w.heap[g]?=some (Obj.cells cs e f)/\cs=(Lib.pow10Tab.map fun z=>Value.int .u64 z).toArray
theorem ra {m:Nat} (h:w.heap[m]?=some (.map #[] 0)) {K:Type} (enc:K->M'):ed w m enc (fun _=>none):=
 ⟨#[],0,h,by simp,fun _ _ h=>(by cases h),by simp⟩
variable {j:Nat}
theorem uR {xs:List Nat} (hj:j<xs.length):(gB xs)[j]?=some (.chan (some xs[j])):=by simp [gB,hj]
theorem LB (h:jz W0 X ls (us.map (·.x)) vl vo w) (K:LL C N0 us L vo W0 w) (h1:0<ls.length) (h2:0<us.length) (hm:us.length<=999) (hN0:0<N0) (hT:qO W0):
 ∃A:Ha,A.hb=X.hb/\A.L=X.L/\A.O=X.O/\A.P=X.P/\A.n0=w.heap.size/\A.h0=w.heap/\A.B=w.heap.size/\A.m=us.length/\cQ A (.slice none 0 0) (.slice none 0 0) (LK ls) w/\bN C A N0 (N0+us.length) us L w/\aU A w:=by
 obtain ⟨lb,cl,aDr,WV,hlb,Ku,hlc,HD,QU,hlt⟩:=cz h.lines h1
 obtain ⟨ob,co,aDq,WU,hob,Kq,hoc,hom,hos,hot⟩:=cz h.ops (by rw [List.length_map];exact h2)
 obtain ⟨q1,q2,q3⟩:=h.mp
 obtain ⟨l1,l2,l3,l4,l5⟩:=h.low
 have lt:∀(r:Nat) (ob:Obj),w.heap[r]?=some ob->r<w.heap.size:=fun r ob hr=>(cI hr)
 have cm:∀(a b:Nat) (cs:Array M') (t:Q') (f:Nat × Nat),w.heap[a]?=some (.cells cs t f)->w.heap[b]?=some (.map #[] 0)->a≠b:=fun a b cs t f ha hb e=>by rw [e,hb] at ha;cases ha
 have cc:∀(a b:Nat) (cs cs':Array M') (t t':Q') (f f':Nat × Nat),w.heap[a]?=some (.cells cs t f)->w.heap[b]?=some (.cells cs' t' f')->t≠t'->a≠b:=fun a b cs cs' t t' f f' ha hb ht e=>by
  rw [e,hb] at ha;simp at ha;exact ht ha.2.1.symm
 obtain ⟨d1,d2,d3⟩:=h.LV
 refine ⟨⟨w.heap.size,X.hb,lb,cl,ob,co,us.length,X.m1,X.m2,X.m3,X.L,X.O,X.P,w.heap.size,w.heap⟩,rfl,rfl,rfl,rfl,rfl,rfl,rfl,rfl,⟨.slice none 0 0,.slice none 0 0,.slice none 0 0, ?_⟩, ?_, ?_⟩
 ·refine ⟨⟨lt _ _ h.box,lt _ _ Ku,lt _ _ Kq,lt _ _ q1,lt _ _ q2,lt _ _ q3,⟨cm _ _ _ _ _ h.box q1,cm _ _ _ _ _ h.box q2,cm _ _ _ _ _ h.box q3,d1,d2,d3⟩,⟨cc _ _ _ _ _ _ _ _ Ku h.box (by decide),cm _ _ _ _ _ Ku q1,cm _ _ _ _ _ Ku q2,cm _ _ _ _ _ Ku q3⟩,⟨cc _ _ _ _ _ _ _ _ Kq h.box (by decide),cm _ _ _ _ _ Kq q1,cm _ _ _ _ _ Kq q2,cm _ _ _ _ _ Kq q3⟩⟩,Nat.le_refl _, ?_,fun i hi=> ?_,ra q1 Bl,ra q2 _,ra q3 _,World.ownsRow_nil _ _ _ _,World.ownsRow_nil _ _ _ _,World.ownsRow_nil _ _ _ _,World.ownsRow_nil _ _ _ _,World.ownsRow_nil _ _ _ _,.inl rfl⟩
  ·rw [show w.heap[X.hb]?=_ from h.box,WV,WU,List.length_map];rfl
  ·have:=h.lines
   rw [WV] at this
   exact (this.cellAt i (by rw [Nat.mul_one];exact hi)).trans (uR hi)
 ·refine ⟨rfl,⟨hm,K.Ip⟩,K.live,fun i hi=>⟨by omega,by omega⟩,K.ap,K.fo,fun j v hj hv=> ?_,fun i hi=> ?_⟩
  ·obtain ⟨i,hi,rfl⟩:=K.Ip j v hj hv
   rw [K.live i hi] at hv
   cases hv
   exact ⟨⟨0,(K.kM i hi).1⟩,lt _ _ (K.kM i hi).1⟩
  ·obtain ⟨⟨f,hb⟩,_⟩:=K.O5 i hi
   have:=h.ops
   rw [WU] at this
   refine ⟨(this.cellAt i (by rw [List.length_map,Nat.mul_one];exact hi)).trans ((uR (by rw [List.length_map];exact hi)).trans (by rw [List.getElem_map])),by rw [aB hb];rfl,lt _ _ hb,cc _ _ _ _ _ _ _ _ hb h.box (by decide)⟩
 ·obtain ⟨g,cs,e,f,t1,t2,t3⟩:=hT
  have hg:=(cI t2)
  have old:∀(r:Nat) (ob:Obj),W0.heap[r]?=some ob->w.heap[r]?=some ob:=fun r ob hr=>by
   rw [h.old.block r (cI hr) (by simp)];exact hr
  exact ⟨⟨g,cs,e,f,t1,lt _ _ (old _ _ t2),fun e=>by rw [e] at hg;exact Nat.lt_irrefl _ (E_ hg l1),old _ _ t2,t3⟩,Nat.le_refl _,fun g cs e f _ _ hh=>hh⟩
def Ev.raw (e:Ev):Raw:=⟨e.kind,e.who,e.word⟩
variable {evs:List Ev}
theorem La {A:Ha} (hn:A.n0=w.heap.size) (hh:A.h0=w.heap) (hb:W0.heap.size<=A.hb) (ho:∀(r:Nat) (ob:Obj),W0.heap[r]?=some ob->w.heap[r]?=some ob) (h:fF W0 ea (evs.map Ev.raw)):Dt A ea evs:=by
 rcases h with h|⟨eb,cs,t,f,h1,h2,h3⟩
 ·exact .inl (List.map_eq_nil_iff.1 h)
 ·refine .inr ⟨eb,cs,t,f,h1,by rw [hn];exact (Array.getElem?_eq_some_iff.1 (ho _ _ h2)).1,by have:=(cI h2);omega,by rw [hh];exact ho _ _ h2,fun k hk=> ?_⟩
  have:=h3 k (by rw [List.length_map];exact hk)
  simp only [List.getElem_map] at this
  exact this
noncomputable def JA:Array Oper:=match ai 8 bz with| .region _ ops _=>ops|_=>#[]
noncomputable def j9:Array Oper:=match ai 9 bz with| .region _ ops _=>ops|_=>#[]
variable {A:Ha} {S:Hs} {va vt:M'} {hv:Nat}
theorem MA (hL:Lay C wl) (H:cQ A va vt S wl) (K:bN C A N0 (N0+us.length) us L wl) (hT:aU A wl) (hN0:0<N0) (Z7:N0+us.length+1<=Bd) (SI:Bd<2000000000)
 (BG:A.h0[hv]?=some (.cells #[.pointer (some ⟨A.hb,0,none⟩)] 68 (0,0))) (mP:hv<A.n0) (hvn:hv≠A.hb) (ev0:A.h0[g2]?=some (.cells #[.slice ea evs.length ec] 30 (0,0))) (WV:g2<A.n0) (evn:g2≠A.hb) (uO:Dt A ea evs) (hn:evs.length<=1000) (cK:Dr A.P (S,us) evs) (hm:(eC A.P (S,us) evs).2.length<=999) (J7:(eC A.P (S,us) evs).1.cg=[]) {z12 z20 z21 z22 z23 z24 z25 z26 z28 z31 z37 z40 z46 z49 z51 z53 z59 z70 z72:M'}
 (hc:∀aK IX Io,Lay C aK->cQ A IX Io {(eC A.P (S,us) evs).1 with cg:=(eC A.P (S,us) evs).2.map (·.k)} aK->aU A aK->Can p_ C bw 0 Post 0 (db Bd) aK (G (aI.at (aS.put ((av[aN]?).bind (·.dst)) (.pointer (some ⟨A.hb,0,none⟩))) (.inRegion av ak::aV)) cs)):
 Can p_ C bw 0 Post 0 (pI bw (N0+us.length) L) wl (G ((base 45).at ⟨#[z0,z1,.pointer (some ⟨g1,0,none⟩),.pointer (some ⟨g2,0,none⟩),z4,z5,z6,.pointer (some ⟨hv,0,none⟩),.pointer (some ⟨bw,0,none⟩),z9,dB,cZ,z12,de,dn,dm,dk,dj,dA,dz,z20,z21,z22,z23,z24,z25,z26,dD,z28,dC,dM,z31,dQ,dK,dP,dO,dV,z37,ey,ew,z40,eu,eK,eJ,eI,eH,z46,eQ,eN,z49,en,z51,iu,z53,iF,iE,iD,iC,iB,z59,nv,nu,np,nk,sW,sV,rH,rG,rF,uu,z70,yb,z72],[]⟩ [.code (az 7 bz)]) (aI.at aS (.inRegion av (aN::ak)::aV)::cs)):=by
 have hS:=iS bw (N0+us.length) L
 have b9:=K.fo.on
 have e1:az 7 bz=.seq (ai 7 bz) (.seq (ai 8 bz) (.seq (.region 24 j9 false) (az 10 bz))):=by kernel_rfl
 rw [e1]
 refine hS.steady.s hL ?_
 generalize hX:[Item.code (Code.seq (ai 8 bz) (.seq (.region 24 j9 false) (az 10 bz)))]=X0
 simp only [ai,bz,f45,A_]
 refine Can.ctl hS.steady hL rfl (fun _=>zb) ?_
 refine Can.ctl hS.steady hL rfl (fun _=>I2 (p:=.pointer (some ⟨bw,0,none⟩)) (q:=.int .i64 1) Tryz.oN rfl rfl (by k_ne) rfl (by kernel_rfl)) ?_
 refine Can.VU Tryz.oN hS hL b9 (fun rel ρ n hR=>by have:=hR.1;omega) ?_
 walk_nrm
 refine Can.ctl hS.steady hL rfl (fun _=>stepG_region_end) ?_
 subst hX
 refine hS.steady.s hL ?_
 generalize hX:[Item.code (Code.seq (.region 24 j9 false) (az 10 bz))]=X0
 simp only [ai,bz,f45,A_]
 refine Can.ctl hS.steady hL rfl (fun _=>zb) ?_
 refine Can.op (ok:=il) hS.steady hL rfl rfl (by k_ne) (by kernel_rfl) (fun T d=>⟨.func (.func 71) #[] #[.pointer (some ⟨bw,0,none⟩),.pointer (some ⟨hv,0,none⟩),.pointer (some ⟨g2,0,none⟩)],wl.re T d, ?_,fun _=>Can.re ?_ T d⟩)
 ·go_simp
 walk_nrm
 obtain ⟨NG,U1⟩:∃NG,NG=aI.at aS (.inRegion av (aN::ak)::aV):=⟨_,rfl⟩
 rw [<-U1]
 obtain ⟨aW,ZU⟩:∃aW:Act,aW=⟨#[z0,z1,.pointer (some ⟨g1,0,none⟩),.pointer (some ⟨g2,0,none⟩),z4,z5,z6,.pointer (some ⟨hv,0,none⟩),.pointer (some ⟨bw,0,none⟩),z9,dB,cZ,z12,de,dn,dm,dk,dj,dA,dz,z20,z21,z22,z23,z24,z25,z26,dD,z28,dC,dM,z31,dQ,dK,dP,dO,dV,z37,ey,ew,z40,eu,eK,eJ,eI,eH,z46,eQ,eN,z49,en,z51,iu,z53,iF,iE,iD,iC,iB,z59,nv,nu,np,nk,sW,sV,rH,rG,rF,.tuple #[],.func (.func 71) #[] #[.pointer (some ⟨bw,0,none⟩),.pointer (some ⟨hv,0,none⟩),.pointer (some ⟨g2,0,none⟩)],yb,z72],[]⟩:=⟨_,rfl⟩
 have B:eh p_ C bw 0 (ya Tryz.link bw 0 ((base 45).at aW (.inRegion j9 [0]::[.code (az 10 bz)])) (NG::cs)) (Fs p_ C (G ((base 45).at (aW.put ((j9[0]?).bind (·.dst)) (.tuple #[])) (.inRegion j9 []::[.code (az 10 bz)])) (NG::cs))) (N0+us.length):=
  ⟨by omega,fun g w h=>yT g w h,fun g w h=>waitRound Tryz.oN b9 bw 0 g w h⟩
 refine Can.leads (zM:=aY bw (N0+us.length+1) (N0+us.length) L) (ae:=ya Tryz.link bw 0 ((base 45).at aW (.inRegion j9 [0]::[.code (az 10 bz)])) (NG::cs)) (Fin:=Fs p_ C (G ((base 45).at (aW.put ((j9[0]?).bind (·.dst)) (.tuple #[])) (.inRegion j9 []::[.code (az 10 bz)])) (NG::cs))) (N:=N0+us.length) (child:=born p_ (call71 bw hv g2)) (g':=G ((base 45).at aW (.inRegion JA []::X0)) (NG::cs)) hS hL (fun rel ρ n hR=>hR.1) rfl (fun w=> ?_) b9 (fun w Ni=> ?_) (fun rel ρ n hR=> ?_) ?_
 ·rw [stepG_spawn (d:=call71 bw hv g2) rfl rfl (by k_ne) (w':=w) (by go_simp;rfl) rfl,listed_nil (by simp [go_sem]),ZU]
  rfl
 ·have W:=XI b9 bw 0
  have key:∃n,∀w,Live bw 0 w->Goes p_ true (RB C bw 0 0) (DW bw 0) (AtKd p_ C bw 0 (ya Tryz.link bw 0 ((base 45).at aW (.inRegion j9 [0]::[.code (az 10 bz)])) (NG::cs))) n (G ((base 45).at aW (.inRegion JA []::X0)) (NG::cs)) w:=by
   rw [<-hX]
   refine W.ctl rfl (fun _=>stepG_region_end) ?_
   refine W.ctl rfl (fun _=>stepG_seq) ?_
   refine W.ctl rfl (fun _=>stepG_region) ?_
   have er:List.range j9.size=[0]:=by kernel_rfl
   rw [er]
   refine W.ctl rfl (fun _=>Mx (p:=.pointer (some ⟨bw,0,none⟩)) Tryz.oN rfl rfl (by k_ne) rfl (by rw [ZU];kernel_rfl)) ?_
   exact waitStart Tryz.oN b9 bw 0
  obtain ⟨n,hn⟩:=key
  exact ⟨n,hn w Ni⟩
 ·obtain ⟨rfl,h0,h1⟩:=hR
  refine ⟨rfl,fun j hj KI=> ?_⟩
  rw [upd_ne _ _ KI,upd_ne _ _ hj];exact h1 j hj
 ·have wv:wl.cell? ⟨hv,0,none⟩=some (.pointer (some ⟨A.hb,0,none⟩)):=by rw [aB (hT.2.2 hv _ _ _ mP hvn BG)];rfl
  have we:wl.cell? ⟨g2,0,none⟩=some (.slice ea evs.length ec):=by rw [aB (hT.2.2 g2 _ _ _ WV evn ev0)];rfl
  refine Fc B hL H K hT wv we uO hn cK hm J7 (B₁:=Bd) Z7 fun w2 Sl SY du H2 T2=> ?_
  have KP:=cT Bd
  rw [ZU]
  have ep:(⟨#[z0,z1,.pointer (some ⟨g1,0,none⟩),.pointer (some ⟨g2,0,none⟩),z4,z5,z6,.pointer (some ⟨hv,0,none⟩),.pointer (some ⟨bw,0,none⟩),z9,dB,cZ,z12,de,dn,dm,dk,dj,dA,dz,z20,z21,z22,z23,z24,z25,z26,dD,z28,dC,dM,z31,dQ,dK,dP,dO,dV,z37,ey,ew,z40,eu,eK,eJ,eI,eH,z46,eQ,eN,z49,en,z51,iu,z53,iF,iE,iD,iC,iB,z59,nv,nu,np,nk,sW,sV,rH,rG,rF,.tuple #[],.func (.func 71) #[] #[.pointer (some ⟨bw,0,none⟩),.pointer (some ⟨hv,0,none⟩),.pointer (some ⟨g2,0,none⟩)],yb,z72],[]⟩:Act).put ((j9[0]?).bind (·.dst)) (.tuple #[])=⟨#[z0,z1,.pointer (some ⟨g1,0,none⟩),.pointer (some ⟨g2,0,none⟩),z4,z5,z6,.pointer (some ⟨hv,0,none⟩),.pointer (some ⟨bw,0,none⟩),z9,dB,cZ,z12,de,dn,dm,dk,dj,dA,dz,z20,z21,z22,z23,z24,z25,z26,dD,z28,dC,dM,z31,dQ,dK,dP,dO,dV,z37,ey,ew,z40,eu,eK,eJ,eI,eH,z46,eQ,eN,z49,en,z51,iu,z53,iF,iE,iD,iC,iB,z59,nv,nu,np,nk,sW,sV,rH,rG,rF,.tuple #[],.func (.func 71) #[] #[.pointer (some ⟨bw,0,none⟩),.pointer (some ⟨hv,0,none⟩),.pointer (some ⟨g2,0,none⟩)],.tuple #[],z72],[]⟩:=by kernel_rfl
  rw [ep]
  refine Can.ctl KP du rfl (fun _=>stepG_region_end) ?_
  refine Can.cY pA KP du (aF (by kernel_rfl) rfl rfl ⟨_,func45⟩) ?_
  intro T d W hW Bh hB
  have q1:W.cell? ⟨hv,0,none⟩=some (.pointer (some ⟨A.hb,0,none⟩)):=by
   rw [hW.out,show (w2.re T d).cell? _=w2.cell? ⟨hv,0,none⟩ from rfl,aB (T2.2.2 hv _ _ _ mP hvn BG)];rfl
  have ir:=aa hc
  have H2H:=aa H2
  have T2H:=aa T2
  clear hc H2 T2 H K hT
  simp only [az,bz,f45,A_]
  go_wp2_with fail
  have hB:=hB.out
  subst hB
  intro hcut todo
  have gA:Lay C W:=⟨hcut,du.no⟩
  rw [U1]
  refine Can.ctl KP gA rfl (fun _=>aZ rfl rfl func45 rfl) ?_
  obtain ⟨x1,x2,x3,x4⟩:=H2H.out
  exact ir.out W Sl SY gA (by rw [hW.out];exact ⟨x1,x2,x3,x4.heap rfl⟩) (by rw [hW.out];exact T2H.out)
def Ev.good (m:Nat):Ev->Prop
 | .ring c pt=>(1<=c/\c<=99)/\0<=pt/\pt<=9
 | .hang c=>1<=c/\c<=99
 | .answer i=>i<m
 | .back i=>i<m
 | .wait n=>1<=n/\n<=60
variable {m:Int}
theorem IV {r:Raw} (h:bu r m=true):∃e:Ev,e.raw=r/\e.good m.toNat:=by
 obtain ⟨k,who,word⟩:=r
 unfold bu at h
 split at h
 ·cases h
 split at h
 ·cases h
 split at h
 ·cases h
 simp only at *
 split at h
 ·rename_i hk
  subst hk
  simp only [T_,decide_eq_true_eq] at h
  exact ⟨.ring who word,rfl,⟨by omega,by omega⟩,by omega,by omega⟩
 split at h
 ·rename_i hk
  subst hk
  simp only [T_,decide_eq_true_eq,beq_iff_eq] at h
  obtain ⟨h1,rfl⟩:=h
  exact ⟨.hang who,rfl,by omega,by omega⟩
 split at h
 ·rename_i hk
  simp only [T_,decide_eq_true_eq,beq_iff_eq] at h
  obtain ⟨h1,rfl⟩:=h
  have he:(((who - 1).toNat+1:Nat):Int)=who:=by omega
  rcases hk with rfl|rfl
  ·exact ⟨.answer (who - 1).toNat,by show (⟨_,_,_⟩:Raw)=_;rw [show Ev.who (.answer (who - 1).toNat)=_ from he];rfl,by show _<_;omega⟩
  ·exact ⟨.back (who - 1).toNat,by show (⟨_,_,_⟩:Raw)=_;rw [show Ev.who (.back (who - 1).toNat)=_ from he];rfl,by show _<_;omega⟩
 split at h
 ·rename_i hk
  subst hk
  simp only [T_,decide_eq_true_eq,beq_iff_eq] at h
  obtain ⟨h1,rfl⟩:=h
  exact ⟨.wait who,rfl,by omega,by omega⟩
 ·cases h
theorem s8 (h:rs.all (fun r=>bu r m)=true):∃evs:List Ev,rs=evs.map Ev.raw/\∀e∈evs,e.good m.toNat:=by
 induction rs with
 |nil=>exact ⟨[],rfl,fun e he=>by cases he⟩
 |cons r rs ih=>
  rw [List.all_cons,T_] at h
  obtain ⟨e,h1,h2⟩:=IV h.1
  obtain ⟨evs,h3,h4⟩:=ih h.2
  exact ⟨e::evs,by rw [S_,h1,<-h3],fun x hx=>by
   rcases List.mem_cons.1 hx with rfl|hx
   ·exact h2
   ·exact h4 x hx⟩
theorem NJ {p q:M'}:Frame.enter p_ 45 #[p,q] .normal=(base 45).at ⟨#[p,q]++F_ 71 I',[]⟩ [.code bz]:=by kernel_rfl
def Bf (P:Int) (ls:List Nat) (us:List Od) (evs:List Ev):Hs:={(eC P (LK ls,us) evs).1 with cg:=(eC P (LK ls,us) evs).2.map (·.k)}
def SQ (w w':J'):Prop:=∀(g:Nat) (cs:Array M') (e:Q') (f:Nat × Nat),w.heap[g]?=some (Obj.cells cs e f)->w'.heap[g]?=some (Obj.cells cs e f)
def GG (P:Int) (ls:List Nat) (us:List Od) (evs:List Ev):Prop:=Dr P (LK ls,us) evs/\(eC P (LK ls,us) evs).2.length<=999/\(eC P (LK ls,us) evs).1.cg=[]
variable {oa:cS} {fG:Int}
theorem FE (hL:Lay oa wl) (hlen:rs.length<=1048576) (bR:fF wl ea rs) (sr:qO wl) (SI:Bd<1000000000)
 (oF:(dw fG O P&&decide (rs.length<=60)&&rs.all (fun r=>bu r O))=false->∀aK,Lay oa aK->dI wl aK->Can p_ oa b o Post 0 (db Bd) aK (G (aI.at (aS.put ((av[aN]?).bind (·.dst)) (.pointer none)) (.inRegion av ak::aV)) cs))
 (pr:∀evs ls us,rs=evs.map Ev.raw->dw fG O P=true->evs.length<=60->(∀e∈evs,e.good O.toNat)->ls.Nodup->(ls.length:Int)=fG->(us.length:Int)=O->(∀u∈us,Od.k u=0)->GG P ls us evs/\
  ∀C' bw A va vt aK,Lay C' aK->cQ A va vt (Bf P ls us evs) aK->SQ wl aK->wl.heap.size<=A.hb->wl.heap.size<=aK.heap.size->Can p_ C' bw 0 Post 0 (db (Bd+5)) aK (G (aI.at (aS.put ((av[aN]?).bind (·.dst)) (.pointer (some ⟨A.hb,0,none⟩))) (.inRegion av ak::aV)) cs)):
 Can p_ oa b o Post 0 (db Bd) wl (G (Frame.enter p_ 45 #[.agg #[.int .i64 fG,.int .i64 O,.int .i64 P],.slice ea rs.length ec] .normal) (aI.at aS (.inRegion av (aN::ak)::aV)::cs)):=by
 rw [NJ]
 refine P1 hL hlen (fun hb aK fJ k=>oF (by rw [hb];rfl) aK fJ k) fun cK OZ w1 g1 g2 z0 z1 z2 z3 z4 z5 z6 z7 nU k1 x1 x2 l1 l2 l3=> ?_
 refine PZ nU OZ (bR.keep k1) x1 x2 (fun hb aK fJ k=>oF (by rw [hb,Bool.and_false]) aK fJ (k1.trans k)) fun eU w2 z0 z1 z2 z3 z4 z5 z6 z7 z8 z9 dB cZ z12 de dn dm dk dj dA dz z20 du k2=> ?_
 have ho:(1<=fG/\fG<=6)/\(1<=O/\O<=4)/\1<=P/\P<=60:=by
  simp only [dw,T_,decide_eq_true_eq] at cK
  obtain ⟨⟨h1,h2⟩,h3⟩:=cK
  omega
 obtain ⟨⟨p1,p2⟩,⟨p3,p4⟩,p5⟩:=ho
 have kk:=k1.trans k2
 have y1:=k2.blk _ _ x1
 have y2:=k2.blk _ _ x2
 refine Jk du y1 p1 p2 fun w3 X ls vl bw z0 z1 z2 z3 z4 z5 z6 z7 z8 z9 dB cZ z12 de dn dm dk dj dA dz z20 z21 z22 z23 z24 z25 z26 dD z28 dC dM z31 dQ dK dP dO dV z37 ey ew z40 eu eL eO eP gA b3 Ma CV lbw sbw=> ?_
 have sz3:w3.heap.size=(oH w3 bw #[] 108).heap.size:=by simp [oH]
 refine Can.NH (b':=bw) (o':=0) (Rn:=fun N=>pI bw N (fun _=>.gone)) gA ⟨(cell_of_block CV rfl).1,(cell_of_block CV rfl).1,(cell_of_block CV rfl).2,(cell_of_block CV rfl).2⟩ (fun w hw=>IL CV (cs:=#[]) (by simp) (fun k hk=>by simp at hk) hw) (fun tC U aDl hs=>⟨by simp only [oH,Array.size_setIfInBounds];exact hs.size,fun b o hb ho=>hs.obj b o hb (by rw [Bm (by omega)] at ho;exact ho)⟩) (fun N rel ρ h0 _ hA su=>Ax h0 hA su) ?_
 intro N hN Z7
 have qv:=JP (N:=N) CV gA
 have b4:jz w2 X ls [] vl (.slice none 0 0) (oH w3 bw #[] 108):=b3.turn (fun k hk=>Bm hk) sz3.symm rfl rfl lbw CV (by decide) (by decide) (by decide) (by simp [Value.ownBlock])
 have K4:LL (oa.anew N (Mo bw 0) True ⟨bw,0,none⟩) N [] (fun _=>.gone) (.slice none 0 0) w2 (oH w3 bw #[] 108):=
  ⟨fun i hi=>absurd hi (Nat.not_lt_zero _),(fun j v _ hv=>by cases hv),(fun i j u v _ _ _ hu=>by cases hu),⟨trivial,(fun g l h=>h),(fun j u _ hu=>by cases hu)⟩,fun i hi=>absurd hi (Nat.not_lt_zero _),fun i hi=>absurd hi (Nat.not_lt_zero _),fun i hi=>absurd hi (Nat.not_lt_zero _)⟩
 generalize oH w3 bw #[] 108=w4 at *
 generalize oa.anew N (Mo bw 0) True ⟨bw,0,none⟩=C4 at *
 have hS:=iS bw N (fun _=>.gone)
 have e1:az 6 bz=.seq (.seq (ai 0 (ai 6 bz)) (.block 4 (.loop oI))) (az 7 bz):=by kernel_rfl
 rw [e1]
 refine hS.steady.s qv ?_
 refine hS.steady.s qv ?_
 have cO:w4.cell? ⟨g1,1,none⟩=some (.int .i64 O):=by
  have hlt:=(cI y1)
  rw [J_ (b4.old.block g1 hlt (by simp)),aB y1];rfl
 generalize hX:[Item.code (Code.block 4 (.loop oI)),Item.code (az 7 bz)]=X0
 simp only [ai,bz,f45,A_]
 refine Can.ctl hS.steady qv rfl (fun _=>zb) ?_
 refine Can.op (ok:=il) hS.steady qv rfl rfl (by k_ne) (by kernel_rfl) (fun T d=>⟨.pointer (some ⟨g1,1,none⟩),w4.re T d, ?_,fun _=>Can.re ?_ T d⟩)
 ·go_simp
 walk_nrm
 refine Can.op (ok:=il) hS.steady qv rfl rfl (by k_ne) (by kernel_rfl) (fun T d=>⟨.int .i64 O,w4.re T d, ?_,fun _=>Can.re ?_ T d⟩)
 ·have h0:(w4.re T d).cell? ⟨g1,1,none⟩=some (.int .i64 O):=cO
  go_simp
 walk_nrm
 refine Can.op (ok:=il) hS.steady qv rfl rfl (by k_ne) (by kernel_rfl) (fun T d=>⟨.int .i64 ((0:Nat):Int),w4.re T d, ?_,fun _=>Can.re ?_ T d⟩)
 ·go_simp
 walk_nrm
 refine Can.ctl hS.steady qv rfl (fun _=>stepG_region_end) ?_
 subst hX
 refine Can.ctl hS.steady qv rfl (fun _=>stepG_block) ?_
 refine Can.ctl hS.steady qv rfl (fun _=>stepG_loop) ?_
 refine P0 (N0:=N) (W0:=w2) (X:=X) (ls:=ls) (vl:=vl) (wl:=w4) p3 p4 hN (by omega) (fun _=>trivial) ?_ O.toNat 0 (by omega) (by omega) C4 [] (fun _=>.gone) w4 _ _ _ _ _ _ _ _ _ _ _ _ _ _ _ _ _ _ _ _ _ _ _ _ _ _ _ _ _ _ _ _ _ _ _ _ _ _ _ _ _ _ _ _ _ _ _ _ _ _ _ _ _ _ _ _ _ _ _ _ _ _ _ _ _ _ _ (.slice none 0 0) rfl qv b4 K4
 intro C5 w5 L5 us vo z0 z1 z2 z3 z4 z5 z6 z7 z8 z9 dB cZ z12 de dn dm dk dj dA dz z20 z21 z22 z23 z24 z25 z26 dD z28 dC dM z31 dQ dK dP dO dV z37 ey ew z40 eu eK eJ eI eH z46 eQ eN z49 en z51 iu z53 iF iE iD iC iB z59 nv nu np nk sW sV rH rG rF hus qu b5 K5
 obtain ⟨evs,EP,Q4⟩:=s8 eU
 have UC:evs.length=rs.length:=by rw [EP,List.length_map]
 have hkz:∀u∈us,Od.k u=0:=fun u hu=>by
  obtain ⟨i,hi,rfl⟩:=List.getElem_of_mem hu
  exact K5.kz i hi
 obtain ⟨⟨hrun,wi,hrt⟩,lI⟩:=pr evs ls us EP cK (by omega) Q4 b5.nd Ma hus hkz
 have T9:qO w2:=by
  obtain ⟨g,cs',e,f,t1,t2,t3⟩:=sr
  exact ⟨g,cs',e,f,t1,kk.blk _ _ t2,t3⟩
 obtain ⟨A,a1,a2,a3,a4,a5,a6,a7,a8,H5,C5',T5⟩:=LB b5 K5 (by omega) (by omega) (by omega) hN T9
 have old:∀(r:Nat) (ob:Obj),w2.heap[r]?=some ob->w5.heap[r]?=some ob:=fun r ob hr=>by
  rw [b5.old.block r (cI hr) (by simp)];exact hr
 have Ow:w2.heap.size<=A.hb:=by rw [a1];exact b5.low.1
 have uJ:fF w2 ea (evs.map Ev.raw):=by rw [<-EP];exact bR.keep kk
 have OC:=b5.hv
 rw [<-a1] at OC
 have YN:X.hv≠A.hb:=fun e=>by rw [e,a1,b5.box] at OC;simp at OC
 have g2l:=(cI y2)
 have y5:=old _ _ y2
 rw [<-UC] at y5
 have aP:A.P=P:=a4.trans eP
 refine MA (Bd:=Bd+5) (A:=A) (us:=us) (L:=L5) (hv:=X.hv) (evs:=evs) (ea:=ea) (ec:=ec) qu H5 C5' T5 hN (by omega) (by omega) (by rw [a6];exact OC) (by rw [a5];exact (cI OC)) YN (by rw [a6];exact y5) (by rw [a5];exact (cI y5)) (by omega) (La a5 a6 Ow old uJ) (by omega) (by rw [aP];exact hrun) (by rw [aP];exact wi) (by rw [aP];exact hrt) fun w6 va6 vt6 Iz H6 T6=> ?_
 rw [aP] at H6
 refine lI C5 bw A va6 vt6 w6 Iz H6 (fun g cs' e f hg=> ?_) (D_ kk.size Ow) ?_
 ·have h2:=kk.blk _ _ hg
  have h5:=old _ _ h2
  exact T6.2.2 g _ _ _ (by rw [a5];exact (cI h5)) (by have:=(cI h2);omega) (by rw [a6];exact h5)
 ·obtain ⟨_,_,_,H6'⟩:=H6
  have:=H6'.big
  rw [a7] at this
  have h1:=b5.old.size
  have h2:=kk.size
  omega
end
section
open Go
structure Rm where
 recs:List Rec
 wait:List (Int × Int)
 back:List (Int × Int)
 clock:Int
 log:List Bs
def isOpen (r:Rec):Bool:=decide (r.fin=eR)
def dE (rs:List Rec) (c:Int):Option Nat:=rs.findIdx? fun r=>decide (r.call=c)&&isOpen r
def ez (rs:List Rec) (op:Int):Int:=match rs.find? (fun r=>decide (r.op=op)&&isOpen r) with|some r=>r.call|none=>0
def lM (rs:List Rec) (l:Int):Bool:=rs.any fun r=>decide (r.line=l)&&isOpen r
def AD (nl:Nat) (rs:List Rec):List Int:=((List.range nl).map fun i=>((i+1:Nat):Int)).filter fun l=> !lM rs l
def jJ (m:Rm) (i:Nat) (e:Bs):Rm:=match m.recs[i]? with
 |none=>m
 |some r=>{m with recs:=m.recs.set i {r with wI:=m.clock,fin:=e},wait:=aJ m.wait r.call}
def im (m:Rm) (c:Int):Bool:=m.back.any fun p=>decide (p.1=c)
def kS (nl:Nat) (m:Rm) (c pt:Int):Rm × Bs:=
 if (dE m.recs c).isSome||im m c then (m,tT) else match AD nl m.recs with
  |[]=>({m with back:=m.back++[(c,pt)]},KQ)
  |l::_=>({m with recs:=m.recs++[⟨c,l,0,m.clock, -1, -1,eR⟩],wait:=gY m.wait (placeOf m.wait pt) (c,pt)},jj++Lib.itoa l)
def hZ (m:Rm) (op:Int):Rm × Bs:=
 if ez m.recs op>0 then (m,l8) else match m.wait with
  |[]=>(m,qB)
  |p::_=>match dE m.recs p.1 with
   |none=>(m,[])
   |some i=>match m.recs[i]? with
    |none=>(m,[])
    |some r=>({m with recs:=m.recs.set i {r with op:=op,heard:=m.clock},wait:=aJ m.wait p.1},dL++Lib.itoa p.1)
def lD (nl:Nat) (m:Rm) (op:Int):Rm × Bs:=
 if ez m.recs op>0 then (m,l8) else match m.back with
  |[]=>(m,qB)
  |p::_=>match AD nl m.recs with
   |[]=>(m,KQ)
   |l::_=>({m with back:=aJ m.back p.1,recs:=m.recs++[⟨p.1,l,op,m.clock,m.clock, -1,eR⟩]},dL++Lib.itoa p.1)
def lv (m:Rm) (c:Int):Rm × Bs:=
 match dE m.recs c with
 |some i=>match m.recs[i]? with
  |none=>(m,[])
  |some r=>if r.op>0 then (jJ m i iy,iy) else (jJ m i ie,ie)
 |none=>if im m c then ({m with back:=aJ m.back c},JC) else (m,Da)
def fB (P:Int) (q:Rm × Bs) (p:Int × Int):Rm × Bs:=match dE q.1.recs p.1 with
 |none=>q
 |some i=>match q.1.recs[i]? with
  |none=>q
  |some r=>if q.1.clock - r.jy>=P then ({jJ q.1 i eT with back:=q.1.back++[p]},q.2++(32::Lib.itoa p.1)) else q
def mB (P:Int) (m:Rm) (n:Int):Rm × Bs:=m.wait.foldl (fB P) ({m with clock:=m.clock+n},rI++Lib.itoa (m.clock+n))
def qy (nl:Nat) (P:Int) (m:Rm):Ev->Rm × Bs
 | .ring c pt=>kS nl m c pt
 | .hang c=>lv m c
 | .answer i=>hZ m ((i+1:Nat):Int)
 | .back i=>lD nl m ((i+1:Nat):Int)
 | .wait n=>mB P m n
def Ca (nl:Nat) (P:Int) (m:Rm) (e:Ev):Rm:={(qy nl P m e).1 with log:=(qy nl P m e).1.log++[(qy nl P m e).2]}
def ja (nl:Nat) (P:Int) (evs:List Ev):Rm:=evs.foldl (Ca nl P) ⟨[],[],[],0,[]⟩
def iA (rs:List Rec) (i:Nat) (r:Rec):Prop:=rs[i]?=some r/\r.fin=eR
variable {rs:List Rec} {i j:Nat} {r':Rec}
theorem iA.set {r0:Rec} (h:rs[i]?=some r0) {s:Rec}:iA (rs.set i r') j s↔(j=i/\s=r'/\s.fin=eR)\/(j≠i/\iA rs j s):=by
 have hlt:=(List.getElem?_eq_some_iff.1 h).1
 unfold iA
 rw [List.getElem?_set]
 by_cases e:i=j
 ·subst e
  simp only [if_true,hlt,n_,ne_eq,not_true_eq_false,false_and,or_false,true_and]
  constructor
  ·rintro ⟨rfl,h⟩;exact ⟨rfl,h⟩
  ·rintro ⟨rfl,h⟩;exact ⟨rfl,h⟩
 ·have e':¬j=i:=fun h=>e h.symm
  simp only [e,if_false,e',false_and,ne_eq,not_false_eq_true,true_and,false_or]
theorem iA.app {s:Rec}:iA (rs++[r']) j s↔iA rs j s\/(j=rs.length/\s=r'/\s.fin=eR):=by
 unfold iA
 rw [List.getElem?_append]
 by_cases e:j<rs.length
 ·rw [if_pos e]
  constructor
  ·exact .inl
  ·rintro (h|⟨rfl,_⟩)
   ·exact h
   ·exact absurd e (Nat.lt_irrefl _)
 ·rw [if_neg e]
  have hn:rs[j]?=none:=List.getElem?_eq_none (by omega)
  rw [hn]
  by_cases e2:j=rs.length
  ·subst e2
   simp only [Nat.sub_self,List.getElem?_cons_zero,n_,true_and]
   constructor
   ·rintro ⟨rfl,h⟩;exact .inr ⟨rfl,h⟩
   ·rintro (⟨h,_⟩|⟨rfl,h⟩)
    ·cases h
    ·exact ⟨rfl,h⟩
  ·have:([r']:List Rec)[j - rs.length]?=none:=List.getElem?_eq_none (by simp;omega)
   rw [this]
   constructor
   ·rintro ⟨h,_⟩;cases h
   ·rintro (⟨h,_⟩|⟨h,_⟩)
    ·cases h
    ·exact absurd h e2
structure LP (nl no:Nat) (rs:List Rec):Prop where
 qM:∀(i j:Nat) (r s:Rec),iA rs i r->iA rs j s->r.call=s.call->i=j
 FK:∀(i j:Nat) (r s:Rec),iA rs i r->iA rs j s->r.line=s.line->i=j
 TG:∀(i j:Nat) (r s:Rec),iA rs i r->iA rs j s->r.op=s.op->r.op≠0->i=j
 G8:∀(i:Nat) (r:Rec),rs[i]?=some r->(1<=r.line/\r.line<=(nl:Int))/\(0<=r.op/\r.op<=(no:Int))/\1<=r.call/\r.call<=99
variable {nl no:Nat}
theorem kX (g:LP nl no rs) {c:Int} {r:Rec} (h:iA rs i r) (hc:r.call=c):dE rs c=some i:=by
 unfold dE
 rw [List.findIdx?_eq_some_iff_getElem]
 obtain ⟨hlt,e⟩:=List.getElem?_eq_some_iff.1 h.1
 refine ⟨hlt,by rw [e];simp [isOpen,hc,h.2],fun j hj hp=> ?_⟩
 simp only [T_,decide_eq_true_eq,isOpen] at hp
 have:=g.qM j i rs[j] r ⟨G_ _,hp.2⟩ h (by rw [hp.1,hc])
 omega
theorem wT {c:Int} (h:dE rs c=some i):∃r,iA rs i r/\r.call=c:=by
 unfold dE at h
 obtain ⟨hlt,hp,_⟩:=List.findIdx?_eq_some_iff_getElem.1 h
 simp only [T_,decide_eq_true_eq,isOpen] at hp
 exact ⟨rs[i],⟨G_ _,hp.2⟩,hp.1⟩
theorem Ej {c:Int} (h:dE rs c=none):∀i r,iA rs i r->r.call≠c:=by
 intro i r hr hc
 unfold dE at h
 rw [List.findIdx?_eq_none_iff] at h
 have:=h r (List.mem_iff_getElem?.2 ⟨i,hr.1⟩)
 simp [isOpen,hc,hr.2] at this
theorem uy {c:Int} (h:∀i r,iA rs i r->r.call≠c):dE rs c=none:=by
 cases hx:dE rs c with
 |none=>rfl
 |some i=>obtain ⟨r,h1,h2⟩:=wT hx;exact absurd h2 (h i r h1)
theorem BV (g:LP nl no rs) {op:Int} (h0:op≠0) {r:Rec} (h:iA rs i r) (ho:r.op=op):ez rs op=r.call:=by
 unfold ez
 have:rs.find? (fun r=>decide (r.op=op)&&isOpen r)=some r:=by
  rw [List.find?_eq_some_iff_getElem]
  obtain ⟨hlt,e⟩:=List.getElem?_eq_some_iff.1 h.1
  refine ⟨by simp [isOpen,ho,h.2],i,hlt,e,fun j hj=> ?_⟩
  cases hp:(decide ((rs[j]).op=op)&&isOpen rs[j]) with
  |false=>rfl
  |true=>
   simp only [T_,decide_eq_true_eq,isOpen] at hp
   have:=g.TG j i rs[j] r ⟨G_ _,hp.2⟩ h (by rw [hp.1,ho]) (by rw [hp.1];exact h0)
   omega
 rw [this]
theorem BW {op:Int} (h:∀i r,iA rs i r->r.op≠op):ez rs op=0:=by
 unfold ez
 have:rs.find? (fun r=>decide (r.op=op)&&isOpen r)=none:=by
  rw [List.find?_eq_none]
  intro r hr hp
  simp only [T_,decide_eq_true_eq,isOpen] at hp
  obtain ⟨i,hi⟩:=List.mem_iff_getElem?.1 hr
  exact h i r ⟨hi,hp.2⟩ hp.1
 rw [this]
theorem GR {l:Int}:lM rs l=true↔∃i r,iA rs i r/\r.line=l:=by
 unfold lM
 rw [List.any_eq_true]
 constructor
 ·rintro ⟨r,hr,hp⟩
  simp only [T_,decide_eq_true_eq,isOpen] at hp
  obtain ⟨i,hi⟩:=List.mem_iff_getElem?.1 hr
  exact ⟨i,r,⟨hi,hp.2⟩,hp.1⟩
 ·rintro ⟨i,r,h,hl⟩
  exact ⟨r,List.mem_iff_getElem?.2 ⟨i,h.1⟩,by simp [isOpen,hl,h.2]⟩
structure Rel (nl no n:Nat) (S:Hs) (us:List Od) (m:Rm):Prop where
 good:LP nl no m.recs
 recs:S.recs=m.recs
 clock:S.clock=m.clock
 wait:S.wait=m.wait
 back:S.back=m.back.map (·.1)
 log:S.log=m.log
 cg:S.cg=[]
 ll:S.lines.length=nl
 nd:S.lines.Nodup
 ul:us.length=no
 JE:∀c x,S.of c=some x->∃i r,iA m.recs i r/\r.call=c/\S.lines[(r.line - 1).toNat]?=some x/\S.rc c=some i
 MQ:∀i r,iA m.recs i r->∃x,S.of r.call=some x
 Oq:∀x c,S.on x=some c->∃i r,iA m.recs i r/\r.call=c/\S.lines[(r.line - 1).toNat]?=some x
 MN:∀i r x,iA m.recs i r->S.lines[(r.line - 1).toNat]?=some x->S.on x=some r.call
 LY:∀q u i r,us[q]?=some u->iA m.recs i r->r.op=((q+1:Nat):Int)->u.k=r.call
 MV:∀q u,us[q]?=some u->u.k≠0->∃i r,iA m.recs i r/\r.op=((q+1:Nat):Int)
 w0:(m.wait.map (·.1)).Nodup
 w1:∀p,p∈m.wait->∃i r,iA m.recs i r/\r.call=p.1/\r.op=0
 w2:∀i r,iA m.recs i r->r.op=0->r.call∈m.wait.map (·.1)
 b0:(m.back.map (·.1)).Nodup
 b1:∀p,p∈m.back->∀i r,iA m.recs i r->r.call≠p.1
 b2:∀p,p∈m.back->1<=p.1/\p.1<=99
 jy:∀(i:Nat) (r:Rec),m.recs[i]?=some r->0<=r.jy/\r.jy<=m.clock
 cl:0<=m.clock
 n1:m.recs.length<=n
 n2:m.wait.length+m.back.length<=n
 n4:m.clock<=60 * (n:Int)
end
end Go.aC.Of
