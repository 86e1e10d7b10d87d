/-
  The walk of the law FnExactWaitingCalls.
-/
import Derived.Conc.LeavingOf
import Derived.ChangeShapes
import Derived.ChangeSlices
import Derived.WideShapes
import Derived.ChangeArms
import Derived.Deep.Slices
import Derived.Deep.Fields
import Derived.Deep.DeepHandedRow
import Derived.LaidLaws
import Derived.Lib.LaidTab
import Derived.ChangeOld
import Derived.SevenTiedAt
import Derived.Test.YtnjkbffmmgckeaaGreatDoorPaa
import Derived.Test.YtnjkbffmmgckeaaGreatDoorPag
import Derived.Test.YtnjkbffmmgckeaaGreatDoorPaz
set_option linter.all false
set_option maxRecDepth 100000
set_option maxHeartbeats 32000000
open Go renaming undef->I',World->J',Value->M',TypeId->Q',Addr->z_
open Go.RowKit renaming Hid->f_,Below->g_
open Option renaming getD_some->A_
open Option.some renaming inj->M_
open Go.Proofs.Tryz renaming prog->p_
open Go.Proofs.Tryz
namespace Go.aC.Of
section
open Go Go.Conc Go.Conc.Lib Go.ConcR Go.ConcR.Gen Go.aC Go.Proofs
open Go.RowKit hiding Hid Below
open Go.ConcN (upd upd_ne upd_same)
noncomputable def δ:Code:=f4.body.getD .skip
theorem T8 {p q:M'}:Frame.enter p_ 4 #[p,q] .normal=(base 4).at ⟨#[p,q,I',I',I',I',I',I',I',I',I',I',I',I',I',I',I',I',I',I',I',I',I',I',I',I',I',I',I',I',I',I',I',I',I',I',I',I',I',I',I',I',I',I',I',I',I',I',I',I',I',I',I',I',I',I',I',I',I',I',I',I',I',I',I',I',I',I',I',I',I',I',I',I',I',I',I'],[]⟩ [.code δ]:=by kernel_rfl
variable {C:cS} {b Bd:Nat}
theorem Zk {o:Nat} {wl:J'} {tmps:Array M'} {todo:List Item} (hL:Lay C wl) (h4:tmps[4]?=some (.bool true)):
 Can p_ C b o (fun v _=>v=.bool true) 0 (db Bd) wl (G {(base 4).at ⟨tmps,[]⟩ todo with mode:=.returning} []):=by
 refine Can.mono (Rs:=Alone) (Can.ends (v:=.bool true) hL rfl (fun w hw=> ?_) (fun _ _=>rfl)) (fun _ _ _ h=>h.1)
 have hr:(results f4 tmps).runT p_ w #[]=(.ok (.bool true) w,#[]):=by
  simp [results,Tryz.results4,h4,Sem.runT]
 refine ⟨seen p_ 4 #[], ?_, ?_⟩
 ·simp only [stepG,G,Frame.at,base,unwind,func4]
  rw [hr]
  simp [doReturn,GStep.after,Result.D6]
 ·intro e he;rw [seen_none] at he;simp at he
variable {ds:List Dd}
theorem Z8 {o:Nat} {w0:J'} {L O P:Int} {ta:Option z_} {tc:Nat} (SI:Bd<900000000) (WL:Lay C w0) (Gj:cR w0 ta ds) (uO:ds≠[]->∀b' off,ta=some ⟨b',off,none⟩->b'<w0.heap.size) (sr:qO w0) (hd:∀d∈ds,d.act.length<=9223372036854775807) (hlen:ds.length<=9223372036854775807):
 Can p_ C b o (fun v _=>v=.bool true) 0 (db Bd) w0 (G (Frame.enter p_ 4 #[.agg #[.int .i64 L,.int .i64 O,.int .i64 P],.slice ta ds.length tc] .normal) []):=by
 have hS:=cT Bd
 have e0:az 0 δ=.seq (ai 0 δ) (az 1 δ):=by kernel_rfl
 have e1:az 1 δ=.seq (ai 1 δ) (az 2 δ):=by kernel_rfl
 have e2:az 2 δ=.seq (ai 2 δ) (az 3 δ):=by kernel_rfl
 have e3:az 3 δ=.seq (ai 3 δ) (az 4 δ):=by kernel_rfl
 have e4:az 4 δ=.seq (ai 4 δ) (az 5 δ):=by kernel_rfl
 have e5:az 5 δ=.seq (ai 5 δ) (az 6 δ):=by kernel_rfl
 have e6:az 6 δ=.seq (ai 6 δ) (az 7 δ):=by kernel_rfl
 have e7:az 7 δ=.seq (ai 7 δ) (az 8 δ):=by kernel_rfl
 have e8:az 8 δ=.seq (ai 8 δ) (az 9 δ):=by kernel_rfl
 have e9:az 9 δ=.seq (ai 9 δ) (az 10 δ):=by kernel_rfl
 have ow:az 10 δ=.seq (ai 10 δ) (az 11 δ):=by kernel_rfl
 have jZ:az 11 δ=.seq (ai 11 δ) (az 12 δ):=by kernel_rfl
 have xR:az 12 δ=.seq (ai 12 δ) (az 13 δ):=by kernel_rfl
 have oL:az 13 δ=.seq (ai 13 δ) (az 14 δ):=by kernel_rfl
 have yg:az 14 δ=.seq (ai 14 δ) (az 15 δ):=by kernel_rfl
 have e15:az 15 δ=.seq (ai 15 δ) (az 16 δ):=by kernel_rfl
 have Dh:az 16 δ=.seq (ai 16 δ) (az 17 δ):=by kernel_rfl
 have e17:az 17 δ=.seq (ai 17 δ) (az 18 δ):=by kernel_rfl
 have e18:az 18 δ=.seq (ai 18 δ) (az 19 δ):=by kernel_rfl
 have e19:az 19 δ=.seq (ai 19 δ) (az 20 δ):=by kernel_rfl
 have e20:az 20 δ=.seq (ai 20 δ) (az 21 δ):=by kernel_rfl
 have e21:az 21 δ=.seq (ai 21 δ) (az 22 δ):=by kernel_rfl
 have e22:az 22 δ=.seq (ai 22 δ) (az 23 δ):=by kernel_rfl
 have e23:az 23 δ=.seq (ai 23 δ) (az 24 δ):=by kernel_rfl
 have e24:az 24 δ=.seq (ai 24 δ) (az 25 δ):=by kernel_rfl
 rw [T8,show δ=az 0 δ from rfl]
 rw [e0]
 refine hS.s WL ?_
 refine Can.cY cC hS WL (aF (by kernel_rfl) rfl rfl ⟨_,func4⟩) ?_
 intro T d W hW Bh hB
 have kW:f_ (cG none w0 W):=.of_heap (by rw [hW.out];rfl)
 have U6:=aa Gj
 have OG:=aa sr
 have WG:=aa hd
 have hLh:=aa WL
 clear hW Gj sr hd WL
 simp only [ai,δ,f4,A_]
 go_wp2_with fail
 have hB:=hB.out
 subst hB
 intro hcut
 have k1:cG none w0 (W.alloc (.cells #[.int .i64 L,.int .i64 O,.int .i64 P] 23)):=kW.out.trans (.bW ((RowKit.Below.refl _ _).alloc (Nat.le_refl _) _))
 have hI:f_ (ju (W.heap.size+1) W.heap.size L O P ta ds (W.alloc (.cells #[.int .i64 L,.int .i64 O,.int .i64 P] 23))):=by
  refine ⟨heap_alloc_new W _,Nat.lt_succ_self _, ?_,fun hne b' off e=> ?_, ?_⟩
  ·rcases U6.out with rfl|⟨b',off,rfl,hb,hc⟩
   ·exact .inl rfl
   ·exact .inr ⟨b',off,rfl,Nat.lt_of_lt_of_le hb k1.size,fun i hi=>⟨k1.cell (fun e=>by cases e) (hc i hi).1,k1.cell (fun e=>by cases e) (hc i hi).2.1,k1.cell (fun e=>by cases e) (hc i hi).2.2⟩⟩
  ·have:=uO hne b' off e;have:=kW.out.size;omega
  ·obtain ⟨g,cs',e',f',t1,t2,t3⟩:=OG.out
   have:=fw t2
   have:=kW.out.size
   exact ⟨g,cs',e',f',by omega,t1,k1.blk _ _ _ _ (fun e=>by cases e) t2,t3⟩
 generalize W.alloc (.cells #[.int .i64 L,.int .i64 O,.int .i64 P] 23)=w1 at *
 generalize W.heap.size=kb at *
 have nU:Lay C w1:=⟨hcut,hLh.out.no⟩
 clear hcut kW k1 U6 OG hLh
 rw [e1]
 refine hS.s nU ?_
 refine Can.cY cC hS nU (aF (by kernel_rfl) rfl rfl ⟨_,func4⟩) ?_
 intro T d W hW Bh hB
 have ij:=aa hW
 have kW:f_ (cG none w1 W):=.of_heap (by rw [hW.out];rfl)
 clear hW
 simp only [ai,δ,f4,A_]
 go_wp2_with fail
 have hB:=hB.out
 subst hB
 intro hcut
 have hW:=ij.out.out
 subst hW
 refine Can.re ?_ T d
 clear hcut ij kW
 obtain ⟨v,hv⟩:∃v,zn 1048576 (BZ ds ds.length)=v:=⟨_,rfl⟩
 have hvv:v<0\/0<=v/\ds.length<=1048576:=by
  rw [<-hv];unfold zn
  split
  ·rename_i h;exact .inr ⟨by omega,by unfold BZ at h;omega⟩
  ·exact .inl (by omega)
 have TX:=aa hvv
 clear hvv
 rw [e2]
 refine hS.s nU ?_
 refine Can.cY cC hS nU (aF (by kernel_rfl) rfl rfl ⟨_,func4⟩) ?_
 intro T d W hW Bh hB
 have ij:=aa hW
 have kW:f_ (cG none w1 W):=.of_heap (by rw [hW.out];rfl)
 have IA:f_ (ju (kb+1) kb L O P ta ds W):=hI.out.was kW.out (fun g e=>by cases e)
 have c9:f_ (Calls p_ 9 #[.slice ta ds.length tc,.int .i64 1048576] W fun e w'=>e=.returned (.int .i64 v)/\g_ W.heap.size W w'):=by rw [<-hv];exact BX ta tc ds 1048576 W (by omega) hlen WG.out IA.out.ev
 clear hv IA
 clear hW
 simp only [ai,δ,f4,A_]
 go_wp2_with fail
 refine c9.out.mono ?_
 rintro e w2 ⟨rfl,hb⟩
 go_wp2_with fail
 have hB:=hB.out
 subst hB
 intro hcut
 have K:=kW.out.trans (.bW hb)
 have lx:f_ (ju (kb+1) kb L O P ta ds w2):=hI.out.was K (fun g e=>by cases e)
 replace hI:=lx
 clear lx
 have du:Lay C w2:=⟨hcut,nU.no⟩
 clear hcut ij kW
 clear K hb c9
 by_cases QL:v<0
 ·
  rw [e3]
  refine hS.s du ?_
  refine Can.cY cC hS du (aF (by kernel_rfl) rfl rfl ⟨_,func4⟩) ?_
  intro T d W hW Bh hB
  have ij:=aa hW
  have kW:f_ (cG none w2 W):=.of_heap (by rw [hW.out];rfl)
  clear hW
  simp only [ai,δ,f4,A_]
  go_wp2_with fail
  have hB:=hB.out
  subst hB
  intro hcut todo
  have hW:=ij.out.out
  subst hW
  refine Can.re ?_ T d
  exact Zk du rfl
 obtain ⟨BG,hn⟩:=TX.out.resolve_left QL
 have Ur:¬v<0:=QL
 clear TX hlen WG
 rw [e3]
 refine hS.s du ?_
 refine Can.cY cC hS du (aF (by kernel_rfl) rfl rfl ⟨_,func4⟩) ?_
 intro T d W hW Bh hB
 have ij:=aa hW
 have kW:f_ (cG none w2 W):=.of_heap (by rw [hW.out];rfl)
 clear hW
 simp only [ai,δ,f4,A_]
 go_wp2_with fail
 have hB:=hB.out
 subst hB
 intro hcut
 have hW:=ij.out.out
 subst hW
 refine Can.re ?_ T d
 clear hcut ij kW
 clear QL Ur BG
 have L8:=aa hn
 clear hn
 rw [e4]
 refine hS.s du ?_
 refine Can.cY cC hS du (aF (by kernel_rfl) rfl rfl ⟨_,func4⟩) ?_
 intro T d W hW Bh hB
 have ij:=aa hW
 have kW:f_ (cG none w2 W):=.of_heap (by rw [hW.out];rfl)
 have IA:f_ (ju (kb+1) kb L O P ta ds W):=hI.out.was kW.out (fun g e=>by cases e)
 obtain ⟨g0,g1,g2⟩:=IA.out.cells
 clear hW
 simp only [ai,δ,f4,A_]
 go_wp2_with fail
 refine (nz L O P _).mono ?_
 rintro e wa ⟨rfl,Ri⟩
 have hIa:f_ (ju (kb+1) kb L O P ta ds wa):=IA.out.was (.bW Ri) (fun g e=>by cases e)
 have kWa:f_ (cG none W wa):=.bW Ri
 clear g0 g1 g2 Ri IA
 go_wp2_with fail
 refine (lN ta tc ds wa L8.out hIa.out.ev).mono ?_
 rintro e wb ⟨rfl,jm,uf⟩
 have YD:f_ (cG none W wb):=kWa.out.trans (.bW uf)
 have hcs:f_ (Calls p_ 19 #[.agg #[.int .i64 L,.int .i64 O,.int .i64 P],.slice (some ⟨wa.heap.size,0,none⟩) ds.length ds.length] wb fun e w'=>∃u R,e=.returned u/\w'.ownsRow wb.heap.size 3 1 u R.length (R.map (Value.int .i64))/\g_ wb.heap.size wb w'/\Xd L O P (ds.map Dd.raw) R):=by
  have h:=zY (L:=L) (O:=O) (P:=P) (ec:=ds.length) (tt (cR.wV jm)) (by rw [List.length_map];exact L8.out)
  rw [List.length_map] at h;exact h
 clear jm uf hIa kWa
 go_wp2_with fail
 refine hcs.out.mono ?_
 rintro e w3 ⟨u0,R0,rfl,Kj,BL,OW⟩
 obtain ⟨au,cu,FT⟩:=aE Kj
 subst FT
 have K:f_ (cG none W w3):=YD.out.trans (.bW BL)
 have KI:=aa OW
 have mi:=aa Kj
 have hBu:=aa (Nat.le_trans (fw hI.out.box) (Nat.le_trans kW.out.size YD.out.size))
 clear BL hcs YD OW Kj
 go_wp2_with fail
 have hB:=hB.out
 subst hB
 intro hcut
 have K2:=kW.out.trans K.out
 have lx:f_ (ju (kb+1) kb L O P ta ds w3):=hI.out.was K2 (fun g e=>by cases e)
 replace hI:=lx
 clear lx
 have gA:Lay C w3:=⟨hcut,du.no⟩
 clear hcut ij kW
 clear K K2
 have hRlen:R0.length<=1000:=CC KI.out
 replace mi:f_ (w3.ownsRow (kb+1) 3 1 (.slice au R0.length cu) R0.length (R0.map (Value.int .i64))):=gG mi.out hBu.out
 clear hBu
 rw [e5]
 refine hS.s gA ?_
 refine Can.cY cC hS gA (aF (by kernel_rfl) rfl rfl ⟨_,func4⟩) ?_
 intro T d W hW Bh hB
 have ij:=aa hW
 have kW:f_ (cG none w3 W):=.of_heap (by rw [hW.out];rfl)
 have IA:f_ (ju (kb+1) kb L O P ta ds W):=hI.out.was kW.out (fun g e=>by cases e)
 clear hW
 simp only [ai,δ,f4,A_]
 go_wp2_with fail
 refine (lN ta tc ds W L8.out IA.out.ev).mono ?_
 rintro e w4 ⟨rfl,jm,uf⟩
 have AP:=aa jm
 have DF:f_ (w3.heap.size<=W.heap.size):=kW.out.size
 have K:f_ (cG none W w4):=.bW uf
 generalize W.heap.size=g1 at *
 clear jm uf IA
 go_wp2_with fail
 have hB:=hB.out
 subst hB
 intro hcut
 have BI:f_ (kb+1<=g1):=Nat.le_trans (fw hI.out.box) DF.out
 have K2:=kW.out.trans K.out
 have lx:f_ (ju (kb+1) kb L O P ta ds w4):=hI.out.was K2 (fun g e=>by cases e)
 have fZ:f_ (w4.ownsRow (kb+1) 3 1 (.slice au R0.length cu) R0.length (R0.map (Value.int .i64))):=K2.own mi.out (fun g _ e=>by cases e)
 replace hI:=lx
 clear lx
 replace mi:=fZ
 clear fZ
 have qv:Lay C w4:=⟨hcut,gA.no⟩
 clear hcut ij kW
 clear K K2 DF
 rw [e6]
 refine hS.s qv ?_
 generalize hK:[Item.code (az 7 δ)]=K₁
 simp only [ai,δ,f4,A_]
 refine Can.ctl hS qv rfl (fun _=>zb) ?_
 refine Can.op (ok:=MO) hS qv rfl rfl (by k_ne) (by kernel_rfl) (fun T d=>⟨.agg #[.int .i64 L,.int .i64 O,.int .i64 P],w4.re T d, ?_,fun _=>Can.re ?_ T d⟩)
 ·obtain ⟨g0,g1,g2⟩:=hI.out.cells
  have g0:(w4.re T d).cell? ⟨kb,0,none⟩=some (.int .i64 L):=g0
  have g1:(w4.re T d).cell? ⟨kb,1,none⟩=some (.int .i64 O):=g1
  have g2:(w4.re T d).cell? ⟨kb,2,none⟩=some (.int .i64 P):=g2
  go_simp
 walk_nrm
 refine Can.ctl hS qv rfl (fun _=>bY (vs:=#[.agg #[.int .i64 L,.int .i64 O,.int .i64 P]]) rfl rfl (by k_ne) rfl func11 rfl rfl (by kernel_rfl)) ?_
 refine Can.call cC hS qv (by kernel_rfl) (by kernel_rfl) (fun T d=>(nz L O P (w4.re T d)).mono ?_)
 rintro e w5 ⟨rfl,BL⟩
 refine ⟨_,rfl,fun hcut=> ?_⟩
 have K:cG none w4 w5:=(cG.of_heap (show (w4.re T d).heap=w4.heap from rfl)).trans (.bW BL)
 have lx:f_ (ju (kb+1) kb L O P ta ds w5):=hI.out.was K (fun g e=>by cases e)
 have fZ:f_ (w5.ownsRow (kb+1) 3 1 (.slice au R0.length cu) R0.length (R0.map (Value.int .i64))):=K.own mi.out (fun g _ e=>by cases e)
 have xp:f_ (w5.heap[g1]?=some (.cells (fM ds ds.length) 55 (0,0))):=K.blk _ _ _ _ (fun e=>by cases e) AP.out
 replace hI:=lx
 clear lx
 replace mi:=fZ
 clear fZ
 replace AP:=xp
 clear xp
 have qu:Lay C w5:=⟨hcut,qv.no⟩
 clear hcut K BL
 rw [Frame.finish_at]
 walk_nrm
 refine Can.op (ok:=MO) hS qu rfl rfl (by k_ne) (by kernel_rfl) (fun T d=>⟨.slice (some ⟨g1,0,none⟩) ds.length ds.length,w5.re T d, ?_,fun _=>Can.re ?_ T d⟩)
 ·go_simp
 walk_nrm
 refine Can.ctl hS qu rfl (fun _=>bY (vs:=#[.agg #[.int .i64 L,.int .i64 O,.int .i64 P],.slice (some ⟨g1,0,none⟩) ds.length ds.length]) rfl rfl (by k_ne) rfl func20 rfl rfl (by kernel_rfl)) ?_
 have Ub:fF w5 (some ⟨g1,0,none⟩) (ds.map Dd.raw):=tt (cR.wV AP.out)
 have HD:(ds.map Dd.raw).length=ds.length:=List.length_map ..
 rw [<-HD]
 have Ir:=aa (fun g (e:(Value.slice au R0.length cu).ownBlock=some g)=>(mi.out.lt g e).2)
 refine call20 qu (by rw [HD];exact L8.out) Ub hI.out.N6 (by omega) ?_
 intro C6 b6 o6 w6 r R6 Mj xq hsz bR xI
 rw [HD]
 walk_nrm
 have Z4:R0=R6:=(Gy KI.out xI).symm
 subst Z4
 obtain ⟨ar,cr,FT⟩:=aE bR
 subst FT
 have K:cG none w5 w6:=.JD xq hsz
 have Rz:f_ (kb+1<=w5.heap.size):=fw hI.out.box
 have lx:f_ (ju (kb+1) kb L O P ta ds w6):=hI.out.was K (fun g e=>by cases e)
 have fZ:f_ (w6.ownsRow (kb+1) 3 1 (.slice au R0.length cu) R0.length (R0.map (Value.int .i64))):=K.own mi.out (fun g _ e=>by cases e)
 have xp:f_ (w6.heap[g1]?=some (.cells (fM ds ds.length) 55 (0,0))):=K.blk _ _ _ _ (fun e=>by cases e) AP.out
 replace hI:=lx
 clear lx
 replace mi:=fZ
 clear fZ
 replace AP:=xp
 clear xp
 have hr:=aa bR
 have qp:=cT (Bd+5)
 have Iz:=Mj
 clear Mj xq hsz bR xI Ub HD K
 refine Can.op (ok:=MO) qp Iz rfl rfl (by k_ne) (by kernel_rfl) (fun T d=>⟨.slice ar R0.length cr,w6.re T d, ?_,fun _=>Can.re ?_ T d⟩)
 ·go_simp
 walk_nrm
 refine Can.ctl qp Iz rfl (fun _=>stepG_region_end) ?_
 subst hK
 have U7:f_ (∀g,(Value.slice au R0.length cu).ownBlock=some g->(Value.slice ar R0.length cr).ownBlock≠some g):=fun g e1 e2=>by have h1:=Ir.out g e1;have h2:=(hr.out.lt g e2).1;omega
 replace hr:f_ (w6.ownsRow (kb+1) 3 1 (.slice ar R0.length cr) R0.length (R0.map (Value.int .i64))):=gG hr.out Rz.out
 clear Ir Rz
 rw [e7]
 refine qp.s Iz ?_
 refine Can.cY cC qp Iz (aF (by kernel_rfl) rfl rfl ⟨_,func4⟩) ?_
 intro T d W hW Bh hB
 have ij:=aa hW
 have kW:f_ (cG none w6 W):=.of_heap (by rw [hW.out];rfl)
 have CL:f_ (W.ownsRow (kb+1) 3 1 (.slice au R0.length cu) R0.length (R0.map (Value.int .i64))):=kW.out.own mi.out (fun g _ e=>by cases e)
 have LZ:f_ (W.ownsRow (kb+1) 3 1 (.slice ar R0.length cr) R0.length (R0.map (Value.int .i64))):=kW.out.own hr.out (fun g _ e=>by cases e)
 have hA:=aa (cM LZ.out)
 have jx:=aa (cM CL.out)
 clear CL LZ
 clear hW
 simp only [ai,δ,f4,A_]
 go_wp2_with fail
 refine (mN _ _ _ _ R0 W (by omega) hA.out jx.out).mono ?_
 rintro e w7 ⟨rfl,hb⟩
 have K:f_ (cG none W w7):=.bW hb
 clear hb hA jx
 go_wp2_with fail
 have hB:=hB.out
 subst hB
 intro hcut
 have K2:=kW.out.trans K.out
 have lx:f_ (ju (kb+1) kb L O P ta ds w7):=hI.out.was K2 (fun g e=>by cases e)
 have fZ:f_ (w7.ownsRow (kb+1) 3 1 (.slice au R0.length cu) R0.length (R0.map (Value.int .i64))):=K2.own mi.out (fun g _ e=>by cases e)
 have xp:f_ (w7.heap[g1]?=some (.cells (fM ds ds.length) 55 (0,0))):=K2.blk _ _ _ _ (fun e=>by cases e) AP.out
 have Kl:f_ (w7.ownsRow (kb+1) 3 1 (.slice ar R0.length cr) R0.length (R0.map (Value.int .i64))):=K2.own hr.out (fun g _ e=>by cases e)
 replace hI:=lx
 clear lx
 replace mi:=fZ
 clear fZ
 replace AP:=xp
 clear xp
 replace hr:=Kl
 clear Kl
 have jv:Lay C6 w7:=⟨hcut,Iz.no⟩
 clear hcut ij kW
 clear K K2
 rw [e8]
 refine qp.s jv ?_
 refine Can.cY cC qp jv (aF (by kernel_rfl) rfl rfl ⟨_,func4⟩) ?_
 intro T d W hW Bh hB
 have ij:=aa hW
 have kW:f_ (cG none w7 W):=.of_heap (by rw [hW.out];rfl)
 have IA:f_ (ju (kb+1) kb L O P ta ds W):=hI.out.was kW.out (fun g e=>by cases e)
 have ED:f_ (W.heap[g1]?=some (.cells (fM ds ds.length) 55 (0,0))):=kW.out.blk _ _ _ _ (fun e=>by cases e) AP.out
 clear hW
 simp only [ai,δ,f4,A_]
 go_wp2_with fail
 refine (lN ta tc ds W L8.out IA.out.ev).mono ?_
 rintro e wa ⟨rfl,jm,uf⟩
 have hD1:f_ (cR wa (some ⟨g1,0,none⟩) ds):=cR.wV ((uf.block g1 (fw ED.out)).trans ED.out)
 have hD2:f_ (cR wa (some ⟨W.heap.size,0,none⟩) ds):=cR.wV jm
 have K0:f_ (cG none W wa):=.bW uf
 clear jm uf IA ED
 go_wp2_with fail
 refine (Bg _ _ _ _ ds wa L8.out hD1.out hD2.out).mono ?_
 rintro e w8 ⟨rfl,hb⟩
 have K:f_ (cG none W w8):=K0.out.trans (.bW hb)
 clear hb K0 hD1 hD2
 go_wp2_with fail
 have hB:=hB.out
 subst hB
 intro hcut
 have K2:=kW.out.trans K.out
 have lx:f_ (ju (kb+1) kb L O P ta ds w8):=hI.out.was K2 (fun g e=>by cases e)
 have fZ:f_ (w8.ownsRow (kb+1) 3 1 (.slice au R0.length cu) R0.length (R0.map (Value.int .i64))):=K2.own mi.out (fun g _ e=>by cases e)
 have xp:f_ (w8.heap[g1]?=some (.cells (fM ds ds.length) 55 (0,0))):=K2.blk _ _ _ _ (fun e=>by cases e) AP.out
 have Kl:f_ (w8.ownsRow (kb+1) 3 1 (.slice ar R0.length cr) R0.length (R0.map (Value.int .i64))):=K2.own hr.out (fun g _ e=>by cases e)
 replace hI:=lx
 clear lx
 replace mi:=fZ
 clear fZ
 replace AP:=xp
 clear xp
 replace hr:=Kl
 clear Kl
 have Vv:Lay C6 w8:=⟨hcut,jv.no⟩
 clear hcut ij kW
 clear K K2
 rw [e9]
 refine qp.s Vv ?_
 refine Can.cY cC qp Vv (aF (by kernel_rfl) rfl rfl ⟨_,func4⟩) ?_
 intro T d W hW Bh hB
 have ij:=aa hW
 have kW:f_ (cG none w8 W):=.of_heap (by rw [hW.out];rfl)
 clear hW
 simp only [ai,δ,f4,A_]
 go_wp2_with fail
 have hB:=hB.out
 subst hB
 intro hcut
 have hW:=ij.out.out
 subst hW
 refine Can.re ?_ T d
 clear hcut ij kW
 rw [ow]
 refine qp.s Vv ?_
 refine Can.cY cC qp Vv (aF (by kernel_rfl) rfl rfl ⟨_,func4⟩) ?_
 intro T d W hW Bh hB
 have ij:=aa hW
 have kW:f_ (cG none w8 W):=.of_heap (by rw [hW.out];rfl)
 have ED:f_ (W.heap[g1]?=some (.cells (fM ds ds.length) 55 (0,0))):=kW.out.blk _ _ _ _ (fun e=>by cases e) AP.out
 obtain ⟨xs,Wu⟩:=Hk ED.out (Nat.le_refl g1) L8.out
 have Wu:=aa Wu
 clear hW
 simp only [ai,δ,f4,A_]
 go_wp2_with fail
 refine (yz _ g1 ds.length xs W L8.out (Nat.le_of_lt (fw ED.out)) Wu.out).mono ?_
 rintro e w9 ⟨rfl,_,kj⟩
 have K:f_ (cG (some g1) W w9):=.Ou kj
 clear kj Wu ED
 go_wp2_with fail
 have hB:=hB.out
 subst hB
 intro hcut
 have K2:=kW.out.pre K.out
 have Gp:f_ (∀g,(Value.slice au R0.length cu).ownBlock=some g->(some g1:Option Nat)≠some g):=fun g hg e=>by have e':g1=g:=M_ e;subst e';exact bB mi.out AP.out (by decide) hg
 have Vo:f_ (∀g,(Value.slice ar R0.length cr).ownBlock=some g->(some g1:Option Nat)≠some g):=fun g hg e=>by have e':g1=g:=M_ e;subst e';exact bB hr.out AP.out (by decide) hg
 clear AP
 have lx:f_ (ju (kb+1) kb L O P ta ds w9):=hI.out.was K2 (fun g e=>by have e':g1=g:=M_ e;have:=BI.out;omega)
 have fZ:f_ (w9.ownsRow (kb+1) 3 1 (.slice au R0.length cu) R0.length (R0.map (Value.int .i64))):=K2.own mi.out Gp.out
 have Kl:f_ (w9.ownsRow (kb+1) 3 1 (.slice ar R0.length cr) R0.length (R0.map (Value.int .i64))):=K2.own hr.out Vo.out
 replace hI:=lx
 clear lx
 replace mi:=fZ
 clear fZ
 replace hr:=Kl
 clear Kl
 have Z9:Lay C6 w9:=⟨hcut,Vv.no⟩
 clear hcut ij kW
 clear K K2 Gp Vo
 rw [jZ]
 refine qp.s Z9 ?_
 refine Can.cY cC qp Z9 (aF (by kernel_rfl) rfl rfl ⟨_,func4⟩) ?_
 intro T d W hW Bh hB
 have ij:=aa hW
 have kW:f_ (cG none w9 W):=.of_heap (by rw [hW.out];rfl)
 have CL:f_ (W.ownsRow (kb+1) 3 1 (.slice au R0.length cu) R0.length (R0.map (Value.int .i64))):=kW.out.own mi.out (fun g _ e=>by cases e)
 have LZ:f_ (W.ownsRow (kb+1) 3 1 (.slice ar R0.length cr) R0.length (R0.map (Value.int .i64))):=kW.out.own hr.out (fun g _ e=>by cases e)
 have hA:=aa (cM LZ.out)
 have jx:=aa (cM CL.out)
 clear CL LZ
 have U8:decide (1+3 * (ds.length:Int)<0)=false:=decide_eq_false (by omega)
 have WH:¬(1+3 * (ds.length:Int)<0):=by omega
 clear hW
 simp only [ai,δ,f4,A_]
 go_wp2_with fail
 refine (mN _ _ _ _ R0 W (by omega) hA.out jx.out).mono ?_
 rintro e Fw ⟨rfl,hb⟩
 have K:f_ (cG none W Fw):=.bW hb
 clear hb hA jx
 go_wp2_with fail
 have hB:=hB.out
 subst hB
 intro hcut
 have K2:=kW.out.trans K.out
 have lx:f_ (ju (kb+1) kb L O P ta ds Fw):=hI.out.was K2 (fun g e=>by cases e)
 have fZ:f_ (Fw.ownsRow (kb+1) 3 1 (.slice au R0.length cu) R0.length (R0.map (Value.int .i64))):=K2.own mi.out (fun g _ e=>by cases e)
 have Kl:f_ (Fw.ownsRow (kb+1) 3 1 (.slice ar R0.length cr) R0.length (R0.map (Value.int .i64))):=K2.own hr.out (fun g _ e=>by cases e)
 replace hI:=lx
 clear lx
 replace mi:=fZ
 clear fZ
 replace hr:=Kl
 clear Kl
 have KU:Lay C6 Fw:=⟨hcut,Z9.no⟩
 clear hcut ij kW
 clear K K2
 rw [xR]
 refine qp.s KU ?_
 refine Can.cY cC qp KU (aF (by kernel_rfl) rfl rfl ⟨_,func4⟩) ?_
 intro T d W hW Bh hB
 have ij:=aa hW
 have kW:f_ (cG none Fw W):=.of_heap (by rw [hW.out];rfl)
 clear hW
 simp only [ai,δ,f4,A_]
 go_wp2_with fail
 have hB:=hB.out
 subst hB
 intro hcut
 have hW:=ij.out.out
 subst hW
 refine Can.re ?_ T d
 clear hcut ij kW
 rw [oL]
 refine qp.s KU ?_
 refine Can.cY cC qp KU (aF (by kernel_rfl) rfl rfl ⟨_,func4⟩) ?_
 intro T d W hW Bh hB
 have ij:=aa hW
 have kW:f_ (cG none Fw W):=.of_heap (by rw [hW.out];rfl)
 have LZ:f_ (W.ownsRow (kb+1) 3 1 (.slice ar R0.length cr) R0.length (R0.map (Value.int .i64))):=kW.out.own hr.out (fun g _ e=>by cases e)
 clear hW
 simp only [ai,δ,f4,A_]
 go_wp2_with fail
 refine (AD _ (kb+1) R0.length _ W (by omega) LZ.out).mono ?_
 rintro e Ms ⟨rfl,⟨am,cm,hvm,Nf⟩,kj⟩
 injection hvm with i1 i2 i3
 subst i1
 have K:f_ (cG (Value.slice ar R0.length cr).ownBlock W Ms):=.Ou kj
 have hm:=aa Nf
 clear kj Nf LZ i2 i3
 go_wp2_with fail
 have hB:=hB.out
 subst hB
 intro hcut
 have K2:=kW.out.pre K.out
 have lx:f_ (ju (kb+1) kb L O P ta ds Ms):=hI.out.was K2 (fun g e=>(hr.out.lt g e).1)
 have fZ:f_ (Ms.ownsRow (kb+1) 3 1 (.slice au R0.length cu) R0.length (R0.map (Value.int .i64))):=K2.own mi.out U7.out
 replace hI:=lx
 clear lx
 replace mi:=fZ
 clear fZ
 have KT:Lay C6 Ms:=⟨hcut,KU.no⟩
 clear hcut ij kW
 clear K K2 hr U7
 rw [yg]
 refine qp.s KT ?_
 refine Can.cY cC qp KT (aF (by kernel_rfl) rfl rfl ⟨_,func4⟩) ?_
 intro T d W hW Bh hB
 have ij:=aa hW
 have kW:f_ (cG none Ms W):=.of_heap (by rw [hW.out];rfl)
 clear hW
 simp only [ai,δ,f4,A_]
 go_wp2_with fail
 have hB:=hB.out
 subst hB
 intro hcut
 have hW:=ij.out.out
 subst hW
 refine Can.re ?_ T d
 clear hcut ij kW
 rw [e15]
 refine qp.s KT ?_
 refine Can.cY cC qp KT (aF (by kernel_rfl) rfl rfl ⟨_,func4⟩) ?_
 intro T d W hW Bh hB
 have ij:=aa hW
 have kW:f_ (cG none Ms W):=.of_heap (by rw [hW.out];rfl)
 have Uu:f_ (eW W ar (marks R0.length)):=hm.out.was kW.out (fun g off _ e=>by cases e)
 clear hW
 simp only [ai,δ,f4,A_]
 go_wp2_with fail
 refine (sC _ _ R0.length W (by omega) Uu.out).mono ?_
 rintro e BQ ⟨rfl,hb⟩
 have K:f_ (cG none W BQ):=.bW hb
 clear hb Uu
 go_wp2_with fail
 have hB:=hB.out
 subst hB
 intro hcut
 have K2:=kW.out.trans K.out
 have lx:f_ (ju (kb+1) kb L O P ta ds BQ):=hI.out.was K2 (fun g e=>by cases e)
 have fZ:f_ (BQ.ownsRow (kb+1) 3 1 (.slice au R0.length cu) R0.length (R0.map (Value.int .i64))):=K2.own mi.out (fun g _ e=>by cases e)
 have CQ:f_ (eW BQ ar (marks R0.length)):=hm.out.was K2 (fun g off _ e=>by cases e)
 replace hI:=lx
 clear lx
 replace mi:=fZ
 clear fZ
 replace hm:=CQ
 clear CQ
 have yP:Lay C6 BQ:=⟨hcut,KT.no⟩
 clear hcut ij kW
 clear K K2
 rw [Dh]
 refine qp.s yP ?_
 refine Can.cY cC qp yP (aF (by kernel_rfl) rfl rfl ⟨_,func4⟩) ?_
 intro T d W hW Bh hB
 have ij:=aa hW
 have kW:f_ (cG none BQ W):=.of_heap (by rw [hW.out];rfl)
 have U8:decide (1+(R0.length:Int)<0)=false:=decide_eq_false (by omega)
 have WH:¬(1+(R0.length:Int)<0):=by omega
 clear hW
 simp only [ai,δ,f4,A_]
 go_wp2_with fail
 have hB:=hB.out
 subst hB
 intro hcut
 have hW:=ij.out.out
 subst hW
 refine Can.re ?_ T d
 clear hcut ij kW
 clear U8 WH
 rw [e17]
 refine qp.s yP ?_
 refine Can.cY cC qp yP (aF (by kernel_rfl) rfl rfl ⟨_,func4⟩) ?_
 intro T d W hW Bh hB
 have ij:=aa hW
 have kW:f_ (cG none BQ W):=.of_heap (by rw [hW.out];rfl)
 clear hW
 simp only [ai,δ,f4,A_]
 go_wp2_with fail
 have hB:=hB.out
 subst hB
 intro hcut
 have hW:=ij.out.out
 subst hW
 refine Can.re ?_ T d
 clear hcut ij kW
 rw [e18]
 refine qp.s yP ?_
 generalize hK:[Item.code (az 19 δ)]=K₁
 simp only [ai,δ,f4,A_]
 refine Can.ctl qp yP rfl (fun _=>zb) ?_
 refine Can.op (ok:=MO) qp yP rfl rfl (by k_ne) (by kernel_rfl) (fun T d=>⟨.agg #[.int .i64 L,.int .i64 O,.int .i64 P],BQ.re T d, ?_,fun _=>Can.re ?_ T d⟩)
 ·obtain ⟨g0,g1,g2⟩:=hI.out.cells
  have g0:(BQ.re T d).cell? ⟨kb,0,none⟩=some (.int .i64 L):=g0
  have g1:(BQ.re T d).cell? ⟨kb,1,none⟩=some (.int .i64 O):=g1
  have g2:(BQ.re T d).cell? ⟨kb,2,none⟩=some (.int .i64 P):=g2
  go_simp
 walk_nrm
 refine Can.ctl qp yP rfl (fun _=>bY (vs:=#[.agg #[.int .i64 L,.int .i64 O,.int .i64 P]]) rfl rfl (by k_ne) rfl func11 rfl rfl (by kernel_rfl)) ?_
 refine Can.call cC qp yP (by kernel_rfl) (by kernel_rfl) (fun T d=>(nz L O P (BQ.re T d)).mono ?_)
 rintro e BD ⟨rfl,BL⟩
 refine ⟨_,rfl,fun hcut=> ?_⟩
 have K:cG none BQ BD:=(cG.of_heap (show (BQ.re T d).heap=BQ.heap from rfl)).trans (.bW BL)
 have lx:f_ (ju (kb+1) kb L O P ta ds BD):=hI.out.was K (fun g e=>by cases e)
 have fZ:f_ (BD.ownsRow (kb+1) 3 1 (.slice au R0.length cu) R0.length (R0.map (Value.int .i64))):=K.own mi.out (fun g _ e=>by cases e)
 have CQ:f_ (eW BD ar (marks R0.length)):=hm.out.was K (fun g off _ e=>by cases e)
 replace hI:=lx
 clear lx
 replace mi:=fZ
 clear fZ
 replace hm:=CQ
 clear CQ
 have NA:Lay C6 BD:=⟨hcut,yP.no⟩
 clear hcut K BL
 rw [Frame.finish_at]
 walk_nrm
 refine Can.op (ok:=MO) qp NA rfl rfl (by k_ne) (by kernel_rfl) (fun T d=>⟨.slice ta ds.length tc,BD.re T d, ?_,fun _=>Can.re ?_ T d⟩)
 ·go_simp
 walk_nrm
 refine Can.ctl qp NA rfl (fun _=>bY (vs:=#[.slice ta ds.length tc]) rfl rfl (by k_ne) rfl func12 rfl rfl (by kernel_rfl)) ?_
 refine Can.call cC qp NA (by kernel_rfl) (by kernel_rfl) (fun T d=>(lN ta tc ds (BD.re T d) L8.out (hI.out.was (cG.of_heap (show (BD.re T d).heap=BD.heap from rfl)) (fun g e=>by cases e)).ev).mono ?_)
 rintro e Mr ⟨rfl,jm,BL⟩
 refine ⟨_,rfl,fun hcut=> ?_⟩
 have K:cG none BD Mr:=(cG.of_heap (show (BD.re T d).heap=BD.heap from rfl)).trans (.bW BL)
 have M0:=aa jm
 have eg2:(BD.re T d).heap.size=BD.heap.size:=rfl
 rw [eg2] at M0 ⊢
 generalize BD.heap.size=g2 at M0 ⊢
 have lx:f_ (ju (kb+1) kb L O P ta ds Mr):=hI.out.was K (fun g e=>by cases e)
 have fZ:f_ (Mr.ownsRow (kb+1) 3 1 (.slice au R0.length cu) R0.length (R0.map (Value.int .i64))):=K.own mi.out (fun g _ e=>by cases e)
 have CQ:f_ (eW Mr ar (marks R0.length)):=hm.out.was K (fun g off _ e=>by cases e)
 replace hI:=lx
 clear lx
 replace mi:=fZ
 clear fZ
 replace hm:=CQ
 clear CQ
 have Vx:Lay C6 Mr:=⟨hcut,NA.no⟩
 clear hcut K BL jm eg2
 rw [Frame.finish_at]
 walk_nrm
 refine Can.ctl qp Vx rfl (fun _=>bY (vs:=#[.agg #[.int .i64 L,.int .i64 O,.int .i64 P],.slice (some ⟨g2,0,none⟩) ds.length ds.length]) rfl rfl (by k_ne) rfl func20 rfl rfl (by kernel_rfl)) ?_
 have Ub:fF Mr (some ⟨g2,0,none⟩) (ds.map Dd.raw):=tt (cR.wV M0.out)
 have HD:(ds.map Dd.raw).length=ds.length:=List.length_map ..
 rw [<-HD]
 have Ir:=aa (fun g (e:(Value.slice au R0.length cu).ownBlock=some g)=>(mi.out.lt g e).2)
 refine call20 Vx (by rw [HD];exact L8.out) Ub hI.out.N6 (by omega) ?_
 intro C15 b15 o15 N2 h R15 Mj xq hsz bR xI
 rw [HD]
 walk_nrm
 have Z4:R0=R15:=(Gy KI.out xI).symm
 subst Z4
 obtain ⟨ah,ch,FT⟩:=aE bR
 subst FT
 have K:cG none Mr N2:=.JD xq hsz
 have SH:f_ (kb+1<=Mr.heap.size):=fw hI.out.box
 have lx:f_ (ju (kb+1) kb L O P ta ds N2):=hI.out.was K (fun g e=>by cases e)
 have fZ:f_ (N2.ownsRow (kb+1) 3 1 (.slice au R0.length cu) R0.length (R0.map (Value.int .i64))):=K.own mi.out (fun g _ e=>by cases e)
 have CQ:f_ (eW N2 ar (marks R0.length)):=hm.out.was K (fun g off _ e=>by cases e)
 replace hI:=lx
 clear lx
 replace mi:=fZ
 clear fZ
 replace hm:=CQ
 clear CQ
 have hh:=aa bR
 have ru:=cT (Bd+5+5)
 have KR:=Mj
 clear Mj xq hsz bR xI Ub HD K
 refine Can.op (ok:=MO) ru KR rfl rfl (by k_ne) (by kernel_rfl) (fun T d=>⟨.slice ah R0.length ch,N2.re T d, ?_,fun _=>Can.re ?_ T d⟩)
 ·go_simp
 walk_nrm
 refine Can.ctl ru KR rfl (fun _=>stepG_region_end) ?_
 subst hK
 replace hh:f_ (N2.ownsRow (kb+1) 3 1 (.slice ah R0.length ch) R0.length (R0.map (Value.int .i64))):=gG hh.out SH.out
 clear Ir SH
 rw [e19]
 refine ru.s KR ?_
 refine Can.cY cC ru KR (aF (by kernel_rfl) rfl rfl ⟨_,func4⟩) ?_
 intro T d W hW Bh hB
 have ij:=aa hW
 have kW:f_ (cG none N2 W):=.of_heap (by rw [hW.out];rfl)
 have CL:f_ (W.ownsRow (kb+1) 3 1 (.slice au R0.length cu) R0.length (R0.map (Value.int .i64))):=kW.out.own mi.out (fun g _ e=>by cases e)
 have hhW:f_ (W.ownsRow (kb+1) 3 1 (.slice ah R0.length ch) R0.length (R0.map (Value.int .i64))):=kW.out.own hh.out (fun g _ e=>by cases e)
 have hA:=aa (cM hhW.out)
 have jx:=aa (cM CL.out)
 clear CL hhW
 clear hW
 simp only [ai,δ,f4,A_]
 go_wp2_with fail
 refine (mN _ _ _ _ R0 W (by omega) hA.out jx.out).mono ?_
 rintro e Mq ⟨rfl,hb⟩
 have K:f_ (cG none W Mq):=.bW hb
 clear hb hA jx
 go_wp2_with fail
 have hB:=hB.out
 subst hB
 intro hcut
 have K2:=kW.out.trans K.out
 have lx:f_ (ju (kb+1) kb L O P ta ds Mq):=hI.out.was K2 (fun g e=>by cases e)
 have fZ:f_ (Mq.ownsRow (kb+1) 3 1 (.slice au R0.length cu) R0.length (R0.map (Value.int .i64))):=K2.own mi.out (fun g _ e=>by cases e)
 have CQ:f_ (eW Mq ar (marks R0.length)):=hm.out.was K2 (fun g off _ e=>by cases e)
 have hh_:f_ (Mq.ownsRow (kb+1) 3 1 (.slice ah R0.length ch) R0.length (R0.map (Value.int .i64))):=K2.own hh.out (fun g _ e=>by cases e)
 replace hI:=lx
 clear lx
 replace mi:=fZ
 clear fZ
 replace hm:=CQ
 clear CQ
 replace hh:=hh_
 clear hh_
 have KQ:Lay C15 Mq:=⟨hcut,KR.no⟩
 clear hcut ij kW
 clear K K2
 clear hh mi
 rw [e20]
 refine ru.s KQ ?_
 refine Can.cY cC ru KQ (aF (by kernel_rfl) rfl rfl ⟨_,func4⟩) ?_
 intro T d W hW Bh hB
 have ij:=aa hW
 have kW:f_ (cG none Mq W):=.of_heap (by rw [hW.out];rfl)
 clear hW
 simp only [ai,δ,f4,A_]
 go_wp2_with fail
 have hB:=hB.out
 subst hB
 intro hcut
 have hW:=ij.out.out
 subst hW
 refine Can.re ?_ T d
 clear hcut ij kW
 rw [e21]
 refine ru.s KQ ?_
 refine Can.cY cC ru KQ (aF (by kernel_rfl) rfl rfl ⟨_,func4⟩) ?_
 intro T d W hW Bh hB
 have ij:=aa hW
 have kW:f_ (cG none Mq W):=.of_heap (by rw [hW.out];rfl)
 have Uu:f_ (eW W ar (marks R0.length)):=hm.out.was kW.out (fun g off _ e=>by cases e)
 clear hW
 simp only [ai,δ,f4,A_]
 go_wp2_with fail
 refine (sC _ _ R0.length W (by omega) Uu.out).mono ?_
 rintro e N1 ⟨rfl,hb⟩
 have K:f_ (cG none W N1):=.bW hb
 clear hb Uu
 go_wp2_with fail
 have hB:=hB.out
 subst hB
 intro hcut
 have K2:=kW.out.trans K.out
 have lx:f_ (ju (kb+1) kb L O P ta ds N1):=hI.out.was K2 (fun g e=>by cases e)
 have CQ:f_ (eW N1 ar (marks R0.length)):=hm.out.was K2 (fun g off _ e=>by cases e)
 replace hI:=lx
 clear lx
 replace hm:=CQ
 clear CQ
 have C9:Lay C15 N1:=⟨hcut,KQ.no⟩
 clear hcut ij kW
 clear K K2
 rw [e22]
 refine ru.s C9 ?_
 refine Can.cY cC ru C9 (aF (by kernel_rfl) rfl rfl ⟨_,func4⟩) ?_
 intro T d W hW Bh hB
 have ij:=aa hW
 have kW:f_ (cG none N1 W):=.of_heap (by rw [hW.out];rfl)
 have U8:decide (1+(R0.length:Int)<0)=false:=decide_eq_false (by omega)
 have WH:¬(1+(R0.length:Int)<0):=by omega
 clear hW
 simp only [ai,δ,f4,A_]
 go_wp2_with fail
 have hB:=hB.out
 subst hB
 intro hcut
 have hW:=ij.out.out
 subst hW
 refine Can.re ?_ T d
 clear hcut ij kW
 clear U8 WH
 rw [e23]
 refine ru.s C9 ?_
 refine Can.cY cC ru C9 (aF (by kernel_rfl) rfl rfl ⟨_,func4⟩) ?_
 intro T d W hW Bh hB
 have ij:=aa hW
 have kW:f_ (cG none N1 W):=.of_heap (by rw [hW.out];rfl)
 clear hW
 simp only [ai,δ,f4,A_]
 go_wp2_with fail
 have hB:=hB.out
 subst hB
 intro hcut
 have hW:=ij.out.out
 subst hW
 refine Can.re ?_ T d
 clear hcut ij kW
 rw [e24]
 refine ru.s C9 ?_
 refine Can.cY cC ru C9 (aF (by kernel_rfl) rfl rfl ⟨_,func4⟩) ?_
 intro T d W hW Bh hB
 have ij:=aa hW
 have kW:f_ (cG none N1 W):=.of_heap (by rw [hW.out];rfl)
 clear hW
 simp only [ai,δ,f4,A_]
 go_wp2_with fail
 have hB:=hB.out
 subst hB
 intro hcut
 have hW:=ij.out.out
 subst hW
 refine Can.re ?_ T d
 clear hcut ij kW
 refine Can.cY cC ru C9 (aF (by kernel_rfl) rfl rfl ⟨_,func4⟩) ?_
 intro T d W hW Bh hB
 have ij:=aa hW
 clear hW
 simp only [az,δ,f4,A_]
 go_wp2_with fail
 have hB:=hB.out
 subst hB
 intro hcut todo
 have hW:=ij.out.out
 subst hW
 refine Can.re ?_ T d
 exact Zk C9 rfl
end
end Go.aC.Of
namespace Go
open Go.Conc
theorem Claim7.vE (Lk:Looks) {p:Pinned} {s:OpenSpec} {c:OpenClaim} (kinds:List LaidKind) (tests:Bool) (Rk:Bool × String) (lk:Bool)
 (hc:c.holds p s) (hw:c.wfByText s=true) (YR:c.laidByTextAt Lk p kinds tests)
 (hst:c.start=.entering) (BH:c.noBlocks=false/\c.again=false) (hm:p.checked.prog.mainIs=some (Rk.1,Rk.2.toList)) (hn:(!Rk.1&&Rk.2.isEmpty&& !lk)=false)
 (hl:∀f fn,p.checked.prog.funcNamed c.func=some f->p.checked.prog.funcs[f]?=some fn->lk=p.checked.prog.looks []/\∀(j:Nat) t,fn.params[j]?=some t->p.checked.prog.wantsStandIn t=false)
 (hg:true=c.goesBy p.checked.prog):
 Claim7.holds p (.plain s) {stood:={row:=c,standIns:=[],harness:=Rk,looks:=lk},kinds:=[],alts:=[],goes:=true,laidByText:=true,laidKinds:=kinds,laidTests:=tests,laidLooks:=Lk}:=by
 have h6:Claim7.isSixth {stood:={row:=c,standIns:=[],harness:=Rk,looks:=lk},kinds:=[]}=false:=by simpa [Claim7.isSixth] using hn
 have h1:=Claim7.tied_new_at Lk kinds tests (Claim7.new_of_sixth hc Rk lk hst BH hm h6 hl) hw
 exact ⟨h1,(fun D hD=>by cases hD),YR,(fun h=>by cases h),hg⟩
section
variable {H:Type} {enc:Q' × M'->H}
theorem kI {a:Assume} {C:Checked} {os:Os} {f:FuncId} {fn:Func} {s:ChangeSpec} {conds:List PathCond} {apart fresh handsOn again:Bool} {laid:List (String × DataW Unit)}
 (own:ownKnob C.prog.godebug=none) (started:os.Started) (xF:C.prog.funcs[f]?=some fn)
 (witness:∃(w:J') (tape:Tape) (i:Input),w.os=os/\(w.forCall tape i).Shaped C.prog/\i.vars=[]/\Input.okWide C.prog (w.forCall tape i) .any w.heap.size f i/\
  (OpenSpec.ofChange s).preRow enc C.prog fn conds apart laid (w.forCall tape i).memory i.args/\a.holds C.prog (lone (Frame.enter C.prog f i.args .normal) [] (w.forCall tape i)))
 (runs:∀(W:J') (base:Nat) (args:Array M') (ds gs:List (DataW H)) (before:List MemPlace),
  (∀(j:Nat) t v,fn.params[j]?=some t->args[j]?=some v->Value.okWide C.prog W .any base t v)->
  DataW.Whole enc C.prog fn.params.toList s.vars apart W args.toList ds gs before->
  laidMetH C.prog laid W->
  ∃M last o w' t',runNT C.prog (M+1) (solo (G (Frame.enter C.prog f args .normal) []) W) #[]=(.ended o w',t')/\runN C.prog M (solo (G (Frame.enter C.prog f args .normal) []) W)=.next last/\
   step C.prog last=.ended o w'/\Conc.Good C.prog (fun v W'=>s.post enc C.prog fn apart fresh handsOn again W args v W') last o w' t'):
 ReturnsInLeavingWide a C os f .any ((OpenSpec.ofChange s).preRow enc C.prog fn conds apart laid) (s.post enc C.prog fn apart fresh handsOn again):=by
 refine returnsInLeavingWide_of_good own started witness ?_
 intro w tape i _ _ _ cK Y2 _
 obtain ⟨_,_,_,fn',Zx,_,_,_,_,hval⟩:=cK
 have e:fn'=fn:=M_ (Zx.symm.trans xF)
 subst e
 obtain ⟨⟨hp,hl⟩,hz⟩:=Y2
 obtain ⟨ds,gs,before,hw,hc,hk⟩:=OpenSpec.pre_parts hp
 have gC:=DataW.Whole.of_heap (w':=w.forCall tape i) (by rfl) hw
 obtain ⟨M,last,o,w',t',h1,h2,h3,h4⟩:=runs (w.forCall tape i) w.heap.size i.args ds gs before hval gC (hl.of_heap (by rfl))
 exact ⟨M,last,o,w',t',h1,h2,h3,h4.mono fun v hp=>ChangeSpec.post_blind hp⟩
end
end Go
namespace Go.aC.Of
open Go Go.Conc Go.Conc.Lib Go.ConcR Go.ConcR.Gen Go.aC Go.Proofs
open Go.RowKit hiding Hid Below
open Go.Deep Go.ChangeShapes Go.WideShapes
def NZ (d:Dd):Prop:=d.act.length<=9223372036854775807/\True/\True
theorem O4 {c:List M'} (h:c.length=3):∃a b d,c=[a,b,d]:=by
 match c,h with
 |[a,b,d],_=>exact ⟨a,b,d,rfl⟩
variable {P:Program}
theorem E7 {H:Type} {enc:Q' × M'->H} {w:J'} {base:Nat} {spare:Nat->Bool} {held:Bool} {t e ts ti:Q'} {f0 f1 f2:Field} {fuel:Nat} {cs:List M'} {x:DataW H × List MemPlace}
 (ht:P.underlying t=some (.slice e)) (he:P.underlying e=some (.struct #[f0,f1,f2])) (h3:P.cellsOf e=3) (ho:f0.offset=0/\f1.offset=1/\f2.offset=2)
 (hc:P.cellsOf f0.type=1/\P.cellsOf f1.type=1/\P.cellsOf f2.type=1) (e0:f0.type=ts) (e1:f1.type=ti) (e2:f2.type=ti) (hs:P.underlying ts=some .string) (hi:P.underlying ti=some (.int .i64))
 (h:DataW.trod enc P w base spare held fuel t cs=some x):
 ∃(a:Option z_) (c:Nat) (ds:List Dd),cs=[.slice a ds.length c]/\ds.length<=maxLen/\(∀d∈ds,NZ d)/\cR w a ds:=by
 rcases open_slice ht h with ⟨h0,_⟩|⟨a,len,cap,m,n,D,Pl,hcs,_,hl,hm,Nf,_,Nv⟩
 ·exact ⟨none,0,[],h0,by simp,by simp,.inl rfl⟩
 have HD:len<=m:=by rw [Nf];split<;>omega
 have Nb:∀i,i<len->∃d:Dd,NZ d/\w.cell? (a.add (i * 3))=some (.string ⟨d.act.toArray⟩)/\w.cell? ((a.add (i * 3)).add 1)=some (.int .i64 d.line)/\w.cell? ((a.add (i * 3)).add 2)=some (.int .i64 d.word):=by
  intro i ml
  obtain ⟨c,hc',M7⟩:=Nv i (by omega)
  rw [h3] at hc'
  obtain ⟨_,rq,fH⟩:=World.cells?_some hc'
  obtain ⟨x0,x1,x2,rfl⟩:=O4 rq
  obtain ⟨xs,n',_,_,_,Wj,hf⟩:=DataW.trod_struct he M7
  have WE:=hf 0 f0 rfl
  have Mh:=hf 1 f1 rfl
  have nj:=hf 2 f2 rfl
  rw [ho.1,hc.1,e0] at WE
  rw [ho.2.1,hc.2.1,e1] at Mh
  rw [ho.2.2,hc.2.2,e2] at nj
  simp only [List.drop_zero,List.take_succ_cons,List.take_zero,List.drop_succ_cons] at WE Mh nj
  have hx:∀k,k<3->∃y,xs[k]?=some y:=fun k hk=>⟨xs[k]'(by rw [Wj];exact hk),List.getElem?_eq_getElem (by rw [Wj];exact hk)⟩
  obtain ⟨y0,Wi⟩:=hx 0 (by omega)
  obtain ⟨y1,hy1⟩:=hx 1 (by omega)
  obtain ⟨y2,Qo⟩:=hx 2 (by omega)
  obtain ⟨s,q0,_,hsz⟩:=DataW.trod_string hs (WE.trans Wi)
  obtain ⟨n1,q1,_,w1⟩:=DataW.trod_int hi (Mh.trans hy1)
  obtain ⟨n2,q2,_,w2⟩:=DataW.trod_int hi (nj.trans Qo)
  cases q0;cases q1;cases q2
  refine ⟨⟨s.data.toList,n1,n2⟩,⟨by have hq:s.data.toList.length=s.size:=(by rw [Array.length_toList];rfl);unfold maxLen at hsz;show s.data.toList.length<=_;omega,trivial,trivial⟩, ?_, ?_, ?_⟩
  ·have:=fH 0 (by omega);simp [Addr.add] at this ⊢;exact this
  ·exact fH 1 (by omega)
  ·exact fH 2 (by omega)
 obtain ⟨f,yf⟩:∃f:Nat->Dd,∀i,i<len->NZ (f i)/\w.cell? (a.add (i * 3))=some (.string ⟨(f i).act.toArray⟩)/\w.cell? ((a.add (i * 3)).add 1)=some (.int .i64 (f i).line)/\w.cell? ((a.add (i * 3)).add 2)=some (.int .i64 (f i).word):=by
  refine ⟨fun i=>if h:i<len then (Nb i h).choose else yU,fun i lE=> ?_⟩
  simp only [dif_pos lE]
  exact (Nb i lE).choose_spec
 refine ⟨some a,cap,(List.range len).map f,by simpa using hcs,by simp;omega, ?_, ?_⟩
 ·intro d hd
  obtain ⟨i,lE,rfl⟩:=List.mem_map.1 hd
  exact (yf i (List.mem_range.1 lE)).1
 ·by_cases h0:len=0
  ·subst h0;exact .inl rfl
  obtain ⟨b,off,spot⟩:=a
  have WT:=(yf 0 (by omega)).2.1
  have Ua:spot=none:=by simpa [Addr.add] using World.cell?_spot WT
  subst Ua
  have hb:b<w.heap.size:=by
   unfold World.cell? at WT
   simp only [Addr.add] at WT
   rcases Nat.lt_or_ge b w.heap.size with h|h
   ·exact h
   ·simp [Array.getElem?_eq_none h] at WT
  refine .inr ⟨b,off,rfl,hb,fun i lE=> ?_⟩
  have ml:i<len:=by simpa using lE
  have hh:=(yf i ml).2
  simp only [List.getElem_map,List.getElem_range]
  have ea:∀k,(⟨b,off,none⟩:z_).add k=⟨b,off+k,none⟩:=fun k=>by unfold Addr.add;split<;>simp_all
  rw [ea,show ∀(o k:Nat),(⟨b,o,none⟩:z_).add k=⟨b,o+k,none⟩ from fun o k=>by unfold Addr.add;split<;>simp_all,show ∀(o k:Nat),(⟨b,o,none⟩:z_).add k=⟨b,o+k,none⟩ from fun o k=>by unfold Addr.add;split<;>simp_all] at hh
  exact hh
theorem yY {P:Program} {W:J'} {name:String} {k:IntKind} {zs:List Int} {g:Nat} {t e:Q'} {n:Nat}
 (hg:P.globalNamed name=some g) (hty:(P.globals[g]?).map (·.type)=some t) (ht:P.underlying t=some (.array n e)) (he:P.underlying e=some (.int k)) (hce:P.cellsOf e=1) (Q9:P.cellsOf t=n):
 ∀{l:List (String × DataW Unit)} {ps:List MemPlace},DataW.LaidVars P W l ps->(name,Lib.tabData k zs)∈l->Lib.TabIs P W name k zs
 |[],_,_,h=>by cases h
 |(m,d)::r,ps,h,hm=>by
  obtain ⟨g',t',cs,fuel,p,q,iJ,M7,YO,hd,hr,_⟩:=h
  rcases List.mem_cons.1 hm with e1|hm
  ·cases e1
   obtain rfl:=M_ (hg.symm.trans iJ)
   obtain rfl:=M_ (hty.symm.trans M7)
   unfold Lib.TabIs
   rw [YO,<-Lib.cells_of_tab ht he hce Q9 hd]
  ·exact yY hg hty ht he hce Q9 hr hm
variable {W:J'} {ds:List Dd}
theorem E6 {a:Option z_} (h:cR W a ds):cR (oR W) a ds:=by
 rcases h with h|⟨b,off,rfl,hb,hc⟩
 ·exact .inl h
 ·exact .inr ⟨b,off,rfl,by rw [nD];exact hb,fun i hi=>by simp only [D3];exact hc i hi⟩
theorem PS (h:Lib.TabIs p_ W "internal/strconv.uint64pow10" .u64 Lib.pow10Tab):qO (oR W):=by
 unfold Lib.TabIs World.var? at h
 cases hg:Tryz.prog.globalNamed "internal/strconv.uint64pow10" with
 |none=>rw [hg] at h;cases h
 |some g=>
  rw [hg] at h
  simp only [Option.bind_some] at h
  split at h
  ·rename_i cs t f hb
   obtain rfl:=M_ h
   exact ⟨g,_,t,_,hg,by rw [kR,hb];rfl,rfl⟩
  ·cases h
section
variable {H:Type} {enc:Q' × M'->H} {base:Nat} {sp:Nat->Bool} {held:Bool}
theorem Ho {v:M'} {d:DataW H} {ps:List MemPlace} {r:Reach} {b0:Nat} (hval:Value.okWide p_ W r b0 23 v) (h:DataW.Trod enc p_ W base sp held 23 v d ps):∃(l o p:Int),v=.agg #[.int .i64 l,.int .i64 o,.int .i64 p]:=by
 obtain ⟨cs,rfl,hsz⟩:=Go.WideShapes.okWide_struct Tryz.underlying23 hval
 have hsz':cs.size=3:=hsz.trans (by kernel_rfl)
 obtain ⟨a,b,c,rfl⟩:∃a b c,cs=#[a,b,c]:=by
  have hl:cs.toList.length=3:=hsz'
  have hcs:cs=cs.toList.toArray:=rfl
  rw [hcs]
  obtain ⟨a,b,c,e⟩:=O4 hl
  exact ⟨a,b,c,by rw [e]⟩
 obtain ⟨fuel,hf⟩:=h
 obtain ⟨xs,n,_,_,_,hx,hE⟩:=DataW.trod_struct Tryz.underlying23 hf
 have yE:xs.length=3:=hx
 have e0:=hE 0 _ rfl
 have e1:=hE 1 _ rfl
 have e2:=hE 2 _ rfl
 rw [List.getElem?_eq_getElem (by omega)] at e0 e1 e2
 obtain ⟨s,h0,_⟩:=DataW.trod_int Tryz.underlying3 e0
 obtain ⟨f,h1,_⟩:=DataW.trod_int Tryz.underlying3 e1
 obtain ⟨t,h2,_⟩:=DataW.trod_int Tryz.underlying3 e2
 have ND:[a]=[Value.int .i64 s]:=h0
 have HQ:[b]=[Value.int .i64 f]:=h1
 have WR:[c]=[Value.int .i64 t]:=h2
 simp only [List.cons.injEq,and_true] at ND HQ WR
 subst ND HQ WR
 exact ⟨s,f,t,rfl⟩
end
end Go.aC.Of
