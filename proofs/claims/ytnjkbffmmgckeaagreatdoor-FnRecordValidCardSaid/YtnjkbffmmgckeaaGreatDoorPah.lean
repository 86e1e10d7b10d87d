/-
  hang, in company: a call that is on a line.
-/
import Derived.Conc.TokenWalk
import Derived.Test.YtnjkbffmmgckeaaGreatDoorPaa
import Derived.Test.YtnjkbffmmgckeaaGreatDoorPad
import Derived.Test.YtnjkbffmmgckeaaGreatDoorPae
import Derived.Test.YtnjkbffmmgckeaaGreatDoorPag
set_option linter.all false
set_option maxRecDepth 100000
set_option maxHeartbeats 32000000
open Go renaming undef->I',World->J',Value->M',Goroutine->O',TypeId->Q',heap_alloc_new->Z',Addr->z_
open Go.RowKit renaming Hid->f_
open Option renaming getD_some->A_
open Nat renaming le_refl->C_,lt_of_lt_of_le->E_,le_of_ble_eq_true->Z_,zero_le->nz
open Array renaming replicate->F_,getElem?_eq_getElem->H_,getElem?_setIfInBounds->Y_
open Go.World renaming cell?_of_block->J_,frozen?_of_block->m_
open Go.ConcN renaming upd_same->O_,upd_ne->P_
open List renaming map_cons->S_,take_succ_eq_append_getElem->sC
open Classical renaming byContradiction->j_
open Go.Proofs.Tryz renaming prog->p_
open Go.Frame renaming enter->fZ
open Go.Item renaming code->lN
open Go.Proofs.Tryz
namespace Go.aC.Of
section
open Go Go.Conc Go.Conc.Lib Go.ConcR Go.ConcR.Gen Go.aC Go.Proofs
open Go.RowKit hiding Hid
open Go.ConcN (upd upd_ne upd_same)
noncomputable def X9:Code:=match az 2 (ai 2 bC) with| .cond _ a _=>a|_=>.skip
variable {C:cS} {b N N0 h:Nat} {L:Nat->Of.Os} {us:List Od} {A:Ha} {S:Hs} {vw vb vr va vt:M'} {ae Fin:O'->J'->Prop} {Post:M'->J'->Prop} {wl:J'} {aI:Frame} {aS:Act} {av:Array Oper} {aN:Nat} {ak:List Nat} {aV:List Item} {cs:List Frame}
variable {g3 x:Nat}
theorem KJ (B:eh p_ C b 0 ae Fin h) (hL:Lay C wl) (H:aQ A S vw vb vr va vt wl) (K:bN C A N0 h us L wl) (hT:aU A wl) {c:Int} (mS:wl.heap[g3]?=some (.cells #[.int .i64 c] 3 (0,0))) {r:Nat} (kE:S.of c=some x) (mj:S.rc c=some r) (hr:r<S.recs.length) (wi:S.recs.length<=100000) {op:Int} (hop:(S.recs[r]).op=op) {q:Bool} (hq:(op !=0)=q)
 (hc:∀aK (z2 z5 z7 z8 z9 dB cZ z12 de dn dm dk dj dA dz z20 z21 z22 z23 z24 z25 z26 dD z28 dC dM z31 dQ dK dP dO dV z37 ey ew eu eK eJ eI eH z46 eQ eN z49 en z51 iu z53 iF iE iD iC iB:M'),Lay C aK->aQ A S vw vb vr va vt aK->bN C A N0 h us L aK->aU A aK->aK.heap[g3]?=some (.cells #[.int .i64 c] 3 (0,0))->
  ay p_ C b 0 ae Fin Post h (aY b N h L) aK (G ((base 122).at ⟨#[.pointer (some ⟨A.hb,0,none⟩),.int .i64 c,z2,.pointer (some ⟨g3,0,none⟩),.string ⟨#[]⟩,z5,.int .i64 op,z7,z8,z9,dB,cZ,z12,de,dn,dm,dk,dj,dA,dz,z20,z21,z22,z23,z24,z25,z26,dD,z28,dC,dM,z31,dQ,dK,dP,dO,dV,z37,ey,ew,.bool q,eu,eK,eJ,eI,eH,z46,eQ,eN,z49,en,z51,iu,z53,iF,iE,iD,iC,iB],[]⟩ [.code (az 2 (ai 2 bC)),.code (az 3 bC)]) (aI.at aS (.inRegion av (aN::ak)::aV)::cs))):
 ay p_ C b 0 ae Fin Post h (aY b N h L) wl (G ((base 122).at ⟨#[.pointer (some ⟨A.hb,0,none⟩),.int .i64 c,I',.pointer (some ⟨g3,0,none⟩),.string ⟨#[]⟩,I',I',I',I',I',I',I',I',I',I',I',I',I',I',I',I',I',I',I',I',I',I',I',I',I',I',I',I',I',I',I',I',I',I',I',I',I',I',I',I',I',I',I',I',I',I',I',I',I',I',I',I',I',I'],[]⟩ [.code (az 1 bC)]) (aI.at aS (.inRegion av (aN::ak)::aV)::cs)):=by
 have hS:=aH b N h L
 have e1:az 1 bC=.seq (ai 1 bC) (.seq (.seq (ai 0 (ai 2 bC)) (.seq (ai 1 (ai 2 bC)) (az 2 (ai 2 bC)))) (az 3 bC)):=by kernel_rfl
 rw [e1]
 refine B.s ?_
 refine B.p (fun T d Bh hB=> ?_)
 obtain ⟨W,hW⟩:∃W,f_ (W=wl.re T d):=⟨_,aa rfl⟩
 rw [<-hW.out]
 have H0:=aa (H.heap (w':=W) (by rw [hW.out];rfl))
 have K0:f_ (bN C A N0 h us L W):=by rw [hW.out];exact ⟨K.len,K.small,K.live,K.n0,K.ap,K.fo,K.kM,K.cells⟩
 have T0:f_ (aU A W):=by rw [hW.out];exact hT
 have ir:=aa hc
 have hno:=aa hL.no
 have c5:W.drew.cell? ⟨A.hb,5,none⟩=some (.map (some A.m2)):=H0.out.c.2.2.1
 have mS:f_ (W.heap[g3]?=some (.cells #[.int .i64 c] 3 (0,0))):=by rw [hW.out];exact mS
 have c3:W.drew.cell? ⟨g3,0,none⟩=some (.int .i64 c):=by show W.cell? _=_;rw [aB mS.out];rfl
 have Sy:Sem.run p_ (Instr.lookup 72 (Value.map (some A.m2)) (Value.int IntKind.i64 c) false) W.drew=.ok (.chan (some x)) W.drew:=by
  have:=(H0.out.of.heap (w':=W.drew) rfl).lookup pe Tryz.underlying72 c (z:=.chan none) (fun w=>qQ w) false
  rw [kE] at this;exact this
 have Uf:(binOp .eql 78 (.chan (some x)) (.chan none)).run p_ W.drew=.ok (.bool false) W.drew:=De Tryz.underlying78 (some x)
 clear hL H K hT hc
 simp only [ai,bC,f122,A_]
 go_wp2_with fail
 go_region
 go_wp2_with fail
 have H1:=aa (H0.out.heap (w':=W.drew) rfl)
 have K1:f_ (bN C A N0 h us L W.drew):=⟨K0.out.len,K0.out.small,K0.out.live,K0.out.n0,K0.out.ap,K0.out.fo,K0.out.kM,K0.out.cells⟩
 have T1:f_ (aU A W.drew):=T0.out
 have mS:f_ (W.drew.heap[g3]?=some (.cells #[.int .i64 c] 3 (0,0))):=mS
 clear c5 Sy Uf H0 K0 T0
 subst hB
 intro hcut
 generalize W.drew=V at *
 have nU:Lay C V:=⟨hcut,hno.out⟩
 clear hcut c3
 iterate 2 refine B.n ?_
 refine B.p (fun T d Bh hB=> ?_)
 obtain ⟨W2,Dz⟩:∃W2,f_ (W2=V.re T d):=⟨_,aa rfl⟩
 rw [<-Dz.out]
 have H0:=aa (H1.out.heap (w':=W2) (by rw [Dz.out];rfl))
 have K0:f_ (bN C A N0 h us L W2):=by rw [Dz.out];exact ⟨K1.out.len,K1.out.small,K1.out.live,K1.out.n0,K1.out.ap,K1.out.fo,K1.out.kM,K1.out.cells⟩
 have T0:f_ (aU A W2):=by rw [Dz.out];exact T1.out
 have mS:f_ (W2.heap[g3]?=some (.cells #[.int .i64 c] 3 (0,0))):=by rw [Dz.out];exact mS.out
 have c3:W2.cell? ⟨g3,0,none⟩=some (.int .i64 c):=by rw [aB mS.out];rfl
 obtain ⟨g,cap,cur,ev,_⟩:=cz H0.out.recs (Nat.lt_of_le_of_lt (nz _) hr)
 have Ws:=aa (jL H0.out mj hr ev wi)
 have ev:=aa ev
 clear nU H1 K1 T1
 simp only [ai,bC,f122,A_]
 go_wp2_with fail
 refine Ws.out.mono ?_
 rintro e w3 ⟨rfl,hh,F3⟩
 have H3:=aa (H0.out.heap hh)
 have K3:=aa (K0.out.fr H0.out F3)
 have T3:=aa (T0.out.fr H0.out F3)
 have mS:f_ (w3.heap[g3]?=some (.cells #[.int .i64 c] 3 (0,0))):=by rw [hh];exact mS.out
 obtain ⟨x1,x2⟩:=H3.out.pQ ev.out hr (k:=2) (by decide)
 replace x1:w3.cell? ⟨g,r * 7+2,none⟩=some (.int .i64 op):=by rw [<-hop];exact x1
 clear hh F3 H0 K0 T0 Ws c3
 go_wp2_with fail
 subst hB
 intro hcut
 have gA:Lay C w3:=⟨hcut,hno.out⟩
 clear hcut x1 x2
 refine B.s ?_
 refine B.p (fun T d Bh hB=> ?_)
 simp only [ai,bC,f122,A_]
 subst hq
 go_wp2_with fail
 subst hB
 intro hcut
 clear hcut
 refine ay.re (wl:=w3) ?_ T d
 exact ir.out w3 _ _ _ _ _ _ _ _ _ _ _ _ _ _ _ _ _ _ _ _ _ _ _ _ _ _ _ _ _ _ _ _ _ _ _ _ _ _ _ _ _ _ _ _ _ _ _ _ _ _ _ _ _ gA H3.out K3.out T3.out mS.out
variable {i:Nat} {z2 z5 z7 z8 z9 dB cZ de dn dm dk dj dA dz dD dC dM dQ dK dP dO dV ey ew eu eK eJ eI eH eQ eN en iu iF iE iD iC iB:M'}
theorem HM (B:eh p_ C b 0 ae Fin h) (hL:Lay C wl) (H:aQ A S vw vb vr va vt wl) (K:bN C A N0 h us L wl) (hT:aU A wl) {c:Int} (mS:wl.heap[g3]?=some (.cells #[.int .i64 c] 3 (0,0))) {r:Nat} (kE:S.of c=some x) (mj:S.rc c=some r) (hr:r<S.recs.length) (wi:S.recs.length<=100000) (hi:i<us.length) {op:Int} (hop:((i+1:Nat):Int)=op) {q:Bool} (hq:q=true) {z12 z20 z21 z22 z23 z24 z25 z26 z28 z31 z37 z46 z49 z51 z53:M'}
 (hc:∀aK L',Lay C aK->aQ A (uk S c x r S.recs[r] iy) vw vb vr va vt aK->bN C A N0 h (told us i 1 0) L' aK->aU A aK->
  ay p_ C b 0 ae Fin Post h (aY b N h L') aK (G (aI.at (aS.put ((av[aN]?).bind (·.dst)) (.string ⟨iy.toArray⟩)) (.inRegion av ak::aV)) cs)):
 ay p_ C b 0 ae Fin Post h (aY b N h L) wl (G ((base 122).at ⟨#[.pointer (some ⟨A.hb,0,none⟩),.int .i64 c,z2,.pointer (some ⟨g3,0,none⟩),.string ⟨#[]⟩,z5,.int .i64 op,z7,z8,z9,dB,cZ,z12,de,dn,dm,dk,dj,dA,dz,z20,z21,z22,z23,z24,z25,z26,dD,z28,dC,dM,z31,dQ,dK,dP,dO,dV,z37,ey,ew,.bool q,eu,eK,eJ,eI,eH,z46,eQ,eN,z49,en,z51,iu,z53,iF,iE,iD,iC,iB],[]⟩ [.code (az 2 (ai 2 bC)),.code (az 3 bC)]) (aI.at aS (.inRegion av (aN::ak)::aV)::cs)):=by
 have hS:=aH b N h L
 subst hq
 have e1:az 2 (ai 2 bC)=.cond (.tmp 40) X9 .skip:=by kernel_rfl
 have e2:X9=.seq (ai 0 X9) (az 1 X9):=by kernel_rfl
 rw [e1]
 refine B.c rfl ?_
 rw [e2]
 refine B.s ?_
 generalize hY:[lN (az 1 X9),lN (az 3 bC)]=Y0
 simp only [X9,ai,az,bC,f122,A_]
 iterate 3 refine B.n ?_
 refine ay.ctl B hS hL rfl (fun _=>bY (vs:=#[.pointer (some ⟨A.hb,0,none⟩),.int .i64 op,.int .i64 1,.int .i64 0]) rfl rfl (by k_ne) rfl func101 rfl rfl (by kernel_rfl)) ?_
 rw [pB]
 subst hop
 refine RZ B hL H K hi fun w2 du H2 K2 yL=> ?_
 have T2:=hT.pf yL (K.kM (N0+i) us[i] (K.n0 i hi).1 (by rw [K.live i hi];rfl)).1
 have g2:w2.heap[g3]?=some (.cells #[.int .i64 c] 3 (0,0)):=by
  have hx:=(K.kM (N0+i) us[i] (K.n0 i hi).1 (by rw [K.live i hi];rfl)).1
  obtain ⟨kk,hx⟩:=hx
  exact yL.blk _ _ mS (fun e=>by rw [e,hx] at mS;cases mS)
 simp only [if_true] at K2 ⊢
 have uh:=aH b N h (upd L (N0+i) (.live ⟨us[i].bt,us[i].x,0⟩))
 walk_nrm
 refine B.e ?_
 subst hY
 generalize Mc:((i+1:Nat):Int)=iv at *
 refine ay.code (ok:=il) B pA uh du (aF (by kernel_rfl) rfl rfl ⟨_,func122⟩) ?_
 intro T d
 generalize hB:iM p_ C b 0 ae Fin Post h (aY b N h (upd L (N0+i) (.live ⟨us[i].bt,us[i].x,0⟩))) _ _ _=Bh
 replace hB:=aa hB
 have H0:=aa (H2.heap (w':=w2.re T d) rfl)
 have K0:f_ (bN C A N0 h (told us i 1 0) (upd L (N0+i) (.live ⟨us[i].bt,us[i].x,0⟩)) (w2.re T d)):=⟨K2.len,K2.small,K2.live,K2.n0,K2.ap,K2.fo,K2.kM,K2.cells⟩
 have T0:f_ (aU A (w2.re T d)):=T2
 have c3:(w2.re T d).cell? ⟨g3,0,none⟩=some (.int .i64 c):=by show w2.cell? _=_;rw [aB g2];rfl
 have rq:=aa (um H0.out kE mj hr wi (q:=iy) (Fr.refl A (w2.re T d)))
 have hno:=aa hL.no
 replace uh:=aa uh
 have ir:=aa hc
 clear hL du H H2 K K2 hT T2 yL hS hc
 generalize w2.re T d=w3 at *
 simp only [X9,ai,az,bC,f122,A_]
 go_wp2_with fail
 refine rq.out.mono ?_
 rintro e w4 ⟨rfl,H4,F4,_⟩
 have K4:=aa (K0.out.fr H0.out F4)
 have T4:=aa (T0.out.fr H0.out F4)
 have H4:=aa H4
 clear F4 rq c3
 go_wp2_with fail
 subst hB
 intro hcut todo
 have jv:Lay C w4:=⟨hcut,hno.out⟩
 refine ay.ctl B uh.out jv rfl (fun _=>aZ rfl rfl func122 rfl) ?_
 exact ir.out w4 _ jv H4.out K4.out T4.out
theorem HL (B:eh p_ C b 0 ae Fin h) (hL:Lay C wl) (H:aQ A S vw vb vr va vt wl) (K:bN C A N0 h us L wl) (hT:aU A wl) {c:Int} (mS:wl.heap[g3]?=some (.cells #[.int .i64 c] 3 (0,0))) (oG:A.B<=g3) (OM:vw.ownBlock≠some g3) (hnr:vr.ownBlock≠some g3) {r:Nat} (kE:S.of c=some x) (mj:S.rc c=some r) (hr:r<S.recs.length) (wi:S.recs.length<=100000) (AQ:S.wait.length<=1000000) {op:Int} {q:Bool} (hq:q=false) {z12 z20 z21 z22 z23 z24 z25 z26 z28 z31 z37 z46 z49 z51 z53:M'}
 (hc:∀aK jA,Lay C aK->aQ A {uk S c x r S.recs[r] ie with wait:=aJ S.wait c} jA vb vr va vt aK->bN C A N0 h us L aK->aU A aK->
  ay p_ C b 0 ae Fin Post h (aY b N h L) aK (G (aI.at (aS.put ((av[aN]?).bind (·.dst)) (.string ⟨ie.toArray⟩)) (.inRegion av ak::aV)) cs)):
 ay p_ C b 0 ae Fin Post h (aY b N h L) wl (G ((base 122).at ⟨#[.pointer (some ⟨A.hb,0,none⟩),.int .i64 c,z2,.pointer (some ⟨g3,0,none⟩),.string ⟨#[]⟩,z5,.int .i64 op,z7,z8,z9,dB,cZ,z12,de,dn,dm,dk,dj,dA,dz,z20,z21,z22,z23,z24,z25,z26,dD,z28,dC,dM,z31,dQ,dK,dP,dO,dV,z37,ey,ew,.bool q,eu,eK,eJ,eI,eH,z46,eQ,eN,z49,en,z51,iu,z53,iF,iE,iD,iC,iB],[]⟩ [.code (az 2 (ai 2 bC)),.code (az 3 bC)]) (aI.at aS (.inRegion av (aN::ak)::aV)::cs)):=by
 have hS:=aH b N h L
 subst hq
 have e1:az 2 (ai 2 bC)=.cond (.tmp 40) X9 .skip:=by kernel_rfl
 have e2:az 3 bC=.seq (ai 3 bC) (.seq (ai 4 bC) (az 5 bC)):=by kernel_rfl
 rw [e1]
 refine B.c rfl ?_
 refine ay.ctl B hS hL rfl (fun _=>stepG_skip) ?_
 rw [e2]
 refine B.s ?_
 refine B.p (fun T d Bh hB=> ?_)
 have H0:=aa (H.heap (w':=wl.re T d) rfl)
 have K0:f_ (bN C A N0 h us L (wl.re T d)):=⟨K.len,K.small,K.live,K.n0,K.ap,K.fo,K.kM,K.cells⟩
 have T0:f_ (aU A (wl.re T d)):=hT
 have c3:(wl.re T d).cell? ⟨g3,0,none⟩=some (.int .i64 c):=by show wl.cell? _=_;rw [aB mS];rfl
 have g0:f_ ((wl.re T d).heap[g3]?=some (.cells #[.int .i64 c] 3 (0,0))):=mS
 have rq:=aa (um H0.out kE mj hr wi (q:=ie) (Fr.refl A (wl.re T d)))
 have hno:=aa hL.no
 have ir:=aa hc
 clear hL H K hT hc mS
 generalize wl.re T d=w3 at *
 simp only [ai,bC,f122,A_]
 go_wp2_with fail
 refine rq.out.mono ?_
 rintro e w4 ⟨rfl,H4,F4,A4⟩
 have K4:=K0.out.fr H0.out F4
 have T4:=T0.out.fr H0.out F4
 have g4:w4.heap[g3]?=some (.cells #[.int .i64 c] 3 (0,0)):=by
  have o1:=H4.ok.hb
  have o2:=H4.ok.m1
  have o3:=H4.ok.m2
  have o4:=H4.ok.m3
  rw [A4.block g3 (cI g0.out) (by omega) (by omega) (by omega) (by omega) (fun e=>hnr e.symm)];exact g0.out
 have H4H:=aa H4
 have K4H:=aa K4
 have T4H:=aa T4
 have g4H:=aa g4
 clear F4 A4 rq c3 H4 K4 T4 g4 H0 K0 T0 g0
 go_wp2_with fail
 subst hB
 intro hcut
 have qv:Lay C w4:=⟨hcut,hno.out⟩
 have H4:=H4H.out
 have K4:=K4H.out
 have T4:=T4H.out
 have g4:=g4H.out
 refine B.s ?_
 generalize hY:[lN (az 5 bC)]=Y0
 simp only [ai,bC,f122,A_]
 iterate 5 refine B.n ?_
 refine B.o vw (fun T d=> ?_) ?_
 ·have h0:(w4.re T d).cell? ⟨A.hb,7,none⟩=some vw:=H4.c.2.2.2.2.1
  go_simp
 walk_nrm
 refine B.n ?_
 refine ay.ctl B hS qv rfl (fun _=>bY (vs:=#[vw,.func (.func 137) #[] #[.pointer (some ⟨g3,0,none⟩)]]) rfl rfl (by k_ne) rfl func136 rfl rfl (by kernel_rfl)) ?_
 rw [Lc]
 have fz:∀g,vw.ownBlock=some g->A.B<=g/\g<w4.heap.size:=fun g e=>H4.wait.lt g e
 refine NP B qv (B0:=A.B) (ws:=S.wait) (v:=vw) (c:=c) (g3:=g3) H4.wait (by rw [aB g4];rfl) OM AQ fun w5 v5 qu WO Nd=> ?_
 obtain ⟨a5,q5,zA⟩:=aE Nd
 replace zA:=aa zA
 have hp:=H4.Af (w':=w5.re w4.tape w5.drawn) (v:=v5) (ws:=aJ S.wait c) WO.W6 Nd
 have F6:Im A w4 (w5.setCell ⟨A.hb,7,none⟩ v5):=⟨hp.2.size,fun i h1 h2 h3 h4 h5=>hp.2.block i h1 h2 h3 h4 h5⟩
 have c7:∀T d,(w5.re T d).cell? ⟨A.hb,7,none⟩=some vw:=fun _ _=>(J_ (WO.block A.hb (E_ H4.ok.hb H4.big) (fun e=>by have:=(fz _ e.symm).1;have:=H4.ok.hb;omega))).trans H4.c.2.2.2.2.1
 have z7:∀T d,(w5.re T d).frozen? ⟨A.hb,7,none⟩=false:=fun _ _=>(m_ (WO.block A.hb (E_ H4.ok.hb H4.big) (fun e=>by have:=(fz _ e.symm).1;have:=H4.ok.hb;omega))).trans (H4.z 7)
 walk_nrm
 iterate 2 refine B.n ?_
 refine ay.Wh (ok:=il) B hS qu rfl rfl (by k_ne) (by kernel_rfl) (fun T d=>⟨(w5.setCell ⟨A.hb,7,none⟩ v5).re T d, ?_,fun hcut=>ay.re ?_ T d⟩)
 ·have h7:=c7 T d
  have f7:=z7 T d
  rw [zA.out]
  go_simp
  exact nE _ _ _ _ _
 have Iz:Lay C (w5.setCell ⟨A.hb,7,none⟩ v5):=⟨Cut.j8 hcut,qu.no⟩
 walk_nrm
 refine B.e ?_
 have K6:bN C A N0 h us L (w5.setCell ⟨A.hb,7,none⟩ v5):=K4.zt H4 F6
 have T6:aU A (w5.setCell ⟨A.hb,7,none⟩ v5):=aU.zt T4 H4 F6
 have H6:aQ A {uk S c x r S.recs[r] ie with wait:=aJ S.wait c} v5 vb vr va vt (w5.setCell ⟨A.hb,7,none⟩ v5):=hp.1.heap rfl
 clear zA hp F6 c7 z7 WO Nd qu qv H4 K4 T4 g4 fz H4H K4H T4H g4H hcut
 generalize w5.setCell ⟨A.hb,7,none⟩ v5=w6 at *
 subst hY
 refine B.p (fun T d Bh hB=> ?_)
 have ZH:=ir
 have Pe:=aa K6
 have T6H:=aa T6
 have H6H:=aa H6
 clear K6 T6 H6 ir
 simp only [az,bC,f122,A_]
 go_wp2_with fail
 subst hB
 intro hcut todo
 have jv:Lay C (w6.re T d):=⟨hcut,hno.out⟩
 refine ay.ctl B hS jv rfl (fun _=>aZ rfl rfl func122 rfl) ?_
 exact ZH.out _ _ jv (H6H.out.heap rfl) ⟨Pe.out.len,Pe.out.small,Pe.out.live,Pe.out.n0,Pe.out.ap,Pe.out.fo,Pe.out.kM,Pe.out.cells⟩ T6H.out
def ou (S:Hs) (us:List Od) (c:Int):Hs × List Od × Bs:=
 match S.of c with
 |none=>({S with back:=if Lib.idxOf S.back c<0 then S.back else S.back.eraseIdx (Lib.idxOf S.back c).toNat},us,if Lib.idxOf S.back c<0 then Da else JC)
 |some x=>match S.rc c with
  |none=>(S,us,[])
  |some r=>match S.recs[r]? with
   |none=>(S,us,[])
   |some R=>if R.op≠0 then (uk S c x r R iy,told us (R.op.toNat - 1) 1 0,iy) else ({uk S c x r R ie with wait:=aJ S.wait c},us,ie)
structure Fq (S:Hs) (us:List Od):Prop where
 recs:S.recs.length<=90000
 back:S.back.length<=1000000
 wait:S.wait.length<=1000000
 has:∀c x,S.of c=some x->∃r,∃hr:r<S.recs.length,S.rc c=some r/\((S.recs[r]).op=0\/∃i,i<us.length/\(S.recs[r]).op=((i+1:Nat):Int))
theorem hang (B:eh p_ C b 0 ae Fin h) (hL:Lay C wl) (H:cQ A va vt S wl) (K:bN C A N0 h us L wl) (hT:aU A wl) {c:Int} (cK:Fq S us)
 (hc:Behind C b N N0 h A va vt ae Fin Post aI aS av aN ak aV cs (ou S us c)):
 ay p_ C b 0 ae Fin Post h (aY b N h L) wl (G ((base 122).at ⟨#[.pointer (some ⟨A.hb,0,none⟩),.int .i64 c]++F_ 57 I',[]⟩ [.code bC]) (aI.at aS (.inRegion av (aN::ak)::aV)::cs)):=by
 obtain ⟨vw,vb,vr,H⟩:=H
 refine Rl B hL H K hT fun w2 g3 du H2 K2 T2 mS oG hn=> ?_
 cases kE:S.of c with
 |none=>
  have hR:ou S us c=({S with back:=if Lib.idxOf S.back c<0 then S.back else S.back.eraseIdx (Lib.idxOf S.back c).toNat},us,if Lib.idxOf S.back c<0 then Da else JC):=by unfold ou;rw [kE]
  rw [hR] at hc
  exact HK B du H2 K2 T2 mS oG kE cK.back fun aK qS fJ H' K' T'=>hc aK L fJ ⟨_,_,_,H'⟩ K' T'
 |some x=>
  obtain ⟨r,hr,mj,hop⟩:=cK.has c x kE
  have wi:S.recs.length<=100000:=by have:=cK.recs;omega
  by_cases h0:(S.recs[r]).op=0
  ·have hR:ou S us c=({uk S c x r S.recs[r] ie with wait:=aJ S.wait c},us,ie):=by
    unfold ou
    simp only [kE,mj,List.getElem?_eq_getElem hr,h0,ne_eq,not_true_eq_false,if_false]
   rw [hR] at hc
   exact KJ B du H2 K2 T2 mS kE mj hr wi rfl rfl fun w3 z2 z5 z7 z8 z9 dB cZ z12 de dn dm dk dj dA dz z20 z21 z22 z23 z24 z25 z26 dD z28 dC dM z31 dQ dK dP dO dV z37 ey ew eu eK eJ eI eH z46 eQ eN z49 en z51 iu z53 iF iE iD iC iB gA H3 K3 T3 g4=>HL B gA H3 K3 T3 g4 oG (hn vw (.inl rfl)) (hn vr (.inr (.inr (.inl rfl)))) kE mj hr wi cK.wait (by rw [h0];rfl) fun aK jA fJ H' K' T'=>hc aK L fJ ⟨_,_,_,H'⟩ K' T'
  ·obtain ⟨i,hi,hop⟩:=hop.resolve_left h0
   have hR:ou S us c=(uk S c x r S.recs[r] iy,told us i 1 0,iy):=by
    unfold ou
    simp only [kE,mj,List.getElem?_eq_getElem hr,ne_eq,h0,not_false_eq_true,if_true]
    rw [hop,Int.toNat_natCast,Nat.add_sub_cancel]
   rw [hR] at hc
   exact KJ B du H2 K2 T2 mS kE mj hr wi rfl rfl fun w3 z2 z5 z7 z8 z9 dB cZ z12 de dn dm dk dj dA dz z20 z21 z22 z23 z24 z25 z26 dD z28 dC dM z31 dQ dK dP dO dV z37 ey ew eu eK eJ eI eH z46 eQ eN z49 en z51 iu z53 iF iE iD iC iB gA H3 K3 T3 g4=>HM B gA H3 K3 T3 g4 kE mj hr wi hi hop.symm (by simp [h0]) fun aK L' fJ H' K' T'=>hc aK L' fJ ⟨_,_,_,H'⟩ K' T'
noncomputable def cd:Code:=f100.body.getD .skip
noncomputable def sR:Code:=match ai 1 cd with| .seq _ (.block _ c)=>c|_=>.skip
theorem Lh {p q r:M'}:fZ p_ 121 #[p,q,r] .normal=(base 121).at ⟨#[p,q,r]++F_ 77 I',[]⟩ [.code bF]:=by kernel_rfl
theorem Lg {p q:M'}:fZ p_ 122 #[p,q] .normal=(base 122).at ⟨#[p,q]++F_ 57 I',[]⟩ [.code bC]:=by kernel_rfl
theorem Lf {p q:M'}:fZ p_ 123 #[p,q] .normal=(base 123).at ⟨#[p,q]++F_ 33 I',[]⟩ [.code cD]:=by kernel_rfl
theorem Le {p q:M'}:fZ p_ 124 #[p,q] .normal=(base 124).at ⟨#[p,q]++F_ 41 I',[]⟩ [.code cy]:=by kernel_rfl
theorem Li {p q:M'}:fZ p_ 100 #[p,q] .normal=(base 100).at ⟨#[p,q]++F_ 35 I',[]⟩ [.code cd]:=by kernel_rfl
inductive Ev where
 |ring (c pt:Int)
 |hang (c:Int)
 |answer (i:Nat)
 |back (i:Nat)
 |wait (n:Int)
def BM (k:ByteArray) (who word:Int):M':=.agg #[.string k,.int .i64 who,.int .i64 word]
def Ev.kind:Ev->ByteArray
 | .ring _ _=>⟨#[114,105,110,103]⟩
 | .hang _=>⟨#[104,97,110,103]⟩
 | .answer _=>⟨#[97,110,115,119,101,114]⟩
 | .back _=>⟨#[114,101,116,117,114,110]⟩
 | .wait _=>⟨#[119,97,105,116]⟩
def Ev.who:Ev->Int
 | .ring c _=>c
 | .hang c=>c
 | .answer i=>((i+1:Nat):Int)
 | .back i=>((i+1:Nat):Int)
 | .wait n=>n
def Ev.word:Ev->Int
 | .ring _ pt=>pt
 |_=>0
def Ev.val (e:Ev):M':=BM e.kind e.who e.word
def Ev.ok (m:Nat):Ev->Prop
 | .ring c _=>0<=c/\c<=1000000
 | .hang _=>True
 | .answer i=>i<m
 | .back i=>i<m
 | .wait n=>0<=n/\n<=1000000
def gZ (P:Int) (S:Hs) (us:List Od):Ev->Hs × List Od × Bs
 | .ring c pt=>oe S us c pt
 | .hang c=>ou S us c
 | .answer i=>og S us i
 | .back i=>lY S us i
 | .wait n=>((waited P S n).1,us,(waited P S n).2)
structure BA (S:Hs) (us:List Od):Prop where
 ring:Fo S
 hang:Fq S us
 wait:rC S
 call:Ft S
 c0:0<=S.clock
 c1:S.clock<=1000000
variable {pt:Int}
theorem sE (B:eh p_ C b 0 ae Fin h) (hL:Lay C wl) (H:cQ A va vt S wl) (K:bN C A N0 h us L wl) (hT:aU A wl) {kd:Array UInt8} {c:Int} (hc:∀w2 g3,Lay C w2->cQ A va vt S w2->bN C A N0 h us L w2->aU A w2->(∀T d,(w2.re T d).cell? ⟨g3,0,none⟩=some (.string ⟨kd⟩))->(∀T d,(w2.re T d).cell? ⟨g3,1,none⟩=some (.int .i64 c))->(∀T d,(w2.re T d).cell? ⟨g3,2,none⟩=some (.int .i64 pt))->ay p_ C b 0 ae Fin Post h (aY b N h L) w2 (G ((base 100).at ⟨#[.pointer (some ⟨A.hb,0,none⟩),.agg #[.string ⟨kd⟩,.int .i64 c,.int .i64 pt],I',.pointer (some ⟨g3,0,none⟩),.string ⟨#[]⟩,.pointer (some ⟨g3,0,none⟩),.string ⟨kd⟩,I',I',I',I',I',I',I',I',I',I',I',I',I',I',I',I',I',I',I',I',I',I',I',I',I',I',I',I',I',I'],[]⟩ (.code sR::.inBlock 0::[.code (az 2 cd)])) (aI.at aS (.inRegion av (aN::ak)::aV)::cs))):
 ay p_ C b 0 ae Fin Post h (aY b N h L) wl (G ((base 100).at ⟨#[.pointer (some ⟨A.hb,0,none⟩),BM ⟨kd⟩ c pt]++F_ 35 I',[]⟩ [.code cd]) (aI.at aS (.inRegion av (aN::ak)::aV)::cs)):=by
 have hS:=aH b N h L
 obtain ⟨vw,vb,vr,H⟩:=H
 have ea:(#[.pointer (some ⟨A.hb,0,none⟩),BM ⟨kd⟩ c pt]++F_ 35 I':Array M')=#[.pointer (some ⟨A.hb,0,none⟩),BM ⟨kd⟩ c pt,I',I',I',I',I',I',I',I',I',I',I',I',I',I',I',I',I',I',I',I',I',I',I',I',I',I',I',I',I',I',I',I',I',I',I']:=by kernel_rfl
 rw [ea]
 unfold BM
 have e1:cd=.seq (ai 0 cd) (.seq (.seq (ai 0 (ai 1 cd)) (.block 0 sR)) (az 2 cd)):=by kernel_rfl
 rw [e1]
 refine B.s ?_
 generalize hX:[lN (Code.seq (.seq (ai 0 (ai 1 cd)) (.block 0 sR)) (az 2 cd))]=X0
 simp only [ai,cd,f100,A_]
 refine B.r ?_
 refine ay.op (ok:=il) B hS hL rfl rfl (by k_ne) (by kernel_rfl) (fun T d=>⟨.pointer (some ⟨wl.heap.size,0,none⟩),(wl.alloc (.cells #[.string ⟨kd⟩,.int .i64 c,.int .i64 pt] 55)).re T d, ?_,fun hcut=>ay.re ?_ T d⟩)
 ·go_simp
  exact ⟨rfl,rfl⟩
 have du:Lay C (wl.alloc (.cells #[.string ⟨kd⟩,.int .i64 c,.int .i64 pt] 55)):=⟨Cut.j8 hcut,hL.no⟩
 walk_nrm
 have H2':=H.alloc (.cells #[.string ⟨kd⟩,.int .i64 c,.int .i64 pt] 55)
 have F2:Im A wl (wl.alloc (.cells #[.string ⟨kd⟩,.int .i64 c,.int .i64 pt] 55)):=⟨(Fr.alloc (w:=wl) H.big _).size,(Fr.alloc (w:=wl) H.big _).block⟩
 have K2:=K.zt H F2
 have T2:=aU.zt hT H F2
 have H2:cQ A va vt S (wl.alloc (.cells #[.string ⟨kd⟩,.int .i64 c,.int .i64 pt] 55)):=⟨_,_,_,H2'⟩
 have g0:∀T d,((wl.alloc (.cells #[.string ⟨kd⟩,.int .i64 c,.int .i64 pt] 55)).re T d).cell? ⟨wl.heap.size,0,none⟩=some (.string ⟨kd⟩):=fun _ _=>bJ (w:=wl) rfl
 have g1:∀T d,((wl.alloc (.cells #[.string ⟨kd⟩,.int .i64 c,.int .i64 pt] 55)).re T d).cell? ⟨wl.heap.size,1,none⟩=some (.int .i64 c):=fun _ _=>bJ (w:=wl) rfl
 have g2:∀T d,((wl.alloc (.cells #[.string ⟨kd⟩,.int .i64 c,.int .i64 pt] 55)).re T d).cell? ⟨wl.heap.size,2,none⟩=some (.int .i64 pt):=fun _ _=>bJ (w:=wl) rfl
 clear H2' F2 H K hT
 generalize wl.alloc (.cells #[.string ⟨kd⟩,.int .i64 c,.int .i64 pt] 55)=w2 at *
 generalize wl.heap.size=g3 at *
 iterate 2 refine B.n ?_
 subst hX
 iterate 2 refine B.n ?_
 generalize hX:[lN (Code.block 0 sR),lN (az 2 cd)]=X0
 simp only [ai,cd,f100,A_]
 iterate 2 refine B.n ?_
 refine B.o (.string ⟨kd⟩) (fun T d=> ?_) ?_
 ·have h0:=g0 T d
  go_simp
 walk_nrm
 refine B.e ?_
 subst hX
 refine ay.ctl B hS du rfl (fun _=>stepG_block) ?_
 exact hc w2 g3 du H2 K2 T2 g0 g1 g2
theorem C0 (B:eh p_ C b 0 ae Fin h) (hL:Lay C wl) (H:cQ A va vt S wl) (K:bN C A N0 h us L wl) (hT:aU A wl) {c:Int} (c0:0<=c) (c1:c<=1000000) (cK:Fo S)
 (hc:Behind C b N N0 h A va vt ae Fin Post aI aS av aN ak aV cs (oe S us c pt)):
 ay p_ C b 0 ae Fin Post h (aY b N h L) wl (G ((base 100).at ⟨#[.pointer (some ⟨A.hb,0,none⟩),BM ⟨#[114,105,110,103]⟩ c pt]++F_ 35 I',[]⟩ [.code cd]) (aI.at aS (.inRegion av (aN::ak)::aV)::cs)):=by
 have hS:=aH b N h L
 refine sE B hL H K hT fun w2 g3 du H2 K2 T2 g0 g1 g2=> ?_
 generalize hX:[Item.inBlock 0,lN (az 2 cd)]=X0
 simp only [sR,ai,cd,f100,A_]
 iterate 10 refine B.n ?_
 refine B.o (.int .i64 (c)) (fun T d=> ?_) ?_
 ·have h1:=g1 T d
  go_simp
 walk_nrm
 refine B.n ?_
 refine B.o (.int .i64 pt) (fun T d=> ?_) ?_
 ·have h2:=g2 T d
  go_simp
 walk_nrm
 refine ay.ctl B hS du rfl (fun _=>bY (vs:=#[.pointer (some ⟨A.hb,0,none⟩),.int .i64 (c),.int .i64 pt]) rfl rfl (by k_ne) rfl func121 rfl rfl (by kernel_rfl)) ?_
 rw [Lh]
 refine ring B du H2 K2 T2 c0 c1 cK fun w3 L3 gA H3 K3 T3=> ?_
 have zq:=aH b N h L3
 have hx:=hc w3 L3 gA H3 K3 T3
 clear hc H2 K2 T2
 generalize (oe S us c pt).2.2=ans at hx ⊢
 walk_nrm
 iterate 2 refine B.n ?_
 refine ay.ctl B zq gA rfl (fun _=>ma) ?_
 refine ay.ctl B zq gA rfl (fun _=>aZ rfl rfl func100 rfl) ?_
 exact hx
theorem Ψ (B:eh p_ C b 0 ae Fin h) (hL:Lay C wl) (H:cQ A va vt S wl) (K:bN C A N0 h us L wl) (hT:aU A wl) {c:Int} (cK:Fq S us)
 (hc:Behind C b N N0 h A va vt ae Fin Post aI aS av aN ak aV cs (ou S us c)):
 ay p_ C b 0 ae Fin Post h (aY b N h L) wl (G ((base 100).at ⟨#[.pointer (some ⟨A.hb,0,none⟩),BM ⟨#[104,97,110,103]⟩ c 0]++F_ 35 I',[]⟩ [.code cd]) (aI.at aS (.inRegion av (aN::ak)::aV)::cs)):=by
 have hS:=aH b N h L
 refine sE B hL H K hT fun w2 g3 du H2 K2 T2 g0 g1 g2=> ?_
 generalize hX:[Item.inBlock 0,lN (az 2 cd)]=X0
 simp only [sR,ai,cd,f100,A_]
 iterate 16 refine B.n ?_
 refine B.o (.int .i64 (c)) (fun T d=> ?_) ?_
 ·have h1:=g1 T d
  go_simp
 walk_nrm
 refine ay.ctl B hS du rfl (fun _=>bY (vs:=#[.pointer (some ⟨A.hb,0,none⟩),.int .i64 (c)]) rfl rfl (by k_ne) rfl func122 rfl rfl (by kernel_rfl)) ?_
 rw [Lg]
 refine hang B du H2 K2 T2 cK fun w3 L3 gA H3 K3 T3=> ?_
 have zq:=aH b N h L3
 have hx:=hc w3 L3 gA H3 K3 T3
 clear hc H2 K2 T2
 generalize (ou S us c).2.2=ans at hx ⊢
 walk_nrm
 iterate 2 refine B.n ?_
 refine ay.ctl B zq gA rfl (fun _=>ma) ?_
 refine ay.ctl B zq gA rfl (fun _=>aZ rfl rfl func100 rfl) ?_
 exact hx
theorem yO (B:eh p_ C b 0 ae Fin h) (hL:Lay C wl) (H:cQ A va vt S wl) (K:bN C A N0 h us L wl) (hT:aU A wl) (hi:i<us.length) (cK:rC S)
 (hc:Behind C b N N0 h A va vt ae Fin Post aI aS av aN ak aV cs (og S us i)):
 ay p_ C b 0 ae Fin Post h (aY b N h L) wl (G ((base 100).at ⟨#[.pointer (some ⟨A.hb,0,none⟩),BM ⟨#[97,110,115,119,101,114]⟩ ((i+1:Nat):Int) 0]++F_ 35 I',[]⟩ [.code cd]) (aI.at aS (.inRegion av (aN::ak)::aV)::cs)):=by
 have hS:=aH b N h L
 refine sE B hL H K hT fun w2 g3 du H2 K2 T2 g0 g1 g2=> ?_
 generalize hX:[Item.inBlock 0,lN (az 2 cd)]=X0
 simp only [sR,ai,cd,f100,A_]
 iterate 22 refine B.n ?_
 refine B.o (.int .i64 (((i+1:Nat):Int))) (fun T d=> ?_) ?_
 ·have h1:=g1 T d
  go_simp
 walk_nrm
 refine ay.ctl B hS du rfl (fun _=>bY (vs:=#[.pointer (some ⟨A.hb,0,none⟩),.int .i64 (((i+1:Nat):Int))]) rfl rfl (by k_ne) rfl func123 rfl rfl (by kernel_rfl)) ?_
 rw [Lf]
 refine Qa B du H2 K2 T2 hi cK fun w3 L3 gA H3 K3 T3=> ?_
 have zq:=aH b N h L3
 have hx:=hc w3 L3 gA H3 K3 T3
 clear hc H2 K2 T2
 generalize (og S us i).2.2=ans at hx ⊢
 walk_nrm
 iterate 2 refine B.n ?_
 refine ay.ctl B zq gA rfl (fun _=>ma) ?_
 refine ay.ctl B zq gA rfl (fun _=>aZ rfl rfl func100 rfl) ?_
 exact hx
theorem C3 (B:eh p_ C b 0 ae Fin h) (hL:Lay C wl) (H:cQ A va vt S wl) (K:bN C A N0 h us L wl) (hT:aU A wl) (hi:i<us.length) (cK:Ft S)
 (hc:Behind C b N N0 h A va vt ae Fin Post aI aS av aN ak aV cs (lY S us i)):
 ay p_ C b 0 ae Fin Post h (aY b N h L) wl (G ((base 100).at ⟨#[.pointer (some ⟨A.hb,0,none⟩),BM ⟨#[114,101,116,117,114,110]⟩ ((i+1:Nat):Int) 0]++F_ 35 I',[]⟩ [.code cd]) (aI.at aS (.inRegion av (aN::ak)::aV)::cs)):=by
 have hS:=aH b N h L
 refine sE B hL H K hT fun w2 g3 du H2 K2 T2 g0 g1 g2=> ?_
 generalize hX:[Item.inBlock 0,lN (az 2 cd)]=X0
 simp only [sR,ai,cd,f100,A_]
 iterate 28 refine B.n ?_
 refine B.o (.int .i64 (((i+1:Nat):Int))) (fun T d=> ?_) ?_
 ·have h1:=g1 T d
  go_simp
 walk_nrm
 refine ay.ctl B hS du rfl (fun _=>bY (vs:=#[.pointer (some ⟨A.hb,0,none⟩),.int .i64 (((i+1:Nat):Int))]) rfl rfl (by k_ne) rfl func124 rfl rfl (by kernel_rfl)) ?_
 rw [Le]
 refine Ly B du H2 K2 T2 hi cK fun w3 L3 gA H3 K3 T3=> ?_
 have zq:=aH b N h L3
 have hx:=hc w3 L3 gA H3 K3 T3
 clear hc H2 K2 T2
 generalize (lY S us i).2.2=ans at hx ⊢
 walk_nrm
 iterate 2 refine B.n ?_
 refine ay.ctl B zq gA rfl (fun _=>ma) ?_
 refine ay.ctl B zq gA rfl (fun _=>aZ rfl rfl func100 rfl) ?_
 exact hx
theorem CZ (B:eh p_ C b 0 ae Fin h) (hL:Lay C wl) (H:cQ A va vt S wl) (K:bN C A N0 h us L wl) (hT:aU A wl) {n:Int} (cK:rC S) (n0:0<=n) (n1:n<=1000000) (k0:0<=S.clock) (k1:S.clock<=1000000)
 (hc:Behind C b N N0 h A va vt ae Fin Post aI aS av aN ak aV cs ((waited A.P S n).1,us,(waited A.P S n).2)):
 ay p_ C b 0 ae Fin Post h (aY b N h L) wl (G ((base 100).at ⟨#[.pointer (some ⟨A.hb,0,none⟩),BM ⟨#[119,97,105,116]⟩ n 0]++F_ 35 I',[]⟩ [.code cd]) (aI.at aS (.inRegion av (aN::ak)::aV)::cs)):=by
 have hS:=aH b N h L
 refine sE B hL H K hT fun w2 g3 du H2 K2 T2 g0 g1 g2=> ?_
 generalize hX:[Item.inBlock 0,lN (az 2 cd)]=X0
 simp only [sR,ai,cd,f100,A_]
 iterate 24 refine B.n ?_
 refine ay.ctl B hS du rfl (fun _=>stepG_skip) ?_
 subst hX
 refine ay.ctl B hS du rfl (fun _=>stepG_inBlock) ?_
 have e2:az 2 cd=.seq (ai 2 cd) .ret:=by kernel_rfl
 rw [e2]
 refine B.s ?_
 simp only [ai,cd,f100,A_]
 iterate 3 refine B.n ?_
 refine B.o (.int .i64 (n)) (fun T d=> ?_) ?_
 ·have h1:=g1 T d
  go_simp
 walk_nrm
 refine ay.ctl B hS du rfl (fun _=>bY (vs:=#[.pointer (some ⟨A.hb,0,none⟩),.int .i64 (n)]) rfl rfl (by k_ne) rfl func125 rfl rfl (by kernel_rfl)) ?_
 refine PD B du H2 K2 T2 cK n0 n1 k0 k1 fun w3 L3 gA H3 K3 T3=> ?_
 have zq:=aH b N h L3
 have hx:=hc w3 L3 gA H3 K3 T3
 clear hc H2 K2 T2
 generalize ((waited A.P S n).1,us,(waited A.P S n).2).2.2=ans at hx ⊢
 walk_nrm
 iterate 2 refine B.n ?_
 refine ay.ctl B zq gA rfl (fun _=>ma) ?_
 refine ay.ctl B zq gA rfl (fun _=>aZ rfl rfl func100 rfl) ?_
 exact hx
theorem A9 (B:eh p_ C b 0 ae Fin h) (hL:Lay C wl) (H:cQ A va vt S wl) (K:bN C A N0 h us L wl) (hT:aU A wl) {e:Ev} (he:e.ok us.length) (cK:BA S us)
 (hc:Behind C b N N0 h A va vt ae Fin Post aI aS av aN ak aV cs (gZ A.P S us e)):
 ay p_ C b 0 ae Fin Post h (aY b N h L) wl (G ((base 100).at ⟨#[.pointer (some ⟨A.hb,0,none⟩),e.val]++F_ 35 I',[]⟩ [.code cd]) (aI.at aS (.inRegion av (aN::ak)::aV)::cs)):=by
 cases e with
 |ring c pt=>exact C0 B hL H K hT he.1 he.2 cK.ring hc
 |hang c=>exact Ψ B hL H K hT cK.hang hc
 |answer i=>exact yO B hL H K hT he cK.wait hc
 |back i=>exact C3 B hL H K hT he cK.call hc
 |wait n=>exact CZ B hL H K hT cK.wait he.1 he.2 cK.c0 cK.c1 hc
structure ik (lo:Nat) (C:cS) (A:Ha) (N0 h:Nat) (us:List Od) (L:Nat->Os) (w:J'):Prop where
 len:us.length=A.m
 small:A.m<=999
 Ip:∀j v,j≠0->(L j).od=some v->∃i,lo<=i/\i<us.length/\j=N0+i
 live:∀i (hi:i<us.length),lo<=i->L (N0+i)=.live us[i]
 n0:∀i,i<us.length->N0+i≠0/\N0+i≠h
 ap:Apart L
 fo:BB C L
 kM:∀j v,j≠0->(L j).od=some v->Ch w v.x/\v.x<A.B
 cells:∀i (hi:i<us.length),w.cell? ⟨A.ob,i,none⟩=some (.chan (some us[i].x))/\w.cell? ⟨us[i].bt,0,none⟩=some (.chan (some us[i].x))/\us[i].bt<A.B/\us[i].bt≠A.hb
variable {w w':J'} {lo:Nat} {L:Nat->Os}
theorem bN.two (K:bN C A N0 h us L w):ik 0 C A N0 h us L w:=
 ⟨K.len,K.small.1,fun j v hj hv=>by obtain ⟨i,h1,h2⟩:=K.small.2 j v hj hv;exact ⟨i,nz _,h1,h2⟩,fun i hi _=>K.live i hi,K.n0,K.ap,K.fo,K.kM,K.cells⟩
theorem ik.zt (K:ik lo C A N0 h us L w) (H:aQ A S vw vb vr va vt w) (F:Im A w w'):ik lo C A N0 h us L w':=by
 refine ⟨K.len,K.small,K.Ip,K.live,K.n0,K.ap,K.fo,fun j v hj hv=> ?_,fun i hi=> ?_⟩
 ·obtain ⟨⟨kk,hk⟩,hb⟩:=K.kM j v hj hv
  have nm:∀es c,w.heap[v.x]?≠some (.map es c):=fun es c e=>by rw [hk] at e;cases e
  refine ⟨⟨kk, ?_⟩,hb⟩
  rw [F.block v.x hb (fun e=>by have:=H.box;rw [<-e,hk] at this;cases this) (dX H.on nm) (dX H.of nm) (dX H.rc nm)]
  exact hk
 ·obtain ⟨h1,h2,h3,h4⟩:=K.cells i hi
  have nm:∀{r o:Nat} {v:M'},w.cell? ⟨r,o,none⟩=some v->∀es c,w.heap[r]?≠some (.map es c):=fun {r o v} hr es c e=>by simp [World.cell?,e] at hr
  refine ⟨?_, ?_,h3,h4⟩
  ·rw [J_ (F.block A.ob H.ok.ob H.ok.d3.1 (dX H.on (nm h1)) (dX H.of (nm h1)) (dX H.rc (nm h1)))];exact h1
  ·rw [J_ (F.block _ h3 h4 (dX H.on (nm h2)) (dX H.of (nm h2)) (dX H.rc (nm h2)))];exact h2
theorem ik.pf (K:ik lo C A N0 h us L w) (k:gN x w w') (hc:Ch w' x):ik lo C A N0 h us L w':=by
 refine ⟨K.len,K.small,K.Ip,K.live,K.n0,K.ap,K.fo,fun j v hj hv=> ?_,fun i hi=> ?_⟩
 ·obtain ⟨⟨kk,hk⟩,hb⟩:=K.kM j v hj hv
  refine ⟨?_,hb⟩
  by_cases e:v.x=x
  ·rw [e];exact hc
  ·exact ⟨kk,k.blk _ _ hk e⟩
 ·obtain ⟨h1,h2,h3,h4⟩:=K.cells i hi
  exact ⟨(k.cells _ _ h1).1,(k.cells _ _ h2).1,h3,h4⟩
variable {j:Nat}
theorem rV {v:Od} (h:(upd L j .gone i).od=some v):i≠j/\(L i).od=some v:=by
 by_cases e:i=j
 ·subst e;rw [O_] at h;cases h
 ·rw [P_ _ _ e] at h;exact ⟨e,h⟩
variable {kk:Nat}
theorem ik.gone (K:ik lo C A N0 h us L w) (zp:lo<us.length) (gv:w.heap[us[lo].x]?=some (.chan 0 #[] false kk kk false)):ik (lo+1) C A N0 h us (upd L (N0+lo) .gone) (w.setChan us[lo].x 0 #[] true kk kk false):=by
 have k:=gN.chan gv rfl 0 #[] true kk kk false
 refine ⟨K.len,K.small,fun j v hj hv=> ?_,fun i hi hl=> ?_,K.n0,fun i j u v hi hj vG hu hv=>K.ap i j u v hi hj vG (rV hu).2 (rV hv).2,⟨K.fo.on,K.fo.no,fun j u hj hu=>K.fo.ks j u hj (rV hu).2⟩,fun j v hj hv=> ?_,fun i hi=> ?_⟩
 ·obtain ⟨h1,h2⟩:=rV hv
  obtain ⟨i,h3,h4,h5⟩:=K.Ip j v hj h2
  exact ⟨i,by omega,h4,h5⟩
 ·rw [P_ _ _ (by omega)];exact K.live i hi (by omega)
 ·obtain ⟨h1,h2⟩:=rV hv
  obtain ⟨⟨k2,hk⟩,hb⟩:=K.kM j v hj h2
  refine ⟨⟨k2,k.blk _ _ hk fun e=> ?_⟩,hb⟩
  exact K.ap j (N0+lo) v us[lo] hj (K.n0 lo zp).1 h1 h2 (by rw [K.live lo zp (C_ _)];rfl) e
 ·obtain ⟨h1,h2,h3,h4⟩:=K.cells i hi
  exact ⟨(k.cells _ _ h1).1,(k.cells _ _ h2).1,h3,h4⟩
variable {L:Nat->Of.Os} {g g':O'}
theorem VT (B:eh p_ C b 0 ae Fin h) (hL:Lay C wl) (H:aQ A S vw vb vr va vt wl) (K:ik lo C A N0 h us L wl) (hT:aU A wl) (hi:i<us.length) (zp:lo<=i) {call:Int}
 (hc:∀aK,Lay C aK->aQ A S vw vb vr va vt aK->ik lo C A N0 h us L aK->aU A aK->ay p_ C b 0 ae Fin Post h (aY b N h L) aK (G (aI.at (aS.put ((av[aN]?).bind (·.dst)) (.int .i64 us[i].k)) (.inRegion av ak::aV)) cs)):
 ay p_ C b 0 ae Fin Post h (aY b N h L) wl (G ((base 101).at ⟨#[.pointer (some ⟨A.hb,0,none⟩),.int .i64 ((i+1:Nat):Int),.int .i64 0,.int .i64 call]++F_ 21 I',[]⟩ [.code dv]) (aI.at aS (.inRegion av (aN::ak)::aV)::cs)):=by
 obtain ⟨h1,h2,h3,h4⟩:=K.cells i hi
 have hm:=K.len
 have hsm:=K.small
 refine ask B hL K.ap K.fo (fun j v hj hv=>(K.kM j v hj hv).1) (K.n0 i hi).1 (K.n0 i hi).2 (K.live i hi zp) (n:=A.m) (by omega) (by omega) H.c.2.2.2.1 h1 h2 fun aK fJ hk hch=> ?_
 have hx:=(K.kM (N0+i) us[i] (K.n0 i hi).1 (by rw [K.live i hi zp];rfl)).1
 have e0:((0:Int)=1)=False:=by simp
 simp only [e0,if_false]
 have eL:upd L (N0+i) (.live ⟨us[i].bt,us[i].x,us[i].k⟩)=L:=by
  funext j
  by_cases e:j=N0+i
  ·subst e;rw [O_,K.live i hi zp]
  ·rw [P_ _ _ e]
 rw [eL]
 exact hc aK fJ (H.pf hk hx) (K.pf hk hch) (hT.pf hk hx)
theorem PV (B:eh p_ C b 0 ae Fin h) (hL:Lay C wl) (hP:BB C L) (hD:Apart L) {u:Od} (hj:j≠0) (KI:j≠h) (hl:L j=.live u) (gv:wl.heap[u.x]?=some (.chan 0 #[] false kk kk false)) (hrun:g.status=.running)
 (hst:∀w,w.heap[u.x]?=some (.chan 0 #[] false kk kk false)->stepG p_ false g w=.go g' (w.setChan u.x 0 #[] true kk kk false) (closeEvents u.x)) (QP:mayWake p_ g=true) (xw:g'.status=.running)
 (hc:ay p_ C b 0 ae Fin Post h (aY b N h (upd L j .gone)) (wl.setChan u.x 0 #[] true kk kk false) g'):ay p_ C b 0 ae Fin Post h (aY b N h L) wl g:=by
 have hS:=hP.ks j u hj (by rw [hl];rfl)
 refine ay.closes B (aH b N h L) hL hP.on (c:=u.x) (kk:=kk) gv hrun hst QP xw (fun rel ρ n hR i p home hi CS hp hc=> ?_) (fun rel ρ n hR=> ?_) hc
 ·have cK:=hR.2 i hi CS
  rw [hp] at cK
  obtain ⟨u',OD,rfl,rfl⟩:=nJ cK
  have vG:i=j:=j_ fun hne=>hD i j u' u hi hj hne (by rw [OD];rfl) (by rw [hl];rfl) hc
  subst vG
  rw [hl] at OD
  cases OD
  exact ⟨_,_,rfl,fun bp w hh=>Jc hS hh⟩
 ·refine ⟨hR.1,fun i hi CS=> ?_⟩
  have lE:=hR.2 i hi CS
  by_cases e:i=j
  ·subst e
   rw [O_]
   show Os.ok b _ (bD u.x (ρ i))
   rw [hl] at lE
   rw [show ρ i=_ from lE]
   refine .inl ?_
   simp [bD,Port.chan,aX.leaving]
  ·rw [P_ _ _ e]
   have:bD u.x (ρ i)=ρ i:=vM fun p home hp hc=>by
    rw [hp] at lE
    obtain ⟨u',OD,rfl,_⟩:=nJ lE
    exact hD i j u' u hi hj e (by rw [OD];rfl) (by rw [hl];rfl) hc
   show Os.ok b _ (bD u.x (ρ i))
   rw [this];exact lE
noncomputable def eV:Code:=f72.body.getD .skip
noncomputable def qx:Code:=match ai 0 eV with| .seq _ (.block _ (.loop c))=>c|_=>.skip
noncomputable def pK:Code:=match az 1 eV with| .seq _ (.block _ (.loop c))=>c|_=>.skip
noncomputable def X7:Code->Array Oper
 | .region _ ops _=>ops
 |_=>#[]
noncomputable def Sb:Code:=match az 2 qx with| .seq (.block _ (.seq _ r)) _=>r|_=>.skip
noncomputable def Sa:Code:=match az 2 pK with| .seq (.block _ (.seq _ (.seq r _))) _=>r|_=>.skip
structure Fl (c bl ap st:Nat) (pc pa:List Nat) (D:Array Bool) (ph:Nat):Prop where
 fc:D.getD c false=decide (1<=ph)
 fb:D.getD bl false=decide (2<=ph)
 fa:D.getD ap false=decide (3<=ph)
 fs:D.getD st false=decide (4<=ph)
 pc:1<=ph->∀j∈pc,D.getD j false=true
 pa:3<=ph->∀j∈pa,D.getD j false=true
theorem iV {D:Array Bool} (h:D.getD j false=true):(D.setIfInBounds i true).getD j false=true:=by
 rw [bq];split<;>first|rfl|exact h
variable {c bl ap st:Nat} {pc pa:List Nat} {D:Array Bool} {ph:Nat}
theorem Fl.keep (h:Fl c bl ap st pc pa D ph) (h1:i≠c:=by decide) (h2:i≠bl:=by decide) (h3:i≠ap:=by decide) (h4:i≠st:=by decide):Fl c bl ap st pc pa (D.setIfInBounds i true) ph:=
 ⟨by rw [bq,if_neg (fun e=>h1 e.1)];exact h.fc,by rw [bq,if_neg (fun e=>h2 e.1)];exact h.fb,by rw [bq,if_neg (fun e=>h3 e.1)];exact h.fa,by rw [bq,if_neg (fun e=>h4 e.1)];exact h.fs,fun h0 j hj=>iV (h.pc h0 j hj),fun h0 j hj=>iV (h.pa h0 j hj)⟩
theorem Fl.calls (h:Fl c bl ap st pc pa D 0) (hs:c<D.size) (h2:c≠bl) (h3:c≠ap) (h4:c≠st) (hp:∀j∈pc,D.getD j false=true):Fl c bl ap st pc pa (D.setIfInBounds c true) 1:=
 ⟨by rw [bq,if_pos ⟨rfl,hs⟩];rfl,by rw [bq,if_neg (fun e=>h2 e.1)];exact h.fb,by rw [bq,if_neg (fun e=>h3 e.1)];exact h.fa,by rw [bq,if_neg (fun e=>h4 e.1)];exact h.fs,fun _ j hj=>iV (hp j hj),fun h0=>absurd h0 (by omega)⟩
theorem Fl.builds (h:Fl c bl ap st pc pa D 1) (hs:bl<D.size) (h1:bl≠c) (h3:bl≠ap) (h4:bl≠st):Fl c bl ap st pc pa (D.setIfInBounds bl true) 2:=
 ⟨by rw [bq,if_neg (fun e=>h1 e.1)];exact h.fc,by rw [bq,if_pos ⟨rfl,hs⟩];rfl,by rw [bq,if_neg (fun e=>h3 e.1)];exact h.fa,by rw [bq,if_neg (fun e=>h4 e.1)];exact h.fs,fun _ j hj=>iV (h.pc (by omega) j hj),fun h0=>absurd h0 (by omega)⟩
theorem Fl.apps (h:Fl c bl ap st pc pa D 2) (hs:ap<D.size) (h1:ap≠c) (h3:ap≠bl) (h4:ap≠st) (hp:∀j∈pa,D.getD j false=true):Fl c bl ap st pc pa (D.setIfInBounds ap true) 3:=
 ⟨by rw [bq,if_neg (fun e=>h1 e.1)];exact h.fc,by rw [bq,if_neg (fun e=>h3 e.1)];exact h.fb,by rw [bq,if_pos ⟨rfl,hs⟩];rfl,by rw [bq,if_neg (fun e=>h4 e.1)];exact h.fs,fun _ j hj=>iV (h.pc (by omega) j hj),fun _ j hj=>iV (hp j hj)⟩
theorem Fl.stores (h:Fl c bl ap st pc pa D 3) (hs:st<D.size) (h1:st≠c) (h3:st≠bl) (h4:st≠ap):Fl c bl ap st pc pa (D.setIfInBounds st true) 4:=
 ⟨by rw [bq,if_neg (fun e=>h1 e.1)];exact h.fc,by rw [bq,if_neg (fun e=>h3 e.1)];exact h.fb,by rw [bq,if_neg (fun e=>h4 e.1)];exact h.fa,by rw [bq,if_pos ⟨rfl,hs⟩];rfl,fun _ j hj=>iV (h.pc (by omega) j hj),fun _ j hj=>iV (h.pa (by omega) j hj)⟩
theorem aQ.ML (h:aQ A S vw vb vr va vt w) {v:M'} {s:Bs} (hg:w.grownBy w' va.ownBlock) (ho:w'.ownsRow A.B 9 1 v (S.log.length+1) ((S.log.map fun s=>Value.string ⟨s.toArray⟩)++[.string ⟨s.toArray⟩])):
 aQ A {S with log:=S.log++[s]} vw vb vr v vt (w'.setCell ⟨A.hb,12,none⟩ v)/\Fr A w (w'.setCell ⟨A.hb,12,none⟩ v):=
 h.grown hg (fun g e=>pU h.log g e) (k:=12) (v:=v) (S':={S with log:=S.log++[s]}) rfl rfl rfl rfl rfl (bU h.wait h.log (by decide) hg) (bU h.back h.log (by decide) hg) (bU h.recs h.log (by decide) hg) (by rw [List.length_append,List.map_append];exact ho) (bU h.cg h.log (by decide) hg) h.apart
theorem aQ.Jv (h:aQ A S vw vb vr va vt w) {v:M'} {c:Int} (hg:w.grownBy w' vt.ownBlock) (ho:w'.ownsRow A.B 3 1 v (S.cg.length+1) (S.cg.map (Value.int .i64)++[.int .i64 c])) (hv:v.ownBlock=vt.ownBlock\/v.ownBlock=some w.heap.size):
 aQ A {S with cg:=S.cg++[c]} vw vb vr va v (w'.setCell ⟨A.hb,13,none⟩ v)/\Fr A w (w'.setCell ⟨A.hb,13,none⟩ v):=by
 have Gp:vb.ownBlock=none\/vb.ownBlock≠v.ownBlock:=by
  rcases hv with e|e
  ·rw [e];exact h.apart
  ·refine .inr fun e1=> ?_
   have:=(h.back.lt _ (e1.trans e)).2
   omega
 exact h.grown hg (fun g e=>pU h.cg g e) (k:=13) (v:=v) (S':={S with cg:=S.cg++[c]}) rfl rfl rfl rfl rfl (bU h.wait h.cg (by decide) hg) (h.back.kept hg h.apart) (bU h.recs h.cg (by decide) hg) (bU h.log h.cg (by decide) hg) (by rw [List.length_append,List.map_append];exact ho) Gp
structure Rx where
 L:Nat->Os
 ph:Nat
 g:Nat
 v:M'
theorem Oy:(Tryz.prog.info? 9).map (fun i=>(i.zero,i.size,i.bytes))=some (some (.string ⟨#[]⟩),1,16):=by kernel_rfl
def FA (A:Ha) (e:Ev) (va:M') (ans:Bs) (x:Rx):Nat->M'
 |0=>.pointer (some ⟨A.hb,0,none⟩)
 |1=>.pointer (some ⟨A.hb,0,none⟩)
 |2=>.pointer (some ⟨A.hb,0,none⟩)
 |3=>.pointer (some ⟨A.hb,12,none⟩)
 |4=>va
 |5=>.pointer (some ⟨A.hb,0,none⟩)
 |6=>BM e.kind e.who e.word
 |7=>.string ⟨ans.toArray⟩
 |8=>.slice (some ⟨x.g,0,none⟩) 1 1
 |9=>x.v
 |10=>.pointer (some ⟨A.hb,0,none⟩)
 |11=>.pointer (some ⟨A.hb,12,none⟩)
 |_=>I'
def Ph3 (ge:Nat) (C:cS) (N0 h:Nat) (A:Ha) (S S1:Hs) (us wG:List Od) (va vt:M') (A:Ha) (e:Ev) (va:M') (ans:Bs) (x:Rx) (w:J'):Prop:=
 match x.ph with
 |0=>cQ A va vt S w/\bN C A N0 h us x.L w/\aU A w/\w.heap[ge]?=some (.cells #[.string e.kind,.int .i64 e.who,.int .i64 e.word] 55 (0,0))
 |1=>cQ A va vt S1 w/\bN C A N0 h wG x.L w/\aU A w
 |2=>cQ A va vt S1 w/\bN C A N0 h wG x.L w/\aU A w/\w.heap[x.g]?=some (.cells #[.string ⟨ans.toArray⟩] 9 (0,0))
 |3=>(∃w1,cQ A va vt S1 w1/\bN C A N0 h wG x.L w1/\aU A w1/\gD w1 w va.ownBlock/\w.ownsRow A.B 9 1 x.v (S1.log.length+1) ((S1.log.map fun s=>Value.string ⟨s.toArray⟩)++[.string ⟨ans.toArray⟩])/\(x.v.ownBlock=va.ownBlock\/x.v.ownBlock=some w1.heap.size))
 |_=>cQ A x.v vt {S1 with log:=S1.log++[ans]} w/\bN C A N0 h wG x.L w/\aU A w
structure Wd3 (ge:Nat) (C:cS) (N0 h:Nat) (A:Ha) (S S1:Hs) (us wG:List Od) (va vt:M') (A:Ha) (e:Ev) (va:M') (ans:Bs) (D:Array Bool) (x:Rx) (w:J'):Prop where
 lay:Lay C w
 le:x.ph<=4
 fl:Fl 7 8 9 12 [5,6] [4,8] D x.ph
 at_:Ph3 ge C N0 h A S S1 us wG va vt A e va ans x w
variable {S1:Hs} {wG:List Od} {K0:List Item} {z1 z3 z4:M'}
theorem ME (B:eh p_ C b 0 ae Fin h) (hL:Lay C wl) (H:cQ A va vt S wl) (K:bN C A N0 h us L wl) (hT:aU A wl) {e:Ev} (he:e.ok us.length) (cK:BA S us) {ge:Nat} (vI:wl.heap[ge]?=some (.cells #[.string e.kind,.int .i64 e.who,.int .i64 e.word] 55 (0,0))) {ans:Bs} (Ma:S1.log.length<=1000) (Vt:S1=(gZ A.P S us e).1) (Qu:wG=(gZ A.P S us e).2.1) (xI:ans=(gZ A.P S us e).2.2) {z6 z12 z20 z21 z22 z23 z24 z25 z26 z28 z31 z37 z40 z46 z49 z51:M'}
 (hc:∀w' L' v' (u14 u15 u16 u17 u18 u19 u20 u21 u22 u23 u24 u25:M'),Lay C w'->cQ A v' vt {S1 with log:=S1.log++[ans]} w'->bN C A N0 h wG L' w'->aU A w'->ay p_ C b 0 ae Fin Post h (aY b N h L') w' (G ((base 72).at ⟨#[.pointer (some ⟨A.hb,0,none⟩),z1,z2,z3,z4,.pointer (some ⟨ge,0,none⟩),z6,z7,z8,z9,dB,cZ,z12,de,u14,u15,u16,u17,u18,u19,u20,u21,u22,u23,u24,u25,z26,dD,z28,dC,dM,z31,dQ,dK,dP,dO,dV,z37,ey,ew,z40,eu,eK,eJ,eI,eH,z46,eQ,eN,z49,en,z51],[]⟩ K0) cs)):
 ay p_ C b 0 ae Fin Post h (aY b N h L) wl (G ((base 72).at ⟨#[.pointer (some ⟨A.hb,0,none⟩),z1,z2,z3,z4,.pointer (some ⟨ge,0,none⟩),z6,z7,z8,z9,dB,cZ,z12,de,dn,dm,dk,dj,dA,dz,z20,z21,z22,z23,z24,z25,z26,dD,z28,dC,dM,z31,dQ,dK,dP,dO,dV,z37,ey,ew,z40,eu,eK,eJ,eI,eH,z46,eQ,eN,z49,en,z51],[]⟩ (.code Sb::K0)) cs):=by
 generalize cn:(#[.pointer (some ⟨A.hb,0,none⟩),z1,z2,z3,z4,.pointer (some ⟨ge,0,none⟩),z6,z7,z8,z9,dB,cZ,z12,de,dn,dm,dk,dj,dA,dz,z20,z21,z22,z23,z24,z25,z26,dD,z28,dC,dM,z31,dQ,dK,dP,dO,dV,z37,ey,ew,z40,eu,eK,eJ,eI,eH,z46,eQ,eN,z49,en,z51]:Array M')=bs
 have oq:bs.size=52:=by rw [<-cn];rfl
 have HI:∀t,bs.getD t I'=(#[.pointer (some ⟨A.hb,0,none⟩),z1,z2,z3,z4,.pointer (some ⟨ge,0,none⟩),z6,z7,z8,z9,dB,cZ,z12,de,dn,dm,dk,dj,dA,dz,z20,z21,z22,z23,z24,z25,z26,dD,z28,dC,dM,z31,dQ,dK,dP,dO,dV,z37,ey,ew,z40,eu,eK,eJ,eI,eH,z46,eQ,eN,z49,en,z51]:Array M').getD t I':=fun t=>by rw [cn]
 simp only [Sb,qx,pK,ai,az,eV,f72,A_]
 refine ay.any (by kernel_rfl) B (Rs:=fun x:Rx=>aY b N h x.L) (kP:=⟨L,0,0,I'⟩) (fun x=>aH b N h x.L) (base:=bs) (by rw [oq];kernel_rfl) (by kernel_rfl) (fun x=>FA A e va ans x) (Wd3 ge C N0 h A S S1 us wG va vt A e va ans) (fun _ _ _ h=>h.lay)
  ⟨hL,nz _,⟨rfl,rfl,rfl,rfl,fun h0=>absurd h0 (Nat.not_succ_le_zero _),fun h0=>absurd h0 (Nat.not_succ_le_zero _)⟩, ?_⟩ ?_ ?_
 ·exact ⟨H,K,hT,vI⟩
 ·intro i o' ho D x w a rest hD bc hw hn aD k
  have hS:=aH b N h x.L
  have hlt:i<13:=(cI ho)
  have dJ:=hw.fl
  have jI:=hw.lay
  have Gl:=bT oq
  have aA:=aa k
  clear k
  obtain rfl|rfl|rfl|rfl|rfl|rfl|rfl|rfl|rfl|rfl|rfl|rfl|rfl:i=0\/i=1\/i=2\/i=3\/i=4\/i=5\/i=6\/i=7\/i=8\/i=9\/i=10\/i=11\/i=12:=by omega
  all_goals obtain rfl:=so ho rfl
  ·obtain ⟨v0,w0⟩:=bc.oo (.pointer (some ⟨A.hb,0,none⟩)) 0
   clear aD ho
   refine ay.dY (ok:=il) B hS jI (v:=.pointer (some ⟨A.hb,0,none⟩)) rfl rfl (by k_ne) (by kernel_rfl) (fun T d=> ?_) (aA.out x w (fun _ _=>rfl) ⟨jI,hw.le,dJ.keep,hw.at_⟩)
   clear bc hw aA hn
   go_simp
  ·obtain ⟨v0,w0⟩:=bc.oo (.pointer (some ⟨A.hb,0,none⟩)) 0
   clear aD ho
   refine ay.dY (ok:=il) B hS jI (v:=.pointer (some ⟨A.hb,0,none⟩)) rfl rfl (by k_ne) (by kernel_rfl) (fun T d=> ?_) (aA.out x w (fun _ _=>rfl) ⟨jI,hw.le,dJ.keep,hw.at_⟩)
   clear bc hw aA hn
   go_simp
  ·have d1:=dq aD 1
   obtain ⟨v15,N2⟩:=bc.vv (.pointer (some ⟨A.hb,0,none⟩)) 15 1 d1
   clear aD ho
   refine ay.dY (ok:=il) B hS jI (v:=.pointer (some ⟨A.hb,0,none⟩)) rfl rfl (by k_ne) (by kernel_rfl) (fun T d=> ?_) (aA.out x w (fun _ _=>rfl) ⟨jI,hw.le,dJ.keep,hw.at_⟩)
   clear bc hw aA hn
   go_simp
  ·have d2:=dq aD 2
   obtain ⟨v16,Mq⟩:=bc.vv (.pointer (some ⟨A.hb,0,none⟩)) 16 2 d2
   clear aD ho
   refine ay.dY (ok:=il) B hS jI (v:=.pointer (some ⟨A.hb,12,none⟩)) rfl rfl (by k_ne) (by kernel_rfl) (fun T d=> ?_) (aA.out x w (fun _ _=>rfl) ⟨jI,hw.le,dJ.keep,hw.at_⟩)
   clear bc hw aA hn
   go_simp
  ·have d3:=dq aD 3
   obtain ⟨v17,N1⟩:=bc.vv (.pointer (some ⟨A.hb,12,none⟩)) 17 3 d3
   clear aD ho
   refine ay.dY (ok:=il) B hS jI (v:=va) rfl rfl (by k_ne) (by kernel_rfl) (fun T d=> ?_) (aA.out x w (fun _ _=>rfl) ⟨jI,hw.le,dJ.keep,hw.at_⟩)
   have h0:(w.re T d).cell? ⟨A.hb,12,none⟩=some va:=by
    obtain ⟨L1,gT,g1,v1⟩:=x
    have hle:gT<=2:=by
     refine j_ fun hx=> ?_
     have:=dJ.pa (by simp only;omega) 4 (by simp)
     rw [hn] at this;cases this
    obtain rfl|rfl|rfl:gT=0\/gT=1\/gT=2:=by omega
    ·obtain ⟨⟨vw,vb,vr,H1⟩,_⟩:=hw.at_;exact H1.c.2.2.2.2.2.2.2.2.2.1
    ·obtain ⟨⟨vw,vb,vr,H1⟩,_⟩:=hw.at_;exact H1.c.2.2.2.2.2.2.2.2.2.1
    ·obtain ⟨⟨vw,vb,vr,H1⟩,_⟩:=hw.at_;exact H1.c.2.2.2.2.2.2.2.2.2.1
   clear bc hw aA hn
   go_simp
  ·obtain ⟨v0,w0⟩:=bc.oo (.pointer (some ⟨A.hb,0,none⟩)) 0
   clear aD ho
   refine ay.dY (ok:=il) B hS jI (v:=.pointer (some ⟨A.hb,0,none⟩)) rfl rfl (by k_ne) (by kernel_rfl) (fun T d=> ?_) (aA.out x w (fun _ _=>rfl) ⟨jI,hw.le,dJ.keep,hw.at_⟩)
   clear bc hw aA hn
   go_simp
  ·obtain ⟨v5,w5⟩:=bc.oo (.pointer (some ⟨ge,0,none⟩)) 5
   clear aD ho
   refine ay.dY (ok:=il) B hS jI (v:=BM e.kind e.who e.word) rfl rfl (by k_ne) (by kernel_rfl) (fun T d=> ?_) (aA.out x w (fun _ _=>rfl) ⟨jI,hw.le,dJ.keep,hw.at_⟩)
   have vI:w.heap[ge]?=some (.cells #[.string e.kind,.int .i64 e.who,.int .i64 e.word] 55 (0,0)):=by
    obtain ⟨L1,gT,g1,v1⟩:=x
    have hle:gT=0:=by
     refine j_ fun hx=> ?_
     have:=dJ.pc (by simp only;omega) 6 (by simp)
     rw [hn] at this;cases this
    subst hle
    exact hw.at_.2.2.2
   have h0:(w.re T d).cell? ⟨ge,0,none⟩=some (.string e.kind):=by show w.cell? _=_;rw [aB vI];rfl
   have h1:(w.re T d).cell? ⟨ge,1,none⟩=some (.int .i64 e.who):=by show w.cell? _=_;rw [aB vI];rfl
   have h2:(w.re T d).cell? ⟨ge,2,none⟩=some (.int .i64 e.word):=by show w.cell? _=_;rw [aB vI];rfl
   unfold BM
   clear bc hw aA hn
   go_simp
  ·have d5:=dq aD 5
   have d6:=dq aD 6
   obtain ⟨v19,w19⟩:=bc.vv (.pointer (some ⟨A.hb,0,none⟩)) 19 5 d5
   obtain ⟨v20,w20⟩:=bc.vv (BM e.kind e.who e.word) 20 6 d6
   clear aD ho
   have jH:x.ph=0:=by
    have e2:=dJ.fc
    rw [hn] at e2
    have:=of_decide_eq_false e2.symm
    omega
   obtain ⟨L1,gT,g1,v1⟩:=x
   simp only at jH
   subst jH
   obtain ⟨H1,K1,T1,vI⟩:=hw.at_
   refine ay.ctl B hS jI rfl (fun _=>bY (vs:=#[.pointer (some ⟨A.hb,0,none⟩),BM e.kind e.who e.word]) rfl rfl (by k_ne) rfl func100 rfl rfl (by simp only [List.map_toArray,S_,List.map_nil,v19,v20])) ?_
   rw [Li]
   refine A9 B jI H1 K1 T1 he cK fun w3 L3 gA H3 K3 T3=> ?_
   rw [<-xI]
   exact aA.out ⟨L3,1,g1,v1⟩ w3 (fun _ _=>rfl) ⟨gA,Z_ rfl,dJ.calls (by rw [hD];decide) (by decide) (by decide) (by decide) (by intro j hj;simp at hj;rcases hj with rfl|rfl<;>assumption),⟨by rw [Vt];exact H3,by rw [Qu];exact K3,T3⟩⟩
  ·have d7:=dq aD 7
   obtain ⟨v21,w21⟩:=bc.vv (.string ⟨ans.toArray⟩) 21 7 d7
   clear aD ho
   have jH:x.ph=1:=by
    have e1:=dJ.fc
    have e2:=dJ.fb
    rw [d7] at e1
    rw [hn] at e2
    have:=of_decide_eq_true e1.symm
    have:=of_decide_eq_false e2.symm
    omega
   obtain ⟨L1,gT,g1,v1⟩:=x
   simp only at jH
   subst jH
   obtain ⟨⟨vw,vb,vr,H1⟩,K1,T1⟩:=hw.at_
   refine ay.op (ok:=il) B hS jI rfl rfl (by k_ne) (by kernel_rfl) fun T d=>⟨.slice (some ⟨w.heap.size,0,none⟩) 1 1,(w.alloc (.cells #[.string ⟨ans.toArray⟩] 9)).re T d, ?_,fun hcut=>ay.re ?_ T d⟩
   ·clear bc hw aA hn H1 K1 T1
    go_simp
    exact ⟨rfl,rfl⟩
   ·have du:Lay C (w.alloc (.cells #[.string ⟨ans.toArray⟩] 9)):=⟨Cut.j8 hcut,jI.no⟩
    have F2:Im A w (w.alloc (.cells #[.string ⟨ans.toArray⟩] 9)):=⟨(Fr.alloc (w:=w) H1.big _).size,(Fr.alloc (w:=w) H1.big _).block⟩
    exact aA.out ⟨L1,2,w.heap.size,v1⟩ _ (fun j hj=>by
     have hne:j≠8:=fun e=>by rw [e,hn] at hj;cases hj
     unfold FA;split<;>first|rfl|exact absurd rfl hne) ⟨du,Z_ rfl,dJ.builds (by rw [hD];decide) (by decide) (by decide) (by decide),⟨⟨_,_,_,H1.alloc _⟩,K1.zt H1 F2,aU.zt T1 H1 F2,Z' w _⟩⟩
  ·have d4:=dq aD 4
   have d8:=dq aD 8
   obtain ⟨v18,w18⟩:=bc.vv va 18 4 d4
   obtain ⟨v22,w22⟩:=bc.vv (.slice (some ⟨x.g,0,none⟩) 1 1) 22 8 d8
   clear aD ho
   have jH:x.ph=2:=by
    have e1:=dJ.fb
    have e2:=dJ.fa
    rw [d8] at e1
    rw [hn] at e2
    have:=of_decide_eq_true e1.symm
    have:=of_decide_eq_false e2.symm
    omega
   obtain ⟨L1,gT,g1,v1⟩:=x
   simp only at jH
   subst jH
   obtain ⟨⟨vw,vb,vr,H1⟩,K1,T1,BI⟩:=hw.at_
   obtain ⟨i9,A5,nR,nQ,nP⟩:=info_parts Oy
   have hrun:∀T d,∃g cap w6,(Builtin.append_ #[51,51] 51 #[va,.slice (some ⟨g1,0,none⟩) 1 1]).run p_ (w.re T d)=.ok (.slice (some ⟨g,0,none⟩) (S1.log.length+1) cap) w6/\w6.ownsRow A.B 9 1 (.slice (some ⟨g,0,none⟩) (S1.log.length+1) cap) (S1.log.length+1) ((S1.log.map fun s=>Value.string ⟨s.toArray⟩)++[.string ⟨ans.toArray⟩])/\(w.re T d).grownBy w6 va.ownBlock/\(va.ownBlock=some g\/g=w.heap.size)/\g<w6.heap.size:=fun T d=>
    run_append_lies (P:=p_) (w.re T d) 51 51 A.B 9 i9 _ 1 16 Tryz.underlying51 A5 nR nQ nP rfl (by decide) va S1.log.length _ H1.log ⟨g1,0,none⟩ 1 1 [.string ⟨ans.toArray⟩] rfl (World.news_of_block (w:=w.re T d) BI) (by intro u hu;simp at hu;subst hu;rfl) (by decide) (by unfold maxLen;omega) (by omega) H1.big _ rfl
   have fz:∀g,va.ownBlock=some g->A.B<=g/\g<w.heap.size:=fun g e=>H1.log.lt g e
   refine ay.op (ok:=il) B hS jI rfl rfl (by k_ne) (by kernel_rfl) fun T d=> ?_
   obtain ⟨g,cap,w6,hr,yI,pZ,iP,mR⟩:=hrun T d
   refine ⟨.slice (some ⟨g,0,none⟩) (S1.log.length+1) cap,w6, ?_,fun hcut=> ?_⟩
   ·clear bc hw aA hn K1 T1 hrun
    simp only [List.getElem_toArray,List.getElem_cons_succ,List.getElem_cons_zero,execOp,resolve,invoke,builtin,Sem.run_bind,Sem.run_pure,Result.andThen_ok,List.map_toArray,S_,List.map_nil,v18,v22,hr]
   ·have NB:gD w w6 va.ownBlock:=⟨pZ.os,pZ.output,pZ.size,pZ.block⟩
    exact aA.out ⟨L1,3,g1,.slice (some ⟨g,0,none⟩) (S1.log.length+1) cap⟩ w6 (fun j hj=>by
     have hne:j≠9:=fun e=>by rw [e,hn] at hj;cases hj
     unfold FA;split<;>first|rfl|exact absurd rfl hne) ⟨⟨hcut,jI.no⟩,Z_ rfl,dJ.apps (by rw [hD];decide) (by decide) (by decide) (by decide) (by intro j hj;simp at hj;rcases hj with rfl|rfl<;>assumption),⟨w,⟨_,_,_,H1⟩,K1,T1,NB,yI,iP.imp (fun e=>e.symm) (fun e=>by rw [e];rfl)⟩⟩
  ·have d0:=dq aD 0
   obtain ⟨v14,Mr⟩:=bc.vv (.pointer (some ⟨A.hb,0,none⟩)) 14 0 d0
   clear aD ho
   refine ay.dY (ok:=il) B hS jI (v:=.pointer (some ⟨A.hb,0,none⟩)) rfl rfl (by k_ne) (by kernel_rfl) (fun T d=> ?_) (aA.out x w (fun _ _=>rfl) ⟨jI,hw.le,dJ.keep,hw.at_⟩)
   clear bc hw aA hn
   go_simp
  ·have d10:=dq aD 10
   obtain ⟨v24,w24⟩:=bc.vv (.pointer (some ⟨A.hb,0,none⟩)) 24 10 d10
   clear aD ho
   refine ay.dY (ok:=il) B hS jI (v:=.pointer (some ⟨A.hb,12,none⟩)) rfl rfl (by k_ne) (by kernel_rfl) (fun T d=> ?_) (aA.out x w (fun _ _=>rfl) ⟨jI,hw.le,dJ.keep,hw.at_⟩)
   clear bc hw aA hn
   go_simp
  ·have d11:=dq aD 11
   have d9:=dq aD 9
   obtain ⟨v25,w25⟩:=bc.vv (.pointer (some ⟨A.hb,12,none⟩)) 25 11 d11
   obtain ⟨v23,XY⟩:=bc.vv (x.v) 23 9 d9
   clear aD ho
   have jH:x.ph=3:=by
    have e1:=dJ.fa
    have e2:=dJ.fs
    rw [d9] at e1
    rw [hn] at e2
    have:=of_decide_eq_true e1.symm
    have:=of_decide_eq_false e2.symm
    omega
   obtain ⟨L1,gT,g1,v1⟩:=x
   simp only at jH
   subst jH
   obtain ⟨w1,⟨vw,vb,vr,H1⟩,K1,T1,wu,Gd,Vm⟩:=hw.at_
   have fz:∀g,va.ownBlock=some g->A.B<=g/\g<w1.heap.size:=fun g e=>H1.log.lt g e
   have hp:=H1.ML (s:=ans) (w':=w.re w1.tape w.drawn) (v:=v1) wu.W6 Gd
   have F6:Im A w1 (w.setCell ⟨A.hb,12,none⟩ v1):=⟨hp.2.size,fun i h1 h2 h3 h4 h5=>hp.2.block i h1 h2 h3 h4 h5⟩
   have sD:w.heap[A.hb]?=w1.heap[A.hb]?:=wu.block A.hb (E_ H1.ok.hb H1.big) (fun e=>by have:=(fz _ e.symm).1;have:=H1.ok.hb;omega)
   have c7:∀T d,(w.re T d).cell? ⟨A.hb,12,none⟩=some va:=fun _ _=>(J_ sD).trans H1.c.2.2.2.2.2.2.2.2.2.1
   have z7:∀T d,(w.re T d).frozen? ⟨A.hb,12,none⟩=false:=fun _ _=>(m_ sD).trans (H1.z 12)
   obtain ⟨a5,q5,zA⟩:=aE Gd
   refine ay.Wh (ok:=il) B hS jI rfl rfl (by k_ne) (by kernel_rfl) fun T d=>⟨(w.setCell ⟨A.hb,12,none⟩ v1).re T d, ?_,fun hcut=>ay.re ?_ T d⟩
   ·have h7:=c7 T d
    have f7:=z7 T d
    clear bc hw aA hn K1 T1 hp F6 c7 z7
    simp only at XY zA
    rw [zA] at XY
    rw [zA]
    go_simp
    exact nE _ _ _ _ _
   ·exact aA.out ⟨L1,4,g1,v1⟩ _ (fun _ _=>rfl) ⟨⟨Cut.j8 hcut,jI.no⟩,Z_ rfl,dJ.stores (by rw [hD];decide) (by decide) (by decide) (by decide),⟨⟨_,_,_,hp.1.heap rfl⟩,K1.zt H1 F6,aU.zt T1 H1 F6⟩⟩
 ·intro D x w hd hw
  obtain ⟨L1,gT,g1,v1⟩:=x
  have jH:gT=4:=by
   have e1:=hw.fl.fs
   rw [hd 12 (by decide)] at e1
   have:=of_decide_eq_true e1.symm
   have:=hw.le
   simp only at *
   omega
  subst jH
  obtain ⟨H1,K1,T1⟩:=hw.at_
  have:=hc w L1 v1 (.pointer (some ⟨A.hb,0,none⟩)) (.pointer (some ⟨A.hb,0,none⟩)) (.pointer (some ⟨A.hb,0,none⟩)) (.pointer (some ⟨A.hb,12,none⟩)) (va) (.pointer (some ⟨A.hb,0,none⟩)) (BM e.kind e.who e.word) (.string ⟨ans.toArray⟩) (.slice (some ⟨g1,0,none⟩) 1 1) (v1) (.pointer (some ⟨A.hb,0,none⟩)) (.pointer (some ⟨A.hb,12,none⟩)) hw.lay H1 K1 T1
  generalize bc:slotsOf _ bs (FA A e va ans ⟨L1,4,g1,v1⟩)=sl
  have eS:sl=#[.pointer (some ⟨A.hb,0,none⟩),z1,z2,z3,z4,.pointer (some ⟨ge,0,none⟩),z6,z7,z8,z9,dB,cZ,z12,de,.pointer (some ⟨A.hb,0,none⟩),.pointer (some ⟨A.hb,0,none⟩),.pointer (some ⟨A.hb,0,none⟩),.pointer (some ⟨A.hb,12,none⟩),va,.pointer (some ⟨A.hb,0,none⟩),BM e.kind e.who e.word,.string ⟨ans.toArray⟩,.slice (some ⟨g1,0,none⟩) 1 1,v1,.pointer (some ⟨A.hb,0,none⟩),.pointer (some ⟨A.hb,12,none⟩),z26,dD,z28,dC,dM,z31,dQ,dK,dP,dO,dV,z37,ey,ew,z40,eu,eK,eJ,eI,eH,z46,eQ,eN,z49,en,z51]:=by rw [<-bc,<-cn];kernel_rfl
  rw [eS]
  exact this
def Fy (A:Ha) (i8:Nat) (vt:M') (ki:Int) (x:Rx):Nat->M'
 |0=>.pointer (some ⟨A.hb,0,none⟩)
 |1=>.pointer (some ⟨A.hb,0,none⟩)
 |2=>.pointer (some ⟨A.hb,0,none⟩)
 |3=>.pointer (some ⟨A.hb,13,none⟩)
 |4=>vt
 |5=>.pointer (some ⟨A.hb,0,none⟩)
 |6=>.int .i64 (i8:Nat)
 |7=>.int .i64 ((i8+1:Nat):Int)
 |8=>.int .i64 ki
 |9=>.slice (some ⟨x.g,0,none⟩) 1 1
 |10=>x.v
 |11=>.pointer (some ⟨A.hb,0,none⟩)
 |12=>.pointer (some ⟨A.hb,13,none⟩)
 |_=>I'
def Ph8 (lo:Nat) (C:cS) (N0 h:Nat) (A:Ha) (S S1:Hs) (us wG:List Od) (va vt:M') (A:Ha) (i8:Nat) (vt:M') (ki:Int) (x:Rx) (w:J'):Prop:=
 match x.ph with
 |0=>cQ A va vt S w/\ik lo C A N0 h us x.L w/\aU A w
 |1=>cQ A va vt S1 w/\ik lo C A N0 h wG x.L w/\aU A w
 |2=>cQ A va vt S1 w/\ik lo C A N0 h wG x.L w/\aU A w/\w.heap[x.g]?=some (.cells #[.int .i64 ki] 3 (0,0))
 |3=>(∃w1,cQ A va vt S1 w1/\ik lo C A N0 h wG x.L w1/\aU A w1/\gD w1 w vt.ownBlock/\w.ownsRow A.B 3 1 x.v (S1.cg.length+1) ((S1.cg.map (Value.int .i64))++[.int .i64 ki])/\(x.v.ownBlock=vt.ownBlock\/x.v.ownBlock=some w1.heap.size))
 |_=>cQ A va x.v {S1 with cg:=S1.cg++[ki]} w/\ik lo C A N0 h wG x.L w/\aU A w
structure Wd8 (lo:Nat) (C:cS) (N0 h:Nat) (A:Ha) (S S1:Hs) (us wG:List Od) (va vt:M') (A:Ha) (i8:Nat) (vt:M') (ki:Int) (D:Array Bool) (x:Rx) (w:J'):Prop where
 lay:Lay C w
 le:x.ph<=4
 fl:Fl 8 9 10 13 [5,7] [4,9] D x.ph
 at_:Ph8 lo C N0 h A S S1 us wG va vt A i8 vt ki x w
theorem MD (B:eh p_ C b 0 ae Fin h) (hL:Lay C wl) (H:cQ A va vt S wl) (K:ik lo C A N0 h us L wl) (hT:aU A wl) {i8:Nat} (hi:i8<us.length) (hi2:i8<1000) (zp:lo<=i8) {ki:Int} (hki:ki=us[i8].k) (Ma:S1.cg.length<=1000) (Vt:S1=S) (Qu:wG=us) {z12 z20 z21 z22 z23 z24 z25 z26 z28 z31 z37 z40 z46 z49 z51:M'}
 (hc:∀w' L' v' (u37 u38 u39 u40 u41 u42 u43 u44 u45 u46 u47 u48 u49:M'),Lay C w'->cQ A va v' {S1 with cg:=S1.cg++[ki]} w'->ik lo C A N0 h wG L' w'->aU A w'->ay p_ C b 0 ae Fin Post h (aY b N h L') w' (G ((base 72).at ⟨#[.pointer (some ⟨A.hb,0,none⟩),z1,z2,z3,z4,z5,.int .i64 (i8:Nat),z7,z8,z9,dB,cZ,z12,de,dn,dm,dk,dj,dA,dz,z20,z21,z22,z23,z24,z25,z26,dD,z28,dC,dM,z31,dQ,dK,dP,dO,dV,u37,u38,u39,u40,u41,u42,u43,u44,u45,u46,u47,u48,u49,en,z51],[]⟩ K0) cs)):
 ay p_ C b 0 ae Fin Post h (aY b N h L) wl (G ((base 72).at ⟨#[.pointer (some ⟨A.hb,0,none⟩),z1,z2,z3,z4,z5,.int .i64 (i8:Nat),z7,z8,z9,dB,cZ,z12,de,dn,dm,dk,dj,dA,dz,z20,z21,z22,z23,z24,z25,z26,dD,z28,dC,dM,z31,dQ,dK,dP,dO,dV,z37,ey,ew,z40,eu,eK,eJ,eI,eH,z46,eQ,eN,z49,en,z51],[]⟩ (.code Sa::K0)) cs):=by
 generalize cn:(#[.pointer (some ⟨A.hb,0,none⟩),z1,z2,z3,z4,z5,.int .i64 (i8:Nat),z7,z8,z9,dB,cZ,z12,de,dn,dm,dk,dj,dA,dz,z20,z21,z22,z23,z24,z25,z26,dD,z28,dC,dM,z31,dQ,dK,dP,dO,dV,z37,ey,ew,z40,eu,eK,eJ,eI,eH,z46,eQ,eN,z49,en,z51]:Array M')=bs
 have oq:bs.size=52:=by rw [<-cn];rfl
 have HI:∀t,bs.getD t I'=(#[.pointer (some ⟨A.hb,0,none⟩),z1,z2,z3,z4,z5,.int .i64 (i8:Nat),z7,z8,z9,dB,cZ,z12,de,dn,dm,dk,dj,dA,dz,z20,z21,z22,z23,z24,z25,z26,dD,z28,dC,dM,z31,dQ,dK,dP,dO,dV,z37,ey,ew,z40,eu,eK,eJ,eI,eH,z46,eQ,eN,z49,en,z51]:Array M').getD t I':=fun t=>by rw [cn]
 simp only [Sa,qx,pK,ai,az,eV,f72,A_]
 refine ay.any (by kernel_rfl) B (Rs:=fun x:Rx=>aY b N h x.L) (kP:=⟨L,0,0,I'⟩) (fun x=>aH b N h x.L) (base:=bs) (by rw [oq];kernel_rfl) (by kernel_rfl) (fun x=>Fy A i8 vt ki x) (Wd8 lo C N0 h A S S1 us wG va vt A i8 vt ki) (fun _ _ _ h=>h.lay)
  ⟨hL,nz _,⟨rfl,rfl,rfl,rfl,fun h0=>absurd h0 (Nat.not_succ_le_zero _),fun h0=>absurd h0 (Nat.not_succ_le_zero _)⟩, ?_⟩ ?_ ?_
 ·exact ⟨H,K,hT⟩
 ·intro i o' ho D x w a rest hD bc hw hn aD k
  have hS:=aH b N h x.L
  have oJ:IntKind.i64.wrap ((i8:Int)+1)=((i8+1:Nat):Int):=by rw [IntWalk.i64_in _ (by omega)];rfl
  have hlt:i<14:=(cI ho)
  have dJ:=hw.fl
  have jI:=hw.lay
  have Gl:=bT oq
  have aA:=aa k
  clear k
  obtain rfl|rfl|rfl|rfl|rfl|rfl|rfl|rfl|rfl|rfl|rfl|rfl|rfl|rfl:i=0\/i=1\/i=2\/i=3\/i=4\/i=5\/i=6\/i=7\/i=8\/i=9\/i=10\/i=11\/i=12\/i=13:=by omega
  all_goals obtain rfl:=so ho rfl
  ·obtain ⟨v0,w0⟩:=bc.oo (.pointer (some ⟨A.hb,0,none⟩)) 0
   clear aD ho
   refine ay.dY (ok:=il) B hS jI (v:=.pointer (some ⟨A.hb,0,none⟩)) rfl rfl (by k_ne) (by kernel_rfl) (fun T d=> ?_) (aA.out x w (fun _ _=>rfl) ⟨jI,hw.le,dJ.keep,hw.at_⟩)
   clear bc hw aA hn
   go_simp
  ·obtain ⟨v0,w0⟩:=bc.oo (.pointer (some ⟨A.hb,0,none⟩)) 0
   clear aD ho
   refine ay.dY (ok:=il) B hS jI (v:=.pointer (some ⟨A.hb,0,none⟩)) rfl rfl (by k_ne) (by kernel_rfl) (fun T d=> ?_) (aA.out x w (fun _ _=>rfl) ⟨jI,hw.le,dJ.keep,hw.at_⟩)
   clear bc hw aA hn
   go_simp
  ·have d1:=dq aD 1
   obtain ⟨v38,XX⟩:=bc.vv (.pointer (some ⟨A.hb,0,none⟩)) 38 1 d1
   clear aD ho
   refine ay.dY (ok:=il) B hS jI (v:=.pointer (some ⟨A.hb,0,none⟩)) rfl rfl (by k_ne) (by kernel_rfl) (fun T d=> ?_) (aA.out x w (fun _ _=>rfl) ⟨jI,hw.le,dJ.keep,hw.at_⟩)
   clear bc hw aA hn
   go_simp
  ·have d2:=dq aD 2
   obtain ⟨v39,w39⟩:=bc.vv (.pointer (some ⟨A.hb,0,none⟩)) 39 2 d2
   clear aD ho
   refine ay.dY (ok:=il) B hS jI (v:=.pointer (some ⟨A.hb,13,none⟩)) rfl rfl (by k_ne) (by kernel_rfl) (fun T d=> ?_) (aA.out x w (fun _ _=>rfl) ⟨jI,hw.le,dJ.keep,hw.at_⟩)
   clear bc hw aA hn
   go_simp
  ·have d3:=dq aD 3
   obtain ⟨v40,XW⟩:=bc.vv (.pointer (some ⟨A.hb,13,none⟩)) 40 3 d3
   clear aD ho
   refine ay.dY (ok:=il) B hS jI (v:=vt) rfl rfl (by k_ne) (by kernel_rfl) (fun T d=> ?_) (aA.out x w (fun _ _=>rfl) ⟨jI,hw.le,dJ.keep,hw.at_⟩)
   have h0:(w.re T d).cell? ⟨A.hb,13,none⟩=some vt:=by
    obtain ⟨L1,gT,g1,v1⟩:=x
    have hle:gT<=2:=by
     refine j_ fun hx=> ?_
     have:=dJ.pa (by simp only;omega) 4 (by simp)
     rw [hn] at this;cases this
    obtain rfl|rfl|rfl:gT=0\/gT=1\/gT=2:=by omega
    ·obtain ⟨⟨vw,vb,vr,H1⟩,_⟩:=hw.at_;exact H1.c.2.2.2.2.2.2.2.2.2.2
    ·obtain ⟨⟨vw,vb,vr,H1⟩,_⟩:=hw.at_;exact H1.c.2.2.2.2.2.2.2.2.2.2
    ·obtain ⟨⟨vw,vb,vr,H1⟩,_⟩:=hw.at_;exact H1.c.2.2.2.2.2.2.2.2.2.2
   clear bc hw aA hn
   go_simp
  ·obtain ⟨v0,w0⟩:=bc.oo (.pointer (some ⟨A.hb,0,none⟩)) 0
   clear aD ho
   refine ay.dY (ok:=il) B hS jI (v:=.pointer (some ⟨A.hb,0,none⟩)) rfl rfl (by k_ne) (by kernel_rfl) (fun T d=> ?_) (aA.out x w (fun _ _=>rfl) ⟨jI,hw.le,dJ.keep,hw.at_⟩)
   clear bc hw aA hn
   go_simp
  ·obtain ⟨v6,w6⟩:=bc.oo (.int .i64 (i8:Nat)) 6
   clear aD ho
   refine ay.dY (ok:=il) B hS jI (v:=.int .i64 (i8:Nat)) rfl rfl (by k_ne) (by kernel_rfl) (fun T d=> ?_) (aA.out x w (fun _ _=>rfl) ⟨jI,hw.le,dJ.keep,hw.at_⟩)
   clear bc hw aA hn
   go_simp
  ·have d6:=dq aD 6
   obtain ⟨v43,XT⟩:=bc.vv (.int .i64 (i8:Nat)) 43 6 d6
   clear aD ho
   refine ay.dY (ok:=il) B hS jI (v:=.int .i64 ((i8+1:Nat):Int)) rfl rfl (by k_ne) (by kernel_rfl) (fun T d=> ?_) (aA.out x w (fun _ _=>rfl) ⟨jI,hw.le,dJ.keep,hw.at_⟩)
   clear bc hw aA hn
   go_simp
  ·have d5:=dq aD 5
   have d7:=dq aD 7
   obtain ⟨v42,XU⟩:=bc.vv (.pointer (some ⟨A.hb,0,none⟩)) 42 5 d5
   obtain ⟨v44,XS⟩:=bc.vv (.int .i64 ((i8+1:Nat):Int)) 44 7 d7
   clear aD ho
   have jH:x.ph=0:=by
    have e2:=dJ.fc
    rw [hn] at e2
    have:=of_decide_eq_false e2.symm
    omega
   obtain ⟨L1,gT,g1,v1⟩:=x
   simp only at jH
   subst jH
   obtain ⟨⟨vw,vb,vr,H1⟩,K1,T1⟩:=hw.at_
   refine ay.ctl B hS jI rfl (fun _=>bY (vs:=#[.pointer (some ⟨A.hb,0,none⟩),.int .i64 ((i8+1:Nat):Int),.int .i64 0,.int .i64 0]) rfl rfl (by k_ne) rfl func101 rfl rfl (by simp only [List.map_toArray,S_,List.map_nil,v42,v44];rfl)) ?_
   rw [pB]
   refine VT B jI H1 K1 T1 hi zp fun w3 gA H3 K3 T3=> ?_
   rw [<-hki]
   exact aA.out ⟨L1,1,g1,v1⟩ w3 (fun _ _=>rfl) ⟨gA,Z_ rfl,dJ.calls (by rw [hD];decide) (by decide) (by decide) (by decide) (by intro j hj;simp at hj;rcases hj with rfl|rfl<;>assumption),⟨⟨_,_,_,by rw [Vt];exact H3⟩,by rw [Qu];exact K3,T3⟩⟩
  ·have d8:=dq aD 8
   obtain ⟨v45,XR⟩:=bc.vv (.int .i64 ki) 45 8 d8
   clear aD ho
   have jH:x.ph=1:=by
    have e1:=dJ.fc
    have e2:=dJ.fb
    rw [d8] at e1
    rw [hn] at e2
    have:=of_decide_eq_true e1.symm
    have:=of_decide_eq_false e2.symm
    omega
   obtain ⟨L1,gT,g1,v1⟩:=x
   simp only at jH
   subst jH
   obtain ⟨⟨vw,vb,vr,H1⟩,K1,T1⟩:=hw.at_
   refine ay.op (ok:=il) B hS jI rfl rfl (by k_ne) (by kernel_rfl) fun T d=>⟨.slice (some ⟨w.heap.size,0,none⟩) 1 1,(w.alloc (.cells #[.int .i64 ki] 3)).re T d, ?_,fun hcut=>ay.re ?_ T d⟩
   ·clear bc hw aA hn H1 K1 T1
    go_simp
    exact ⟨rfl,rfl⟩
   ·have du:Lay C (w.alloc (.cells #[.int .i64 ki] 3)):=⟨Cut.j8 hcut,jI.no⟩
    have F2:Im A w (w.alloc (.cells #[.int .i64 ki] 3)):=⟨(Fr.alloc (w:=w) H1.big _).size,(Fr.alloc (w:=w) H1.big _).block⟩
    exact aA.out ⟨L1,2,w.heap.size,v1⟩ _ (fun j hj=>by
     have hne:j≠9:=fun e=>by rw [e,hn] at hj;cases hj
     unfold Fy;split<;>first|rfl|exact absurd rfl hne) ⟨du,Z_ rfl,dJ.builds (by rw [hD];decide) (by decide) (by decide) (by decide),⟨⟨_,_,_,H1.alloc _⟩,K1.zt H1 F2,aU.zt T1 H1 F2,Z' w _⟩⟩
  ·have d4:=dq aD 4
   have d9:=dq aD 9
   obtain ⟨v41,XV⟩:=bc.vv vt 41 4 d4
   obtain ⟨v46,XQ⟩:=bc.vv (.slice (some ⟨x.g,0,none⟩) 1 1) 46 9 d9
   clear aD ho
   have jH:x.ph=2:=by
    have e1:=dJ.fb
    have e2:=dJ.fa
    rw [d9] at e1
    rw [hn] at e2
    have:=of_decide_eq_true e1.symm
    have:=of_decide_eq_false e2.symm
    omega
   obtain ⟨L1,gT,g1,v1⟩:=x
   simp only at jH
   subst jH
   obtain ⟨⟨vw,vb,vr,H1⟩,K1,T1,BI⟩:=hw.at_
   obtain ⟨i9,A5,nR,nQ,nP⟩:=info_parts CF
   have hrun:∀T d,∃g cap w6,(Builtin.append_ #[26,26] 26 #[vt,.slice (some ⟨g1,0,none⟩) 1 1]).run p_ (w.re T d)=.ok (.slice (some ⟨g,0,none⟩) (S1.cg.length+1) cap) w6/\w6.ownsRow A.B 3 1 (.slice (some ⟨g,0,none⟩) (S1.cg.length+1) cap) (S1.cg.length+1) ((S1.cg.map (Value.int .i64))++[.int .i64 ki])/\(w.re T d).grownBy w6 vt.ownBlock/\(vt.ownBlock=some g\/g=w.heap.size)/\g<w6.heap.size:=fun T d=>
    run_append_lies (P:=p_) (w.re T d) 26 26 A.B 3 i9 _ 1 8 Tryz.underlying26 A5 nR nQ nP rfl (by decide) vt S1.cg.length _ H1.cg ⟨g1,0,none⟩ 1 1 [.int .i64 ki] rfl (World.news_of_block (w:=w.re T d) BI) (by intro u hu;simp at hu;subst hu;rfl) (by decide) (by unfold maxLen;omega) (by omega) H1.big _ rfl
   have fz:∀g,vt.ownBlock=some g->A.B<=g/\g<w.heap.size:=fun g e=>H1.cg.lt g e
   refine ay.op (ok:=il) B hS jI rfl rfl (by k_ne) (by kernel_rfl) fun T d=> ?_
   obtain ⟨g,cap,w6,hr,yI,pZ,iP,mR⟩:=hrun T d
   refine ⟨.slice (some ⟨g,0,none⟩) (S1.cg.length+1) cap,w6, ?_,fun hcut=> ?_⟩
   ·clear bc hw aA hn K1 T1 hrun
    simp only [List.getElem_toArray,List.getElem_cons_succ,List.getElem_cons_zero,execOp,resolve,invoke,builtin,Sem.run_bind,Sem.run_pure,Result.andThen_ok,List.map_toArray,S_,List.map_nil,v41,v46,hr]
   ·have NB:gD w w6 vt.ownBlock:=⟨pZ.os,pZ.output,pZ.size,pZ.block⟩
    exact aA.out ⟨L1,3,g1,.slice (some ⟨g,0,none⟩) (S1.cg.length+1) cap⟩ w6 (fun j hj=>by
     have hne:j≠10:=fun e=>by rw [e,hn] at hj;cases hj
     unfold Fy;split<;>first|rfl|exact absurd rfl hne) ⟨⟨hcut,jI.no⟩,Z_ rfl,dJ.apps (by rw [hD];decide) (by decide) (by decide) (by decide) (by intro j hj;simp at hj;rcases hj with rfl|rfl<;>assumption),⟨w,⟨_,_,_,H1⟩,K1,T1,NB,yI,iP.imp (fun e=>e.symm) (fun e=>by rw [e];rfl)⟩⟩
  ·have d0:=dq aD 0
   obtain ⟨v37,w37⟩:=bc.vv (.pointer (some ⟨A.hb,0,none⟩)) 37 0 d0
   clear aD ho
   refine ay.dY (ok:=il) B hS jI (v:=.pointer (some ⟨A.hb,0,none⟩)) rfl rfl (by k_ne) (by kernel_rfl) (fun T d=> ?_) (aA.out x w (fun _ _=>rfl) ⟨jI,hw.le,dJ.keep,hw.at_⟩)
   clear bc hw aA hn
   go_simp
  ·have d11:=dq aD 11
   obtain ⟨v48,Wb⟩:=bc.vv (.pointer (some ⟨A.hb,0,none⟩)) 48 11 d11
   clear aD ho
   refine ay.dY (ok:=il) B hS jI (v:=.pointer (some ⟨A.hb,13,none⟩)) rfl rfl (by k_ne) (by kernel_rfl) (fun T d=> ?_) (aA.out x w (fun _ _=>rfl) ⟨jI,hw.le,dJ.keep,hw.at_⟩)
   clear bc hw aA hn
   go_simp
  ·have d12:=dq aD 12
   have d10:=dq aD 10
   obtain ⟨v49,Wa⟩:=bc.vv (.pointer (some ⟨A.hb,13,none⟩)) 49 12 d12
   obtain ⟨v47,LS⟩:=bc.vv (x.v) 47 10 d10
   clear aD ho
   have jH:x.ph=3:=by
    have e1:=dJ.fa
    have e2:=dJ.fs
    rw [d10] at e1
    rw [hn] at e2
    have:=of_decide_eq_true e1.symm
    have:=of_decide_eq_false e2.symm
    omega
   obtain ⟨L1,gT,g1,v1⟩:=x
   simp only at jH
   subst jH
   obtain ⟨w1,⟨vw,vb,vr,H1⟩,K1,T1,wu,Gd,Vm⟩:=hw.at_
   have fz:∀g,vt.ownBlock=some g->A.B<=g/\g<w1.heap.size:=fun g e=>H1.cg.lt g e
   have hp:=H1.Jv (c:=ki) (w':=w.re w1.tape w.drawn) (v:=v1) wu.W6 Gd Vm
   have F6:Im A w1 (w.setCell ⟨A.hb,13,none⟩ v1):=⟨hp.2.size,fun i h1 h2 h3 h4 h5=>hp.2.block i h1 h2 h3 h4 h5⟩
   have sD:w.heap[A.hb]?=w1.heap[A.hb]?:=wu.block A.hb (E_ H1.ok.hb H1.big) (fun e=>by have:=(fz _ e.symm).1;have:=H1.ok.hb;omega)
   have c7:∀T d,(w.re T d).cell? ⟨A.hb,13,none⟩=some vt:=fun _ _=>(J_ sD).trans H1.c.2.2.2.2.2.2.2.2.2.2
   have z7:∀T d,(w.re T d).frozen? ⟨A.hb,13,none⟩=false:=fun _ _=>(m_ sD).trans (H1.z 13)
   obtain ⟨a5,q5,zA⟩:=aE Gd
   refine ay.Wh (ok:=il) B hS jI rfl rfl (by k_ne) (by kernel_rfl) fun T d=>⟨(w.setCell ⟨A.hb,13,none⟩ v1).re T d, ?_,fun hcut=>ay.re ?_ T d⟩
   ·have h7:=c7 T d
    have f7:=z7 T d
    clear bc hw aA hn K1 T1 hp F6 c7 z7
    simp only at LS zA
    rw [zA] at LS
    rw [zA]
    go_simp
    exact nE _ _ _ _ _
   ·exact aA.out ⟨L1,4,g1,v1⟩ _ (fun _ _=>rfl) ⟨⟨Cut.j8 hcut,jI.no⟩,Z_ rfl,dJ.stores (by rw [hD];decide) (by decide) (by decide) (by decide),⟨⟨_,_,_,hp.1.heap rfl⟩,K1.zt H1 F6,aU.zt T1 H1 F6⟩⟩
 ·intro D x w hd hw
  obtain ⟨L1,gT,g1,v1⟩:=x
  have jH:gT=4:=by
   have e1:=hw.fl.fs
   rw [hd 13 (by decide)] at e1
   have:=of_decide_eq_true e1.symm
   have:=hw.le
   simp only at *
   omega
  subst jH
  obtain ⟨H1,K1,T1⟩:=hw.at_
  have:=hc w L1 v1 (.pointer (some ⟨A.hb,0,none⟩)) (.pointer (some ⟨A.hb,0,none⟩)) (.pointer (some ⟨A.hb,0,none⟩)) (.pointer (some ⟨A.hb,13,none⟩)) (vt) (.pointer (some ⟨A.hb,0,none⟩)) (.int .i64 (i8:Nat)) (.int .i64 ((i8+1:Nat):Int)) (.int .i64 ki) (.slice (some ⟨g1,0,none⟩) 1 1) (v1) (.pointer (some ⟨A.hb,0,none⟩)) (.pointer (some ⟨A.hb,13,none⟩)) hw.lay H1 K1 T1
  generalize bc:slotsOf _ bs (Fy A i8 vt ki ⟨L1,4,g1,v1⟩)=sl
  have eS:sl=#[.pointer (some ⟨A.hb,0,none⟩),z1,z2,z3,z4,z5,.int .i64 (i8:Nat),z7,z8,z9,dB,cZ,z12,de,dn,dm,dk,dj,dA,dz,z20,z21,z22,z23,z24,z25,z26,dD,z28,dC,dM,z31,dQ,dK,dP,dO,dV,.pointer (some ⟨A.hb,0,none⟩),.pointer (some ⟨A.hb,0,none⟩),.pointer (some ⟨A.hb,0,none⟩),.pointer (some ⟨A.hb,13,none⟩),vt,.pointer (some ⟨A.hb,0,none⟩),.int .i64 (i8:Nat),.int .i64 ((i8+1:Nat):Int),.int .i64 ki,.slice (some ⟨g1,0,none⟩) 1 1,v1,.pointer (some ⟨A.hb,0,none⟩),.pointer (some ⟨A.hb,13,none⟩),en,z51]:=by rw [<-bc,<-cn];kernel_rfl
  rw [eS]
  exact this
def B6 (P:Int) (q:Hs × List Od) (e:Ev):Hs × List Od:=({(gZ P q.1 q.2 e).1 with log:=(gZ P q.1 q.2 e).1.log++[(gZ P q.1 q.2 e).2.2]},(gZ P q.1 q.2 e).2.1)
def eC (P:Int) (q:Hs × List Od) (evs:List Ev):Hs × List Od:=evs.foldl (B6 P) q
variable {evs:List Ev} {k:Nat}
theorem zd {P:Int} {q:Hs × List Od} (hk:k<evs.length):eC P q (evs.take (k+1))=B6 P (eC P q (evs.take k)) evs[k]:=by
 unfold eC
 rw [sC hk,List.foldl_append];rfl
def Dr (P:Int) (q:Hs × List Od) (evs:List Ev):Prop:=∀k (hk:k<evs.length),(evs[k]).ok (eC P q (evs.take k)).2.length/\BA (eC P q (evs.take k)).1 (eC P q (evs.take k)).2/\(gZ P (eC P q (evs.take k)).1 (eC P q (evs.take k)).2 evs[k]).1.log.length<=1000
def Dt (A:Ha) (ea:Option z_) (evs:List Ev):Prop:=evs=[]\/∃eb cs t f,ea=some ⟨eb,0,none⟩/\eb<A.n0/\eb≠A.hb/\A.h0[eb]?=some (Obj.cells cs t f)/\∀k (hk:k<evs.length),cs[k * 3]?=some (.string (evs[k]).kind)/\cs[k * 3+1]?=some (.int .i64 (evs[k]).who)/\cs[k * 3+2]?=some (.int .i64 (evs[k]).word)
theorem NI {p q:M'}:fZ p_ 72 #[p,q] .normal=(base 72).at ⟨#[p,q]++F_ 50 I',[]⟩ [.code eV]:=by kernel_rfl
theorem IH (B:eh p_ C b 0 ae Fin h) (hm:us.length<=999) (J7:S.cg=[])
 (hc:∀aK L' Io,Lay C aK->cQ A va Io {S with cg:=us.map (·.k)} aK->ik us.length C A N0 h us L' aK->aU A aK->ay p_ C b 0 ae Fin Post h (aY b N h L') aK (G (aI.at (aS.put ((av[aN]?).bind (·.dst)) (.tuple #[])) (.inRegion av ak::aV)) cs)):
 ∀m i,us.length - i=m->i<=us.length->∀(z1 z2 z3 z4 z5 z6 z7 z8 z9 dB cZ z12 de dn dm dk dj dA dz z20 z21 z22 z23 z24 z25 z26 dD z28 dC dK dP dO dV z37 ey ew z40 eu eK eJ eI eH z46 eQ eN z49 en z51 vt:M') (L:Nat->Os) (wl:J'),Lay C wl->cQ A va vt {S with cg:=(us.take i).map (·.k)} wl->ik i C A N0 h us L wl->aU A wl->
 ay p_ C b 0 ae Fin Post h (aY b N h L) wl (G ((base 72).at ⟨#[.pointer (some ⟨A.hb,0,none⟩),z1,z2,z3,z4,z5,z6,z7,z8,z9,dB,cZ,z12,de,dn,dm,dk,dj,dA,dz,z20,z21,z22,z23,z24,z25,z26,dD,z28,dC,.slice (some ⟨A.ob,0,none⟩) A.m A.co,.int .i64 (A.m:Nat),.int .i64 (i:Nat),dK,dP,dO,dV,z37,ey,ew,z40,eu,eK,eJ,eI,eH,z46,eQ,eN,z49,en,z51],[]⟩ [.code pK,.inLoop pK,.inBlock 2]) (aI.at aS (.inRegion av (aN::ak)::aV)::cs)):=by
 intro m
 induction m with
 |zero=>
  intro i Zf hi z1 z2 z3 z4 z5 z6 z7 z8 z9 dB cZ z12 de dn dm dk dj dA dz z20 z21 z22 z23 z24 z25 z26 dD z28 dC dK dP dO dV z37 ey ew z40 eu eK eJ eI eH z46 eQ eN z49 en z51 vt L wl hL H K hT
  have hS:=aH b N h L
  obtain rfl:i=us.length:=by omega
  have hlen:=K.len
  have hlt:((us.length:Int)<(us.length:Int))=False:=by simp
  generalize hK:[Item.inLoop pK,.inBlock 2]=K0
  rw [<-hlen]
  simp only [pK,ai,az,eV,f72,A_]
  iterate 6 refine B.n ?_
  subst hK
  refine ay.ctl B hS hL rfl (fun _=>stepG_exit rfl) ?_
  refine ay.ctl B hS hL rfl (fun _=>stepG_end) ?_
  refine ay.ctl B hS hL rfl (fun _=>fC rfl rfl func72 rfl) ?_
  rw [List.take_length] at H
  exact hc wl L vt hL H K hT
 |succ m ih=>
  intro i Zf hi z1 z2 z3 z4 z5 z6 z7 z8 z9 dB cZ z12 de dn dm dk dj dA dz z20 z21 z22 z23 z24 z25 z26 dD z28 dC dK dP dO dV z37 ey ew z40 eu eK eJ eI eH z46 eQ eN z49 en z51 vt L wl hL H K hT
  have hS:=aH b N h L
  have hlen:=K.len
  have hlt:i<us.length:=by omega
  have aEa:i<A.m:=by omega
  have gJ:(i:Int)<(A.m:Int):=by omega
  have oJ:IntKind.i64.wrap ((i:Int)+1)=((i+1:Nat):Int):=by rw [IntWalk.i64_in _ (by omega)];rfl
  have kc:=K.cells i hlt
  generalize hK:[Item.inLoop pK,.inBlock 2]=K0
  have e0:pK=.seq (ai 0 pK) (.seq (ai 1 pK) (.seq (.block 3 (.seq (ai 0 (match ai 2 pK with| .block _ c=>c|c=>c)) (.seq Sa (az 2 (match ai 2 pK with| .block _ c=>c|c=>c))))) (match az 2 pK with| .seq _ c=>c|c=>c))):=by kernel_rfl
  rw [e0]
  refine B.s ?_
  simp only [ai,pK,az,eV,f72,A_]
  iterate 5 refine B.n ?_
  refine ay.ctl B hS hL rfl (fun _=>stepG_skip) ?_
  refine B.s ?_
  refine ay.ctl B hS hL rfl (fun _=>stepG_block) ?_
  iterate 4 refine B.n ?_
  refine B.o (.chan (some us[i].x)) (fun T d=> ?_) ?_
  ·have h0:(wl.re T d).cell? ⟨A.ob,i,none⟩=some (.chan (some us[i].x)):=kc.1
   go_simp
  walk_nrm
  iterate 4 refine B.n ?_
  refine MD B hL H K hT hlt (by omega) (C_ _) (ki:=us[i].k) rfl (S1:={S with cg:=(us.take i).map (·.k)}) (wG:=us) (by simp only [List.length_map,List.length_take];omega) rfl rfl fun w2 L2 SY u37 u38 u39 u40 u41 u42 u43 u44 u45 u46 u47 u48 u49 du H2 K2 T2=> ?_
  have KP:=aH b N h L2
  have htk:(us.take i).map (·.k)++[us[i].k]=(us.take (i+1)).map (·.k):=by rw [sC hlt,List.map_append];rfl
  obtain ⟨kk,gv⟩:=(K2.kM (N0+i) us[i] (K2.n0 i hlt).1 (by rw [K2.live i hlt (C_ _)];rfl)).1
  have hxB:=(K2.kM (N0+i) us[i] (K2.n0 i hlt).1 (by rw [K2.live i hlt (C_ _)];rfl)).2
  iterate 2 refine B.n ?_
  refine PV B du K2.fo K2.ap (K2.n0 i hlt).1 (K2.n0 i hlt).2 (K2.live i hlt (C_ _)) gv rfl (fun w hw=>stepG_close (c:=us[i].x) rfl rfl (by k_ne) rfl rfl hw (by kernel_rfl)) (by kernel_rfl) rfl ?_
  have gA:Lay C (w2.setChan us[i].x 0 #[] true kk kk false):=du.setChan gv rfl _ _ _ _ _ _
  have kC:=gN.chan gv rfl 0 #[] true kk kk false
  obtain ⟨N3,N4,LU,H2⟩:=H2
  have H3:=H2.pf kC ⟨kk,gv⟩
  have K3:=K2.gone hlt gv
  have T3:=T2.pf kC ⟨kk,gv⟩
  rw [htk] at H3
  have zq:=aH b N h (upd L2 (N0+i) .gone)
  generalize w2.setChan us[i].x 0 #[] true kk kk false=w3 at *
  walk_nrm
  refine B.e ?_
  refine ay.ctl B zq gA rfl (fun _=>stepG_inBlock) ?_
  iterate 4 refine B.n ?_
  subst hK
  refine ay.ctl B zq gA rfl (fun _=>stepG_inLoop) ?_
  exact ih (i+1) (by omega) (by omega) _ _ _ _ _ _ _ _ _ _ _ _ _ _ _ _ _ _ _ _ _ _ _ _ _ _ _ _ _ _ _ _ _ _ _ _ _ _ _ _ _ _ _ _ _ _ _ _ SY _ w3 gA ⟨_,_,_,H3⟩ K3 T3
theorem aU.re (h:aU A w) (T:Nat->Question->Nat) (d:Nat):aU A (w.re T d):=h
theorem bN.re {L:Nat->Os} (K:bN C A N0 h us L w) (T:Nat->Question->Nat) (d:Nat):bN C A N0 h us L (w.re T d):=⟨K.len,K.small,K.live,K.n0,K.ap,K.fo,K.kM,K.cells⟩
variable {ea:Option z_} {ec:Nat}
theorem II (B:eh p_ C b 0 ae Fin h) (uO:Dt A ea evs) (hn:evs.length<=1000) (cK:Dr A.P (S,us) evs)
 (hc:∀aK L' IX (z1 z2 z3 z4 z5 z6 z7 z8 z9 dB cZ z12 de dn dm dk dj dA dz z20 z21 z22 z23 z24 z25 z26 dD z28 dC dM z31 dQ dK dP dO dV z37 ey ew z40 eu eK eJ eI eH z46 eQ eN z49 en z51:M'),Lay C aK->cQ A IX vt (eC A.P (S,us) evs).1 aK->bN C A N0 h (eC A.P (S,us) evs).2 L' aK->aU A aK->ay p_ C b 0 ae Fin Post h (aY b N h L') aK (G ((base 72).at ⟨#[.pointer (some ⟨A.hb,0,none⟩),z1,z2,z3,z4,z5,z6,z7,z8,z9,dB,cZ,z12,de,dn,dm,dk,dj,dA,dz,z20,z21,z22,z23,z24,z25,z26,dD,z28,dC,dM,z31,dQ,dK,dP,dO,dV,z37,ey,ew,z40,eu,eK,eJ,eI,eH,z46,eQ,eN,z49,en,z51],[]⟩ [.code (az 1 eV)]) (aI.at aS (.inRegion av (aN::ak)::aV)::cs))):
 ∀m k,evs.length - k=m->k<=evs.length->∀(z2 z3 z4 z5 z6 z7 cZ z12 de dn dm dk dj dA dz z20 z21 z22 z23 z24 z25 z26 dD z28 dC dM z31 dQ dK dP dO dV z37 ey ew z40 eu eK eJ eI eH z46 eQ eN z49 en z51 va:M') (L:Nat->Os) (wl:J'),Lay C wl->cQ A va vt (eC A.P (S,us) (evs.take k)).1 wl->bN C A N0 h (eC A.P (S,us) (evs.take k)).2 L wl->aU A wl->
 ay p_ C b 0 ae Fin Post h (aY b N h L) wl (G ((base 72).at ⟨#[.pointer (some ⟨A.hb,0,none⟩),.slice ea evs.length ec,z2,z3,z4,z5,z6,z7,.slice ea evs.length ec,.int .i64 (evs.length:Nat),.int .i64 (k:Nat),cZ,z12,de,dn,dm,dk,dj,dA,dz,z20,z21,z22,z23,z24,z25,z26,dD,z28,dC,dM,z31,dQ,dK,dP,dO,dV,z37,ey,ew,z40,eu,eK,eJ,eI,eH,z46,eQ,eN,z49,en,z51],[]⟩ [.code qx,.inLoop qx,.inBlock 0,.code (az 1 eV)]) (aI.at aS (.inRegion av (aN::ak)::aV)::cs)):=by
 intro m
 induction m with
 |zero=>
  intro k Zf hk z2 z3 z4 z5 z6 z7 cZ z12 de dn dm dk dj dA dz z20 z21 z22 z23 z24 z25 z26 dD z28 dC dM z31 dQ dK dP dO dV z37 ey ew z40 eu eK eJ eI eH z46 eQ eN z49 en z51 va L wl hL H K hT
  have hS:=aH b N h L
  obtain rfl:k=evs.length:=by omega
  have hlt:((evs.length:Int)<(evs.length:Int))=False:=by simp
  generalize hK:[Item.inLoop qx,.inBlock 0,.code (az 1 eV)]=K0
  simp only [qx,ai,az,eV,f72,A_]
  iterate 6 refine B.n ?_
  subst hK
  refine ay.ctl B hS hL rfl (fun _=>stepG_exit rfl) ?_
  rw [List.take_length] at H K
  exact hc wl L va _ _ _ _ _ _ _ _ _ _ _ _ _ _ _ _ _ _ _ _ _ _ _ _ _ _ _ _ _ _ _ _ _ _ _ _ _ _ _ _ _ _ _ _ _ _ _ _ _ _ _ hL H K hT
 |succ m ih=>
  intro k Zf hk z2 z3 z4 z5 z6 z7 cZ z12 de dn dm dk dj dA dz z20 z21 z22 z23 z24 z25 z26 dD z28 dC dM z31 dQ dK dP dO dV z37 ey ew z40 eu eK eJ eI eH z46 eQ eN z49 en z51 va L wl hL H K hT
  have hS:=aH b N h L
  have hlt:k<evs.length:=by omega
  have gJ:(k:Int)<(evs.length:Int):=by omega
  have oJ:IntKind.i64.wrap ((k:Int)+1)=((k+1:Nat):Int):=by rw [IntWalk.i64_in _ (by omega)];rfl
  obtain ⟨eb,WY,et,ef,rfl,heb,BH,hh0,hcs⟩:=uO.resolve_left (fun e=>by rw [e] at hlt;simp at hlt)
  have yc:wl.heap[eb]?=some (Obj.cells WY et ef):=hT.2.2 eb _ _ _ heb BH hh0
  obtain ⟨c1,c2,c3⟩:=hcs k hlt
  have j1:∀T d,(wl.re T d).cell? ⟨eb,k * 3,none⟩=some (.string (evs[k]).kind):=fun _ _=>(aB yc).trans c1
  have j2:∀T d,(wl.re T d).cell? ⟨eb,k * 3+1,none⟩=some (.int .i64 (evs[k]).who):=fun _ _=>(aB yc).trans c2
  have j3:∀T d,(wl.re T d).cell? ⟨eb,k * 3+2,none⟩=some (.int .i64 (evs[k]).word):=fun _ _=>(aB yc).trans c3
  generalize hK:[Item.inLoop qx,.inBlock 0,.code (az 1 eV)]=K0
  have e0:qx=.seq (ai 0 qx) (.seq (ai 1 qx) (.seq (.block 1 (.seq (ai 0 (match ai 2 qx with| .block _ c=>c|c=>c)) Sb)) (match az 2 qx with| .seq _ c=>c|c=>c))):=by kernel_rfl
  rw [e0]
  refine B.s ?_
  simp only [ai,qx,az,eV,f72,A_]
  iterate 5 refine B.n ?_
  refine ay.ctl B hS hL rfl (fun _=>stepG_skip) ?_
  refine B.s ?_
  refine ay.ctl B hS hL rfl (fun _=>stepG_block) ?_
  refine B.s ?_
  refine ay.code (ok:=il) B pA hS hL (aF (by kernel_rfl) rfl rfl ⟨_,func72⟩) ?_
  intro T d
  generalize hB:iM p_ C b 0 ae Fin Post h (aY b N h L) _ _ _=Bh
  replace hB:=aa hB
  have g1:=j1 T d
  have g2:=j2 T d
  have g3:=j3 T d
  have qK:=aa hL
  have ir:=aa hc
  have TQ:=aa ih
  have HH:=aa H
  have KH:=aa K
  have hTH:=aa hT
  have Y5:=aa cK
  clear hL hc ih H K hT cK j1 j2 j3 c1 c2 c3 yc hcs hh0
  generalize yM:evs[k]=ek at *
  go_wp2_with fail
  subst hB
  intro hcut
  subst yM
  obtain ⟨vw,vb,vr,H0⟩:=HH.out
  have hA:=(H0.heap (w':=wl.re T d) rfl).alloc (.cells #[.string (evs[k]).kind,.int .i64 (evs[k]).who,.int .i64 (evs[k]).word] 55)
  have F2:Im A (wl.re T d) ((wl.re T d).alloc (.cells #[.string (evs[k]).kind,.int .i64 (evs[k]).who,.int .i64 (evs[k]).word] 55)):=⟨(Fr.alloc (w:=wl.re T d) H0.big _).size,(Fr.alloc (w:=wl.re T d) H0.big _).block⟩
  have K2:=(KH.out.re T d).zt (H0.heap (w':=wl.re T d) rfl) F2
  have T2:=aU.zt (hTH.out.re T d) (H0.heap (w':=wl.re T d) rfl) F2
  have vI:((wl.re T d).alloc (.cells #[.string (evs[k]).kind,.int .i64 (evs[k]).who,.int .i64 (evs[k]).word] 55)).heap[(wl.re T d).heap.size]?=some (.cells #[.string (evs[k]).kind,.int .i64 (evs[k]).who,.int .i64 (evs[k]).word] 55 (0,0)):=Z' _ _
  have du:Lay C ((wl.re T d).alloc (.cells #[.string (evs[k]).kind,.int .i64 (evs[k]).who,.int .i64 (evs[k]).word] 55)):=⟨hcut,qK.out.no⟩
  clear F2
  generalize (wl.re T d).alloc (.cells #[.string (evs[k]).kind,.int .i64 (evs[k]).who,.int .i64 (evs[k]).word] 55)=w1 at *
  obtain ⟨o1,o2,o3⟩:=Y5.out k hlt
  have hst:=zd (P:=A.P) (q:=(S,us)) hlt
  refine ME B du ⟨_,_,_,hA⟩ K2 T2 o1 o2 vI (S1:=(gZ A.P (eC A.P (S,us) (evs.take k)).1 (eC A.P (S,us) (evs.take k)).2 evs[k]).1) (wG:=(gZ A.P (eC A.P (S,us) (evs.take k)).1 (eC A.P (S,us) (evs.take k)).2 evs[k]).2.1) (ans:=(gZ A.P (eC A.P (S,us) (evs.take k)).1 (eC A.P (S,us) (evs.take k)).2 evs[k]).2.2) o3 rfl rfl rfl fun w3 L3 va3 u14 u15 u16 u17 u18 u19 u20 u21 u22 u23 u24 u25 gA H3 K3 T3=> ?_
  have zq:=aH b N h L3
  refine ay.ctl B zq gA rfl (fun _=>stepG_inBlock) ?_
  iterate 4 refine B.n ?_
  subst hK
  refine ay.ctl B zq gA rfl (fun _=>stepG_inLoop) ?_
  exact TQ.out (k+1) (by omega) (by omega) _ _ _ _ _ _ _ _ _ _ _ _ _ _ _ _ _ _ _ _ _ _ _ _ _ _ _ _ _ _ _ _ _ _ _ _ _ _ _ _ _ _ _ _ _ _ _ va3 L3 w3 gA (by rw [hst];exact H3) (by rw [hst];exact K3) T3
theorem work (B:eh p_ C b 0 ae Fin h) (hL:Lay C wl) (H:cQ A va vt S wl) (K:bN C A N0 h us L wl) (hT:aU A wl) (uO:Dt A ea evs) (hn:evs.length<=1000) (cK:Dr A.P (S,us) evs) (hm:(eC A.P (S,us) evs).2.length<=999) (J7:(eC A.P (S,us) evs).1.cg=[])
 (hc:∀aK L' IX Io,Lay C aK->cQ A IX Io {(eC A.P (S,us) evs).1 with cg:=(eC A.P (S,us) evs).2.map (·.k)} aK->ik (eC A.P (S,us) evs).2.length C A N0 h (eC A.P (S,us) evs).2 L' aK->aU A aK->ay p_ C b 0 ae Fin Post h (aY b N h L') aK (G (aI.at (aS.put ((av[aN]?).bind (·.dst)) (.tuple #[])) (.inRegion av ak::aV)) cs)):
 ay p_ C b 0 ae Fin Post h (aY b N h L) wl (G ((base 72).at ⟨#[.pointer (some ⟨A.hb,0,none⟩),.slice ea evs.length ec]++F_ 50 I',[]⟩ [.code eV]) (aI.at aS (.inRegion av (aN::ak)::aV)::cs)):=by
 have hS:=aH b N h L
 have VJ:(#[.pointer (some ⟨A.hb,0,none⟩),.slice ea evs.length ec]++F_ 50 I':Array M')=#[.pointer (some ⟨A.hb,0,none⟩),.slice ea evs.length ec,I',I',I',I',I',I',I',I',I',I',I',I',I',I',I',I',I',I',I',I',I',I',I',I',I',I',I',I',I',I',I',I',I',I',I',I',I',I',I',I',I',I',I',I',I',I',I',I',I',I']:=by kernel_rfl
 rw [VJ]
 have e1:eV=.seq (.seq (ai 0 (ai 0 eV)) (.block 0 (.loop qx))) (az 1 eV):=by kernel_rfl
 rw [e1]
 iterate 2 refine B.n ?_
 generalize hX:[lN (Code.block 0 (.loop qx)),lN (az 1 eV)]=X0
 simp only [ai,eV,f72,A_]
 iterate 5 refine B.n ?_
 subst hX
 refine ay.ctl B hS hL rfl (fun _=>stepG_block) ?_
 refine ay.ctl B hS hL rfl (fun _=>stepG_loop) ?_
 refine II B (S:=S) (us:=us) uO hn cK (fun w2 L2 Sl z1 z2 z3 z4 z5 z6 z7 z8 z9 dB cZ z12 de dn dm dk dj dA dz z20 z21 z22 z23 z24 z25 z26 dD z28 dC dM z31 dQ dK dP dO dV z37 ey ew z40 eu eK eJ eI eH z46 eQ eN z49 en z51 du H2 K2 T2=> ?_) evs.length 0 rfl (nz _) _ _ _ _ _ _ _ _ _ _ _ _ _ _ _ _ _ _ _ _ _ _ _ _ _ _ _ _ _ _ _ _ _ _ _ _ _ _ _ _ _ _ _ _ _ _ _ va L wl hL H K hT
 have KP:=aH b N h L2
 have e2:az 1 eV=.seq (ai 1 eV) (.block 2 (.loop pK)):=by kernel_rfl
 rw [e2]
 refine B.s ?_
 generalize hX:[lN (Code.block 2 (.loop pK))]=X0
 simp only [ai,eV,f72,A_]
 obtain ⟨vw,vb,vr,H2⟩:=H2
 iterate 4 refine B.n ?_
 refine B.o (.slice (some ⟨A.ob,0,none⟩) A.m A.co) (fun T d=> ?_) ?_
 ·have h0:(w2.re T d).cell? ⟨A.hb,6,none⟩=some (.slice (some ⟨A.ob,0,none⟩) A.m A.co):=H2.c.2.2.2.1
  go_simp
 walk_nrm
 iterate 3 refine B.n ?_
 subst hX
 refine ay.ctl B KP du rfl (fun _=>stepG_block) ?_
 refine ay.ctl B KP du rfl (fun _=>stepG_loop) ?_
 have H3:cQ A Sl vt {(eC A.P (S,us) evs).1 with cg:=((eC A.P (S,us) evs).2.take 0).map (·.k)} w2:=by
  refine ⟨vw,vb,vr, ?_⟩
  have:({(eC A.P (S,us) evs).1 with cg:=((eC A.P (S,us) evs).2.take 0).map (·.k)}:Hs)=(eC A.P (S,us) evs).1:=by
   rw [List.take_zero,List.map_nil,<-J7]
  rw [this];exact H2
 exact IH B (S:=(eC A.P (S,us) evs).1) (us:=(eC A.P (S,us) evs).2) hm J7 (fun w3 L3 vt3 gA H3 K3 T3=>hc w3 L3 Sl vt3 gA H3 K3 T3) _ 0 rfl (nz _) _ _ _ _ _ _ _ _ _ _ _ _ _ _ _ _ _ _ _ _ _ _ _ _ _ _ _ _ _ _ _ _ _ _ _ _ _ _ _ _ _ _ _ _ _ _ _ _ vt L2 w2 du H3 K2.two T2
end
end Go.aC.Of
namespace Go.aC
open Go Go.Conc
def Sf (a:z_) (n b:Nat) (ob zk:Obj):Prop:=
 match ob with
 | .cells c e f=>∃f',zk=.cells c e f'/\(∀j,gd f j=true->gd f' j=true)/\(a.block=b->n≠0->∀j,a.off<=j->j<a.off+n->gd f' j=true)
 |_=>zk=ob
theorem gK (w:J') (a:z_) (n b:Nat) (ob:Obj) (h:w.heap[b]?=some ob):∃zk,(w.freeze a n).heap[b]?=some zk/\Sf a n b ob zk:=by
 unfold World.freeze
 by_cases hn:n=0
 ·rw [if_pos hn]
  refine ⟨ob,h, ?_⟩
  cases ob<;>first|rfl|exact ⟨_,rfl,fun _ h=>h,fun _ h=>absurd hn h⟩
 ·rw [if_neg hn]
  simp only [Array.getElem?_modify]
  by_cases e:a.block=b
  ·rw [if_pos e,h]
   refine ⟨_,rfl, ?_⟩
   cases ob<;>try rfl
   rename_i c el f
   obtain ⟨lo,hi⟩:=f
   refine ⟨_,rfl,fun j hj=> ?_,fun _ _ j h1 h2=> ?_⟩
   ·unfold gd at hj ⊢
    simp only [Bool.and_eq_true,decide_eq_true_eq] at hj ⊢
    split
    ·rename_i Wx;simp at Wx;omega
    ·simp only;omega
   ·unfold gd
    simp only [Bool.and_eq_true,decide_eq_true_eq]
    split<;>simp only<;>omega
  ·rw [if_neg e]
   refine ⟨ob,h, ?_⟩
   cases ob<;>first|rfl|exact ⟨_,rfl,fun _ h=>h,fun h=>absurd h e⟩
theorem eX (w:J') (a:z_) (n:Nat):(w.freeze a n).heap.size=w.heap.size:=by
 unfold World.freeze;split<;>simp
theorem Dk (w:J') (a:z_) (n:Nat) (x:z_):(w.freeze a n).cell? x=w.cell? x:=by
 unfold World.cell?
 cases hb:w.heap[x.block]? with
 |none=>
  have:(w.freeze a n).heap[x.block]?=none:=by
   rw [Array.getElem?_eq_none_iff] at hb ⊢;rw [eX];exact hb
  rw [this]
 |some ob=>
  obtain ⟨zk,h1,h2⟩:=gK w a n x.block ob hb
  rw [h1]
  cases ob<;>first|(rw [show _=_ from h2])|(obtain ⟨f',rfl,_⟩:=h2;rfl)
variable {w:J'}
theorem yQ {a:z_} {n:Nat} {x:z_} (h:w.frozen? x=true):(w.freeze a n).frozen? x=true:=by
 unfold World.frozen? at h ⊢
 cases hb:w.heap[x.block]? with
 |none=>rw [hb] at h;cases h
 |some ob=>
  obtain ⟨zk,h1,h2⟩:=gK w a n x.block ob hb
  rw [hb] at h;rw [h1]
  cases ob<;>first|(cases h;done)|skip
  obtain ⟨f',rfl,h3,_⟩:=h2
  exact h3 x.off h
variable {x k:Nat}
theorem rv {v:M'} (h:w.cell? ⟨x,k,none⟩=some v):(w.freeze ⟨x,k,none⟩ 1).frozen? ⟨x,k,none⟩=true:=by
 obtain ⟨c,e,f,hb,_⟩:=dF h
 obtain ⟨zk,h1,f',rfl,_,h3⟩:=gK w ⟨x,k,none⟩ 1 x _ hb
 unfold World.frozen?
 simp only [h1]
 exact h3 rfl (by decide) k (C_ _) (Nat.lt_succ_self _)
variable {wl:J'}
theorem bI.freeze (h:bI wl w) (a:z_) (n:Nat):bI (wl.freeze a n) w:=by
 refine ⟨(eX _ _ _).trans h.size,fun b o o' h1 h2=> ?_, ?_, ?_,fun b o h1=> ?_⟩
 ·obtain ⟨p,hp⟩:∃p,wl.heap[b]?=some p:=⟨_,H_ (by have:=(cI h1);rw [eX] at this;exact this)⟩
  obtain ⟨zk,e1,e2⟩:=gK wl a n b p hp
  rw [e1] at h1;cases h1
  have:=h.obj b p o' hp h2
  cases p<;>first|(rw [show _=_ from e2];exact this)|skip
  obtain ⟨f',rfl,h3,_⟩:=e2
  cases this with
  |same=>exact .cut (C_ _) (fun _ _=>rfl) (fun k hk=>h3 k hk)
  |cut g1 g2 g3=>exact .cut g1 g2 (fun k h=>h3 k (g3 k h))
  |blind hb=>cases hb
 ·unfold World.freeze;split<;>exact h.os
 ·unfold World.freeze;split<;>exact h.out
 ·obtain ⟨p,hp⟩:∃p,wl.heap[b]?=some p:=⟨_,H_ (by have:=(cI h1);rw [eX] at this;exact this)⟩
  obtain ⟨zk,e1,e2⟩:=gK wl a n b p hp
  rw [e1] at h1;cases h1
  have:=h.ic b p hp
  cases p<;>first|(rw [show _=_ from e2];exact this)|(obtain ⟨f',rfl,_⟩:=e2;rfl)
theorem Shut.freeze {n:Nat} {U:J'} (h:Shut n U wl) (a:z_) (m:Nat):Shut n U (wl.freeze a m):=by
 refine ⟨by rw [eX];exact h.size,fun b o hb ho=> ?_⟩
 obtain ⟨p,hp⟩:∃p,wl.heap[b]?=some p:=⟨_,H_ (by have:=(cI ho);rw [eX] at this;exact this)⟩
 obtain ⟨zk,e1,e2⟩:=gK wl a m b p hp
 rw [e1] at ho;cases ho
 obtain ⟨tz,h1,h2⟩:=h.obj b p hb hp
 refine ⟨tz,h1, ?_⟩
 cases p<;>first|(rw [show _=_ from e2];exact h2)|skip
 obtain ⟨f',rfl,h3,_⟩:=e2
 cases h2 with
 |cells g=>exact .cells fun k hk=>h3 k (g k hk)
 |other _ g1 _ _=>cases g1
end Go.aC
namespace Go.aC.Of
open Go Go.Conc Go.Conc.Lib Go.ConcR Go.ConcR.Gen Go.aC Go.Proofs
open Go.RowKit hiding Hid
open Go.ConcN (upd upd_ne upd_same)
def oH (w:J') (c:Nat) (cs:Array M') (t:Q'):J':={w with heap:=w.heap.setIfInBounds c (.cells cs t)}
variable {w:J'} {cs:Array M'}
theorem IL {w₁:J'} {c:Nat} {cs':Array M'} {t:Q'} (hb:w.heap[c]?=some (.cells cs' t)) (hs:cs.size<=cs'.size) (hc:∀k,k<cs.size->cs'[k]?=cs[k]?) (h:bI w w₁):bI (oH w c cs t) w₁:=by
 have hlt:=(cI hb)
 refine ⟨by simp [oH,h.size],fun b o o' h1 h2=> ?_,h.os,h.out,fun b o h1=> ?_⟩
 ·simp only [oH,Y_] at h1
  by_cases e:c=b
  ·subst e
   rw [if_pos rfl,if_pos hlt] at h1
   cases h1
   have:=h.obj c _ o' hb h2
   cases this with
   |same=>exact .cut hs hc (fun _ q=>q)
   |cut g1 g2 g3=>exact .cut (Nat.le_trans hs g1) (fun k hk=>(g2 k (by omega)).trans (hc k hk)) (fun k q=>g3 k q)
   |blind hb=>cases hb
  ·rw [if_neg e] at h1;exact h.obj b o o' h1 h2
 ·simp only [oH,Y_] at h1
  by_cases e:c=b
  ·subst e;rw [if_pos rfl,if_pos hlt] at h1;cases h1;rfl
  ·rw [if_neg e] at h1;exact h.ic b o h1
theorem Bm {c r:Nat} {t:Q'} (h:r≠c):(oH w c cs t).heap[r]?=w.heap[r]?:=by
 simp only [oH]
 rw [Array.getElem?_setIfInBounds_ne (Ne.symm h)]
theorem HY {c:Nat} {t:Q'} (h:c<w.heap.size):(oH w c cs t).heap[c]?=some (.cells cs t):=by simp [oH,h]
variable {b j:Nat}
theorem cell_of_block {t:Q'} {v:M'} (hb:w.heap[b]?=some (.cells cs t)) (hj:cs[j]?=some v):w.cell? ⟨b,j,none⟩=some v/\w.frozen? ⟨b,j,none⟩=false:=by
 constructor
 ·unfold World.cell?;simp only [hb];simpa using hj
 ·unfold World.frozen?;simp only [hb];simp
def pI (b N:Nat) (L:Nat->Os) (_:Nat->Prop) (ρ:Nat->aX) (n:Nat):Prop:=n=N/\0<N/\∀j,j≠0->(L j).ok b (ρ j)
theorem iS (b N:Nat) (L:Nat->Os):Il (pI b N L):=fun _ _ _ _ _ h ha=>⟨h.1,h.2.1,fun j hj=>Os.Em (h.2.2 j hj) (ha j hj)⟩
theorem Ax {N:Nat} {rel:Nat->Prop} {ρ:Nat->aX} (hN:0<N) (h:Alone rel ρ N) (h0:∀j,(ρ j).isSelf=true->j=0):pI b N (fun _=>.gone) rel ρ N:=by
 refine ⟨rfl,hN,fun j hj=> ?_⟩
 rcases h.2 j with q|⟨d,q⟩|q
 ·exact .inr q
 ·rw [q];exact .inl rfl
 ·exact absurd (h0 j q) hj
def oO (bt:Nat) (l:Loc):Prop:=l=.cell ⟨bt,0,none⟩
variable {C:cS} {i bt:Nat}
theorem KS.hire {n:Nat} {S:Loc->Prop} (h:KS C i bt):KS (C.hire n S (fun _=>False)) i bt:=⟨h.on,.inl h.ts,h.tn⟩
section
variable {N:Nat} {L:Nat->Os} {Post:M'->J'->Prop} {k:Nat} {wl:J'} {g g':O'}
variable {x kk:Nat}
theorem QX (hN:0<N) (hL:Lay C wl) (hP:BB C L) (hD:Apart L) (ht:wl.cell? ⟨bt,0,none⟩=some (.chan (some x)))
 (gv:wl.heap[x]?=some (.chan 0 #[] false kk kk false)) (hxn:∀j u,j≠0->(L j).od=some u->u.x≠x) (hrun:g.status=.running) (hsp:∀w,stepG p_ true g w=.spawn g' (born p_ (call68 b bt)) w #[])
 (h:Lay (C.hire N (oO bt) (fun _=>False)) (wl.freeze ⟨bt,0,none⟩ 1)->BB (C.hire N (oO bt) (fun _=>False)) (upd L N (.live ⟨bt,x,0⟩))->Apart (upd L N (.live ⟨bt,x,0⟩))->
  Can p_ (C.hire N (oO bt) (fun _=>False)) b 0 Post k (pI b (N+1) (upd L N (.live ⟨bt,x,0⟩))) (wl.freeze ⟨bt,0,none⟩ 1) g'):Can p_ C b 0 Post (k+1) (pI b N L) wl g:=by
 have vis:∀y j v,wl.cell? ⟨y,j,none⟩=some v->¬C.Sh (.cell ⟨y,j,none⟩)/\¬C.Gr (.cell ⟨y,j,none⟩)/\∀g,¬C.Pv g (.cell ⟨y,j,none⟩):=fun y j v hv=>
  ⟨fun q=>absurd (hv.symm.trans (hL.cut.hid y j (.inl q)).2) (by simp),fun q=>absurd (hv.symm.trans (hL.cut.hid y j (.inr (.inl q))).2) (by simp),fun g=>hP.no g _⟩
 have Zl:KS (C.hire N (oO bt) (fun _=>False)) N bt:=⟨hP.on,.inr ⟨rfl,rfl⟩,(vis _ _ _ ht).1⟩
 have hD':Apart (upd L N (.live ⟨bt,x,0⟩)):=fun i j u v hi hj vG h1 h2=>by
  by_cases ei:i=N
  ·subst ei
   rw [O_] at h1;cases h1
   rw [P_ _ _ (Ne.symm vG)] at h2
   exact Ne.symm (hxn j v hj h2)
  ·rw [P_ _ _ ei] at h1
   by_cases ej:j=N
   ·subst ej
    rw [O_] at h2;cases h2
    exact hxn i u hi h1
   ·rw [P_ _ _ ej] at h2
    exact hD i j u v hi hj vG h1 h2
 have hP':BB (C.hire N (oO bt) (fun _=>False)) (upd L N (.live ⟨bt,x,0⟩)):=by
  refine ⟨hP.on,fun g l q=>q.elim (hP.no g l) (fun q=>q.2),fun j u hj hu=> ?_⟩
  by_cases e:j=N
  ·subst e;rw [O_] at hu;cases hu;exact Zl
  ·rw [P_ _ _ e] at hu;exact (hP.ks j u hj hu).hire
 have fJ:Lay (C.hire N (oO bt) (fun _=>False)) (wl.freeze ⟨bt,0,none⟩ 1):=by
  refine ⟨⟨fun y j hy=> ?_,fun y j hy=> ?_⟩,fun g r=>⟨fun q=>q.elim (hP.no g _) (fun q=>q.2),fun q=>q.elim (hL.no g r).2 (fun q=>by cases q.2)⟩⟩
  ·have pg:bS C y j:=by
    rcases hy with q|q|⟨g,q|q⟩
    ·exact .inl q
    ·exact .inr (.inl q)
    ·exact .inr (.inr ⟨g,q⟩)
    ·exact q.2.elim
   obtain ⟨h1,h2⟩:=hL.cut.hid y j pg
   exact ⟨by rw [eX];exact h1,by rw [Dk];exact h2⟩
  ·rw [eX]
   obtain ⟨g,q|⟨_,q⟩⟩:=hy
   ·obtain ⟨h1,h2⟩:=hL.cut.gd y j ⟨g,q⟩
    exact ⟨h1,yQ h2⟩
   ·cases q
    exact ⟨lC ht,rv ht⟩
 have hkw:∀w,bI wl w->(C.on->Live b 0 w)->KO b bt x w:=fun w hw hl=>⟨hw.cell ht,hl hP.on⟩
 refine Can.UJ (iS b N L) hL (N:=N) (S:=oO bt) (child:=born p_ (call68 b bt)) (r:=.seat (.recv x ZQ true) (mZ b bt x 0)) (aK:=wl.freeze ⟨bt,0,none⟩ 1) (fun rel ρ n hR=>hR.1) hrun hsp
  (fun w hw l hl=> ?_) (fun w hw Ni=> ?_) ⟨rfl,rfl,rfl,rfl,rfl,by simp⟩ (fun p h' he=> ?_) (fun rel ρ n hR p' h' he j p SL hj hp hc=> ?_) (fun w hw=>hw.freeze _ _) (fun _ _ hs=>hs.freeze _ _) (fun rel ρ n hR=> ?_) (h fJ hP' hD')
 ·rcases hl with rfl
  exact ⟨.inl ⟨bt,0,rfl,lC (hw.cell ht)⟩,vis _ _ _ ht⟩
 ·obtain ⟨n,hn⟩:=G5 (b:=b) (x:=x) Zl
  refine ⟨n+1,fun w w₁ g r=>xB Zl w w₁ g r,.inl ⟨n,rfl, ?_⟩⟩
  rw [RX (by omega)]
  exact hn w (hkw w hw Ni)
 ·simp only [aX.seat.injEq] at he
  obtain ⟨rfl,_⟩:=he
  exact ⟨kk,gv⟩
 ·simp only [aX.seat.injEq] at he
  obtain ⟨rfl,_⟩:=he
  have cK:=hR.2.2 j hj
  rw [hp] at cK
  obtain ⟨u,hu,rfl,_⟩:=nJ cK
  rfl
 ·obtain ⟨rfl,h0,h1⟩:=hR
  refine ⟨rfl,by omega,fun j hj=> ?_⟩
  by_cases e:j=n
  ·subst e;rw [O_,O_];rfl
  ·rw [P_ _ _ e,P_ _ _ e,P_ _ _ hj];exact h1 j hj
end
def call71 (b hv ev:Nat):Deferred:={target:=.fn (.func 71) #[.pointer (some ⟨b,0,none⟩),.pointer (some ⟨hv,0,none⟩),.pointer (some ⟨ev,0,none⟩)],args:=#[]}
noncomputable def xV:Code:=f71.body.getD .skip
noncomputable def Oo:Array Oper:=match xV with| .seq _ (.region _ ops _)=>ops|_=>#[]
theorem Dp (b hv ev:Nat) (w:J'):stepG p_ false (born p_ (call71 b hv ev)) w=
 .go (G ((baseD 71).at ⟨#[.pointer (some ⟨b,0,none⟩),.pointer (some ⟨hv,0,none⟩),.pointer (some ⟨ev,0,none⟩)]++F_ 3 I',[]⟩ [.code xV]) [bot]) w #[]:=by
 simp [born,call71,stepG,unwind,callDeferred,invoke,callFunc,func71,f71,seen,GStep.after,G,fZ,Frame.at,baseD,bot,xV]
theorem Ce (F:Array M'):QuitsD p_ 2 0 (G {(baseD 71).at ⟨F,[]⟩ [] with mode:=.returning} [bot]):=by
 refine QuitsD.ctl (g':=G bot []) rfl (fun w=> ?_) ?_
 ·simp [G,stepG,unwind,doReturn,results,Frame.at,baseD,bot,func71,f71,seen,GStep.after,goexitEntry]
 refine QuitsD.ctl (g':={G bot [] with status:=.finished}) rfl (fun w=> ?_) ⟨rfl,rfl⟩
 simp [G,stepG,unwind,bot,goexitEntry,Frame.catches]
 rfl
theorem IJ (b9:C.on) (F:Array M'):∃n,∀w,Live b 0 w->Goes p_ false (RB C b 0 i) (DR C i) (AtR0 p_ C b 0 i) n (G ((baseD 71).at ⟨F,[dcall 69 #[.pointer (some ⟨b,0,none⟩)]]⟩ [.inRegion Oo []]) [bot]) w:=by
 have W:=wkR b9 b 0 i
 simp only [Oo,xV,f71,A_]
 refine W.ctl rfl (fun _=>stepG_region_end) ?_
 refine W.ctl rfl (fun _=>stepG_end) ?_
 refine W.ctl rfl (fun _=>stepG_unwind_enter rfl Tryz.oN.f_done (nm_done Tryz.link) rfl) ?_
 exact Di Tryz.oN b9 (b:=b) (o:=0) (i:=i) (c:={(baseD 71).at ⟨F,[]⟩ [] with mode:=.returning}) (cs:=[bot]) rfl (Ce _)
section
variable {N N0 h:Nat} {L:Nat->Of.Os} {us:List Od} {A:Ha} {S:Hs} {va vt:M'} {Post:M'->J'->Prop} {wl:J'} {gm:O'} {ae:O'->J'->Prop}
variable {evs:List Ev} {ea:Option z_} {ec:Nat}
theorem Fc (B:eh p_ C b 0 ae (Fs p_ C gm) h) (hL:Lay C wl) (H:cQ A va vt S wl) (K:bN C A N0 h us L wl) (hT:aU A wl) {hv ev:Nat}
 (UQ:wl.cell? ⟨hv,0,none⟩=some (.pointer (some ⟨A.hb,0,none⟩))) (ZB:wl.cell? ⟨ev,0,none⟩=some (.slice ea evs.length ec)) (uO:Dt A ea evs) (hn:evs.length<=1000) (cK:Dr A.P (S,us) evs) (hm:(eC A.P (S,us) evs).2.length<=999) (J7:(eC A.P (S,us) evs).1.cg=[])
 {B₁:Nat} (hB:N<=B₁)
 (hc:∀aK IX Io,Lay C aK->cQ A IX Io {(eC A.P (S,us) evs).1 with cg:=(eC A.P (S,us) evs).2.map (·.k)} aK->aU A aK->Can p_ C b 0 Post 0 (db B₁) aK gm):
 ay p_ C b 0 ae (Fs p_ C gm) Post h (aY b N h L) wl (born p_ (call71 b hv ev)):=by
 have hS:=aH b N h L
 refine ay.ctl B hS hL rfl (Dp b hv ev) ?_
 have VJ:(#[.pointer (some ⟨b,0,none⟩),.pointer (some ⟨hv,0,none⟩),.pointer (some ⟨ev,0,none⟩)]++F_ 3 I':Array M')=#[.pointer (some ⟨b,0,none⟩),.pointer (some ⟨hv,0,none⟩),.pointer (some ⟨ev,0,none⟩),I',I',I']:=by kernel_rfl
 rw [VJ]
 simp only [xV,f71,A_]
 iterate 2 refine B.n ?_
 refine ay.ctl B hS hL rfl (fun _=>stepG_defer rfl rfl (by k_ne) rfl) ?_
 walk_nrm
 iterate 2 refine B.n ?_
 refine B.o (.pointer (some ⟨A.hb,0,none⟩)) (fun T d=> ?_) ?_
 ·have h0:(wl.re T d).cell? ⟨hv,0,none⟩=some (.pointer (some ⟨A.hb,0,none⟩)):=UQ
  go_simp
 walk_nrm
 refine B.o (.slice ea evs.length ec) (fun T d=> ?_) ?_
 ·have h0:(wl.re T d).cell? ⟨ev,0,none⟩=some (.slice ea evs.length ec):=ZB
  go_simp
 walk_nrm
 refine ay.ctl B hS hL rfl (fun _=>bY (vs:=#[.pointer (some ⟨A.hb,0,none⟩),.slice ea evs.length ec]) rfl rfl (by k_ne) rfl func72 rfl rfl (by kernel_rfl)) ?_
 rw [NI]
 refine work B hL H K hT uO hn cK hm J7 fun w2 L2 Sl SY du H2 K2 T2=> ?_
 walk_nrm
 refine ay.leaves B du (fun w hw Ni=> ?_) (B₁:=B₁) (fun rel ρ n hR=>by rw [hR.1];exact hB) (fun rel ρ n hR j hj KI=> ?_) (hc w2 Sl SY du H2 T2)
 ·obtain ⟨n,hn⟩:=IJ (b:=b) (i:=h) K2.fo.on _
  exact ⟨n,hn w (Ni K2.fo.on)⟩
 ·have h1:=hR.2 j hj KI
  cases hs:L2 j with
  |gone=>rw [hs] at h1;exact h1
  |live u=>
   obtain ⟨i,h2,h3,_⟩:=K2.Ip j u hj (by rw [hs];rfl)
   omega
end
end Go.aC.Of
namespace Go.aC.Of
section
open Go Go.Conc Go.Conc.Lib Go.ConcR Go.ConcR.Gen Go.aC Go.Proofs
open Go.RowKit hiding Hid
open Go.ConcN (upd upd_ne upd_same)
structure Raw where
 kind:ByteArray
 who:Int
 word:Int
def Raw.val (r:Raw):M':=BM r.kind r.who r.word
def dw (L O P:Int):Bool:=decide (1<=L)&&decide (L<=6)&&(decide (1<=O)&&decide (O<=4))&&(decide (1<=P)&&decide (P<=60))
def bu (r:Raw) (m:Int):Bool:=
 if m<1 then false else if 4<m then false else if r.who<1 then false else
 if r.kind=⟨#[114,105,110,103]⟩ then decide (r.who<=99)&&(decide (0<=r.word)&&decide (r.word<=9))
 else if r.kind=⟨#[104,97,110,103]⟩ then decide (r.who<=99)&&(r.word==0)
 else if r.kind=⟨#[97,110,115,119,101,114]⟩\/r.kind=⟨#[114,101,116,117,114,110]⟩ then decide (r.who<=m)&&(r.word==0)
 else if r.kind=⟨#[119,97,105,116]⟩ then decide (r.who<=60)&&(r.word==0)
 else false
theorem uX (w:J') (L O P:Int):Calls p_ 65 #[.agg #[.int .i64 L,.int .i64 O,.int .i64 P]] w fun e w'=>e=.returned (.bool (dw L O P))/\w'=w.alloc (.cells #[.int .i64 L,.int .i64 O,.int .i64 P] 28):=by
 have h0:(w.alloc (.cells #[.int .i64 L,.int .i64 O,.int .i64 P] 28)).cell? ⟨w.heap.size,0,none⟩=some (.int .i64 L):=bJ rfl
 have h1:(w.alloc (.cells #[.int .i64 L,.int .i64 O,.int .i64 P] 28)).cell? ⟨w.heap.size,1,none⟩=some (.int .i64 O):=bJ rfl
 have h2:(w.alloc (.cells #[.int .i64 L,.int .i64 O,.int .i64 P] 28)).cell? ⟨w.heap.size,2,none⟩=some (.int .i64 P):=bJ rfl
 go_enter func65,ntmps65
 go_wp2_with fail
 all_goals go_ret
 all_goals (refine ⟨?_,rfl⟩;simp [dw, *];try omega)
theorem xP (w:J') (r:Raw) (m:Int):Calls p_ 66 #[r.val,.int .i64 m] w fun e w'=>e=.returned (.bool (bu r m))/\w'=w.alloc (.cells #[.string r.kind,.int .i64 r.who,.int .i64 r.word] 55):=by
 obtain ⟨k,who,word⟩:=r
 show Calls p_ 66 #[.agg #[.string k,.int .i64 who,.int .i64 word],.int .i64 m] w _
 have h0:(w.alloc (.cells #[.string k,.int .i64 who,.int .i64 word] 55)).cell? ⟨w.heap.size,0,none⟩=some (.string k):=bJ rfl
 have h1:(w.alloc (.cells #[.string k,.int .i64 who,.int .i64 word] 55)).cell? ⟨w.heap.size,1,none⟩=some (.int .i64 who):=bJ rfl
 have h2:(w.alloc (.cells #[.string k,.int .i64 who,.int .i64 word] 55)).cell? ⟨w.heap.size,2,none⟩=some (.int .i64 word):=bJ rfl
 have xz:bu ⟨k,who,word⟩ m=bu ⟨k,who,word⟩ m:=rfl
 go_enter func66,ntmps66
 by_cases tV:k=⟨#[114,105,110,103]⟩
 ·subst tV
  go_wp2_with fail
  all_goals go_ret
  all_goals refine ⟨?_,rfl⟩
  all_goals first
   |contradiction
   |(have q1:(m<1)=False:=eq_false (by omega);have q2:(4<m)=False:=eq_false (by omega);have q3:(who<1)=False:=eq_false (by omega);simp [bu,q1,q2,q3, *];done)
   |(simp [bu, *];done)
   |(simp [bu, *];omega)
 by_cases tW:k=⟨#[104,97,110,103]⟩
 ·subst tW
  go_wp2_with fail
  all_goals go_ret
  all_goals refine ⟨?_,rfl⟩
  all_goals first
   |contradiction
   |(have q1:(m<1)=False:=eq_false (by omega);have q2:(4<m)=False:=eq_false (by omega);have q3:(who<1)=False:=eq_false (by omega);simp [bu,q1,q2,q3, *];done)
   |(simp [bu, *];done)
   |(simp [bu, *];omega)
 by_cases mM:k=⟨#[97,110,115,119,101,114]⟩
 ·subst mM
  go_wp2_with fail
  all_goals go_ret
  all_goals refine ⟨?_,rfl⟩
  all_goals first
   |contradiction
   |(have q1:(m<1)=False:=eq_false (by omega);have q2:(4<m)=False:=eq_false (by omega);have q3:(who<1)=False:=eq_false (by omega);simp [bu,q1,q2,q3, *];done)
   |(simp [bu, *];done)
   |(simp [bu, *];omega)
 by_cases mL:k=⟨#[114,101,116,117,114,110]⟩
 ·subst mL
  go_wp2_with fail
  all_goals go_ret
  all_goals refine ⟨?_,rfl⟩
  all_goals first
   |contradiction
   |(have q1:(m<1)=False:=eq_false (by omega);have q2:(4<m)=False:=eq_false (by omega);have q3:(who<1)=False:=eq_false (by omega);simp [bu,q1,q2,q3, *];done)
   |(simp [bu, *];done)
   |(simp [bu, *];omega)
 by_cases tU:k=⟨#[119,97,105,116]⟩
 ·subst tU
  go_wp2_with fail
  all_goals go_ret
  all_goals refine ⟨?_,rfl⟩
  all_goals first
   |contradiction
   |(have q1:(m<1)=False:=eq_false (by omega);have q2:(4<m)=False:=eq_false (by omega);have q3:(who<1)=False:=eq_false (by omega);simp [bu,q1,q2,q3, *];done)
   |(simp [bu, *];done)
   |(simp [bu, *];omega)
 have Qj:(k.toList==[114,105,110,103])=false:=by rw [<-(show (⟨#[114,105,110,103]⟩:ByteArray).toList=[114,105,110,103] from ByteArray.toList_eq ⟨#[114,105,110,103]⟩)];exact (Lib.bytes_beq_false_iff k ⟨#[114,105,110,103]⟩).2 tV
 have Qk:(k.toList==[104,97,110,103])=false:=by rw [<-(show (⟨#[104,97,110,103]⟩:ByteArray).toList=[104,97,110,103] from ByteArray.toList_eq ⟨#[104,97,110,103]⟩)];exact (Lib.bytes_beq_false_iff k ⟨#[104,97,110,103]⟩).2 tW
 have JW:(k.toList==[97,110,115,119,101,114])=false:=by rw [<-(show (⟨#[97,110,115,119,101,114]⟩:ByteArray).toList=[97,110,115,119,101,114] from ByteArray.toList_eq ⟨#[97,110,115,119,101,114]⟩)];exact (Lib.bytes_beq_false_iff k ⟨#[97,110,115,119,101,114]⟩).2 mM
 have JV:(k.toList==[114,101,116,117,114,110])=false:=by rw [<-(show (⟨#[114,101,116,117,114,110]⟩:ByteArray).toList=[114,101,116,117,114,110] from ByteArray.toList_eq ⟨#[114,101,116,117,114,110]⟩)];exact (Lib.bytes_beq_false_iff k ⟨#[114,101,116,117,114,110]⟩).2 mL
 have Qi:(k.toList==[119,97,105,116])=false:=by rw [<-(show (⟨#[119,97,105,116]⟩:ByteArray).toList=[119,97,105,116] from ByteArray.toList_eq ⟨#[119,97,105,116]⟩)];exact (Lib.bytes_beq_false_iff k ⟨#[119,97,105,116]⟩).2 tU
 go_wp2_with fail
 all_goals go_ret
 all_goals refine ⟨?_,rfl⟩
 all_goals first
  |contradiction
  |(have q1:(m<1)=False:=eq_false (by omega);have q2:(4<m)=False:=eq_false (by omega);have q3:(who<1)=False:=eq_false (by omega);simp [bu,q1,q2,q3, *];done)
  |(simp [bu, *];done)
  |(simp [bu, *];omega)
end
end Go.aC.Of
