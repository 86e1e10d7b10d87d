/-
  work, whole, in company: all events happen, the operators are asked and sent home.
-/
import Derived.Conc.TokenWalk
import Derived.Test.YtnjkbffmmgckeaaGreatDoorPaa
import Derived.Test.YtnjkbffmmgckeaaGreatDoorPag
import Derived.Test.YtnjkbffmmgckeaaGreatDoorPai
import Derived.Test.YtnjkbffmmgckeaaGreatDoorPao
set_option linter.all false
set_option maxRecDepth 100000
set_option maxHeartbeats 32000000
open Go renaming undef->I',World->J',Value->M',Goroutine->O',TypeId->Q',Frame->Y',heap_alloc_new->Z',heap_setCell_other->a_,heap_setCell_same->b_,Addr->z_
open Go.RowKit renaming Hid->f_
open Option renaming getD_some->A_
open Nat renaming le_refl->C_,le_trans->D_,lt_of_lt_of_le->E_
open Array renaming replicate->F_,getElem?_eq_getElem->H_,getElem?_setIfInBounds->Y_
open Option.some renaming injEq->n_
open Go.World renaming size_setCell->o_
open Go.Proofs.Tryz renaming prog->p_
open Go.Proofs.Tryz
namespace Go.aC.Of
section
open Go Go.Conc Go.Conc.Lib Go.ConcR Go.ConcR.Gen Go.aC Go.Proofs
open Go.RowKit hiding Hid
open Go.ConcN (upd upd_ne upd_same)
def B6 (P:Int) (q:Hs × List Od) (e:Ev):Hs × List Od:=({(gZ P q.1 q.2 e).1 with log:=(gZ P q.1 q.2 e).1.log++[(gZ P q.1 q.2 e).2.2]},(gZ P q.1 q.2 e).2.1)
def eC (P:Int) (q:Hs × List Od) (evs:List Ev):Hs × List Od:=evs.foldl (B6 P) q
variable {evs:List Ev} {k:Nat}
theorem zd {P:Int} {q:Hs × List Od} (hk:k<evs.length):eC P q (evs.take (k+1))=B6 P (eC P q (evs.take k)) evs[k]:=by
 unfold eC
 rw [List.take_succ_eq_append_getElem hk,List.foldl_append];rfl
def Dr (P:Int) (q:Hs × List Od) (evs:List Ev):Prop:=∀k (hk:k<evs.length),(evs[k]).ok (eC P q (evs.take k)).2.length/\BA (eC P q (evs.take k)).1 (eC P q (evs.take k)).2/\(gZ P (eC P q (evs.take k)).1 (eC P q (evs.take k)).2 evs[k]).1.log.length<=1000
def Dt (A:Ha) (ea:Option z_) (evs:List Ev):Prop:=evs=[]\/∃eb cs t f,ea=some ⟨eb,0,none⟩/\eb<A.n0/\eb≠A.hb/\A.h0[eb]?=some (Obj.cells cs t f)/\∀k (hk:k<evs.length),cs[k * 3]?=some (.string (evs[k]).kind)/\cs[k * 3+1]?=some (.int .i64 (evs[k]).who)/\cs[k * 3+2]?=some (.int .i64 (evs[k]).word)
theorem NI {p q:M'}:Frame.enter p_ 72 #[p,q] .normal=(base 72).at ⟨#[p,q]++F_ 50 I',[]⟩ [.code eV]:=by kernel_rfl
section
variable {C:cS} {b N N0 h:Nat} {L:Nat->Of.Os} {us:List Od} {A:Ha} {S:Hs} {va vt:M'} {ae Fin:O'->J'->Prop} {Post:M'->J'->Prop} {wl:J'} {aI:Y'} {aS:Act} {av:Array Oper} {aN:Nat} {ak:List Nat} {aV:List Item} {cs:List Y'}
theorem IH (B:eh p_ C b 0 ae Fin h) (hm:us.length<=999) (J7:S.cg=[])
 (hc:∀aK L' Io,Lay C aK->cQ A va Io {S with cg:=us.map (·.k)} aK->ik us.length C A N0 h us L' aK->aU A aK->ay p_ C b 0 ae Fin Post h (aY b N h L') aK (G (aI.at (aS.put ((av[aN]?).bind (·.dst)) (.tuple #[])) (.inRegion av ak::aV)) cs)):
 ∀m i,us.length - i=m->i<=us.length->∀(z1 z2 z3 z4 z5 z6 z7 z8 z9 dB cZ z12 de dn dm dk dj dA dz z20 z21 z22 z23 z24 z25 z26 dD z28 dC dK dP dO dV z37 ey ew z40 eu eK eJ eI eH z46 eQ eN z49 en z51 vt:M') (L:Nat->Os) (wl:J'),Lay C wl->cQ A va vt {S with cg:=(us.take i).map (·.k)} wl->ik i C A N0 h us L wl->aU A wl->
 ay p_ C b 0 ae Fin Post h (aY b N h L) wl (G ((base 72).at ⟨#[.pointer (some ⟨A.hb,0,none⟩),z1,z2,z3,z4,z5,z6,z7,z8,z9,dB,cZ,z12,de,dn,dm,dk,dj,dA,dz,z20,z21,z22,z23,z24,z25,z26,dD,z28,dC,.slice (some ⟨A.ob,0,none⟩) A.m A.co,.int .i64 (A.m:Nat),.int .i64 (i:Nat),dK,dP,dO,dV,z37,ey,ew,z40,eu,eK,eJ,eI,eH,z46,eQ,eN,z49,en,z51],[]⟩ [.code pK,.inLoop pK,.inBlock 2]) (aI.at aS (.inRegion av (aN::ak)::aV)::cs)):=by
 intro m
 induction m with
 |zero=>
  intro i Zf hi z1 z2 z3 z4 z5 z6 z7 z8 z9 dB cZ z12 de dn dm dk dj dA dz z20 z21 z22 z23 z24 z25 z26 dD z28 dC dK dP dO dV z37 ey ew z40 eu eK eJ eI eH z46 eQ eN z49 en z51 vt L wl hL H K hT
  have hS:=aH b N h L
  obtain rfl:i=us.length:=by omega
  have hlen:=K.len
  have hlt:((us.length:Int)<(us.length:Int))=False:=by simp
  generalize hK:[Item.inLoop pK,.inBlock 2]=K0
  rw [<-hlen]
  simp only [pK,ai,az,eV,f72,A_]
  iterate 6 refine B.n ?_
  subst hK
  refine ay.ctl B hS hL rfl (fun _=>stepG_exit rfl) ?_
  refine ay.ctl B hS hL rfl (fun _=>stepG_end) ?_
  refine ay.ctl B hS hL rfl (fun _=>fC rfl rfl func72 rfl) ?_
  rw [List.take_length] at H
  exact hc wl L vt hL H K hT
 |succ m ih=>
  intro i Zf hi z1 z2 z3 z4 z5 z6 z7 z8 z9 dB cZ z12 de dn dm dk dj dA dz z20 z21 z22 z23 z24 z25 z26 dD z28 dC dK dP dO dV z37 ey ew z40 eu eK eJ eI eH z46 eQ eN z49 en z51 vt L wl hL H K hT
  have hS:=aH b N h L
  have hlen:=K.len
  have hlt:i<us.length:=by omega
  have hltA:i<A.m:=by omega
  have gJ:(i:Int)<(A.m:Int):=by omega
  have oJ:IntKind.i64.wrap ((i:Int)+1)=((i+1:Nat):Int):=by rw [IntWalk.i64_in _ (by omega)];rfl
  have kc:=K.cells i hlt
  generalize hK:[Item.inLoop pK,.inBlock 2]=K0
  have e0:pK=.seq (ai 0 pK) (.seq (ai 1 pK) (.seq (.block 3 (.seq (ai 0 (match ai 2 pK with| .block _ c=>c|c=>c)) (.seq Sa (az 2 (match ai 2 pK with| .block _ c=>c|c=>c))))) (match az 2 pK with| .seq _ c=>c|c=>c))):=by kernel_rfl
  rw [e0]
  refine B.s ?_
  simp only [ai,pK,az,eV,f72,A_]
  iterate 5 refine B.n ?_
  refine ay.ctl B hS hL rfl (fun _=>stepG_skip) ?_
  refine B.s ?_
  refine ay.ctl B hS hL rfl (fun _=>stepG_block) ?_
  iterate 4 refine B.n ?_
  refine B.o (.chan (some us[i].x)) (fun T d=> ?_) ?_
  ·have h0:(wl.re T d).cell? ⟨A.ob,i,none⟩=some (.chan (some us[i].x)):=kc.1
   go_simp
  walk_nrm
  iterate 4 refine B.n ?_
  refine MD B hL H K hT hlt (by omega) (C_ _) (ki:=us[i].k) rfl (S1:={S with cg:=(us.take i).map (·.k)}) (wG:=us) (by simp only [List.length_map,List.length_take];omega) rfl rfl fun w2 L2 SY u37 u38 u39 u40 u41 u42 u43 u44 u45 u46 u47 u48 u49 du H2 K2 T2=> ?_
  have KP:=aH b N h L2
  have htk:(us.take i).map (·.k)++[us[i].k]=(us.take (i+1)).map (·.k):=by rw [List.take_succ_eq_append_getElem hlt,List.map_append];rfl
  obtain ⟨kk,gv⟩:=(K2.kM (N0+i) us[i] (K2.n0 i hlt).1 (by rw [K2.live i hlt (C_ _)];rfl)).1
  have hxB:=(K2.kM (N0+i) us[i] (K2.n0 i hlt).1 (by rw [K2.live i hlt (C_ _)];rfl)).2
  iterate 2 refine B.n ?_
  refine PV B du K2.fo K2.ap (K2.n0 i hlt).1 (K2.n0 i hlt).2 (K2.live i hlt (C_ _)) gv rfl (fun w hw=>stepG_close (c:=us[i].x) rfl rfl (by k_ne) rfl rfl hw (by kernel_rfl)) (by kernel_rfl) rfl ?_
  have gA:Lay C (w2.setChan us[i].x 0 #[] true kk kk false):=du.setChan gv rfl _ _ _ _ _ _
  have kC:=gN.chan gv rfl 0 #[] true kk kk false
  obtain ⟨N3,N4,LU,H2⟩:=H2
  have H3:=H2.pf kC ⟨kk,gv⟩
  have K3:=K2.gone hlt gv
  have T3:=T2.pf kC ⟨kk,gv⟩
  rw [htk] at H3
  have zq:=aH b N h (upd L2 (N0+i) .gone)
  generalize w2.setChan us[i].x 0 #[] true kk kk false=w3 at *
  walk_nrm
  refine B.e ?_
  refine ay.ctl B zq gA rfl (fun _=>stepG_inBlock) ?_
  iterate 4 refine B.n ?_
  subst hK
  refine ay.ctl B zq gA rfl (fun _=>stepG_inLoop) ?_
  exact ih (i+1) (by omega) (by omega) _ _ _ _ _ _ _ _ _ _ _ _ _ _ _ _ _ _ _ _ _ _ _ _ _ _ _ _ _ _ _ _ _ _ _ _ _ _ _ _ _ _ _ _ _ _ _ _ SY _ w3 gA ⟨_,_,_,H3⟩ K3 T3
end
variable {A:Ha} {w:J'}
theorem aU.re (h:aU A w) (T:Nat->Question->Nat) (d:Nat):aU A (w.re T d):=h
variable {C:cS}
theorem bN.re {N0 h:Nat} {us:List Od} {L:Nat->Os} (K:bN C A N0 h us L w) (T:Nat->Question->Nat) (d:Nat):bN C A N0 h us L (w.re T d):=⟨K.len,K.small,K.live,K.n0,K.ap,K.fo,K.kM,K.cells⟩
section
variable {b N N0 h:Nat} {L:Nat->Of.Os} {us:List Od} {S:Hs} {va vt:M'} {ae Fin:O'->J'->Prop} {Post:M'->J'->Prop} {wl:J'} {aI:Y'} {aS:Act} {av:Array Oper} {aN:Nat} {ak:List Nat} {aV:List Item} {cs:List Y'}
variable {ea:Option z_} {ec:Nat}
theorem II (B:eh p_ C b 0 ae Fin h) (uO:Dt A ea evs) (hn:evs.length<=1000) (cK:Dr A.P (S,us) evs)
 (hc:∀aK L' IX (z1 z2 z3 z4 z5 z6 z7 z8 z9 dB cZ z12 de dn dm dk dj dA dz z20 z21 z22 z23 z24 z25 z26 dD z28 dC dM z31 dQ dK dP dO dV z37 ey ew z40 eu eK eJ eI eH z46 eQ eN z49 en z51:M'),Lay C aK->cQ A IX vt (eC A.P (S,us) evs).1 aK->bN C A N0 h (eC A.P (S,us) evs).2 L' aK->aU A aK->ay p_ C b 0 ae Fin Post h (aY b N h L') aK (G ((base 72).at ⟨#[.pointer (some ⟨A.hb,0,none⟩),z1,z2,z3,z4,z5,z6,z7,z8,z9,dB,cZ,z12,de,dn,dm,dk,dj,dA,dz,z20,z21,z22,z23,z24,z25,z26,dD,z28,dC,dM,z31,dQ,dK,dP,dO,dV,z37,ey,ew,z40,eu,eK,eJ,eI,eH,z46,eQ,eN,z49,en,z51],[]⟩ [.code (az 1 eV)]) (aI.at aS (.inRegion av (aN::ak)::aV)::cs))):
 ∀m k,evs.length - k=m->k<=evs.length->∀(z2 z3 z4 z5 z6 z7 cZ z12 de dn dm dk dj dA dz z20 z21 z22 z23 z24 z25 z26 dD z28 dC dM z31 dQ dK dP dO dV z37 ey ew z40 eu eK eJ eI eH z46 eQ eN z49 en z51 va:M') (L:Nat->Os) (wl:J'),Lay C wl->cQ A va vt (eC A.P (S,us) (evs.take k)).1 wl->bN C A N0 h (eC A.P (S,us) (evs.take k)).2 L wl->aU A wl->
 ay p_ C b 0 ae Fin Post h (aY b N h L) wl (G ((base 72).at ⟨#[.pointer (some ⟨A.hb,0,none⟩),.slice ea evs.length ec,z2,z3,z4,z5,z6,z7,.slice ea evs.length ec,.int .i64 (evs.length:Nat),.int .i64 (k:Nat),cZ,z12,de,dn,dm,dk,dj,dA,dz,z20,z21,z22,z23,z24,z25,z26,dD,z28,dC,dM,z31,dQ,dK,dP,dO,dV,z37,ey,ew,z40,eu,eK,eJ,eI,eH,z46,eQ,eN,z49,en,z51],[]⟩ [.code qx,.inLoop qx,.inBlock 0,.code (az 1 eV)]) (aI.at aS (.inRegion av (aN::ak)::aV)::cs)):=by
 intro m
 induction m with
 |zero=>
  intro k Zf hk z2 z3 z4 z5 z6 z7 cZ z12 de dn dm dk dj dA dz z20 z21 z22 z23 z24 z25 z26 dD z28 dC dM z31 dQ dK dP dO dV z37 ey ew z40 eu eK eJ eI eH z46 eQ eN z49 en z51 va L wl hL H K hT
  have hS:=aH b N h L
  obtain rfl:k=evs.length:=by omega
  have hlt:((evs.length:Int)<(evs.length:Int))=False:=by simp
  generalize hK:[Item.inLoop qx,.inBlock 0,.code (az 1 eV)]=K0
  simp only [qx,ai,az,eV,f72,A_]
  iterate 6 refine B.n ?_
  subst hK
  refine ay.ctl B hS hL rfl (fun _=>stepG_exit rfl) ?_
  rw [List.take_length] at H K
  exact hc wl L va _ _ _ _ _ _ _ _ _ _ _ _ _ _ _ _ _ _ _ _ _ _ _ _ _ _ _ _ _ _ _ _ _ _ _ _ _ _ _ _ _ _ _ _ _ _ _ _ _ _ _ hL H K hT
 |succ m ih=>
  intro k Zf hk z2 z3 z4 z5 z6 z7 cZ z12 de dn dm dk dj dA dz z20 z21 z22 z23 z24 z25 z26 dD z28 dC dM z31 dQ dK dP dO dV z37 ey ew z40 eu eK eJ eI eH z46 eQ eN z49 en z51 va L wl hL H K hT
  have hS:=aH b N h L
  have hlt:k<evs.length:=by omega
  have gJ:(k:Int)<(evs.length:Int):=by omega
  have oJ:IntKind.i64.wrap ((k:Int)+1)=((k+1:Nat):Int):=by rw [IntWalk.i64_in _ (by omega)];rfl
  obtain ⟨eb,WY,et,ef,rfl,heb,BH,hh0,hcs⟩:=uO.resolve_left (fun e=>by rw [e] at hlt;simp at hlt)
  have yc:wl.heap[eb]?=some (Obj.cells WY et ef):=hT.2.2 eb _ _ _ heb BH hh0
  obtain ⟨c1,c2,c3⟩:=hcs k hlt
  have j1:∀T d,(wl.re T d).cell? ⟨eb,k * 3,none⟩=some (.string (evs[k]).kind):=fun _ _=>(aB yc).trans c1
  have j2:∀T d,(wl.re T d).cell? ⟨eb,k * 3+1,none⟩=some (.int .i64 (evs[k]).who):=fun _ _=>(aB yc).trans c2
  have j3:∀T d,(wl.re T d).cell? ⟨eb,k * 3+2,none⟩=some (.int .i64 (evs[k]).word):=fun _ _=>(aB yc).trans c3
  generalize hK:[Item.inLoop qx,.inBlock 0,.code (az 1 eV)]=K0
  have e0:qx=.seq (ai 0 qx) (.seq (ai 1 qx) (.seq (.block 1 (.seq (ai 0 (match ai 2 qx with| .block _ c=>c|c=>c)) Sb)) (match az 2 qx with| .seq _ c=>c|c=>c))):=by kernel_rfl
  rw [e0]
  refine B.s ?_
  simp only [ai,qx,az,eV,f72,A_]
  iterate 5 refine B.n ?_
  refine ay.ctl B hS hL rfl (fun _=>stepG_skip) ?_
  refine B.s ?_
  refine ay.ctl B hS hL rfl (fun _=>stepG_block) ?_
  refine B.s ?_
  refine B.p (aF (by kernel_rfl) rfl rfl ⟨_,func72⟩) (fun T d Bh hB=> ?_)
  have g1:=j1 T d
  have g2:=j2 T d
  have g3:=j3 T d
  have qK:=aa hL
  have ir:=aa hc
  have TQ:=aa ih
  have HH:=aa H
  have KH:=aa K
  have hTH:=aa hT
  have Y5:=aa cK
  clear hL hc ih H K hT cK j1 j2 j3 c1 c2 c3 yc hcs hh0
  generalize yM:evs[k]=ek at *
  go_wp2_with fail
  subst hB
  intro hcut
  subst yM
  obtain ⟨vw,vb,vr,H0⟩:=HH.out
  have hA:=(H0.heap (w':=wl.re T d) rfl).alloc (.cells #[.string (evs[k]).kind,.int .i64 (evs[k]).who,.int .i64 (evs[k]).word] 55)
  have F2:Im A (wl.re T d) ((wl.re T d).alloc (.cells #[.string (evs[k]).kind,.int .i64 (evs[k]).who,.int .i64 (evs[k]).word] 55)):=⟨(Fr.alloc (w:=wl.re T d) H0.big _).size,(Fr.alloc (w:=wl.re T d) H0.big _).block⟩
  have K2:=(KH.out.re T d).zt (H0.heap (w':=wl.re T d) rfl) F2
  have T2:=aU.zt (hTH.out.re T d) (H0.heap (w':=wl.re T d) rfl) F2
  have vI:((wl.re T d).alloc (.cells #[.string (evs[k]).kind,.int .i64 (evs[k]).who,.int .i64 (evs[k]).word] 55)).heap[(wl.re T d).heap.size]?=some (.cells #[.string (evs[k]).kind,.int .i64 (evs[k]).who,.int .i64 (evs[k]).word] 55 (0,0)):=Z' _ _
  have du:Lay C ((wl.re T d).alloc (.cells #[.string (evs[k]).kind,.int .i64 (evs[k]).who,.int .i64 (evs[k]).word] 55)):=⟨hcut,qK.out.no⟩
  clear F2
  generalize (wl.re T d).alloc (.cells #[.string (evs[k]).kind,.int .i64 (evs[k]).who,.int .i64 (evs[k]).word] 55)=w1 at *
  obtain ⟨o1,o2,o3⟩:=Y5.out k hlt
  have hst:=zd (P:=A.P) (q:=(S,us)) hlt
  refine ME B du ⟨_,_,_,hA⟩ K2 T2 o1 o2 vI (S1:=(gZ A.P (eC A.P (S,us) (evs.take k)).1 (eC A.P (S,us) (evs.take k)).2 evs[k]).1) (wG:=(gZ A.P (eC A.P (S,us) (evs.take k)).1 (eC A.P (S,us) (evs.take k)).2 evs[k]).2.1) (ans:=(gZ A.P (eC A.P (S,us) (evs.take k)).1 (eC A.P (S,us) (evs.take k)).2 evs[k]).2.2) o3 rfl rfl rfl fun w3 L3 va3 u14 u15 u16 u17 u18 u19 u20 u21 u22 u23 u24 u25 gA H3 K3 T3=> ?_
  have zq:=aH b N h L3
  refine ay.ctl B zq gA rfl (fun _=>stepG_inBlock) ?_
  iterate 4 refine B.n ?_
  subst hK
  refine ay.ctl B zq gA rfl (fun _=>stepG_inLoop) ?_
  exact TQ.out (k+1) (by omega) (by omega) _ _ _ _ _ _ _ _ _ _ _ _ _ _ _ _ _ _ _ _ _ _ _ _ _ _ _ _ _ _ _ _ _ _ _ _ _ _ _ _ _ _ _ _ _ _ _ va3 L3 w3 gA (by rw [hst];exact H3) (by rw [hst];exact K3) T3
theorem work (B:eh p_ C b 0 ae Fin h) (hL:Lay C wl) (H:cQ A va vt S wl) (K:bN C A N0 h us L wl) (hT:aU A wl) (uO:Dt A ea evs) (hn:evs.length<=1000) (cK:Dr A.P (S,us) evs) (hm:(eC A.P (S,us) evs).2.length<=999) (J7:(eC A.P (S,us) evs).1.cg=[])
 (hc:∀aK L' IX Io,Lay C aK->cQ A IX Io {(eC A.P (S,us) evs).1 with cg:=(eC A.P (S,us) evs).2.map (·.k)} aK->ik (eC A.P (S,us) evs).2.length C A N0 h (eC A.P (S,us) evs).2 L' aK->aU A aK->ay p_ C b 0 ae Fin Post h (aY b N h L') aK (G (aI.at (aS.put ((av[aN]?).bind (·.dst)) (.tuple #[])) (.inRegion av ak::aV)) cs)):
 ay p_ C b 0 ae Fin Post h (aY b N h L) wl (G ((base 72).at ⟨#[.pointer (some ⟨A.hb,0,none⟩),.slice ea evs.length ec]++F_ 50 I',[]⟩ [.code eV]) (aI.at aS (.inRegion av (aN::ak)::aV)::cs)):=by
 have hS:=aH b N h L
 have VJ:(#[.pointer (some ⟨A.hb,0,none⟩),.slice ea evs.length ec]++F_ 50 I':Array M')=#[.pointer (some ⟨A.hb,0,none⟩),.slice ea evs.length ec,I',I',I',I',I',I',I',I',I',I',I',I',I',I',I',I',I',I',I',I',I',I',I',I',I',I',I',I',I',I',I',I',I',I',I',I',I',I',I',I',I',I',I',I',I',I',I',I',I',I']:=by kernel_rfl
 rw [VJ]
 have e1:eV=.seq (.seq (ai 0 (ai 0 eV)) (.block 0 (.loop qx))) (az 1 eV):=by kernel_rfl
 rw [e1]
 iterate 2 refine B.n ?_
 generalize hX:[Item.code (Code.block 0 (.loop qx)),Item.code (az 1 eV)]=X0
 simp only [ai,eV,f72,A_]
 iterate 5 refine B.n ?_
 subst hX
 refine ay.ctl B hS hL rfl (fun _=>stepG_block) ?_
 refine ay.ctl B hS hL rfl (fun _=>stepG_loop) ?_
 refine II B (S:=S) (us:=us) uO hn cK (fun w2 L2 Sl z1 z2 z3 z4 z5 z6 z7 z8 z9 dB cZ z12 de dn dm dk dj dA dz z20 z21 z22 z23 z24 z25 z26 dD z28 dC dM z31 dQ dK dP dO dV z37 ey ew z40 eu eK eJ eI eH z46 eQ eN z49 en z51 du H2 K2 T2=> ?_) evs.length 0 rfl (Nat.zero_le _) _ _ _ _ _ _ _ _ _ _ _ _ _ _ _ _ _ _ _ _ _ _ _ _ _ _ _ _ _ _ _ _ _ _ _ _ _ _ _ _ _ _ _ _ _ _ _ va L wl hL H K hT
 have KP:=aH b N h L2
 have e2:az 1 eV=.seq (ai 1 eV) (.block 2 (.loop pK)):=by kernel_rfl
 rw [e2]
 refine B.s ?_
 generalize hX:[Item.code (Code.block 2 (.loop pK))]=X0
 simp only [ai,eV,f72,A_]
 obtain ⟨vw,vb,vr,H2⟩:=H2
 iterate 4 refine B.n ?_
 refine B.o (.slice (some ⟨A.ob,0,none⟩) A.m A.co) (fun T d=> ?_) ?_
 ·have h0:(w2.re T d).cell? ⟨A.hb,6,none⟩=some (.slice (some ⟨A.ob,0,none⟩) A.m A.co):=H2.c.2.2.2.1
  go_simp
 walk_nrm
 iterate 3 refine B.n ?_
 subst hX
 refine ay.ctl B KP du rfl (fun _=>stepG_block) ?_
 refine ay.ctl B KP du rfl (fun _=>stepG_loop) ?_
 have H3:cQ A Sl vt {(eC A.P (S,us) evs).1 with cg:=((eC A.P (S,us) evs).2.take 0).map (·.k)} w2:=by
  refine ⟨vw,vb,vr, ?_⟩
  have:({(eC A.P (S,us) evs).1 with cg:=((eC A.P (S,us) evs).2.take 0).map (·.k)}:Hs)=(eC A.P (S,us) evs).1:=by
   rw [List.take_zero,List.map_nil,<-J7]
  rw [this];exact H2
 exact IH B (S:=(eC A.P (S,us) evs).1) (us:=(eC A.P (S,us) evs).2) hm J7 (fun w3 L3 vt3 gA H3 K3 T3=>hc w3 L3 Sl vt3 gA H3 K3 T3) _ 0 rfl (Nat.zero_le _) _ _ _ _ _ _ _ _ _ _ _ _ _ _ _ _ _ _ _ _ _ _ _ _ _ _ _ _ _ _ _ _ _ _ _ _ _ _ _ _ _ _ _ _ _ _ _ _ vt L2 w2 du H3 K2.two T2
end
end
end Go.aC.Of
namespace Go.aC
open Go Go.Conc
def Sf (a:z_) (n b:Nat) (ob zk:Obj):Prop:=
 match ob with
 | .cells c e f=>∃f',zk=.cells c e f'/\(∀j,gd f j=true->gd f' j=true)/\(a.block=b->n≠0->∀j,a.off<=j->j<a.off+n->gd f' j=true)
 |_=>zk=ob
theorem gK (w:J') (a:z_) (n b:Nat) (ob:Obj) (h:w.heap[b]?=some ob):∃zk,(w.freeze a n).heap[b]?=some zk/\Sf a n b ob zk:=by
 unfold World.freeze
 by_cases hn:n=0
 ·rw [if_pos hn]
  refine ⟨ob,h, ?_⟩
  cases ob<;>first|rfl|exact ⟨_,rfl,fun _ h=>h,fun _ h=>absurd hn h⟩
 ·rw [if_neg hn]
  simp only [Array.getElem?_modify]
  by_cases e:a.block=b
  ·rw [if_pos e,h]
   refine ⟨_,rfl, ?_⟩
   cases ob<;>try rfl
   rename_i c el f
   obtain ⟨lo,hi⟩:=f
   refine ⟨_,rfl,fun j hj=> ?_,fun _ _ j h1 h2=> ?_⟩
   ·unfold gd at hj ⊢
    simp only [Bool.and_eq_true,decide_eq_true_eq] at hj ⊢
    split
    ·rename_i Wx;simp at Wx;omega
    ·simp only;omega
   ·unfold gd
    simp only [Bool.and_eq_true,decide_eq_true_eq]
    split<;>simp only<;>omega
  ·rw [if_neg e]
   refine ⟨ob,h, ?_⟩
   cases ob<;>first|rfl|exact ⟨_,rfl,fun _ h=>h,fun h=>absurd h e⟩
theorem eX (w:J') (a:z_) (n:Nat):(w.freeze a n).heap.size=w.heap.size:=by
 unfold World.freeze;split<;>simp
theorem Dk (w:J') (a:z_) (n:Nat) (x:z_):(w.freeze a n).cell? x=w.cell? x:=by
 unfold World.cell?
 cases hb:w.heap[x.block]? with
 |none=>
  have:(w.freeze a n).heap[x.block]?=none:=by
   rw [Array.getElem?_eq_none_iff] at hb ⊢;rw [eX];exact hb
  rw [this]
 |some ob=>
  obtain ⟨zk,h1,h2⟩:=gK w a n x.block ob hb
  rw [h1]
  cases ob<;>first|(rw [show _=_ from h2])|(obtain ⟨f',rfl,_⟩:=h2;rfl)
variable {w:J'}
theorem yQ {a:z_} {n:Nat} {x:z_} (h:w.frozen? x=true):(w.freeze a n).frozen? x=true:=by
 unfold World.frozen? at h ⊢
 cases hb:w.heap[x.block]? with
 |none=>rw [hb] at h;cases h
 |some ob=>
  obtain ⟨zk,h1,h2⟩:=gK w a n x.block ob hb
  rw [hb] at h;rw [h1]
  cases ob<;>first|(cases h;done)|skip
  obtain ⟨f',rfl,h3,_⟩:=h2
  exact h3 x.off h
variable {x k:Nat}
theorem rv {v:M'} (h:w.cell? ⟨x,k,none⟩=some v):(w.freeze ⟨x,k,none⟩ 1).frozen? ⟨x,k,none⟩=true:=by
 obtain ⟨c,e,f,hb,_⟩:=dF h
 obtain ⟨zk,h1,f',rfl,_,h3⟩:=gK w ⟨x,k,none⟩ 1 x _ hb
 unfold World.frozen?
 simp only [h1]
 exact h3 rfl (by decide) k (C_ _) (Nat.lt_succ_self _)
variable {wl:J'}
theorem bI.freeze (h:bI wl w) (a:z_) (n:Nat):bI (wl.freeze a n) w:=by
 refine ⟨(eX _ _ _).trans h.size,fun b o o' h1 h2=> ?_, ?_, ?_,fun b o h1=> ?_⟩
 ·obtain ⟨p,hp⟩:∃p,wl.heap[b]?=some p:=⟨_,H_ (by have:=(cI h1);rw [eX] at this;exact this)⟩
  obtain ⟨zk,e1,e2⟩:=gK wl a n b p hp
  rw [e1] at h1;cases h1
  have:=h.obj b p o' hp h2
  cases p<;>first|(rw [show _=_ from e2];exact this)|skip
  obtain ⟨f',rfl,h3,_⟩:=e2
  cases this with
  |same=>exact .cut (C_ _) (fun _ _=>rfl) (fun k hk=>h3 k hk)
  |cut g1 g2 g3=>exact .cut g1 g2 (fun k h=>h3 k (g3 k h))
  |blind hb=>cases hb
 ·unfold World.freeze;split<;>exact h.os
 ·unfold World.freeze;split<;>exact h.out
 ·obtain ⟨p,hp⟩:∃p,wl.heap[b]?=some p:=⟨_,H_ (by have:=(cI h1);rw [eX] at this;exact this)⟩
  obtain ⟨zk,e1,e2⟩:=gK wl a n b p hp
  rw [e1] at h1;cases h1
  have:=h.ic b p hp
  cases p<;>first|(rw [show _=_ from e2];exact this)|(obtain ⟨f',rfl,_⟩:=e2;rfl)
theorem Shut.freeze {n:Nat} {U:J'} (h:Shut n U wl) (a:z_) (m:Nat):Shut n U (wl.freeze a m):=by
 refine ⟨by rw [eX];exact h.size,fun b o hb ho=> ?_⟩
 obtain ⟨p,hp⟩:∃p,wl.heap[b]?=some p:=⟨_,H_ (by have:=(cI ho);rw [eX] at this;exact this)⟩
 obtain ⟨zk,e1,e2⟩:=gK wl a m b p hp
 rw [e1] at ho;cases ho
 obtain ⟨tz,h1,h2⟩:=h.obj b p hb hp
 refine ⟨tz,h1, ?_⟩
 cases p<;>first|(rw [show _=_ from e2];exact h2)|skip
 obtain ⟨f',rfl,h3,_⟩:=e2
 cases h2 with
 |cells g=>exact .cells fun k hk=>h3 k (g k hk)
 |other _ g1 _ _=>cases g1
end Go.aC
namespace Go.aC.Of
open Go Go.Conc Go.Conc.Lib Go.ConcR Go.ConcR.Gen Go.aC Go.Proofs
open Go.RowKit hiding Hid
open Go.ConcN (upd upd_ne upd_same)
def oH (w:J') (c:Nat) (cs:Array M') (t:Q'):J':={w with heap:=w.heap.setIfInBounds c (.cells cs t)}
variable {w:J'} {cs:Array M'}
theorem IL {w₁:J'} {c:Nat} {cs':Array M'} {t:Q'} (hb:w.heap[c]?=some (.cells cs' t)) (hs:cs.size<=cs'.size) (hc:∀k,k<cs.size->cs'[k]?=cs[k]?) (h:bI w w₁):bI (oH w c cs t) w₁:=by
 have hlt:=(cI hb)
 refine ⟨by simp [oH,h.size],fun b o o' h1 h2=> ?_,h.os,h.out,fun b o h1=> ?_⟩
 ·simp only [oH,Y_] at h1
  by_cases e:c=b
  ·subst e
   rw [if_pos rfl,if_pos hlt] at h1
   cases h1
   have:=h.obj c _ o' hb h2
   cases this with
   |same=>exact .cut hs hc (fun _ q=>q)
   |cut g1 g2 g3=>exact .cut (D_ hs g1) (fun k hk=>(g2 k (by omega)).trans (hc k hk)) (fun k q=>g3 k q)
   |blind hb=>cases hb
  ·rw [if_neg e] at h1;exact h.obj b o o' h1 h2
 ·simp only [oH,Y_] at h1
  by_cases e:c=b
  ·subst e;rw [if_pos rfl,if_pos hlt] at h1;cases h1;rfl
  ·rw [if_neg e] at h1;exact h.ic b o h1
theorem Bm {c r:Nat} {t:Q'} (h:r≠c):(oH w c cs t).heap[r]?=w.heap[r]?:=by
 simp only [oH]
 rw [Array.getElem?_setIfInBounds_ne (Ne.symm h)]
theorem HY {c:Nat} {t:Q'} (h:c<w.heap.size):(oH w c cs t).heap[c]?=some (.cells cs t):=by simp [oH,h]
variable {b:Nat}
theorem cell_of_block {j:Nat} {t:Q'} {v:M'} (hb:w.heap[b]?=some (.cells cs t)) (hj:cs[j]?=some v):w.cell? ⟨b,j,none⟩=some v/\w.frozen? ⟨b,j,none⟩=false:=by
 constructor
 ·unfold World.cell?;simp only [hb];simpa using hj
 ·unfold World.frozen?;simp only [hb];simp
def pI (b N:Nat) (L:Nat->Os) (_:Nat->Prop) (ρ:Nat->aX) (n:Nat):Prop:=n=N/\0<N/\∀j,j≠0->(L j).ok b (ρ j)
theorem iS (b N:Nat) (L:Nat->Os):Il (pI b N L):=fun _ _ _ _ _ h ha=>⟨h.1,h.2.1,fun j hj=>Os.Em (h.2.2 j hj) (ha j hj)⟩
theorem Ax {N:Nat} {rel:Nat->Prop} {ρ:Nat->aX} (hN:0<N) (h:Alone rel ρ N) (h0:∀j,(ρ j).isSelf=true->j=0):pI b N (fun _=>.gone) rel ρ N:=by
 refine ⟨rfl,hN,fun j hj=> ?_⟩
 rcases h.2 j with q|⟨d,q⟩|q
 ·exact .inr q
 ·rw [q];exact .inl rfl
 ·exact absurd (h0 j q) hj
def oO (bt:Nat) (l:Loc):Prop:=l=.cell ⟨bt,0,none⟩
variable {C:cS} {i bt:Nat}
theorem KS.hire {n:Nat} {S:Loc->Prop} (h:KS C i bt):KS (C.hire n S (fun _=>False)) i bt:=⟨h.on,.inl h.ts,h.tn⟩
section
variable {N:Nat} {L:Nat->Os} {Post:M'->J'->Prop} {k:Nat} {wl:J'} {g g':O'}
variable {x:Nat}
theorem QX (hN:0<N) (hL:Lay C wl) (hP:BB C L) (hD:Apart L) {kk:Nat} (ht:wl.cell? ⟨bt,0,none⟩=some (.chan (some x)))
 (gv:wl.heap[x]?=some (.chan 0 #[] false kk kk false)) (hxn:∀j u,j≠0->(L j).od=some u->u.x≠x) (hrun:g.status=.running) (hsp:∀w,stepG p_ true g w=.spawn g' (born p_ (call68 b bt)) w #[])
 (h:Lay (C.hire N (oO bt) (fun _=>False)) (wl.freeze ⟨bt,0,none⟩ 1)->BB (C.hire N (oO bt) (fun _=>False)) (upd L N (.live ⟨bt,x,0⟩))->Apart (upd L N (.live ⟨bt,x,0⟩))->
  Can p_ (C.hire N (oO bt) (fun _=>False)) b 0 Post k (pI b (N+1) (upd L N (.live ⟨bt,x,0⟩))) (wl.freeze ⟨bt,0,none⟩ 1) g'):Can p_ C b 0 Post (k+1) (pI b N L) wl g:=by
 have vis:∀y j v,wl.cell? ⟨y,j,none⟩=some v->¬C.Sh (.cell ⟨y,j,none⟩)/\¬C.Gr (.cell ⟨y,j,none⟩)/\∀g,¬C.Pv g (.cell ⟨y,j,none⟩):=fun y j v hv=>
  ⟨fun q=>absurd (hv.symm.trans (hL.cut.hid y j (.inl q)).2) (by simp),fun q=>absurd (hv.symm.trans (hL.cut.hid y j (.inr (.inl q))).2) (by simp),fun g=>hP.no g _⟩
 have Zl:KS (C.hire N (oO bt) (fun _=>False)) N bt:=⟨hP.on,.inr ⟨rfl,rfl⟩,(vis _ _ _ ht).1⟩
 have hD':Apart (upd L N (.live ⟨bt,x,0⟩)):=fun i j u v hi hj vG h1 h2=>by
  by_cases ei:i=N
  ·subst ei
   rw [upd_same] at h1;cases h1
   rw [upd_ne _ _ (Ne.symm vG)] at h2
   exact Ne.symm (hxn j v hj h2)
  ·rw [upd_ne _ _ ei] at h1
   by_cases ej:j=N
   ·subst ej
    rw [upd_same] at h2;cases h2
    exact hxn i u hi h1
   ·rw [upd_ne _ _ ej] at h2
    exact hD i j u v hi hj vG h1 h2
 have hP':BB (C.hire N (oO bt) (fun _=>False)) (upd L N (.live ⟨bt,x,0⟩)):=by
  refine ⟨hP.on,fun g l q=>q.elim (hP.no g l) (fun q=>q.2),fun j u hj hu=> ?_⟩
  by_cases e:j=N
  ·subst e;rw [upd_same] at hu;cases hu;exact Zl
  ·rw [upd_ne _ _ e] at hu;exact (hP.ks j u hj hu).hire
 have fJ:Lay (C.hire N (oO bt) (fun _=>False)) (wl.freeze ⟨bt,0,none⟩ 1):=by
  refine ⟨⟨fun y j hy=> ?_,fun y j hy=> ?_⟩,fun g r=>⟨fun q=>q.elim (hP.no g _) (fun q=>q.2),fun q=>q.elim (hL.no g r).2 (fun q=>by cases q.2)⟩⟩
  ·have pg:bS C y j:=by
    rcases hy with q|q|⟨g,q|q⟩
    ·exact .inl q
    ·exact .inr (.inl q)
    ·exact .inr (.inr ⟨g,q⟩)
    ·exact q.2.elim
   obtain ⟨h1,h2⟩:=hL.cut.hid y j pg
   exact ⟨by rw [eX];exact h1,by rw [Dk];exact h2⟩
  ·rw [eX]
   obtain ⟨g,q|⟨_,q⟩⟩:=hy
   ·obtain ⟨h1,h2⟩:=hL.cut.gd y j ⟨g,q⟩
    exact ⟨h1,yQ h2⟩
   ·cases q
    exact ⟨lC ht,rv ht⟩
 have hkw:∀w,bI wl w->(C.on->Live b 0 w)->KO b bt x w:=fun w hw hl=>⟨hw.cell ht,hl hP.on⟩
 refine Can.UJ (iS b N L) hL (N:=N) (S:=oO bt) (child:=born p_ (call68 b bt)) (r:=.seat (.recv x ZQ true) (mZ b bt x 0)) (aK:=wl.freeze ⟨bt,0,none⟩ 1) (fun rel ρ n hR=>hR.1) hrun hsp
  (fun w hw l hl=> ?_) (fun w hw Ni=> ?_) ⟨rfl,rfl,rfl,rfl,rfl,by simp⟩ (fun p h' he=> ?_) (fun rel ρ n hR p' h' he j p SL hj hp hc=> ?_) (fun w hw=>hw.freeze _ _) (fun _ _ hs=>hs.freeze _ _) (fun rel ρ n hR=> ?_) (h fJ hP' hD')
 ·rcases hl with rfl
  exact ⟨.inl ⟨bt,0,rfl,lC (hw.cell ht)⟩,vis _ _ _ ht⟩
 ·obtain ⟨n,hn⟩:=G5 (b:=b) (x:=x) Zl
  refine ⟨n+1,fun w w₁ g r=>xB Zl w w₁ g r,.inl ⟨n,rfl, ?_⟩⟩
  rw [RX (by omega)]
  exact hn w (hkw w hw Ni)
 ·simp only [aX.seat.injEq] at he
  obtain ⟨rfl,_⟩:=he
  exact ⟨kk,gv⟩
 ·simp only [aX.seat.injEq] at he
  obtain ⟨rfl,_⟩:=he
  have cK:=hR.2.2 j hj
  rw [hp] at cK
  obtain ⟨u,hu,rfl,_⟩:=nJ cK
  rfl
 ·obtain ⟨rfl,h0,h1⟩:=hR
  refine ⟨rfl,by omega,fun j hj=> ?_⟩
  by_cases e:j=n
  ·subst e;rw [upd_same,upd_same];rfl
  ·rw [upd_ne _ _ e,upd_ne _ _ e,upd_ne _ _ hj];exact h1 j hj
end
def call71 (b hv ev:Nat):Deferred:={target:=.fn (.func 71) #[.pointer (some ⟨b,0,none⟩),.pointer (some ⟨hv,0,none⟩),.pointer (some ⟨ev,0,none⟩)],args:=#[]}
noncomputable def xV:Code:=f71.body.getD .skip
noncomputable def Oo:Array Oper:=match xV with| .seq _ (.region _ ops _)=>ops|_=>#[]
theorem Dp (b hv ev:Nat) (w:J'):stepG p_ false (born p_ (call71 b hv ev)) w=
 .go (G ((baseD 71).at ⟨#[.pointer (some ⟨b,0,none⟩),.pointer (some ⟨hv,0,none⟩),.pointer (some ⟨ev,0,none⟩)]++F_ 3 I',[]⟩ [.code xV]) [bot]) w #[]:=by
 simp [born,call71,stepG,unwind,callDeferred,invoke,callFunc,func71,f71,seen,GStep.after,G,Frame.enter,Frame.at,baseD,bot,xV]
theorem Ce (F:Array M'):QuitsD p_ 2 0 (G {(baseD 71).at ⟨F,[]⟩ [] with mode:=.returning} [bot]):=by
 refine QuitsD.ctl (g':=G bot []) rfl (fun w=> ?_) ?_
 ·simp [G,stepG,unwind,doReturn,results,Frame.at,baseD,bot,func71,f71,seen,GStep.after,goexitEntry]
 refine QuitsD.ctl (g':={G bot [] with status:=.finished}) rfl (fun w=> ?_) ⟨rfl,rfl⟩
 simp [G,stepG,unwind,bot,goexitEntry,Frame.catches]
 rfl
theorem IJ (b9:C.on) (F:Array M'):∃n,∀w,Live b 0 w->Goes p_ false (RB C b 0 i) (DR C i) (AtR0 p_ C b 0 i) n (G ((baseD 71).at ⟨F,[dcall 69 #[.pointer (some ⟨b,0,none⟩)]]⟩ [.inRegion Oo []]) [bot]) w:=by
 have W:=wkR b9 b 0 i
 simp only [Oo,xV,f71,A_]
 refine W.ctl rfl (fun _=>stepG_region_end) ?_
 refine W.ctl rfl (fun _=>stepG_end) ?_
 refine W.ctl rfl (fun _=>stepG_unwind_enter rfl Tryz.oN.f_done (nm_done Tryz.link) rfl) ?_
 exact Di Tryz.oN b9 (b:=b) (o:=0) (i:=i) (c:={(baseD 71).at ⟨F,[]⟩ [] with mode:=.returning}) (cs:=[bot]) rfl (Ce _)
section
variable {N N0 h:Nat} {L:Nat->Of.Os} {us:List Od} {A:Ha} {S:Hs} {va vt:M'} {Post:M'->J'->Prop} {wl:J'} {gm:O'} {ae:O'->J'->Prop}
variable {evs:List Ev} {ea:Option z_} {ec:Nat}
theorem Fc (B:eh p_ C b 0 ae (Fs p_ C gm) h) (hL:Lay C wl) (H:cQ A va vt S wl) (K:bN C A N0 h us L wl) (hT:aU A wl) {hv ev:Nat}
 (UQ:wl.cell? ⟨hv,0,none⟩=some (.pointer (some ⟨A.hb,0,none⟩))) (ZB:wl.cell? ⟨ev,0,none⟩=some (.slice ea evs.length ec)) (uO:Dt A ea evs) (hn:evs.length<=1000) (cK:Dr A.P (S,us) evs) (hm:(eC A.P (S,us) evs).2.length<=999) (J7:(eC A.P (S,us) evs).1.cg=[])
 {B₁:Nat} (hB:N<=B₁)
 (hc:∀aK IX Io,Lay C aK->cQ A IX Io {(eC A.P (S,us) evs).1 with cg:=(eC A.P (S,us) evs).2.map (·.k)} aK->aU A aK->Can p_ C b 0 Post 0 (db B₁) aK gm):
 ay p_ C b 0 ae (Fs p_ C gm) Post h (aY b N h L) wl (born p_ (call71 b hv ev)):=by
 have hS:=aH b N h L
 refine ay.ctl B hS hL rfl (Dp b hv ev) ?_
 have VJ:(#[.pointer (some ⟨b,0,none⟩),.pointer (some ⟨hv,0,none⟩),.pointer (some ⟨ev,0,none⟩)]++F_ 3 I':Array M')=#[.pointer (some ⟨b,0,none⟩),.pointer (some ⟨hv,0,none⟩),.pointer (some ⟨ev,0,none⟩),I',I',I']:=by kernel_rfl
 rw [VJ]
 simp only [xV,f71,A_]
 iterate 2 refine B.n ?_
 refine ay.ctl B hS hL rfl (fun _=>stepG_defer rfl rfl (by k_ne) rfl) ?_
 walk_nrm
 iterate 2 refine B.n ?_
 refine B.o (.pointer (some ⟨A.hb,0,none⟩)) (fun T d=> ?_) ?_
 ·have h0:(wl.re T d).cell? ⟨hv,0,none⟩=some (.pointer (some ⟨A.hb,0,none⟩)):=UQ
  go_simp
 walk_nrm
 refine B.o (.slice ea evs.length ec) (fun T d=> ?_) ?_
 ·have h0:(wl.re T d).cell? ⟨ev,0,none⟩=some (.slice ea evs.length ec):=ZB
  go_simp
 walk_nrm
 refine ay.ctl B hS hL rfl (fun _=>bY (vs:=#[.pointer (some ⟨A.hb,0,none⟩),.slice ea evs.length ec]) rfl rfl (by k_ne) rfl func72 rfl rfl (by kernel_rfl)) ?_
 rw [NI]
 refine work B hL H K hT uO hn cK hm J7 fun w2 L2 Sl SY du H2 K2 T2=> ?_
 walk_nrm
 refine ay.leaves B du (fun w hw Ni=> ?_) (B₁:=B₁) (fun rel ρ n hR=>by rw [hR.1];exact hB) (fun rel ρ n hR j hj qI=> ?_) (hc w2 Sl SY du H2 T2)
 ·obtain ⟨n,hn⟩:=IJ (b:=b) (i:=h) K2.fo.on _
  exact ⟨n,hn w (Ni K2.fo.on)⟩
 ·have h1:=hR.2 j hj qI
  cases hs:L2 j with
  |gone=>rw [hs] at h1;exact h1
  |live u=>
   obtain ⟨i,h2,h3,_⟩:=K2.Ip j u hj (by rw [hs];rfl)
   omega
end
end Go.aC.Of
namespace Go.aC.Of
section
open Go Go.Conc Go.Conc.Lib Go.ConcR Go.ConcR.Gen Go.aC Go.Proofs
open Go.RowKit hiding Hid
open Go.ConcN (upd upd_ne upd_same)
structure Raw where
 kind:ByteArray
 who:Int
 word:Int
def Raw.val (r:Raw):M':=BM r.kind r.who r.word
def dw (L O P:Int):Bool:=decide (1<=L)&&decide (L<=6)&&(decide (1<=O)&&decide (O<=4))&&(decide (1<=P)&&decide (P<=60))
def bu (r:Raw) (m:Int):Bool:=
 if m<1 then false else if 4<m then false else if r.who<1 then false else
 if r.kind=⟨#[114,105,110,103]⟩ then decide (r.who<=99)&&(decide (0<=r.word)&&decide (r.word<=9))
 else if r.kind=⟨#[104,97,110,103]⟩ then decide (r.who<=99)&&(r.word==0)
 else if r.kind=⟨#[97,110,115,119,101,114]⟩\/r.kind=⟨#[114,101,116,117,114,110]⟩ then decide (r.who<=m)&&(r.word==0)
 else if r.kind=⟨#[119,97,105,116]⟩ then decide (r.who<=60)&&(r.word==0)
 else false
theorem uX (w:J') (L O P:Int):Calls p_ 65 #[.agg #[.int .i64 L,.int .i64 O,.int .i64 P]] w fun e w'=>e=.returned (.bool (dw L O P))/\w'=w.alloc (.cells #[.int .i64 L,.int .i64 O,.int .i64 P] 28):=by
 have h0:(w.alloc (.cells #[.int .i64 L,.int .i64 O,.int .i64 P] 28)).cell? ⟨w.heap.size,0,none⟩=some (.int .i64 L):=bJ rfl
 have h1:(w.alloc (.cells #[.int .i64 L,.int .i64 O,.int .i64 P] 28)).cell? ⟨w.heap.size,1,none⟩=some (.int .i64 O):=bJ rfl
 have h2:(w.alloc (.cells #[.int .i64 L,.int .i64 O,.int .i64 P] 28)).cell? ⟨w.heap.size,2,none⟩=some (.int .i64 P):=bJ rfl
 go_enter func65,ntmps65
 go_wp2_with fail
 all_goals go_ret
 all_goals (refine ⟨?_,rfl⟩;simp [dw, *];try omega)
theorem xP (w:J') (r:Raw) (m:Int):Calls p_ 66 #[r.val,.int .i64 m] w fun e w'=>e=.returned (.bool (bu r m))/\w'=w.alloc (.cells #[.string r.kind,.int .i64 r.who,.int .i64 r.word] 55):=by
 obtain ⟨k,who,word⟩:=r
 show Calls p_ 66 #[.agg #[.string k,.int .i64 who,.int .i64 word],.int .i64 m] w _
 have h0:(w.alloc (.cells #[.string k,.int .i64 who,.int .i64 word] 55)).cell? ⟨w.heap.size,0,none⟩=some (.string k):=bJ rfl
 have h1:(w.alloc (.cells #[.string k,.int .i64 who,.int .i64 word] 55)).cell? ⟨w.heap.size,1,none⟩=some (.int .i64 who):=bJ rfl
 have h2:(w.alloc (.cells #[.string k,.int .i64 who,.int .i64 word] 55)).cell? ⟨w.heap.size,2,none⟩=some (.int .i64 word):=bJ rfl
 have xz:bu ⟨k,who,word⟩ m=bu ⟨k,who,word⟩ m:=rfl
 go_enter func66,ntmps66
 by_cases tV:k=⟨#[114,105,110,103]⟩
 ·subst tV
  go_wp2_with fail
  all_goals go_ret
  all_goals refine ⟨?_,rfl⟩
  all_goals first
   |contradiction
   |(have q1:(m<1)=False:=eq_false (by omega);have q2:(4<m)=False:=eq_false (by omega);have q3:(who<1)=False:=eq_false (by omega);simp [bu,q1,q2,q3, *];done)
   |(simp [bu, *];done)
   |(simp [bu, *];omega)
 by_cases tW:k=⟨#[104,97,110,103]⟩
 ·subst tW
  go_wp2_with fail
  all_goals go_ret
  all_goals refine ⟨?_,rfl⟩
  all_goals first
   |contradiction
   |(have q1:(m<1)=False:=eq_false (by omega);have q2:(4<m)=False:=eq_false (by omega);have q3:(who<1)=False:=eq_false (by omega);simp [bu,q1,q2,q3, *];done)
   |(simp [bu, *];done)
   |(simp [bu, *];omega)
 by_cases mM:k=⟨#[97,110,115,119,101,114]⟩
 ·subst mM
  go_wp2_with fail
  all_goals go_ret
  all_goals refine ⟨?_,rfl⟩
  all_goals first
   |contradiction
   |(have q1:(m<1)=False:=eq_false (by omega);have q2:(4<m)=False:=eq_false (by omega);have q3:(who<1)=False:=eq_false (by omega);simp [bu,q1,q2,q3, *];done)
   |(simp [bu, *];done)
   |(simp [bu, *];omega)
 by_cases mL:k=⟨#[114,101,116,117,114,110]⟩
 ·subst mL
  go_wp2_with fail
  all_goals go_ret
  all_goals refine ⟨?_,rfl⟩
  all_goals first
   |contradiction
   |(have q1:(m<1)=False:=eq_false (by omega);have q2:(4<m)=False:=eq_false (by omega);have q3:(who<1)=False:=eq_false (by omega);simp [bu,q1,q2,q3, *];done)
   |(simp [bu, *];done)
   |(simp [bu, *];omega)
 by_cases tU:k=⟨#[119,97,105,116]⟩
 ·subst tU
  go_wp2_with fail
  all_goals go_ret
  all_goals refine ⟨?_,rfl⟩
  all_goals first
   |contradiction
   |(have q1:(m<1)=False:=eq_false (by omega);have q2:(4<m)=False:=eq_false (by omega);have q3:(who<1)=False:=eq_false (by omega);simp [bu,q1,q2,q3, *];done)
   |(simp [bu, *];done)
   |(simp [bu, *];omega)
 have Qj:(k.toList==[114,105,110,103])=false:=by rw [<-(show (⟨#[114,105,110,103]⟩:ByteArray).toList=[114,105,110,103] from ByteArray.toList_eq ⟨#[114,105,110,103]⟩)];exact (Lib.bytes_beq_false_iff k ⟨#[114,105,110,103]⟩).2 tV
 have Qk:(k.toList==[104,97,110,103])=false:=by rw [<-(show (⟨#[104,97,110,103]⟩:ByteArray).toList=[104,97,110,103] from ByteArray.toList_eq ⟨#[104,97,110,103]⟩)];exact (Lib.bytes_beq_false_iff k ⟨#[104,97,110,103]⟩).2 tW
 have JW:(k.toList==[97,110,115,119,101,114])=false:=by rw [<-(show (⟨#[97,110,115,119,101,114]⟩:ByteArray).toList=[97,110,115,119,101,114] from ByteArray.toList_eq ⟨#[97,110,115,119,101,114]⟩)];exact (Lib.bytes_beq_false_iff k ⟨#[97,110,115,119,101,114]⟩).2 mM
 have JV:(k.toList==[114,101,116,117,114,110])=false:=by rw [<-(show (⟨#[114,101,116,117,114,110]⟩:ByteArray).toList=[114,101,116,117,114,110] from ByteArray.toList_eq ⟨#[114,101,116,117,114,110]⟩)];exact (Lib.bytes_beq_false_iff k ⟨#[114,101,116,117,114,110]⟩).2 mL
 have Qi:(k.toList==[119,97,105,116])=false:=by rw [<-(show (⟨#[119,97,105,116]⟩:ByteArray).toList=[119,97,105,116] from ByteArray.toList_eq ⟨#[119,97,105,116]⟩)];exact (Lib.bytes_beq_false_iff k ⟨#[119,97,105,116]⟩).2 tU
 go_wp2_with fail
 all_goals go_ret
 all_goals refine ⟨?_,rfl⟩
 all_goals first
  |contradiction
  |(have q1:(m<1)=False:=eq_false (by omega);have q2:(4<m)=False:=eq_false (by omega);have q3:(who<1)=False:=eq_false (by omega);simp [bu,q1,q2,q3, *];done)
  |(simp [bu, *];done)
  |(simp [bu, *];omega)
noncomputable def bz:Code:=f45.body.getD .skip
def fF (w:J') (ea:Option z_) (rs:List Raw):Prop:=rs=[]\/∃eb cs t f,ea=some ⟨eb,0,none⟩/\w.heap[eb]?=some (Obj.cells cs t f)/\∀k (hk:k<rs.length),cs[k * 3]?=some (.string (rs[k]).kind)/\cs[k * 3+1]?=some (.int .i64 (rs[k]).who)/\cs[k * 3+2]?=some (.int .i64 (rs[k]).word)
variable {w:J'} {ea:Option z_}
theorem fF.keep {w':J'} {rs:List Raw} (h:fF w ea rs) (k:dI w w'):fF w' ea rs:=by
 rcases h with h|⟨eb,cs,t,f,h1,h2,h3⟩
 ·exact .inl h
 ·exact .inr ⟨eb,cs,t,f,h1,k.blk _ _ h2,h3⟩
section
variable {C:cS} {b o:Nat} {Post:M'->J'->Prop} {Bd:Nat} {wl:J'} {aI:Y'} {aS:Act} {av:Array Oper} {aN:Nat} {ak:List Nat} {aV:List Item} {cs:List Y'} {L O P:Int} {ec:Nat} {rs:List Raw}
theorem P1 (hL:Lay C wl) (hlen:rs.length<=1048576)
 (oF:(dw L O P&&decide (rs.length<=60))=false->∀aK,Lay C aK->dI wl aK->Can p_ C b o Post 0 (db Bd) aK (G (aI.at (aS.put ((av[aN]?).bind (·.dst)) (.pointer none)) (.inRegion av ak::aV)) cs))
 (pr:dw L O P=true->rs.length<=60->∀aK g1 g2 (dB cZ z12 de dn dm dk dj:M'),Lay C aK->dI wl aK->aK.heap[g1]?=some (.cells #[.int .i64 L,.int .i64 O,.int .i64 P] 28 (0,0))->aK.heap[g2]?=some (.cells #[.slice ea rs.length ec] 30 (0,0))->wl.heap.size<=g1->wl.heap.size<=g2->g1≠g2->
  Can p_ C b o Post 0 (db Bd) aK (G ((base 45).at ⟨#[.agg #[.int .i64 L,.int .i64 O,.int .i64 P],.slice ea rs.length ec,.pointer (some ⟨g1,0,none⟩),.pointer (some ⟨g2,0,none⟩),.pointer none,I',I',I',I',I',dB,cZ,z12,de,dn,dm,dk,dj,I',I',I',I',I',I',I',I',I',I',I',I',I',I',I',I',I',I',I',I',I',I',I',I',I',I',I',I',I',I',I',I',I',I',I',I',I',I',I',I',I',I',I',I',I',I',I',I',I',I',I',I',I',I',I'],[]⟩ [.code (az 2 bz)]) (aI.at aS (.inRegion av (aN::ak)::aV)::cs))):
 Can p_ C b o Post 0 (db Bd) wl (G ((base 45).at ⟨#[.agg #[.int .i64 L,.int .i64 O,.int .i64 P],.slice ea rs.length ec]++F_ 71 I',[]⟩ [.code bz]) (aI.at aS (.inRegion av (aN::ak)::aV)::cs)):=by
 have hS:=cT Bd
 have VJ:(#[.agg #[.int .i64 L,.int .i64 O,.int .i64 P],.slice ea rs.length ec]++F_ 71 I':Array M')=#[.agg #[.int .i64 L,.int .i64 O,.int .i64 P],.slice ea rs.length ec,I',I',I',I',I',I',I',I',I',I',I',I',I',I',I',I',I',I',I',I',I',I',I',I',I',I',I',I',I',I',I',I',I',I',I',I',I',I',I',I',I',I',I',I',I',I',I',I',I',I',I',I',I',I',I',I',I',I',I',I',I',I',I',I',I',I',I',I',I',I',I']:=by kernel_rfl
 rw [VJ]
 have e1:bz=.seq (ai 0 bz) (.seq (ai 1 bz) (az 2 bz)):=by kernel_rfl
 rw [e1]
 refine hS.s hL ?_
 refine Can.cY pA hS hL (aF (by kernel_rfl) rfl rfl ⟨_,func45⟩) ?_
 intro T d W hW Bh hB
 have hz:f_ (W.heap.size=wl.heap.size):=aa (by rw [hW.out];rfl)
 have Gm:=aa oF
 have EO:=aa pr
 have qK:=aa hL
 clear oF pr hL
 simp only [ai,bz,f45,A_]
 go_wp2_with fail
 have hB:=hB.out
 subst hB
 intro hc
 have k0:dI wl W:=by rw [hW.out];exact (dI.refl wl).re T d
 have k1:dI wl ((W.alloc (.cells #[.int .i64 L,.int .i64 O,.int .i64 P] 28)).alloc (.cells #[.slice ea rs.length ec] 30)):=(k0.alloc _).alloc _
 have x1:((W.alloc (.cells #[.int .i64 L,.int .i64 O,.int .i64 P] 28)).alloc (.cells #[.slice ea rs.length ec] 30)).heap[W.heap.size]?=some (.cells #[.int .i64 L,.int .i64 O,.int .i64 P] 28 (0,0)):=((dI.refl _).alloc _).blk _ _ (Z' W _)
 have x2:((W.alloc (.cells #[.int .i64 L,.int .i64 O,.int .i64 P] 28)).alloc (.cells #[.slice ea rs.length ec] 30)).heap[W.heap.size+1]?=some (.cells #[.slice ea rs.length ec] 30 (0,0)):=by
  have:=Z' (W.alloc (.cells #[.int .i64 L,.int .i64 O,.int .i64 P] 28)) (.cells #[.slice ea rs.length ec] 30)
  rw [World.size_alloc] at this;exact this
 generalize (W.alloc (.cells #[.int .i64 L,.int .i64 O,.int .i64 P] 28)).alloc (.cells #[.slice ea rs.length ec] 30)=w1 at *
 have nU:Lay C w1:=⟨hc,qK.out.no⟩
 have BI:wl.heap.size<=W.heap.size:=Nat.le_of_eq hz.out.symm
 have Nu:wl.heap.size<=W.heap.size+1:=Nat.le_succ_of_le BI
 have mS:W.heap.size≠W.heap.size+1:=by omega
 generalize W.heap.size+1=g2 at *
 generalize W.heap.size=g1 at *
 clear hW hz k0 hc
 refine hS.s nU ?_
 refine Can.cY pA hS nU (aF (by kernel_rfl) rfl rfl ⟨_,func45⟩) ?_
 intro T d W hW Bh hB
 have k2:dI wl W:=by rw [hW.out];exact k1.re T d
 have y1:W.heap[g1]?=some (.cells #[.int .i64 L,.int .i64 O,.int .i64 P] 28 (0,0)):=by rw [hW.out];exact x1
 have y2:W.heap[g2]?=some (.cells #[.slice ea rs.length ec] 30 (0,0)):=by rw [hW.out];exact x2
 have c1:W.cell? ⟨g1,0,none⟩=some (.int .i64 L):=by rw [aB y1];rfl
 have c2:W.cell? ⟨g1,1,none⟩=some (.int .i64 O):=by rw [aB y1];rfl
 have c3:W.cell? ⟨g1,2,none⟩=some (.int .i64 P):=by rw [aB y1];rfl
 have k2:=aa k2
 have y1:=aa y1
 have y2:=aa y2
 clear hW k1 x1 x2 nU
 have hov:=aa (uX W L O P)
 simp only [ai,bz,f45,A_]
 go_wp2_with fail
 refine hov.out.mono ?_
 rintro e w2 ⟨rfl,wh⟩
 have k3:f_ (dI wl w2):=by rw [wh];exact k2.out.alloc _
 have v1:f_ (w2.heap[g1]?=some (.cells #[.int .i64 L,.int .i64 O,.int .i64 P] 28 (0,0))):=by rw [wh];exact ((dI.refl W).alloc _).blk _ _ y1.out
 have v2:f_ (w2.heap[g2]?=some (.cells #[.slice ea rs.length ec] 30 (0,0))):=by rw [wh];exact ((dI.refl W).alloc _).blk _ _ y2.out
 have c4:w2.cell? ⟨g2,0,none⟩=some (.slice ea rs.length ec):=by rw [aB v2.out];rfl
 clear wh k2 y1 y2 c1 c2 c3 hov
 cases cK:dw L O P with
 |false=>
  go_wp2_with fail
  have hB:=hB.out
  subst hB
  intro hc todo
  have du:Lay C w2:=⟨hc,qK.out.no⟩
  refine Can.ctl hS du rfl (fun _=>aZ rfl rfl func45 rfl) ?_
  exact Gm.out (by rw [cK];rfl) w2 du k3.out
 |true=>
  by_cases OZ:rs.length<=60
  ·have RF:¬(60<(rs.length:Int)):=by omega
   go_wp2_with fail
   have hB:=hB.out
   subst hB
   intro hc
   have du:Lay C w2:=⟨hc,qK.out.no⟩
   exact EO.out cK OZ w2 g1 g2 _ _ _ _ _ _ _ _ du k3.out v1.out v2.out BI Nu mS
  ·have RF:60<(rs.length:Int):=by omega
   go_wp2_with fail
   have hB:=hB.out
   subst hB
   intro hc todo
   have du:Lay C w2:=⟨hc,qK.out.no⟩
   refine Can.ctl hS du rfl (fun _=>aZ rfl rfl func45 rfl) ?_
   exact Gm.out (by rw [cK];simp [OZ]) w2 du k3.out
end
section
variable {C:cS} {b o:Nat} {Post:M'->J'->Prop} {Bd:Nat} {wl:J'} {aI:Y'} {aS:Act} {av:Array Oper} {aN:Nat} {ak:List Nat} {aV:List Item} {cs:List Y'} {L O P:Int} {ec:Nat} {rs:List Raw} {g1 g2:Nat}
theorem PZ (hL:Lay C wl) (hlen:rs.length<=60) (bR:fF wl ea rs) (x1:wl.heap[g1]?=some (.cells #[.int .i64 L,.int .i64 O,.int .i64 P] 28 (0,0))) (x2:wl.heap[g2]?=some (.cells #[.slice ea rs.length ec] 30 (0,0))) {dB cZ z12 de dn dm dk dj:M'}
 (oF:rs.all (fun r=>bu r O)=false->∀aK,Lay C aK->dI wl aK->Can p_ C b o Post 0 (db Bd) aK (G (aI.at (aS.put ((av[aN]?).bind (·.dst)) (.pointer none)) (.inRegion av ak::aV)) cs))
 (pr:rs.all (fun r=>bu r O)=true->∀aK (z6 dB cZ z12 de dn dm dk dj dA dz z20 z21 z22 z23 z24 z25 z26 dD z28 dC:M'),Lay C aK->dI wl aK->Can p_ C b o Post 0 (db Bd) aK (G ((base 45).at ⟨#[.agg #[.int .i64 L,.int .i64 O,.int .i64 P],.slice ea rs.length ec,.pointer (some ⟨g1,0,none⟩),.pointer (some ⟨g2,0,none⟩),.pointer none,I',z6,I',I',I',dB,cZ,z12,de,dn,dm,dk,dj,dA,dz,z20,z21,z22,z23,z24,z25,z26,dD,z28,dC,I',I',I',I',I',I',I',I',I',I',I',I',I',I',I',I',I',I',I',I',I',I',I',I',I',I',I',I',I',I',I',I',I',I',I',I',I',I',I',I',I',I',I'],[]⟩ [.code (az 3 bz)]) (aI.at aS (.inRegion av (aN::ak)::aV)::cs))):
 Can p_ C b o Post 0 (db Bd) wl (G ((base 45).at ⟨#[.agg #[.int .i64 L,.int .i64 O,.int .i64 P],.slice ea rs.length ec,.pointer (some ⟨g1,0,none⟩),.pointer (some ⟨g2,0,none⟩),.pointer none,I',I',I',I',I',dB,cZ,z12,de,dn,dm,dk,dj,I',I',I',I',I',I',I',I',I',I',I',I',I',I',I',I',I',I',I',I',I',I',I',I',I',I',I',I',I',I',I',I',I',I',I',I',I',I',I',I',I',I',I',I',I',I',I',I',I',I',I',I',I',I',I'],[]⟩ [.code (az 2 bz)]) (aI.at aS (.inRegion av (aN::ak)::aV)::cs)):=by
 have hS:=cT Bd
 have e1:az 2 bz=.seq (ai 2 bz) (az 3 bz):=by kernel_rfl
 rw [e1]
 refine hS.s hL ?_
 refine Can.cY pA hS hL (aF (by kernel_rfl) rfl rfl ⟨_,func45⟩) ?_
 intro T d W hW Bh hB
 have Gm:=aa oF
 have EO:=aa pr
 have qK:=aa hL
 have k0:f_ (dI wl W):=by rw [hW.out];exact (dI.refl wl).re T d
 have y1:f_ (W.heap[g1]?=some (.cells #[.int .i64 L,.int .i64 O,.int .i64 P] 28 (0,0))):=by rw [hW.out];exact x1
 have y2:W.heap[g2]?=some (.cells #[.slice ea rs.length ec] 30 (0,0)):=by rw [hW.out];exact x2
 have c4:W.cell? ⟨g2,0,none⟩=some (.slice ea rs.length ec):=by rw [aB y2];rfl
 have LZ:f_ (fF W ea rs):=bR.keep k0.out
 clear oF pr hL x1 x2 bR y2 hW
 simp only [ai,bz,f45,A_]
 go_wp2_with fail
 have kk:f_ (dI W W):=dI.refl W
 clear c4
 go_loopw [20,4] (fun i p wr=>∃k:Nat,k<=rs.length/\i=.int .i64 k/\p=.pointer none/\f_ (∀j (hj:j<rs.length),j<k->bu rs[j] O=true)/\f_ (dI W wr)) (fun i _ _=>rs.length - (intOf i).toNat)
 case atStart=>exact ⟨0,Nat.zero_le _,rfl,rfl,aa (fun j hj h0=>by omega),kk⟩
 case round=>
  obtain ⟨k,hk,rfl,rfl,hT,WM⟩:=hrel
  by_cases hlt:k<rs.length
  ·have gJ:(k:Int)<(rs.length:Int):=by omega
   obtain ⟨eb,WY,et,ef,rfl,yc,hcs⟩:=LZ.out.resolve_left (fun e=>by rw [e] at hlt;simp at hlt)
   have oJ:=WM.out.blk _ _ yc
   obtain ⟨d1,d2,d3⟩:=hcs k hlt
   have j1:wr.cell? ⟨eb,k * 3,none⟩=some (.string (rs[k]).kind):=(aB oJ).trans d1
   have j2:wr.cell? ⟨eb,k * 3+1,none⟩=some (.int .i64 (rs[k]).who):=(aB oJ).trans d2
   have j3:wr.cell? ⟨eb,k * 3+2,none⟩=some (.int .i64 (rs[k]).word):=(aB oJ).trans d3
   obtain ⟨V,hV⟩:∃V,f_ (V=wr.alloc (.cells #[.string (rs[k]).kind,.int .i64 (rs[k]).who,.int .i64 (rs[k]).word] 55)):=⟨_,aa rfl⟩
   have kV:f_ (dI W V):=by rw [hV.out];exact WM.out.alloc _
   have m1:V.cell? ⟨g1,1,none⟩=some (.int .i64 O):=by rw [aB (kV.out.blk _ _ y1.out)];rfl
   have m2:V.cell? ⟨wr.heap.size,0,none⟩=some (.string (rs[k]).kind):=by rw [hV.out];exact bJ rfl
   have m3:V.cell? ⟨wr.heap.size,1,none⟩=some (.int .i64 (rs[k]).who):=by rw [hV.out];exact bJ rfl
   have m4:V.cell? ⟨wr.heap.size,2,none⟩=some (.int .i64 (rs[k]).word):=by rw [hV.out];exact bJ rfl
   have xG:=aa (xP V rs[k] O)
   clear d1 d2 d3 oJ hcs yc
   have YG:f_ (∀q,rs[k]=q->bu rs[k] O=bu q O):=fun q e=>by rw [e]
   generalize QF:rs[k]=r at *
   replace QF:=aa QF
   replace hV:=hV.out
   subst hV
   go_wp2_with fail
   refine xG.out.mono ?_
   rintro e w2 ⟨rfl,wh⟩
   have kw2:f_ (dI W w2):=by rw [wh];exact kV.out.alloc _
   clear xG wh m1 m2 m3 m4 kV WM
   cases hval:bu r O with
   |true=>
    go_wp2_with fail
    go_roundw
    case rel=>exact ⟨k+1,by omega,by go_num,rfl,aa (fun j hj hjk=>if e:j=k then by subst e;rw [QF.out];exact hval else hT.out j hj (by omega)),kw2⟩
    case measure=>simp [intOf];omega
   |false=>
    go_wp2_with fail
    have hB:=hB.out
    subst hB
    intro hc todo
    have du:Lay C w2:=⟨hc,qK.out.no⟩
    refine Can.ctl hS du rfl (fun _=>aZ rfl rfl func45 rfl) ?_
    exact Gm.out (List.all_eq_false.2 ⟨rs[k],List.getElem_mem hlt,by rw [QF.out,hval];simp⟩) w2 du (k0.out.trans kw2.out)
  ·obtain rfl:k=rs.length:=by omega
   have gJ:((rs.length:Int)<(rs.length:Int))=False:=by simp
   go_wp2_with fail
   have hB:=hB.out
   subst hB
   intro hc
   have du:Lay C wr:=⟨hc,qK.out.no⟩
   exact EO.out (by
    rw [List.all_eq_true]
    intro x hx
    obtain ⟨j,hj,rfl⟩:=List.getElem_of_mem hx
    exact hT.out j hj hj) wr _ _ _ _ _ _ _ _ _ _ _ _ _ _ _ _ _ _ _ _ _ du (k0.out.trans WM.out)
end
structure Bb where
 hb:Nat
 hv:Nat
 m1:Nat
 m2:Nat
 m3:Nat
 L:Int
 O:Int
 P:Int
def pD (X:Bb) (vl vo:M'):Array M':=
 #[.int .i64 X.L,.int .i64 X.O,.int .i64 X.P,vl,.map (some X.m1),.map (some X.m2),vo,.slice none 0 0,.slice none 0 0,.slice none 0 0,.map (some X.m3),.int .i64 0,.slice none 0 0,.slice none 0 0]
def gB (ls:List Nat):List M':=ls.map fun x=>Value.chan (some x)
structure jz (W0:J') (X:Bb) (ls qs:List Nat) (vl vo:M') (w:J'):Prop where
 old:gD W0 w none
 low:W0.heap.size<=X.hb/\W0.heap.size<=X.hv/\W0.heap.size<=X.m1/\W0.heap.size<=X.m2/\W0.heap.size<=X.m3
 box:w.heap[X.hb]?=some (.cells (pD X vl vo) 77 (0,0))
 hv:w.heap[X.hv]?=some (.cells #[.pointer (some ⟨X.hb,0,none⟩)] 68 (0,0))
 mp:w.heap[X.m1]?=some (.map #[] 0)/\w.heap[X.m2]?=some (.map #[] 0)/\w.heap[X.m3]?=some (.map #[] 0)
 LV:X.m1≠X.m2/\X.m1≠X.m3/\X.m2≠X.m3
 lines:w.ownsRow W0.heap.size 78 1 vl ls.length (gB ls)
 ops:w.ownsRow W0.heap.size 109 1 vo qs.length (gB qs)
 nd:ls.Nodup
 lt:∀x,x∈ls->W0.heap.size<=x/\x<w.heap.size
variable {B:Nat} {xs:List M'} {cs:Array M'}
theorem fD {e s n:Nat} {v:M'} (h:w.ownsRow B e s v n xs) {r:Nat} {t:Q'} {f:Nat × Nat} (hr:w.heap[r]?=some (.cells cs t f)) (hne:t≠e):some r≠v.ownBlock:=by
 intro e1
 rcases h.2 with ⟨rfl,_⟩|⟨g,cap,cur,rfl,_,hg,_⟩
 ·simp [Value.ownBlock] at e1
 ·simp only [Value.ownBlock,n_] at e1
  subst e1
  rw [hr] at hg
  simp at hg
  exact hne hg.2.1
theorem nF {e s n:Nat} {v:M'} (h:w.ownsRow B e s v n xs) {r:Nat} {ob:Obj} (hr:w.heap[r]?=some ob) (hc:aR ob=false):some r≠v.ownBlock:=by
 intro e1
 rcases h.2 with ⟨rfl,_⟩|⟨g,cap,cur,rfl,_,hg,_⟩
 ·simp [Value.ownBlock] at e1
 ·simp only [Value.ownBlock,n_] at e1
  subst e1
  rw [hr] at hg
  simp only [n_] at hg
  rw [hg] at hc
  simp [aR] at hc
section
variable {W0:J'} {X:Bb} {ls qs:List Nat} {vl vo:M'} {w':J'}
theorem jz.go (h:jz W0 X ls qs vl vo w) (hg:gD w w' none):jz W0 X ls qs vl vo w':=by
 have hs:∀(r:Nat) (ob:Obj),w.heap[r]?=some ob->w'.heap[r]?=some ob:=fun r ob hr=>by
  rw [hg.block r (cI hr) (by simp)];exact hr
 exact ⟨h.old.trans hg,h.low,hs _ _ h.box,hs _ _ h.hv,⟨hs _ _ h.mp.1,hs _ _ h.mp.2.1,hs _ _ h.mp.2.2⟩,h.LV,cH h.lines fun g _ hk=>hg.block g hk (by simp),cH h.ops fun g _ hk=>hg.block g hk (by simp),h.nd,fun x hx=>⟨(h.lt x hx).1,E_ (h.lt x hx).2 hg.size⟩⟩
theorem jz.alloc (h:jz W0 X ls qs vl vo w) (o:Obj):jz W0 X ls qs vl vo (w.alloc o):=h.go (gD.alloc _ _ _)
theorem gD.drew (w:J') (r:Option Nat):gD w w.drew r:=⟨rfl,rfl,C_ _,fun _ _ _=>rfl⟩
theorem jz.drew (h:jz W0 X ls qs vl vo w):jz W0 X ls qs vl vo w.drew:=h.go (gD.drew _ _)
theorem jz.re (h:jz W0 X ls qs vl vo w) (T:Nat->Question->Nat) (d:Nat):jz W0 X ls qs vl vo (w.re T d):=h.go ((gD.refl w none).re T d)
theorem jz.cells (h:jz W0 X ls qs vl vo w):w.cell? ⟨X.hv,0,none⟩=some (.pointer (some ⟨X.hb,0,none⟩))/\w.cell? ⟨X.hb,3,none⟩=some vl/\w.cell? ⟨X.hb,6,none⟩=some vo/\w.frozen? ⟨X.hb,3,none⟩=false/\w.frozen? ⟨X.hb,6,none⟩=false:=
 ⟨by rw [aB h.hv];rfl,by rw [aB h.box];rfl,by rw [aB h.box];rfl,bX h.box,bX h.box⟩
theorem uS (a b:List Nat):gB (a++b)=gB a++gB b:=by simp [gB]
theorem jz.line (h:jz W0 X ls qs vl vo w) {v:M'} {c:Nat} (hg:gD w w' vl.ownBlock) (ho:w'.ownsRow W0.heap.size 78 1 v (ls.length+1) (gB ls++[.chan (some c)])) (hc:W0.heap.size<=c/\c<w'.heap.size) (hn:c∉ls):jz W0 X (ls++[c]) qs v vo (w'.setCell ⟨X.hb,3,none⟩ v):=by
 have fz:∀g,vl.ownBlock=some g->W0.heap.size<=g/\g<w.heap.size:=fun g e=>h.lines.lt g e
 have hs:∀(r:Nat) (ob:Obj),w.heap[r]?=some ob->some r≠vl.ownBlock->w'.heap[r]?=some ob:=fun r ob hr hne=>by
  rw [hg.block r (cI hr) hne];exact hr
 have ns:∀r,r≠X.hb->(w'.setCell ⟨X.hb,3,none⟩ v).heap[r]?=w'.heap[r]?:=fun r hr=>a_ w' ⟨X.hb,3,none⟩ r v hr
 have bx:=hs _ _ h.box (fD h.lines h.box (by decide))
 have nb:∀(r:Nat) (cs:Array M') (t:Q') (f:Nat × Nat),w'.heap[r]?=some (.cells cs t f)->t≠77->r≠X.hb:=fun r cs t f hr ht e=>by
  rw [e,bx] at hr;simp at hr;exact ht hr.2.1.symm
 have Qd:∀(r:Nat) (ob:Obj),w'.heap[r]?=some ob->aR ob=false->r≠X.hb:=fun r ob hr hc e=>by
  rw [e,bx] at hr
  simp only [n_] at hr
  rw [<-hr] at hc
  simp [aR] at hc
 obtain ⟨q1,q2,q3⟩:=h.mp
 have hv':=hs _ _ h.hv (fD h.lines h.hv (by decide))
 have p1:=hs _ _ q1 (nF h.lines q1 rfl)
 have p2:=hs _ _ q2 (nF h.lines q2 rfl)
 have p3:=hs _ _ q3 (nF h.lines q3 rfl)
 have ops':w'.ownsRow W0.heap.size 109 1 vo qs.length (gB qs):=by
  have:=h.ops.kept (w':={w' with tape:=w.tape}) ⟨hg.os,rfl,hg.output,hg.size,hg.block⟩ (gF h.ops h.lines (by decide))
  exact this
 have oset:∀{e n:Nat} {v1:M'} {xs:List M'},e≠77->w'.ownsRow W0.heap.size e 1 v1 n xs->(w'.setCell ⟨X.hb,3,none⟩ v).ownsRow W0.heap.size e 1 v1 n xs:=fun {e n v1 xs} he hh=>by
  refine ⟨hh.1, ?_⟩
  rcases hh.2 with h0|⟨g,cap,cur,h1,h2,h3,h4⟩
  ·exact .inl h0
  ·exact .inr ⟨g,cap,cur,h1,h2,by rw [ns g (nb g _ _ _ h3 he)];exact h3,h4⟩
 refine ⟨⟨hg.os.trans h.old.os,hg.output.trans h.old.output,by rw [o_];exact D_ h.old.size hg.size,fun k hk _=> ?_⟩,h.low, ?_, ?_,⟨?_, ?_, ?_⟩,h.LV, ?_,oset (by decide) ops', ?_,fun x hx=> ?_⟩
 ·rw [ns k (by have:=h.low.1;omega),hg.block k (E_ hk h.old.size) (fun e=>by have:=(fz k e.symm).1;omega)]
  exact h.old.block k hk (by simp)
 ·rw [b_ w' X.hb 3 _ 77 v bx];rfl
 ·rw [ns _ (nb _ _ _ _ hv' (by decide))];exact hv'
 ·rw [ns _ (Qd _ _ p1 rfl)];exact p1
 ·rw [ns _ (Qd _ _ p2 rfl)];exact p2
 ·rw [ns _ (Qd _ _ p3 rfl)];exact p3
 ·rw [List.length_append,uS];exact oset (by decide) ho
 ·rw [List.nodup_append]
  exact ⟨h.nd,by simp,fun a ha b hb=>by simp at hb;subst hb;exact fun e=>hn (e▸ha)⟩
 ·rw [o_]
  rcases List.mem_append.1 hx with hx|hx
  ·exact ⟨(h.lt x hx).1,E_ (h.lt x hx).2 hg.size⟩
  ·simp at hx;subst hx;exact hc
theorem jz.oper (h:jz W0 X ls qs vl vo w) {v:M'} {c:Nat} (hg:gD w w' vo.ownBlock) (ho:w'.ownsRow W0.heap.size 109 1 v (qs.length+1) (gB qs++[.chan (some c)])):jz W0 X ls (qs++[c]) vl v (w'.setCell ⟨X.hb,6,none⟩ v):=by
 have fz:∀g,vo.ownBlock=some g->W0.heap.size<=g/\g<w.heap.size:=fun g e=>h.ops.lt g e
 have hs:∀(r:Nat) (ob:Obj),w.heap[r]?=some ob->some r≠vo.ownBlock->w'.heap[r]?=some ob:=fun r ob hr hne=>by
  rw [hg.block r (cI hr) hne];exact hr
 have ns:∀r,r≠X.hb->(w'.setCell ⟨X.hb,6,none⟩ v).heap[r]?=w'.heap[r]?:=fun r hr=>a_ w' ⟨X.hb,6,none⟩ r v hr
 have bx:=hs _ _ h.box (fD h.ops h.box (by decide))
 have nb:∀(r:Nat) (cs:Array M') (t:Q') (f:Nat × Nat),w'.heap[r]?=some (.cells cs t f)->t≠77->r≠X.hb:=fun r cs t f hr ht e=>by
  rw [e,bx] at hr;simp at hr;exact ht hr.2.1.symm
 have Qd:∀(r:Nat) (ob:Obj),w'.heap[r]?=some ob->aR ob=false->r≠X.hb:=fun r ob hr hc e=>by
  rw [e,bx] at hr
  simp only [n_] at hr
  rw [<-hr] at hc
  simp [aR] at hc
 obtain ⟨q1,q2,q3⟩:=h.mp
 have hv':=hs _ _ h.hv (fD h.ops h.hv (by decide))
 have p1:=hs _ _ q1 (nF h.ops q1 rfl)
 have p2:=hs _ _ q2 (nF h.ops q2 rfl)
 have p3:=hs _ _ q3 (nF h.ops q3 rfl)
 have Qg:w'.ownsRow W0.heap.size 78 1 vl ls.length (gB ls):=by
  have:=h.lines.kept (w':={w' with tape:=w.tape}) ⟨hg.os,rfl,hg.output,hg.size,hg.block⟩ (gF h.lines h.ops (by decide))
  exact this
 have oset:∀{e n:Nat} {v1:M'} {xs:List M'},e≠77->w'.ownsRow W0.heap.size e 1 v1 n xs->(w'.setCell ⟨X.hb,6,none⟩ v).ownsRow W0.heap.size e 1 v1 n xs:=fun {e n v1 xs} he hh=>by
  refine ⟨hh.1, ?_⟩
  rcases hh.2 with h0|⟨g,cap,cur,h1,h2,h3,h4⟩
  ·exact .inl h0
  ·exact .inr ⟨g,cap,cur,h1,h2,by rw [ns g (nb g _ _ _ h3 he)];exact h3,h4⟩
 refine ⟨⟨hg.os.trans h.old.os,hg.output.trans h.old.output,by rw [o_];exact D_ h.old.size hg.size,fun k hk _=> ?_⟩,h.low, ?_, ?_,⟨?_, ?_, ?_⟩,h.LV,oset (by decide) Qg, ?_,h.nd,fun x hx=> ?_⟩
 ·rw [ns k (by have:=h.low.1;omega),hg.block k (E_ hk h.old.size) (fun e=>by have:=(fz k e.symm).1;omega)]
  exact h.old.block k hk (by simp)
 ·rw [b_ w' X.hb 6 _ 77 v bx];rfl
 ·rw [ns _ (nb _ _ _ _ hv' (by decide))];exact hv'
 ·rw [ns _ (Qd _ _ p1 rfl)];exact p1
 ·rw [ns _ (Qd _ _ p2 rfl)];exact p2
 ·rw [ns _ (Qd _ _ p3 rfl)];exact p3
 ·rw [List.length_append,uS];exact oset (by decide) ho
 ·rw [o_];exact ⟨(h.lt x hx).1,E_ (h.lt x hx).2 hg.size⟩
end
end
end Go.aC.Of
