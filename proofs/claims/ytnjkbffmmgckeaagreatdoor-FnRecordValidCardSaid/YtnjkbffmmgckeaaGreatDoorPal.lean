/-
  The reference's l6Returns.
-/
import Derived.Test.YtnjkbffmmgckeaaGreatDoorPaa
import Derived.Test.YtnjkbffmmgckeaaGreatDoorPad
import Derived.Test.YtnjkbffmmgckeaaGreatDoorPak
set_option linter.all false
set_option maxRecDepth 100000
set_option maxHeartbeats 32000000
open Go renaming World->J',Value->M',heap_alloc_new->Z',heap_setCell_other->a_,Calls->d_,Addr->z_
open Go.RowKit renaming Hid->f_,Below->g_
open Go.RowKit.Below renaming refl->h_
open Option renaming getD_some->A_
open Go.World renaming size_alloc->B_,grownBy_alloc->N_
open Nat renaming le_refl->C_,le_trans->D_
open List renaming length_append->K_,map_cons->S_
open Go.Lib renaming itoa->L_
open Option.some renaming inj->M_
open Go.Proofs.Tryz renaming prog->p_
open Bool renaming decide_and->cM
open Go.Obj renaming cells->jY
open Go.Value renaming slice->mN
open Go.Proofs.Tryz
namespace Go.aC.Of
section
open Go Go.Conc Go.Conc.Lib Go.ConcR Go.ConcR.Gen Go.aC Go.Proofs
open Go.RowKit hiding Hid
open Go.ConcN (upd upd_ne upd_same)
variable {B nl:Nat} {m:Rm} {vr vb vl:M'} {w:J'} {O P:Int}
theorem yB {vw:M'} (R:bA B m vr vw vb w) (hn:m.recs.length<=100) (L9:m.wait.length<=100) (QO:m.back.length<=100) (rp:nl<=100) (mP:∃a n c,vl=.slice a n c) (sD:∀p∈m.back,1<=p.1/\p.1<=1000000) (op:Int):
 d_ p_ 84 #[jD (nl:Nat) O P m.clock vr vw vb vl,.int .i64 op] w (Done w vr vb B (lD nl m op).1 (nl:Nat) O P vl (lD nl m op).2):=by
 obtain ⟨al,bM,cl,rfl⟩:=mP
 obtain ⟨ab,cb,oK⟩:=aE R.back
 subst oK
 obtain ⟨ar,cr,ql⟩:=aE R.recs
 subst ql
 obtain ⟨gw,cw,qG,KC,yN⟩:=fV R.wait R.iQ
 subst qG
 obtain ⟨w1,cf⟩:∃w1,(w.alloc (.cells (gi (nl:Nat) O P m.clock (.slice ar m.recs.length cr) (.slice (some ⟨gw,0,none⟩) m.wait.length cw) (.slice ab m.back.length cb) (.slice al bM cl)) 63)).alloc (.cells ia 63)=w1:=⟨_,rfl⟩
 have lr:f_ (w1.heap.size=w.heap.size+2):=by rw [f_,<-cf,B_,B_]
 have eo:g_ w.heap.size w w1:=by rw [<-cf];exact ((h_ _ _).alloc (C_ _) _).alloc (by rw [B_];omega) _
 have jx:w1.heap[w.heap.size]?=some (.cells (gi (nl:Nat) O P m.clock (.slice ar m.recs.length cr) (.slice (some ⟨gw,0,none⟩) m.wait.length cw) (.slice ab m.back.length cb) (.slice al bM cl)) 63 (0,0)):=by rw [<-cf];exact br (Z' w _)
 have sH:w1.heap[w.heap.size+1]?=some (.cells ia 63 (0,0)):=by
  have:=Z' (w.alloc (.cells (gi (nl:Nat) O P m.clock (.slice ar m.recs.length cr) (.slice (some ⟨gw,0,none⟩) m.wait.length cw) (.slice ab m.back.length cb) (.slice al bM cl)) 63)) (.cells ia 63)
  rw [B_,cf] at this
  exact this
 have F1:=aa (gO.start R eo jx sH (C_ _) (by omega) (by omega))
 obtain ⟨⟨a0,a1,a2,a3,a4,a5,a6,a7⟩,_⟩:=aG jx
 have jV:f_ (d_ p_ 43 #[.agg #[.int .i64 (nl:Nat),.int .i64 O,.int .i64 P,.int .i64 m.clock,.slice ar m.recs.length cr,.slice (some ⟨gw,0,none⟩) m.wait.length cw,.slice ab m.back.length cb,.slice al bM cl]] w1 fun e w'=>∃u,e=.returned u/\w'.ownsRow w1.heap.size 3 1 u (AD nl m.recs).length ((AD nl m.recs).map (Value.int .i64))/\g_ w1.heap.size w1 w'):=rf F1.out.room.rd.1 F1.out.room.nN.1 (by omega) (by omega)
 obtain ⟨fs,yf⟩:∃fs,AD nl m.recs=fs:=⟨_,rfl⟩
 rw [yf] at jV
 have Kz:fs.length<=1000:=by have:=mV nl m.recs;rw [yf] at this;omega
 have yf:=aa yf
 clear R eo jx sH
 unfold gi ia at cf
 unfold jD
 go_enter func84,ntmps84
 go_wp2_with (go_at_call 43;(with_reducible refine jV.out.mono ?_);rintro e w2 ⟨u,rfl,nS,HJ⟩;obtain ⟨au,cu,hu⟩:=aE nS;subst hu;have F2:=aa (F1.out.below HJ);have nS:=aa nS;obtain ⟨⟨e0,e1,e2,e3,e4,e5,e6,e7⟩,f0,f1,f2,f3,f4,f5,f6,f7⟩:=aG F2.out.box;clear a0 a1 a2 a3 a4 a5 a6 a7 HJ cf jV)
 have Mi:m.back.length<=1000:=by omega
 obtain ⟨⟨x0,x1,x2,x3,x4,x5,x6,x7⟩,y0,y1,y2,y3,y4,y5,y6,y7⟩:=aG (show w2.heap[w.heap.size+1]?=some (jY #[.int .i64 0,.int .i64 0,.int .i64 0,.int .i64 0,.slice none 0 0,.slice none 0 0,.slice none 0 0,.slice none 0 0] 63 (0,0)) from F2.out.res)
 have CX:m.recs.length<=1000:=by omega
 have sQ:=uB F2.out.room.rd.1 CX op
 by_cases ht:ez m.recs op>0
 ·have hR:f_ (lD nl m op=(m,l8)):=by rw [f_];unfold lD;rw [if_pos ht]
  generalize ez m.recs op=tk at sQ ht
  refine sQ.mono ?_
  rintro e w5 ⟨rfl,rfl⟩
  go_wp2_with fail
  change bodyPost p_ f84 _ .ret _ (Of.b8 _ (w.heap.size+1) (.int .i64 (nl:Nat)) (.int .i64 O) (.int .i64 P) (.int .i64 m.clock) (.slice ar m.recs.length cr) (.slice (some ⟨gw,0,none⟩) m.wait.length cw) (.slice ab m.back.length cb) (.slice al bM cl))
  rw [hR.out];refine gO.ends F2.out ?_ ?_ ?_<;>rfl
 have M7:¬0<ez m.recs op:=ht
 have SF:f_ (¬ez m.recs op>0):=ht
 generalize ez m.recs op=tk at sQ ht M7
 rcases (show m.back=[]\/∃p ws,m.back=p::ws by cases m.back with|nil=>exact .inl rfl|cons p ws=>exact .inr ⟨p,ws,rfl⟩) with hw|⟨p,ws,hw⟩
 ·have hR:f_ (lD nl m op=(m,qB)):=by rw [f_];unfold lD;rw [if_neg SF.out,hw]
  have lW:((m.back.length:Int)==0)=true:=by rw [hw];rfl
  replace hw:=aa hw
  refine sQ.mono ?_
  rintro e w5 ⟨rfl,rfl⟩
  go_wp2_with fail
  change bodyPost p_ f84 _ .ret _ (Of.b8 _ (w.heap.size+1) (.int .i64 (nl:Nat)) (.int .i64 O) (.int .i64 P) (.int .i64 m.clock) (.slice ar m.recs.length cr) (.slice (some ⟨gw,0,none⟩) m.wait.length cw) (.slice ab m.back.length cb) (.slice al bM cl))
  rw [hR.out];refine gO.ends F2.out ?_ ?_ ?_<;>rfl
 have uK:0<m.back.length:=by rw [hw];simp
 have UG:(0:Int)<(m.back.length:Int):=by omega
 have lW:((m.back.length:Int)==0)=false:=beq_eq_false_iff_ne.2 (by omega)
 cases fs with
 |nil=>
  have hR:f_ (lD nl m op=(m,KQ)):=by rw [f_];unfold lD;rw [if_neg SF.out,hw,yf.out]
  simp only [List.length_nil] at nS Kz ⊢
  replace hw:=aa hw
  clear yf uK UG
  refine sQ.mono ?_
  rintro e w5 ⟨rfl,rfl⟩
  go_wp2_with fail
  change bodyPost p_ f84 _ .ret _ (Of.b8 _ (w.heap.size+1) (.int .i64 (nl:Nat)) (.int .i64 O) (.int .i64 P) (.int .i64 m.clock) (.slice ar m.recs.length cr) (.slice (some ⟨gw,0,none⟩) m.wait.length cw) (.slice ab m.back.length cb) (.slice al bM cl))
  rw [hR.out];refine gO.ends F2.out ?_ ?_ ?_<;>rfl
 |cons l t=>
  have hR:f_ (lD nl m op=({m with back:=aJ m.back p.1,recs:=m.recs++[⟨p.1,l,op,m.clock,m.clock, -1,eR⟩]},dL++L_ p.1)):=by
   rw [f_];unfold lD;rw [if_neg SF.out]
   split
   ·rename_i h;rw [hw] at h;cases h
   ·rename_i q qs h
    rw [hw] at h;injection h with h1 h2
    subst h1
    rw [yf.out]
  obtain ⟨Iu,hp2⟩:=sD p (by rw [hw];exact List.mem_cons_self)
  have Uh:m.back[0]?=some p:=by rw [hw];rfl
  obtain ⟨yd,QI⟩:=List.getElem?_eq_some_iff.1 Uh
  obtain ⟨g1,c1,M5,hcb,k0,k1⟩:=pR F2.out.room.rd.2.2 uK
  injection M5 with i1 i2 i3
  subst i1 i3
  rw [QI] at k0 k1
  have k0':w2.cell? ⟨g1,0,none⟩=some (.int .i64 p.1):=by simpa using k0
  have k1':w2.cell? ⟨g1,1,none⟩=some (.int .i64 p.2):=by simpa using k1
  obtain ⟨gu,aCz,E9,FT,_,hU,Gk,_⟩:=cz nS.out (by simp)
  injection FT with Wm Su YQ
  subst Wm YQ
  have ZY:f_ (E9[0]?=some (.int .i64 l)):=by rw [f_,<-aB hU];exact nS.out.cellAt 0 (by simp)
  have hU:=aa hU
  replace hw:=aa hw
  clear QI Uh yf
  have dJ:0<(l::t).length:=by simp
  generalize (l::t).length=nf at dJ Kz Gk
  have aDw:((nf:Int)==0)=false:=beq_eq_false_iff_ne.2 (by omega)
  clear nS
  obtain ⟨w3,CK⟩:∃w3,w2.alloc (.cells #[.int .i64 p.1,.int .i64 p.2] 114)=w3:=⟨_,rfl⟩
  have Rj:g_ w2.heap.size w2 w3:=by rw [<-CK];exact (h_ _ _).alloc (C_ _) _
  have F3:=aa (F2.out.below Rj)
  have oG:f_ (w3.heap[w2.heap.size]?=some (.cells #[.int .i64 p.1,.int .i64 p.2] 114 (0,0))):=by rw [f_,<-CK];exact Z' w2 _
  have ZX:f_ (w3.heap[gu]?=some (.cells E9 3 (0,0))):=(Rj.block gu (cI hU.out)).trans hU.out
  obtain ⟨⟨b0,b1,b2,b3,b4,b5,b6,b7⟩,_⟩:=aG F3.out.box
  have g3:w3.cell? ⟨w2.heap.size,0,none⟩=some (.int .i64 p.1):=aB oG.out
  have Fg:f_ (d_ p_ 115 #[.slice (some ⟨g1,0,none⟩) m.back.length cb,.int .i64 p.1] w3 fun e w'=>∃u,e=.returned u/\w'.ownsRow w3.heap.size 114 2 u (aJ m.back p.1).length (ax (aJ m.back p.1))/\g_ w3.heap.size w3 w'/\∃g,u.ownBlock=some g):=jR F3.out.room.rd.2.2 F3.out.room.nN.2.2 Mi p.1
  have Zg:f_ (w2.heap.size<w3.heap.size/\w.heap.size<w2.heap.size):=⟨(cI oG.out),F2.out.LX⟩
  have hzr:f_ ((mN ar m.recs.length cr).ownBlock≠some w2.heap.size):=fun e=>by have:=F2.out.room.nN.1 _ e;omega
  have hzu:f_ ((mN ar m.recs.length cr).ownBlock≠some gu):=bB F2.out.room.recs hU.out (by decide)
  have Ky:f_ (gu≠w.heap.size):=fun e=>by
   have h1:=F2.out.box
   rw [<-e,hU.out] at h1
   simp at h1
  clear Rj x0 x1 x2 x3 x4 x5 x6 x7 y0 y1 y2 y3 y4 y5 y6 y7 hU uK F1
  refine sQ.mono ?_
  rintro e w5 ⟨rfl,rfl⟩
  go_wp2_with (go_at_call 115;(with_reducible refine Fg.out.mono ?_);rintro e w9 ⟨u,rfl,nS,vJ,_⟩;obtain ⟨aq,cq,Qv⟩:=aE nS;subst Qv;obtain ⟨⟨l0,l1,l2,l3,l4,l5,l6,l7⟩,j0,j1,j2,j3,j4,j5,j6,j7⟩:=aG (F3.out.below vJ).box;have nS:=aa nS;have vJ:=aa vJ)
  have F5:=aa (F3.out.O6 vJ.out nS.out)
  have SK:f_ ((w9.setCell ⟨w.heap.size,6,none⟩ (.slice aq (aJ m.back p.1).length cq)).heap[w5.heap.size]?=some (.cells #[.int .i64 p.1,.int .i64 p.2] 114 (0,0))):=(a_ w9 ⟨w.heap.size,6,none⟩ w5.heap.size _ (show w5.heap.size≠w.heap.size by have:=Zg.out.2;omega)).trans ((vJ.out.block _ Zg.out.1).trans oG.out)
  have SE:f_ ((w9.setCell ⟨w.heap.size,6,none⟩ (.slice aq (aJ m.back p.1).length cq)).heap[gu]?=some (.cells E9 3 (0,0))):=(a_ w9 ⟨w.heap.size,6,none⟩ gu _ Ky.out).trans ((vJ.out.block gu (cI ZX.out)).trans ZX.out)
  clear nS vJ l0 l1 l2 l3 l4 l5 l6 l7 j0 j1 j2 j3 j4 j5 j6 j7 b0 b1 b2 b3 b4 b5 b6 b7 e0 e1 e2 e3 e4 e5 e6 e7 f0 f1 f2 f3 f4 f5 f6 f7 g3 oG ZX sQ Fg F3
  generalize w9.setCell ⟨w.heap.size,6,none⟩ (.slice aq (aJ m.back p.1).length cq)=Fw at *
  have hh3:Fw.cell? ⟨w5.heap.size,0,none⟩=some (.int .i64 p.1):=aB SK.out
  have SB:Fw.cell? ⟨gu,0,none⟩=some (.int .i64 l):=(aB SE.out).trans ZY.out
  refine Tg (r:=⟨p.1,l,op,m.clock,m.clock, -1,eR⟩) (b2:=w.heap.size) (b4:=w.heap.size+1) (bx:=w5.heap.size) (gu:=gu) (nf:=nf) (cu:=cu) (op:=op) F5.out (by show m.recs.length<=1000;omega) dJ Gk rfl hh3 SB fun BQ gg mW Om TB TA Tz Ty Tx Tw Tv Tu Ol Oj Oi Oh Ju Jt Js Vz QL=> ?_
  have Xh:=aa Vz
  have RD:f_ (BQ.heap[w5.heap.size]?=some (.cells #[.int .i64 p.1,.int .i64 p.2] 114 (0,0))):=(QL _ (cI SK.out) (by have:=Zg.out.2;omega) hzr.out).trans SK.out
  clear Vz QL hh3 SB SE SK F5
  go_wp2_with fail
  refine MF (l:=p.1) (b2:=w.heap.size) (b4:=w.heap.size+1) (bx:=w5.heap.size) Xh.out.box Xh.out.res (cI RD.out) (aB RD.out) (by omega) (by omega) fun BD Jr Jq Og Oe Oc CY=> ?_
  have F13:=Xh.out.below CY
  clear CY RD Xh
  generalize dL++L_ p.1=tx at *
  go_wp2_with fail
  rw [hR.out];refine gO.ends F13 ?_ ?_ ?_
  ·rfl
  ·rfl
  ·rfl
noncomputable def Lz:Code:=f86.body.getD .skip
noncomputable def R86:Code:=match ai 4 Lz with| .seq _ (.block _ (.loop (.seq _ (.seq (.block _ (.seq _ (.seq _ (.cond _ (.seq _ (.seq c _)) _)))) _))))=>c|c=>c
structure Xb (w1:J') (w0:J') (r0 b0:M') (B:Nat) (m:Rm) (L O P:Int) (vr vw vl:M') (b2 b4:Nat) (ab:Option z_) (cb:Nat) (p:Int × Int) (D:Array Bool) (q:Qr) (w:J'):Prop where
 o0:D.getD 6 false=true->D.getD 5 false=true
 o2:D.getD 7 false=true->D.getD 6 false=true/\D.getD 1 false=true
 o3:D.getD 9 false=true->D.getD 7 false=true
 a:D.getD 6 false=false->w=w1
 b:D.getD 6 false=true->D.getD 7 false=false->w=w1.alloc (.cells #[.int .i64 p.1,.int .i64 p.2] 114)/\q.g=w1.heap.size
 c:D.getD 7 false=true->D.getD 9 false=false->w.ownsRow B 114 2 q.u (m.back.length+1) (ax (m.back++[p]))/\(w1.alloc (.cells #[.int .i64 p.1,.int .i64 p.2] 114)).grownBy w (mN ab m.back.length cb).ownBlock/\(q.u.ownBlock=(mN ab m.back.length cb).ownBlock\/q.u.ownBlock=some (w1.heap.size+1))
 d:D.getD 9 false=true->(gO w0 r0 b0 B {m with back:=m.back++[p]} L O P vr vw q.u vl b2 b4 w)/\(∀g,g<w1.heap.size->g≠b2->(mN ab m.back.length cb).ownBlock≠some g->w.heap[g]?=w1.heap[g]?)/\(q.u.ownBlock=(mN ab m.back.length cb).ownBlock\/q.u.ownBlock=some (w1.heap.size+1))
 e:D.getD 7 false=true->∃gg cap,q.u=.slice (some ⟨gg,0,none⟩) (m.back.length+1) cap
variable {w1 w0:J'} {r0 b0:M'} {L:Int} {b2 b4 cb i:Nat} {ab:Option z_} {D D':Array Bool}
theorem Xb.same {vw:M'} {p:Int × Int} {q:Qr} (h:Xb w1 w0 r0 b0 B m L O P vr vw vl b2 b4 ab cb p D q w) (qn:∀j,j≠i->D'.getD j false=D.getD j false) (qi:D'.getD i false=true) (hi:i∉[6,7,9]):Xb w1 w0 r0 b0 B m L O P vr vw vl b2 b4 ab cb p D' q w:=by
 have e1:=qn 6 (fun e=>hi (by simp [<-e]))
 have e2:=qn 7 (fun e=>hi (by simp [<-e]))
 have e3:=qn 9 (fun e=>hi (by simp [<-e]))
 have mo:∀j,D.getD j false=true->D'.getD j false=true:=fun j hj=>by
  by_cases e:j=i
  ·subst e;exact qi
  ·rw [qn j e];exact hj
 exact ⟨by rw [e1];exact fun h1=>mo _ (h.o0 h1),by rw [e2];exact fun ha=>⟨mo _ (h.o2 ha).1,mo _ (h.o2 ha).2⟩,by rw [e3,e2];exact h.o3,by rw [e1];exact h.a,by rw [e1,e2];exact h.b,by rw [e2,e3];exact h.c,by rw [e3];exact h.d,by rw [e2];exact h.e⟩
def zP (b2 g7 n7 c7 k:Nat) (m:Rm) (ab:Option z_) (cb:Nat) (p:Int × Int) (x:Qr):Nat->M'
 |0=>.pointer (some ⟨b2,6,none⟩)
 |1=>.slice ab m.back.length cb
 |2=>.slice (some ⟨g7,0,none⟩) n7 c7
 |3=>.int .i64 (k:Nat)
 |4=>.pointer (some ⟨g7,k * 2,none⟩)
 |5=>.agg #[.int .i64 p.1,.int .i64 p.2]
 |6=>.slice (some ⟨x.g,0,none⟩) 1 1
 |7=>x.u
 |8=>.pointer (some ⟨b2,6,none⟩)
 |_=>undef
variable {k:Nat} {z0 z3 z4 z5 z6 z9 dB cZ de dn dm dk dj dA dz dD dC dM dQ dK dP dO dV ey ew eu eK eJ eI eH eQ eN en iu iF iE iD iC iB nv nu np nk:M'} {Q:Exit->Act->J'->Prop}
theorem Tf {vw:M'} {p:Int × Int} {g7 n7 c7:Nat} (hF:gO w0 r0 b0 B m L O P vr vw (.slice ab m.back.length cb) vl b2 b4 w) (hn:m.back.length<=1000) (hkn:k<n7) (hnc:n7<=c7) (hn7:n7<=1000) (tX:w.cell? ⟨g7,k * 2,none⟩=some (.int .i64 p.1)) (rm:w.cell? ⟨g7,k * 2+1,none⟩=some (.int .i64 p.2)) {z1 z12 z20 z21 z22 z23 z24 z25 z26 z28 z31 z37 z40 z46 z49 z51 z53 z59 sW sV rH rG rF uu z70:M'}
 (hQ:∀w' gg cap (Ju Jt Js Jr Jq Og Oe Oc Tt:M'),gO w0 r0 b0 B {m with back:=m.back++[p]} L O P vr vw (.slice (some ⟨gg,0,none⟩) (m.back.length+1) cap) vl b2 b4 w'->(∀g,g<w.heap.size->g≠b2->(mN ab m.back.length cb).ownBlock≠some g->w'.heap[g]?=w.heap[g]?)->(some gg=(mN ab m.back.length cb).ownBlock\/w.heap.size<=gg)->Q .normal ⟨#[z0,z1,.pointer (some ⟨b2,0,none⟩),z3,z4,z5,z6,.slice (some ⟨g7,0,none⟩) n7 c7,.int .i64 (k:Nat),z9,dB,cZ,z12,de,dn,dm,dk,dj,dA,dz,z20,z21,z22,z23,z24,z25,z26,dD,z28,dC,dM,z31,dQ,dK,dP,dO,dV,z37,ey,ew,z40,eu,eK,eJ,eI,eH,z46,eQ,eN,z49,en,Ju,Jt,Js,Jr,Jq,Og,Oe,Oc,Tt,nv,nu,np,nk,sW,sV,rH,rG,rF,uu,z70],[]⟩ w'):
 Code.wp p_ R86 Q ⟨#[z0,z1,.pointer (some ⟨b2,0,none⟩),z3,z4,z5,z6,.slice (some ⟨g7,0,none⟩) n7 c7,.int .i64 (k:Nat),z9,dB,cZ,z12,de,dn,dm,dk,dj,dA,dz,z20,z21,z22,z23,z24,z25,z26,dD,z28,dC,dM,z31,dQ,dK,dP,dO,dV,z37,ey,ew,z40,eu,eK,eJ,eI,eH,z46,eQ,eN,z49,en,z51,iu,z53,iF,iE,iD,iC,iB,z59,nv,nu,np,nk,sW,sV,rH,rG,rF,uu,z70],[]⟩ w:=by
 have hF:=hF.drew
 have UH:(k:Int)<(n7:Int):=by omega
 have c6:w.drew.cell? ⟨b2,6,none⟩=some (.slice ab m.back.length cb):=(aG hF.box).1.2.2.2.2.2.2.1
 have tX:w.drew.cell? ⟨g7,k * 2,none⟩=some (.int .i64 p.1):=tX
 have rm:w.drew.cell? ⟨g7,k * 2+1,none⟩=some (.int .i64 p.2):=rm
 obtain ⟨w1,cf⟩:∃w1,w.drew=w1:=⟨_,rfl⟩
 have vC:f_ (∀g:Nat,w1.heap[g]?=w.heap[g]?/\w1.heap.size=w.heap.size):=fun g=>by rw [<-cf];exact ⟨rfl,rfl⟩
 rw [cf] at hF c6 tX rm
 refine wpN 71 fun bs cn oq HI=> ?_
 simp only [R86,ai,Lz,f86,A_]
 refine mA (by kernel_rfl) (kP:=⟨undef,0⟩) (base:=bs) (by rw [oq];kernel_rfl) (by kernel_rfl) (fun x=>zP b2 g7 n7 c7 k m ab cb p x) (Xb w1 w0 r0 b0 B m L O P vr vw vl b2 b4 ab cb p)
  (by
   exact ⟨E5,E5,E5,fun _=>cf,E5,E5,E5,E5⟩) ?_ ?_
 ·intro i o' ho D x w a hD bc hw bH aD K k
  have hlt:i<10:=(cI ho)
  have Gl:=bT oq
  have qi:=qI hD hlt
  have qn:=qN D i
  have aA:=aa k
  clear k
  obtain rfl|rfl|rfl|rfl|rfl|rfl|rfl|rfl|rfl|rfl:i=0\/i=1\/i=2\/i=3\/i=4\/i=5\/i=6\/i=7\/i=8\/i=9:=by omega
  all_goals obtain rfl:=so ho rfl
  ·obtain ⟨v2,w2⟩:=bc.oo (.pointer (some ⟨b2,0,none⟩)) 2
   exact IZ (.pointer (some ⟨b2,6,none⟩))
  ·have d0:=dq aD 0
   obtain ⟨v51,XP⟩:=bc.vv (.pointer (some ⟨b2,6,none⟩)) 51 0 d0
   have c6:w.cell? ⟨b2,6,none⟩=some (.slice ab m.back.length cb):=by
    have hk:=ff bH fun hx=>(hw.o2 hx).2
    cases hb:D.getD 6 false with
    |false=>rw [hw.a hb];exact c6
    |true=>rw [(hw.b hb hk).1];exact (N_ w1 _ none).cell c6 (by simp)
   exact IZ (.slice ab m.back.length cb)
  ·obtain ⟨v7,w7⟩:=bc.oo (.slice (some ⟨g7,0,none⟩) n7 c7) 7
   exact IZ (.slice (some ⟨g7,0,none⟩) n7 c7)
  ·obtain ⟨v8,w8⟩:=bc.oo (.int .i64 (k:Nat)) 8
   exact IZ (.int .i64 (k:Nat))
  ·have d2:=dq aD 2
   obtain ⟨v53,XO⟩:=bc.vv (.slice (some ⟨g7,0,none⟩) n7 c7) 53 2 d2
   obtain ⟨v54,XN⟩:=bc.vv (.int .i64 (k:Nat)) 54 3 (dq aD 3)
   exact IZ (.pointer (some ⟨g7,k * 2,none⟩))
  ·have d4:=dq aD 4
   obtain ⟨v55,XM⟩:=bc.vv (.pointer (some ⟨g7,k * 2,none⟩)) 55 4 d4
   have vF:=ff bH fun hx=>hw.o0 hx
   obtain rfl:=hw.a vF
   exact IZ (.agg #[.int .i64 p.1,.int .i64 p.2])
  ·have d5:=dq aD 5
   obtain ⟨v56,XL⟩:=bc.vv (.agg #[.int .i64 p.1,.int .i64 p.2]) 56 5 d5
   clear aD ho
   have e6:=qi
   have e7:=qn 7 (by decide)
   have e9:=qn 9 (by decide)
   have xE:=ff bH fun hx=>(hw.o2 hx).1
   have CR:=ff xE fun hx=>hw.o3 hx
   obtain rfl:=hw.a bH
   refine bj (v:=.slice (some ⟨w.heap.size,0,none⟩) 1 1) (w':=w.alloc (.cells #[.int .i64 p.1,.int .i64 p.2] 114)) rfl rfl ?_ ?_
   ·clear bc hw aA bH qi qn e6 e7 e9
    go_simp
   ·refine aA.out ⟨x.u,w.heap.size⟩ _ (fun j hj=>by
     have hne:j≠6:=fun e=>by rw [e,bH] at hj;cases hj
     unfold zP;split<;>first|rfl|exact absurd rfl hne) ⟨fun _=>by rw [qn 5 (by decide)];exact d5,by rw [e7,xE];exact fun h=>(by cases h),by rw [e9,CR];exact fun h=>(by cases h),by rw [e6];exact fun h=>(by cases h),fun _ _=>⟨rfl,rfl⟩,by rw [e7,xE];exact fun h=>(by cases h),by rw [e9,CR];exact fun h=>(by cases h),by rw [e7,xE];exact fun h=>(by cases h)⟩
  ·have d1:=dq aD 1
   have d6:=dq aD 6
   obtain ⟨v52,V9⟩:=bc.vv (.slice ab m.back.length cb) 52 1 d1
   obtain ⟨Kx,XK⟩:=bc.vv (.slice (some ⟨x.g,0,none⟩) 1 1) 57 6 d6
   clear aD ho
   have e6:=qn 6 (by decide)
   have e7:=qi
   have e9:=qn 9 (by decide)
   have CR:=ff bH fun hx=>hw.o3 hx
   obtain ⟨yc,hg⟩:=hw.b d6 bH
   obtain ⟨i9,A5,nR,nQ,nP⟩:=info_parts pX
   have bR:=hF.room.back.alloc (.cells #[.int .i64 p.1,.int .i64 p.2] 114)
   obtain ⟨g,cap,w6,hrun,yI,pZ,iP,mR⟩:=run_append_lies (P:=p_) (w1.alloc (.cells #[.int .i64 p.1,.int .i64 p.2] 114)) 61 61 B 114 i9 _ 2 16 Tryz.underlying61 A5 nR nQ nP rfl (by decide) (.slice ab m.back.length cb) m.back.length _ bR ⟨w1.heap.size,0,none⟩ 1 1 [.int .i64 p.1,.int .i64 p.2] rfl (fY w1 _ _ rfl) (by intro u hu;simp at hu;rcases hu with rfl|rfl<;>rfl) (by decide) (by unfold maxLen;omega) (by omega) (D_ hF.room.big (N_ w1 _ none).size) _ rfl
   rw [hg] at Kx
   subst yc
   refine bj (v:=.slice (some ⟨g,0,none⟩) (m.back.length+1) cap) (w':=w6) rfl rfl ?_ ?_
   ·clear bc hw aA bH qi qn e6 e7 e9
    simp only [List.getElem_toArray,List.getElem_cons_succ,List.getElem_cons_zero,execOp,resolve,invoke,builtin,Sem.run_bind,Sem.run_pure,Result.andThen_ok,List.map_toArray,S_,List.map_nil,v52,Kx,hrun]
   ·refine aA.out ⟨.slice (some ⟨g,0,none⟩) (m.back.length+1) cap,x.g⟩ _ (fun j hj=>by
     have hne:j≠7:=fun e=>by rw [e,bH] at hj;cases hj
     unfold zP;split<;>first|rfl|exact absurd rfl hne) ⟨by rw [e6,qn 5 (by decide)];exact hw.o0, ?_,by rw [e9,CR];exact fun h=>(by cases h),by rw [e6,d6];exact fun h=>(by cases h),by rw [e7];exact fun _ h=>(by cases h),fun _ _=>⟨by rw [gE];exact yI,pZ, ?_⟩,by rw [e9,CR];exact fun h=>(by cases h),fun _=>⟨g,cap,rfl⟩⟩
    ·intro _;rw [e6];exact ⟨d6,by rw [qn 1 (by decide)];exact d1⟩
    ·rcases iP with h|h
     ·exact .inl h.symm
     ·exact .inr (by rw [h,B_];rfl)
  ·obtain ⟨v2,w2⟩:=bc.oo (.pointer (some ⟨b2,0,none⟩)) 2
   exact IZ (.pointer (some ⟨b2,6,none⟩))
  ·have d8:=dq aD 8
   have d7:=dq aD 7
   obtain ⟨v59,w59⟩:=bc.vv (.pointer (some ⟨b2,6,none⟩)) 59 8 d8
   obtain ⟨v58,V8⟩:=bc.vv (x.u) 58 7 d7
   clear aD ho
   have e6:=qn 6 (by decide)
   have e7:=qn 7 (by decide)
   have e9:=qi
   obtain ⟨ho,lH,fH⟩:=hw.c d7 bH
   obtain ⟨gg,cap,hu⟩:=hw.e d7
   have F3:=hF.below ((h_ _ _).alloc (C_ _) (.cells #[.int .i64 p.1,.int .i64 p.2] 114))
   have F4:=F3.aBt (p:=p) rfl lH ho (by rw [B_];exact fH)
   have lF:=(lH.block _ F3.LX (fun e=>F3.oB.1.2.2 e.symm)).trans F3.box
   have p6:w.cell? ⟨b2,6,none⟩=some (.slice ab m.back.length cb):=by rw [aB lF];rfl
   have q6:w.frozen? ⟨b2,6,none⟩=false:=bX lF
   have QL:∀g,g<w1.heap.size->g≠b2->(mN ab m.back.length cb).ownBlock≠some g->(w.setCell ⟨b2,6,none⟩ x.u).heap[g]?=w1.heap[g]?:=fun g h1 h2 h3=>(a_ w ⟨b2,6,none⟩ g x.u h2).trans ((lH.block g (by rw [B_];omega) (fun e=>h3 e.symm)).trans ((N_ w1 _ none).block g h1 (by simp)))
   have QL:=aa QL
   have fH:=aa fH
   refine gQ (w':=w.setCell ⟨b2,6,none⟩ x.u) rfl rfl ?_ ?_
   ·clear bc hw aA bH qi qn e6 e7 e9 F3 F4 ho lH lF
    rw [hu] at V8
    rw [hu]
    go_simp
   ·refine aA.out x _ (fun _ _=>rfl) ⟨by rw [e6,qn 5 (by decide)];exact hw.o0,by rw [e7,e6,qn 1 (by decide)];exact hw.o2,fun _=>by rw [e7];exact d7,by rw [e6];exact fun h=>(by rw [(hw.o2 d7).1] at h;cases h),by rw [e7,d7];exact fun _ h=>(by cases h),by rw [e9];exact fun _ h=>(by cases h),fun _=>⟨F4,QL.out,fH.out⟩,by rw [e7];exact hw.e⟩
 ·intro D x w hd hw
  obtain ⟨gg,cap,hu⟩:=hw.e (hd 7 (by decide))
  have EX:=hw.d (hd 9 (by decide))
  obtain ⟨u9,g9⟩:=x
  simp only at hu EX
  subst hu
  have:=hQ w gg cap (.pointer (some ⟨b2,6,none⟩)) (.slice ab m.back.length cb) (.slice (some ⟨g7,0,none⟩) n7 c7) (.int .i64 (k:Nat)) (.pointer (some ⟨g7,k * 2,none⟩)) (.agg #[.int .i64 p.1,.int .i64 p.2]) (.slice (some ⟨g9,0,none⟩) 1 1) (.slice (some ⟨gg,0,none⟩) (m.back.length+1) cap) (.pointer (some ⟨b2,6,none⟩)) EX.1 (fun g h1 h2 h3=>(EX.2.1 g (by rw [(vC.out g).2];exact h1) h2 h3).trans (vC.out g).1) (by
   rcases EX.2.2 with h|h
   ·exact .inl h
   ·have e:gg=w1.heap.size+1:=M_ h
    have:=(vC.out 0).2
    exact .inr (by omega))
  generalize bc:slotsOf _ bs (zP b2 g7 n7 c7 k m ab cb p ⟨.slice (some ⟨gg,0,none⟩) (m.back.length+1) cap,g9⟩)=sl
  have eS:sl=#[z0,z1,.pointer (some ⟨b2,0,none⟩),z3,z4,z5,z6,.slice (some ⟨g7,0,none⟩) n7 c7,.int .i64 (k:Nat),z9,dB,cZ,z12,de,dn,dm,dk,dj,dA,dz,z20,z21,z22,z23,z24,z25,z26,dD,z28,dC,dM,z31,dQ,dK,dP,dO,dV,z37,ey,ew,z40,eu,eK,eJ,eI,eH,z46,eQ,eN,z49,en,.pointer (some ⟨b2,6,none⟩),.slice ab m.back.length cb,.slice (some ⟨g7,0,none⟩) n7 c7,.int .i64 (k:Nat),.pointer (some ⟨g7,k * 2,none⟩),.agg #[.int .i64 p.1,.int .i64 p.2],.slice (some ⟨g9,0,none⟩) 1 1,.slice (some ⟨gg,0,none⟩) (m.back.length+1) cap,.pointer (some ⟨b2,6,none⟩),nv,nu,np,nk,sW,sV,rH,rG,rF,uu,z70]:=by rw [<-bc,<-cn];kernel_rfl
  rw [eS]
  exact this
end
section
open Go Go.Conc Go.aC Go.Proofs
def Qw (P n:Int) (m:Rm) (k:Nat):Rm × Bs:=(m.wait.take k).foldl (fB P) ({m with clock:=m.clock+n},rI++L_ (m.clock+n))
theorem Sc (P n:Int) (m:Rm):Qw P n m m.wait.length=mB P m n:=by unfold Qw mB;rw [List.take_length]
variable {P:Int} {m:Rm} {k:Nat}
theorem NV {n:Int} (hk:k<m.wait.length):Qw P n m (k+1)=fB P (Qw P n m k) m.wait[k]:=by
 unfold Qw;rw [List.take_succ_eq_append_getElem hk,List.foldl_append];rfl
variable {i:Nat}
theorem Hl {rs:List Rec} {r r':Rec} {c:Int} (h:rs[i]?=some r) (hc:r.call≠c) (hc':r'.call≠c):dE (rs.set i r') c=dE rs c:=by
 unfold dE
 induction rs generalizing i with
 |nil=>simp at h
 |cons a t ih=>
  cases i with
  |zero=>
   have:a=r:=by simpa using h
   subst this
   simp [List.findIdx?_cons,hc,hc']
  |succ i=>
   have h':t[i]?=some r:=by simpa using h
   simp only [List.set_cons_succ,List.findIdx?_cons]
   rw [ih h']
structure VV (P n:Int) (m:Rm) (k:Nat):Prop where
 ck:(Qw P n m k).1.clock=m.clock+n
 rl:(Qw P n m k).1.recs.length=m.recs.length
 bl:(Qw P n m k).1.back.length<=m.back.length+k
 wl:(Qw P n m k).1.wait.length<=m.wait.length
 fr:∀(i:Nat) (r:Rec),(Qw P n m k).1.recs[i]?=some r->0<=r.jy/\r.jy<=m.clock
 op:∀(j:Nat) (hj:j<m.wait.length),k<=j->∃i,dE (Qw P n m k).1.recs (m.wait[j]).1=some i
 tl:(Qw P n m k).2.length<=24+22 * k
theorem pW {n:Int} (h0:0<=n) (h1:n<=1000000000):(L_ n).length<=21:=Lib.itoa_length_le n (by omega) (by omega)
theorem Fv {n:Int} (hk:k<m.wait.length) (h:VV P n m k):∃i r,dE (Qw P n m k).1.recs (m.wait[k]).1=some i/\(Qw P n m k).1.recs[i]?=some r/\r.call=(m.wait[k]).1/\
 Qw P n m (k+1)=(if (Qw P n m k).1.clock - r.jy>=P then ({jJ (Qw P n m k).1 i eT with back:=(Qw P n m k).1.back++[m.wait[k]]},(Qw P n m k).2++(32::L_ (m.wait[k]).1)) else Qw P n m k):=by
 obtain ⟨i,hi⟩:=h.op k hk (C_ _)
 obtain ⟨r,h1,h2⟩:=wT hi
 refine ⟨i,r,hi,h1.1,h2, ?_⟩
 rw [NV hk]
 generalize Qw P n m k=q at *
 unfold fB
 rw [hi];simp only;rw [h1.1]
theorem XH {n:Int} (kj:∀(i:Nat) (r:Rec),m.recs[i]?=some r->0<=r.jy/\r.jy<=m.clock) (hop:∀p∈m.wait,(1<=p.1/\p.1<=1000000)/\∃i,dE m.recs p.1=some i) (QM:(m.wait.map (·.1)).Nodup) (gv:0<=m.clock+n/\m.clock+n<=1000000000):∀k,k<=m.wait.length->VV P n m k:=by
 intro k
 induction k with
 |zero=>
  intro _
  refine ⟨rfl,rfl,C_ _,C_ _,kj,fun j hj _=>(hop _ (List.getElem_mem hj)).2, ?_⟩
  have:=pW gv.1 gv.2
  show (rI++L_ (m.clock+n)).length<=24
  rw [K_]
  have:rI.length=3:=rfl
  omega
 |succ k ih=>
  intro hk
  have h:=ih (by omega)
  obtain ⟨i,r,hi,h1,h2,h3⟩:=Fv (by omega) h
  have ml:=(List.getElem?_eq_some_iff.1 h1)
  obtain ⟨ml,QZ⟩:=ml
  have Uk:=(hop _ (List.getElem_mem (show k<m.wait.length by omega))).1
  by_cases hP:(Qw P n m k).1.clock - r.jy>=P
  ·rw [if_pos hP,sM ml] at h3
   rw [QZ] at h3
   refine ⟨?_, ?_, ?_, ?_, ?_, ?_, ?_⟩<;>rw [h3]
   ·exact h.ck
   ·show ((Qw P n m k).1.recs.set i _).length=_
    rw [List.length_set];exact h.rl
   ·show ((Qw P n m k).1.back++[_]).length<=_
    rw [K_];have:=h.bl;simp;omega
   ·exact D_ (jQ _ _) h.wl
   ·intro j s hs
    have xv:((Qw P n m k).1.recs.set i {r with wI:=(Qw P n m k).1.clock,fin:=eT})[j]?=some s:=hs
    rw [List.getElem?_set] at xv
    by_cases e:i=j
    ·rw [if_pos e,if_pos ml] at xv
     obtain rfl:=M_ xv
     exact h.fr i r h1
    ·rw [if_neg e] at xv;exact h.fr j s xv
   ·intro j hj hkj
    obtain ⟨i',lE⟩:=h.op j hj (by omega)
    have hne:(m.wait[k]).1≠(m.wait[j]).1:=fun e=>by
     have:=(List.getElem_inj (h₀:=(by rw [List.length_map];omega:k<(m.wait.map (·.1)).length)) (h₁:=(by rw [List.length_map];exact hj)) QM).1 (by simpa using e)
     omega
    refine ⟨i', ?_⟩
    show dE ((Qw P n m k).1.recs.set i _) _=_
    rw [Hl h1 (by rw [h2];exact hne) (by show r.call≠_;rw [h2];exact hne)];exact lE
   ·show ((Qw P n m k).2++(32::L_ _)).length<=_
    have:=pW (n:=(m.wait[k]).1) (by omega) (by omega)
    have:=h.tl
    simp only [K_,List.length_cons];omega
  ·rw [if_neg hP] at h3
   exact ⟨by rw [h3];exact h.ck,by rw [h3];exact h.rl,by rw [h3];have:=h.bl;omega,by rw [h3];exact h.wl,by rw [h3];exact h.fr,by rw [h3];exact fun j hj hkj=>h.op j hj (by omega),by rw [h3];have:=h.tl;omega⟩
variable {w0 w:J'} {r0 b0:M'} {B:Nat} {L O:Int} {vr vw vb vl:M'} {b2 b4:Nat}
theorem gO.drewN (h:gO w0 r0 b0 B m L O P vr vw vb vl b2 b4 w) (n:Nat):gO w0 r0 b0 B m L O P vr vw vb vl b2 b4 (w.drewN n):=
 ⟨h.room.keep (C_ _) (fun _ _ _=>rfl),h.fr.trans ⟨rfl,rfl,rfl,C_ _,fun _ _ _ _=>rfl⟩,h.rr,h.rb,h.box,h.res,h.l2,h.l4,h.ne⟩
end
section
open Go Go.Conc Go.Conc.Lib Go.ConcR Go.ConcR.Gen Go.aC Go.Proofs
open Go.RowKit hiding Hid
open Go.ConcN (upd upd_ne upd_same)
structure Φ (w:J') (Wc We:M') (B:Nat) (m:Rm) (L O P n:Int) (vl:M') (b2 b4 gw:Nat) (k:Nat) (tv:M') (wr:J'):Prop where
 ex:∃vr vw vb,gO w Wc We B (Qw P n m k).1 L O P vr vw vb vl b2 b4 wr/\vb.ownBlock≠some gw
 tx:tv=.string ⟨(Qw P n m k).2.toArray⟩
 row:wr.heap[gw]?=w.heap[gw]?
variable {B:Nat} {m:Rm} {vr vb vl:M'} {w:J'} {L O P:Int}
theorem Cx {vw:M'} (R:bA B m vr vw vb w) (hn:m.recs.length<=100) (L9:m.wait.length<=100) (QO:m.back.length<=100) (mP:∃a n c,vl=.slice a n c)
 (kj:∀(i:Nat) (r:Rec),m.recs[i]?=some r->0<=r.jy/\r.jy<=m.clock) (hop:∀p∈m.wait,(1<=p.1/\p.1<=1000000)/\∃i,dE m.recs p.1=some i) (QM:(m.wait.map (·.1)).Nodup) (n:Int) (gv:(0<=m.clock/\m.clock<=1000000)/\0<=n/\n<=1000000):
 d_ p_ 86 #[jD L O P m.clock vr vw vb vl,.int .i64 n] w (Done w vr vb B (mB P m n).1 L O P vl (mB P m n).2):=by
 obtain ⟨al,bM,cl,rfl⟩:=mP
 obtain ⟨ab,cb,oK⟩:=aE R.back
 subst oK
 obtain ⟨ar,cr,ql⟩:=aE R.recs
 subst ql
 obtain ⟨gw,cw,qG,KC,yN⟩:=fV R.wait R.iQ
 subst qG
 obtain ⟨w1,cf⟩:∃w1,(w.alloc (.cells (gi L O P m.clock (.slice ar m.recs.length cr) (.slice (some ⟨gw,0,none⟩) m.wait.length cw) (.slice ab m.back.length cb) (.slice al bM cl)) 63)).alloc (.cells ia 63)=w1:=⟨_,rfl⟩
 have lr:f_ (w1.heap.size=w.heap.size+2):=by rw [f_,<-cf,B_,B_]
 have eo:g_ w.heap.size w w1:=by rw [<-cf];exact ((h_ _ _).alloc (C_ _) _).alloc (by rw [B_];omega) _
 have jx:w1.heap[w.heap.size]?=some (.cells (gi L O P m.clock (.slice ar m.recs.length cr) (.slice (some ⟨gw,0,none⟩) m.wait.length cw) (.slice ab m.back.length cb) (.slice al bM cl)) 63 (0,0)):=by rw [<-cf];exact br (Z' w _)
 have sH:w1.heap[w.heap.size+1]?=some (.cells ia 63 (0,0)):=by
  have:=Z' (w.alloc (.cells (gi L O P m.clock (.slice ar m.recs.length cr) (.slice (some ⟨gw,0,none⟩) m.wait.length cw) (.slice ab m.back.length cb) (.slice al bM cl)) 63)) (.cells ia 63)
  rw [B_,cf] at this
  exact this
 have hWt:=aa (XH (P:=P) kj hop QM (n:=n) ⟨by omega,by omega⟩)
 have Uk:=aa (fun k (hk:k<m.wait.length)=>(hop _ (List.getElem_mem hk)).1)
 have Mg:gw<w.heap.size:=R.nN.2.1 gw rfl
 have Ky:=aa (R.apart gw rfl)
 have ZZ:=aa R.rd.2.1
 have Zs:=aa (jF R.wait (g:=gw) rfl)
 have F1:=aa (gO.start R eo jx sH (C_ _) (by omega) (by omega))
 replace Mg:=aa Mg
 obtain ⟨c,hc⟩:∃c,m.clock+n=c:=⟨_,rfl⟩
 have oJ:IntKind.i64.wrap (m.clock+n)=c:=by rw [hc];exact IntWalk.i64_in _ (by omega)
 have KE:0<=c:=by omega
 have BK:c<=2000000:=by omega
 obtain ⟨w2,wh⟩:∃w2,w1.setCell ⟨w.heap.size,3,none⟩ (.int .i64 c)=w2:=⟨_,rfl⟩
 have F2:=F1.out.clock c
 rw [wh] at F2
 have uJ:f_ (w2.heap[gw]?=w.heap[gw]?):=by rw [f_,<-wh];exact (a_ w1 ⟨w.heap.size,3,none⟩ gw _ (show gw≠w.heap.size by have:=Mg.out;omega)).trans (eo.block gw Mg.out)
 have UY:f_ (gw<w2.heap.size):=by rw [f_,<-wh,World.size_setCell];have:=Mg.out;have:=eo.size;omega
 obtain ⟨⟨a0,a1,a2,a3,a4,a5,a6,a7⟩,b0,b1,b2,b3,b4,b5,b6,b7⟩:=aG jx
 obtain ⟨⟨d0,d1,d2,d3,d4,d5,d6,d7⟩,_⟩:=aG F2.box
 replace F2:=aa F2
 have KB:=aa (lp c w2 KE (by omega))
 have Rr:=pW KE (show c<=1000000000 by omega)
 have hL:¬(9223372036854775807<3+(L_ c).length):=by omega
 have qo:m.wait.length<=1000:=by omega
 have ZG:=aa gv
 clear R eo jx sH kj hop gv
 unfold gi ia at cf
 unfold jD
 obtain ⟨Po,EW⟩:∃Po:Ending->J'->Prop,f_ (Po=Done w (.slice ar m.recs.length cr) (.slice ab m.back.length cb) B (mB P m n).1 L O P (.slice al bM cl) (mB P m n).2):=⟨_,rfl⟩
 refine Calls.mono (R:=Po) ?_ (fun e w' h=>by rw [EW.out] at h;exact h)
 replace hc:=aa hc
 go_enter func86,ntmps86
 go_wp2_with (go_at_call 113;(with_reducible refine KB.out.mono ?_);rintro e w3 ⟨rfl,Mi⟩;have F3:=aa (F2.out.below Mi);obtain ⟨⟨e0,e1,e2,e3,e4,e5,e6,e7⟩,f0,f1,f2,f3,f4,f5,f6,f7⟩:=aG F3.out.box;have OI:f_ (w3.heap[gw]?=w.heap[gw]?):=(Mi.block gw UY.out).trans uJ.out;clear Mi F1 F2 d0 d1 d2 d3 d4 d5 d6 d7)
 have Rq:f_ (Φ w (.slice ar m.recs.length cr) (.slice ab m.back.length cb) B m L O P n (.slice al bM cl) w.heap.size (w.heap.size+1) gw 0 (.string ({data:=#[97,116,32]}++{data:=(L_ c).toArray})) w3):=by
  refine ⟨⟨_,_,_,by have:=F3.out;rw [<-hc.out] at this;exact this,Ky.out⟩, ?_,OI.out⟩
  show _=Value.string ⟨(rI++L_ (m.clock+n)).toArray⟩
  rw [hc.out];exact congrArg Value.string (vQ rI (L_ c))
 clear oJ cf wh uJ OI F3 e0 e1 e2 e3 e4 e5 e6 e7 f0 f1 f2 f3 f4 f5 f6 f7 KB hL Rr UY
 go_loopw [8,6] (fun i tv wr=>∃k:Nat,k<=m.wait.length/\i=.int .i64 k/\f_ (Φ w (.slice ar m.recs.length cr) (.slice ab m.back.length cb) B m L O P n (.slice al bM cl) w.heap.size (w.heap.size+1) gw k tv wr)) (fun i _ _=>m.wait.length - (intOf i).toNat)
 case atStart=>exact ⟨0,Nat.zero_le _,rfl,Rq⟩
 case round=>
  clear Rq
  obtain ⟨k,hk,rfl,hR⟩:=hrel
  by_cases hlt:k<m.wait.length
  ·have gJ:(k:Int)<(m.wait.length:Int):=by omega
   have W:=hWt.out k hk
   obtain ⟨⟨vr,vw,vb,F,oK⟩,TZ,bR⟩:=hR.out
   subst TZ
   obtain ⟨i,r,Gc,wj,mj,OL⟩:=Fv hlt W
   have Iu:=Uk.out k hlt
   obtain ⟨ml,Kk⟩:=List.getElem?_eq_some_iff.1 wj
   have Q6:=W.fr i r wj
   have Ug:(Qw P n m k).1.clock=c:=by rw [W.ck];exact hc.out
   have q1:=W.rl
   have q2:=W.bl
   have q3:=W.wl
   have q4:=W.tl
   have L6:f_ (∀wx:J',wx.heap[gw]?=w.heap[gw]?->wx.cell? ⟨gw,k * 2,none⟩=some (.int .i64 (m.wait[k]).1)/\wx.cell? ⟨gw,k * 2+1,none⟩=some (.int .i64 (m.wait[k]).2)):=fun wx h=>by
    have hr:=ZZ.out.keep (w':=wx) (fun g hg=>by have e:gw=g:=M_ hg;subst e;exact h)
    obtain ⟨g1,c1,M5,_,y0,y1⟩:=pR hr hlt
    injection M5 with i1 i2 i3
    injection i1 with i1
    injection i1 with i1
    subst i1
    exact ⟨y0,y1⟩
   clear W hR
   have Up:=aa OL
   clear OL
   generalize Qw P n m k=q at *
   obtain ⟨LG,Lv,Qt⟩:=aE F.room.back
   subst Qt
   obtain ⟨gq,cq,YL,_,_⟩:=fV F.room.wait F.room.iQ
   subst YL
   obtain ⟨gr,HZ,Qq,aEc,zz⟩:=nH F.room.rd.1 ml
   subst Qq
   clear zz
   have Oz:f_ (∀wx:J',gO w (.slice ar m.recs.length cr) (.slice ab m.back.length cb) B q.1 L O P (.slice (some ⟨gr,0,none⟩) q.1.recs.length HZ) (.slice (some ⟨gq,0,none⟩) q.1.wait.length cq) (.slice LG q.1.back.length Lv) (.slice al bM cl) w.heap.size (w.heap.size+1) wx->wx.cell? ⟨gr,i * 7+3,none⟩=some (.int .i64 r.jy)):=fun wx h=>by
    obtain ⟨g1,c1,M5,_,y0,y1,y2,y3,_⟩:=nH h.room.rd.1 ml
    injection M5 with i1 i2 i3
    injection i1 with i1
    injection i1 with i1
    subst i1
    rw [Kk] at y3
    exact y3
   generalize m.wait[k]=p at *
   have lA:f_ (∀N,d_ p_ 110 #[.slice (some ⟨gr,0,none⟩) q.1.recs.length HZ,.int .i64 p.1] (wr.drewN N) fun e w'=>e=.returned (.int .i64 (i:Nat))/\w'=wr.drewN N):=fun N=>by rw [<-(pV Gc).1];exact nO (F.drewN N).room.rd.1 (by omega) p.1
   have QY:(i:Int)<(q.1.recs.length:Int):=by omega
   have vI:(0:Int)<=(i:Int):=by omega
   have M3:IntKind.i64.wrap (q.1.clock - r.jy)=q.1.clock - r.jy:=IntWalk.i64_in _ (by have:=ZG.out;omega)
   have aDu:0<=q.1.clock/\q.1.clock<=2000000:=by omega
   replace Iu:=aa Iu
   replace Gc:=aa Gc
   replace wj:=aa wj
   replace Kk:=aa Kk
   replace mj:=aa mj
   replace q1:=aa q1
   replace q2:=aa q2
   replace q3:=aa q3
   replace q4:=aa q4
   have hF:=aa F
   replace bR:=aa bR
   replace oK:=aa oK
   replace ml:=aa ml
   replace Q6:=aa Q6
   clear Ug F
   obtain ⟨⟨e0,e1,e2,e3,e4,e5,e6,e7⟩,f0,f1,f2,f3,f4,f5,f6,f7⟩:=aG hF.out.box
   obtain ⟨k0,k1⟩:=L6.out _ bR.out
   have z3:=Oz.out _ hF.out
   go_wp2_with fail
   go_quiet ((go_at_call 110;exact Calls.quiet_of_same (lA.out _)))
   have Fa:=aa (hF.out.drewN nq)
   have Jf:f_ ((wr.drewN nq).heap[gw]?=w.heap[gw]?):=bR.out
   clear e0 e1 e2 e3 e4 e5 e6 e7 f0 f1 f2 f3 f4 f5 f6 f7 k0 k1 z3 hF bR lA
   generalize wr.drewN nq=wa at *
   obtain ⟨⟨e0a,e1a,e2a,e3a,e4a,e5a,e6a,e7a⟩,f0a,f1a,f2a,f3a,f4a,f5a,f6a,f7a⟩:=aG Fa.out.box
   obtain ⟨k0a,k1a⟩:=L6.out _ Jf.out
   have z3a:=Oz.out _ Fa.out
   go_wp2_with fail
   by_cases hP:q.1.clock - r.jy>=P
   ·have hd:decide (P<=q.1.clock - r.jy)=true:=decide_eq_true hP
    have CP:f_ (Qw P n m (k+1)=({{q.1 with recs:=q.1.recs.set i {r with wI:=q.1.clock,fin:=eT},wait:=aJ q.1.wait r.call} with back:=q.1.back++[p]},q.2++(32::L_ p.1))):=by rw [f_,Up.out,if_pos hP,sM ml.out,Kk.out]
    go_quiet (fail)
    have Fb:=aa (Fa.out.drewN nq)
    have Je:f_ ((wa.drewN nq).heap[gw]?=w.heap[gw]?):=Jf.out
    clear e0a e1a e2a e3a e4a e5a e6a e7a f0a f1a f2a f3a f4a f5a f6a f7a k0a k1a z3a Fa Jf hd hP M3
    generalize wa.drewN nq=wb at *
    obtain ⟨⟨e0,e1,e2,e3,e4,e5,e6,e7⟩,_⟩:=aG Fb.out.box
    have hE:f_ (d_ p_ 116 #[.agg #[.int .i64 L,.int .i64 O,.int .i64 P,.int .i64 q.1.clock,.slice (some ⟨gr,0,none⟩) q.1.recs.length HZ,.slice (some ⟨gq,0,none⟩) q.1.wait.length cq,.slice LG q.1.back.length Lv,.slice al bM cl],.int .i64 (i:Nat),.string ⟨#[116,105,114,101,100]⟩] wb fun e w'=>∃jA,e=.returned (jD L O P q.1.clock (.slice (some ⟨gr,0,none⟩) q.1.recs.length HZ) jA (.slice LG q.1.back.length Lv) (.slice al bM cl))/\bA B {q.1 with recs:=q.1.recs.set i {r with wI:=q.1.clock,fin:=eT},wait:=aJ q.1.wait r.call} (.slice (some ⟨gr,0,none⟩) q.1.recs.length HZ) jA (.slice LG q.1.back.length Lv) w'/\bg (.slice (some ⟨gr,0,none⟩) q.1.recs.length HZ) (.slice none 0 0) wb w'/\(∀g,jA.ownBlock=some g->wb.heap.size<=g)):=by
     have h:=xm (L:=L) (O:=O) (P:=P) (vl:=.slice al bM cl) Fb.out.room ml.out (by have:=q1.out;omega) (by have:=q3.out;omega) ⟨_,_,_,rfl⟩ eT
     rw [sM ml.out,Kk.out] at h
     exact h
    go_wp2_with (go_at_call 116;(with_reducible refine hE.out.mono ?_);rintro e w4 ⟨N3,rfl,R2,nj,_⟩;obtain ⟨ID,IC,rn⟩:=aE R2.wait;subst rn;have lF:=(nj.block _ Fb.out.LX Fb.out.oB.1.1 (fun e=>by cases e)).trans Fb.out.box;obtain ⟨⟨p0,p1,p2,p3,p4,p5,p6,p7⟩,s0,s1,s2,s3,s4,s5,s6,s7⟩:=aG lF;have DD:=aa R2;have tY:=aa nj;unfold jD;clear R2 nj lF e0 e1 e2 e3 e4 e5 e6 e7 hE)
    have F9:f_ (gO w (.slice ar m.recs.length cr) (.slice ab m.back.length cb) B {q.1 with recs:=q.1.recs.set i {r with wI:=q.1.clock,fin:=eT},wait:=aJ q.1.wait r.call} L O P (.slice (some ⟨gr,0,none⟩) q.1.recs.length HZ) (.slice ID (aJ q.1.wait r.call).length IC) (.slice LG q.1.back.length Lv) (.slice al bM cl) w.heap.size (w.heap.size+1) (Of.b8 w4 w.heap.size (.int .i64 L) (.int .i64 O) (.int .i64 P) (.int .i64 q.1.clock) (.slice (some ⟨gr,0,none⟩) q.1.recs.length HZ) (.slice ID (aJ q.1.wait r.call).length IC) (.slice LG q.1.back.length Lv) (.slice al bM cl))):=gO.put Fb.out tY.out DD.out
    obtain ⟨cub,Vb⟩:=Zs.out
    have PX:f_ ((Of.b8 w4 w.heap.size (.int .i64 L) (.int .i64 O) (.int .i64 P) (.int .i64 q.1.clock) (.slice (some ⟨gr,0,none⟩) q.1.recs.length HZ) (.slice ID (aJ q.1.wait r.call).length IC) (.slice LG q.1.back.length Lv) (.slice al bM cl)).heap[gw]?=w.heap[gw]?):=(kN (show gw≠w.heap.size by have:=Mg.out;omega)).trans ((tY.out.block gw (by have:=Mg.out;have:=Fb.out.fr.size;omega) (bB Fb.out.room.recs (Je.out.trans Vb) (by decide)) (fun e=>by cases e)).trans Je.out)
    change Code.wp _ _ _ _ (Of.b8 w4 w.heap.size (.int .i64 L) (.int .i64 O) (.int .i64 P) (.int .i64 q.1.clock) (.slice (some ⟨gr,0,none⟩) q.1.recs.length HZ) (.slice ID (aJ q.1.wait r.call).length IC) (.slice LG q.1.back.length Lv) (.slice al bM cl))
    clear DD tY p0 p1 p2 p3 p4 p5 p6 p7 s0 s1 s2 s3 s4 s5 s6 s7 Fb Je Vb
    generalize Of.b8 w4 w.heap.size (.int .i64 L) (.int .i64 O) (.int .i64 P) (.int .i64 q.1.clock) (.slice (some ⟨gr,0,none⟩) q.1.recs.length HZ) (.slice ID (aJ q.1.wait r.call).length IC) (.slice LG q.1.back.length Lv) (.slice al bM cl)=w9 at *
    obtain ⟨k0c,k1c⟩:=L6.out _ PX.out
    have Q3:f_ (gw<w9.heap.size):=by have:=Mg.out;have:=F9.out.fr.size;show _<_;omega
    refine Tf (m:={q.1 with recs:=q.1.recs.set i {r with wI:=q.1.clock,fin:=eT},wait:=aJ q.1.wait r.call}) (k:=k) (p:=p) (g7:=gw) (n7:=m.wait.length) (c7:=cw) F9.out (by show q.1.back.length<=1000;have:=q2.out;omega) hlt KC qo k0c k1c fun w6 gg mW Ju Jt Js Jr Jq Og Oe Oc Tt hF6 QL Iw=> ?_
    have F6:=aa hF6
    have PY:f_ (w6.heap[gw]?=w.heap[gw]?):=(QL gw Q3.out (by have:=Mg.out;omega) oK.out).trans PX.out
    have Zu:f_ (gw<w6.heap.size):=by have:=Mg.out;have:=hF6.fr.size;show _<_;omega
    have Za:f_ ((mN (some ⟨gg,0,none⟩) (q.1.back.length+1) mW).ownBlock≠some gw):=fun e=>by
     have e1:gg=gw:=M_ e
     rcases Iw with h|h
     ·exact oK.out (by rw [<-e1];exact h.symm)
     ·have:=Q3.out;omega
    clear hF6 QL Iw F9 PX k0c k1c Q3
    obtain ⟨k0d,k1d⟩:=L6.out _ PY.out
    have aDv:=Iu.out
    have KB:=lp p.1 w6 (by omega) (by omega)
    have Rr:=pW (n:=p.1) (by omega) (by omega)
    have q4':=q4.out
    have nU:¬(9223372036854775807<q.2.length+1):=by omega
    have du:¬(9223372036854775807<q.2.length+1+(L_ p.1).length):=by omega
    replace q4':=aa q4'
    go_wp2_with fail
    refine KB.mono ?_
    rintro e w7 ⟨rfl,Vj⟩
    have EU:f_ (Φ w (.slice ar m.recs.length cr) (.slice ab m.back.length cb) B m L O P n (.slice al bM cl) w.heap.size (w.heap.size+1) gw (k+1) (.string (({data:=q.2.toArray}++{data:=#[32]})++{data:=(L_ p.1).toArray})) w7):=by
     refine ⟨⟨_,_,_,by rw [CP.out];exact F6.out.below Vj,Za.out⟩, ?_,(Vj.block gw Zu.out).trans PY.out⟩
     rw [CP.out]
     have e1:=vQ q.2 [32]
     have e2:=vQ (q.2++[32]) (L_ p.1)
     rw [List.append_assoc] at e2
     exact congrArg Value.string ((congrArg (fun y=>y++({data:=(L_ p.1).toArray}:ByteArray)) e1).trans e2)
    clear Vj F6 PY k0d k1d KB
    go_wp2_with fail
    go_roundw
    case rel=>exact ⟨k+1,by omega,by go_num,EU⟩
    case measure=>simp [intOf];omega
   ·have hd:decide (P<=q.1.clock - r.jy)=false:=decide_eq_false hP
    have CP:f_ (Qw P n m (k+1)=q):=by rw [f_,Up.out,if_neg hP]
    go_quiet (fail)
    have Fb:=aa (Fa.out.drewN nq)
    have Je:f_ ((wa.drewN nq).heap[gw]?=w.heap[gw]?):=Jf.out
    clear e0a e1a e2a e3a e4a e5a e6a e7a f0a f1a f2a f3a f4a f5a f6a f7a k0a k1a z3a Fa Jf hd hP M3
    generalize wa.drewN nq=wb at *
    have EU:f_ (Φ w (.slice ar m.recs.length cr) (.slice ab m.back.length cb) B m L O P n (.slice al bM cl) w.heap.size (w.heap.size+1) gw (k+1) (.string ⟨q.2.toArray⟩) wb):=⟨⟨_,_,_,by rw [CP.out];exact Fb.out,oK.out⟩,by rw [CP.out],Je.out⟩
    go_wp2_with fail
    go_roundw
    case rel=>exact ⟨k+1,by omega,by go_num,EU⟩
    case measure=>simp [intOf];omega
  ·have yK:k=m.wait.length:=by omega
   obtain ⟨⟨vr,vw,vb,F,oK⟩,TZ,bR⟩:=hR.out
   subst TZ
   subst yK
   rw [Sc] at F ⊢
   clear hR
   generalize mB P m n=q at *
   obtain ⟨LG,Lv,Qt⟩:=aE F.room.back
   subst Qt
   obtain ⟨gq,cq,YL,_,_⟩:=fV F.room.wait F.room.iQ
   subst YL
   obtain ⟨ar1,HZ,Qq⟩:=aE F.room.recs
   subst Qq
   obtain ⟨⟨e0,e1,e2,e3,e4,e5,e6,e7⟩,_⟩:=aG F.box
   obtain ⟨⟨x0,x1,x2,x3,x4,x5,x6,x7⟩,y0,y1,y2,y3,y4,y5,y6,y7⟩:=aG (show wr.heap[w.heap.size+1]?=some (jY #[.int .i64 0,.int .i64 0,.int .i64 0,.int .i64 0,.slice none 0 0,.slice none 0 0,.slice none 0 0,.slice none 0 0] 63 (0,0)) from F.res)
   have hF:=aa F
   clear F
   go_wp2_with fail
   change bodyPost p_ f86 _ .ret _ (Of.b8 _ (w.heap.size+1) (.int .i64 L) (.int .i64 O) (.int .i64 P) (.int .i64 q.1.clock) (.slice ar1 q.1.recs.length HZ) (.slice (some ⟨gq,0,none⟩) q.1.wait.length cq) (.slice LG q.1.back.length Lv) (.slice al bM cl))
   rw [EW.out];refine gO.ends hF.out ?_ ?_ ?_<;>rfl
theorem wL (w:J') (L O P:Int):d_ p_ 62 #[.agg #[.int .i64 L,.int .i64 O,.int .i64 P]] w fun e w'=>e=.returned (.bool (dw L O P))/\w'=w.alloc (.cells #[.int .i64 L,.int .i64 O,.int .i64 P] 28):=by
 have h0:(w.alloc (.cells #[.int .i64 L,.int .i64 O,.int .i64 P] 28)).cell? ⟨w.heap.size,0,none⟩=some (.int .i64 L):=bJ rfl
 have h1:(w.alloc (.cells #[.int .i64 L,.int .i64 O,.int .i64 P] 28)).cell? ⟨w.heap.size,1,none⟩=some (.int .i64 O):=bJ rfl
 have h2:(w.alloc (.cells #[.int .i64 L,.int .i64 O,.int .i64 P] 28)).cell? ⟨w.heap.size,2,none⟩=some (.int .i64 P):=bJ rfl
 have hV:dw L O P=(decide (1<=L)&&decide (L<=6)&&(decide (1<=O)&&decide (O<=4))&&(decide (1<=P)&&decide (P<=60))):=rfl
 by_cases aL:1<=L/\L<=6
 ·have cL:f_ (∀w,d_ p_ 52 #[.int .i64 L,.int .i64 1,.int .i64 6] w fun e w'=>e=.returned (.bool true)/\w'=w):=fun w=>by have h:=dx L 1 6 w;rw [decide_eq_true aL.1,decide_eq_true aL.2] at h;exact h
  have v1:(decide (1<=L)&&decide (L<=6))=true:=by rw [<-cM];exact decide_eq_true aL
  rw [v1] at hV
  clear v1 aL
  by_cases aO:1<=O/\O<=4
  ·have cO:f_ (∀w,d_ p_ 52 #[.int .i64 O,.int .i64 1,.int .i64 4] w fun e w'=>e=.returned (.bool true)/\w'=w):=fun w=>by have h:=dx O 1 4 w;rw [decide_eq_true aO.1,decide_eq_true aO.2] at h;exact h
   have v1:(decide (1<=O)&&decide (O<=4))=true:=by rw [<-cM];exact decide_eq_true aO
   rw [v1] at hV
   clear v1 aO
   by_cases aP:1<=P/\P<=60
   ·have cP:f_ (∀w,d_ p_ 52 #[.int .i64 P,.int .i64 1,.int .i64 60] w fun e w'=>e=.returned (.bool true)/\w'=w):=fun w=>by have h:=dx P 1 60 w;rw [decide_eq_true aP.1,decide_eq_true aP.2] at h;exact h
    have v1:(decide (1<=P)&&decide (P<=60))=true:=by rw [<-cM];exact decide_eq_true aP
    rw [v1] at hV
    clear v1 aP
    rw [hV]
    clear hV
    go_enter func62,ntmps62
    go_wp2_with (go_at_call 52;(with_reducible first|refine (cL.out _).mono ?_|refine (cO.out _).mono ?_|refine (cP.out _).mono ?_);rintro e w2 ⟨rfl,rfl⟩)
    all_goals go_ret
    all_goals exact ⟨by first|rfl|simp,rfl⟩
   ·have cP:f_ (∀w,d_ p_ 52 #[.int .i64 P,.int .i64 1,.int .i64 60] w fun e w'=>e=.returned (.bool false)/\w'=w):=fun w=>by have h:=dx P 1 60 w;rw [<-cM,decide_eq_false aP] at h;exact h
    have v1:(decide (1<=P)&&decide (P<=60))=false:=by rw [<-cM];exact decide_eq_false aP
    rw [v1] at hV
    clear v1 aP
    simp only [Bool.and_false,Bool.false_and] at hV
    rw [hV]
    clear hV
    go_enter func62,ntmps62
    go_wp2_with (go_at_call 52;(with_reducible first|refine (cL.out _).mono ?_|refine (cO.out _).mono ?_|refine (cP.out _).mono ?_);rintro e w2 ⟨rfl,rfl⟩)
    all_goals go_ret
    all_goals exact ⟨by first|rfl|simp,rfl⟩
  ·have cO:f_ (∀w,d_ p_ 52 #[.int .i64 O,.int .i64 1,.int .i64 4] w fun e w'=>e=.returned (.bool false)/\w'=w):=fun w=>by have h:=dx O 1 4 w;rw [<-cM,decide_eq_false aO] at h;exact h
   have v1:(decide (1<=O)&&decide (O<=4))=false:=by rw [<-cM];exact decide_eq_false aO
   rw [v1] at hV
   clear v1 aO
   simp only [Bool.and_false,Bool.false_and] at hV
   rw [hV]
   clear hV
   go_enter func62,ntmps62
   go_wp2_with (go_at_call 52;(with_reducible first|refine (cL.out _).mono ?_|refine (cO.out _).mono ?_);rintro e w2 ⟨rfl,rfl⟩)
   all_goals go_ret
   all_goals exact ⟨by first|rfl|simp,rfl⟩
 ·have cL:f_ (∀w,d_ p_ 52 #[.int .i64 L,.int .i64 1,.int .i64 6] w fun e w'=>e=.returned (.bool false)/\w'=w):=fun w=>by have h:=dx L 1 6 w;rw [<-cM,decide_eq_false aL] at h;exact h
  have v1:(decide (1<=L)&&decide (L<=6))=false:=by rw [<-cM];exact decide_eq_false aL
  rw [v1] at hV
  clear v1 aL
  simp only [Bool.and_false,Bool.false_and] at hV
  rw [hV]
  clear hV
  go_enter func62,ntmps62
  go_wp2_with (go_at_call 52;(with_reducible refine (cL.out _).mono ?_);rintro e w2 ⟨rfl,rfl⟩)
  all_goals go_ret
  all_goals exact ⟨by first|rfl|simp,rfl⟩
theorem yj (w:J') (r:Raw) (m:Int) (hm:1<=m/\m<=4):d_ p_ 63 #[r.val,.int .i64 m] w fun e w'=>e=.returned (.bool (bu r m))/\w'=w.alloc (.cells #[.string r.kind,.int .i64 r.who,.int .i64 r.word] 55):=by
 obtain ⟨k,who,word⟩:=r
 show d_ p_ 63 #[.agg #[.string k,.int .i64 who,.int .i64 word],.int .i64 m] w _
 have q1:(m<1)=False:=eq_false (by omega)
 have q2:(4<m)=False:=eq_false (by omega)
 have h0:(w.alloc (.cells #[.string k,.int .i64 who,.int .i64 word] 55)).cell? ⟨w.heap.size,0,none⟩=some (.string k):=bJ rfl
 have h1:(w.alloc (.cells #[.string k,.int .i64 who,.int .i64 word] 55)).cell? ⟨w.heap.size,1,none⟩=some (.int .i64 who):=bJ rfl
 have h2:(w.alloc (.cells #[.string k,.int .i64 who,.int .i64 word] 55)).cell? ⟨w.heap.size,2,none⟩=some (.int .i64 word):=bJ rfl
 by_cases tV:k=⟨#[114,105,110,103]⟩
 ·subst tV
  have hV:bu ⟨⟨#[114,105,110,103]⟩,who,word⟩ m=(decide (1<=who)&&decide (who<=99)&&(decide (0<=word)&&decide (word<=9))):=by
   simp only [bu,q1,q2,if_false]
   by_cases h:who<1
   ·simp [h];omega
   ·have h':1<=who:=by omega
    simp [h,h']
  by_cases a1:1<=who/\who<=99
  ·have c1:f_ (∀w,d_ p_ 52 #[.int .i64 who,.int .i64 1,.int .i64 99] w fun e w'=>e=.returned (.bool true)/\w'=w):=fun w=>by have h:=dx who 1 99 w;rw [decide_eq_true a1.1,decide_eq_true a1.2] at h;exact h
   have v1:(decide (1<=who)&&decide (who<=99))=true:=by rw [<-cM];exact decide_eq_true a1
   rw [v1] at hV
   clear v1 a1
   by_cases a2:0<=word/\word<=9
   ·have c2:f_ (∀w,d_ p_ 52 #[.int .i64 word,.int .i64 0,.int .i64 9] w fun e w'=>e=.returned (.bool true)/\w'=w):=fun w=>by have h:=dx word 0 9 w;rw [decide_eq_true a2.1,decide_eq_true a2.2] at h;exact h
    have v2:(decide (0<=word)&&decide (word<=9))=true:=by rw [<-cM];exact decide_eq_true a2
    rw [v2] at hV
    clear v2 a2
    rw [hV]
    clear hV
    go_enter func63,ntmps63
    go_wp2_with (go_at_call 52;(with_reducible first|refine (c1.out _).mono ?_|refine (c2.out _).mono ?_);rintro e w2 ⟨rfl,rfl⟩)
    all_goals go_ret
    all_goals exact ⟨by first|rfl|simp,rfl⟩
   ·have c2:f_ (∀w,d_ p_ 52 #[.int .i64 word,.int .i64 0,.int .i64 9] w fun e w'=>e=.returned (.bool false)/\w'=w):=fun w=>by have h:=dx word 0 9 w;rw [<-cM,decide_eq_false a2] at h;exact h
    have v2:(decide (0<=word)&&decide (word<=9))=false:=by rw [<-cM];exact decide_eq_false a2
    rw [v2] at hV
    clear v2 a2
    rw [hV]
    clear hV
    go_enter func63,ntmps63
    go_wp2_with (go_at_call 52;(with_reducible first|refine (c1.out _).mono ?_|refine (c2.out _).mono ?_);rintro e w2 ⟨rfl,rfl⟩)
    all_goals go_ret
    all_goals exact ⟨by first|rfl|simp,rfl⟩
  ·have c1:f_ (∀w,d_ p_ 52 #[.int .i64 who,.int .i64 1,.int .i64 99] w fun e w'=>e=.returned (.bool false)/\w'=w):=fun w=>by have h:=dx who 1 99 w;rw [<-cM,decide_eq_false a1] at h;exact h
   have v1:(decide (1<=who)&&decide (who<=99))=false:=by rw [<-cM];exact decide_eq_false a1
   rw [v1,Bool.false_and] at hV
   clear v1 a1
   rw [hV]
   clear hV
   go_enter func63,ntmps63
   go_wp2_with (go_at_call 52;(with_reducible refine (c1.out _).mono ?_);rintro e w2 ⟨rfl,rfl⟩)
   all_goals go_ret
   all_goals exact ⟨by first|rfl|simp,rfl⟩
 by_cases tW:k=⟨#[104,97,110,103]⟩
 ·subst tW
  have hV:bu ⟨⟨#[104,97,110,103]⟩,who,word⟩ m=(decide (1<=who)&&decide (who<=99)&&(word==0)):=by
   simp only [bu,q1,q2,if_false]
   by_cases h:who<1
   ·simp [h];omega
   ·have h':1<=who:=by omega
    simp [h,h']
  by_cases a1:1<=who/\who<=99
  ·have c1:f_ (∀w,d_ p_ 52 #[.int .i64 who,.int .i64 1,.int .i64 99] w fun e w'=>e=.returned (.bool true)/\w'=w):=fun w=>by have h:=dx who 1 99 w;rw [decide_eq_true a1.1,decide_eq_true a1.2] at h;exact h
   have v1:(decide (1<=who)&&decide (who<=99))=true:=by rw [<-cM];exact decide_eq_true a1
   rw [v1] at hV
   clear v1 a1
   rw [hV]
   clear hV
   go_enter func63,ntmps63
   go_wp2_with (go_at_call 52;(with_reducible refine (c1.out _).mono ?_);rintro e w2 ⟨rfl,rfl⟩)
   all_goals go_ret
   all_goals exact ⟨by first|rfl|simp,rfl⟩
  ·have c1:f_ (∀w,d_ p_ 52 #[.int .i64 who,.int .i64 1,.int .i64 99] w fun e w'=>e=.returned (.bool false)/\w'=w):=fun w=>by have h:=dx who 1 99 w;rw [<-cM,decide_eq_false a1] at h;exact h
   have v1:(decide (1<=who)&&decide (who<=99))=false:=by rw [<-cM];exact decide_eq_false a1
   rw [v1,Bool.false_and] at hV
   clear v1 a1
   rw [hV]
   clear hV
   go_enter func63,ntmps63
   go_wp2_with (go_at_call 52;(with_reducible refine (c1.out _).mono ?_);rintro e w2 ⟨rfl,rfl⟩)
   all_goals go_ret
   all_goals exact ⟨by first|rfl|simp,rfl⟩
 by_cases mM:k=⟨#[97,110,115,119,101,114]⟩
 ·subst mM
  have hV:bu ⟨⟨#[97,110,115,119,101,114]⟩,who,word⟩ m=(decide (1<=who)&&decide (who<=m)&&(word==0)):=by
   simp only [bu,q1,q2,if_false]
   by_cases h:who<1
   ·simp [h];omega
   ·have h':1<=who:=by omega
    simp [h,h']
  by_cases a1:1<=who/\who<=m
  ·have c1:f_ (∀w,d_ p_ 52 #[.int .i64 who,.int .i64 1,.int .i64 m] w fun e w'=>e=.returned (.bool true)/\w'=w):=fun w=>by have h:=dx who 1 m w;rw [decide_eq_true a1.1,decide_eq_true a1.2] at h;exact h
   have v1:(decide (1<=who)&&decide (who<=m))=true:=by rw [<-cM];exact decide_eq_true a1
   rw [v1] at hV
   clear v1 a1
   rw [hV]
   clear hV
   go_enter func63,ntmps63
   go_wp2_with (go_at_call 52;(with_reducible refine (c1.out _).mono ?_);rintro e w2 ⟨rfl,rfl⟩)
   all_goals go_ret
   all_goals exact ⟨by first|rfl|simp,rfl⟩
  ·have c1:f_ (∀w,d_ p_ 52 #[.int .i64 who,.int .i64 1,.int .i64 m] w fun e w'=>e=.returned (.bool false)/\w'=w):=fun w=>by have h:=dx who 1 m w;rw [<-cM,decide_eq_false a1] at h;exact h
   have v1:(decide (1<=who)&&decide (who<=m))=false:=by rw [<-cM];exact decide_eq_false a1
   rw [v1,Bool.false_and] at hV
   clear v1 a1
   rw [hV]
   clear hV
   go_enter func63,ntmps63
   go_wp2_with (go_at_call 52;(with_reducible refine (c1.out _).mono ?_);rintro e w2 ⟨rfl,rfl⟩)
   all_goals go_ret
   all_goals exact ⟨by first|rfl|simp,rfl⟩
 by_cases mL:k=⟨#[114,101,116,117,114,110]⟩
 ·subst mL
  have hV:bu ⟨⟨#[114,101,116,117,114,110]⟩,who,word⟩ m=(decide (1<=who)&&decide (who<=m)&&(word==0)):=by
   simp only [bu,q1,q2,if_false]
   by_cases h:who<1
   ·simp [h];omega
   ·have h':1<=who:=by omega
    simp [h,h']
  by_cases a1:1<=who/\who<=m
  ·have c1:f_ (∀w,d_ p_ 52 #[.int .i64 who,.int .i64 1,.int .i64 m] w fun e w'=>e=.returned (.bool true)/\w'=w):=fun w=>by have h:=dx who 1 m w;rw [decide_eq_true a1.1,decide_eq_true a1.2] at h;exact h
   have v1:(decide (1<=who)&&decide (who<=m))=true:=by rw [<-cM];exact decide_eq_true a1
   rw [v1] at hV
   clear v1 a1
   rw [hV]
   clear hV
   go_enter func63,ntmps63
   go_wp2_with (go_at_call 52;(with_reducible refine (c1.out _).mono ?_);rintro e w2 ⟨rfl,rfl⟩)
   all_goals go_ret
   all_goals exact ⟨by first|rfl|simp,rfl⟩
  ·have c1:f_ (∀w,d_ p_ 52 #[.int .i64 who,.int .i64 1,.int .i64 m] w fun e w'=>e=.returned (.bool false)/\w'=w):=fun w=>by have h:=dx who 1 m w;rw [<-cM,decide_eq_false a1] at h;exact h
   have v1:(decide (1<=who)&&decide (who<=m))=false:=by rw [<-cM];exact decide_eq_false a1
   rw [v1,Bool.false_and] at hV
   clear v1 a1
   rw [hV]
   clear hV
   go_enter func63,ntmps63
   go_wp2_with (go_at_call 52;(with_reducible refine (c1.out _).mono ?_);rintro e w2 ⟨rfl,rfl⟩)
   all_goals go_ret
   all_goals exact ⟨by first|rfl|simp,rfl⟩
 by_cases tU:k=⟨#[119,97,105,116]⟩
 ·subst tU
  have hV:bu ⟨⟨#[119,97,105,116]⟩,who,word⟩ m=(decide (1<=who)&&decide (who<=60)&&(word==0)):=by
   simp only [bu,q1,q2,if_false]
   by_cases h:who<1
   ·simp [h];omega
   ·have h':1<=who:=by omega
    simp [h,h']
  by_cases a1:1<=who/\who<=60
  ·have c1:f_ (∀w,d_ p_ 52 #[.int .i64 who,.int .i64 1,.int .i64 60] w fun e w'=>e=.returned (.bool true)/\w'=w):=fun w=>by have h:=dx who 1 60 w;rw [decide_eq_true a1.1,decide_eq_true a1.2] at h;exact h
   have v1:(decide (1<=who)&&decide (who<=60))=true:=by rw [<-cM];exact decide_eq_true a1
   rw [v1] at hV
   clear v1 a1
   rw [hV]
   clear hV
   go_enter func63,ntmps63
   go_wp2_with (go_at_call 52;(with_reducible refine (c1.out _).mono ?_);rintro e w2 ⟨rfl,rfl⟩)
   all_goals go_ret
   all_goals exact ⟨by first|rfl|simp,rfl⟩
  ·have c1:f_ (∀w,d_ p_ 52 #[.int .i64 who,.int .i64 1,.int .i64 60] w fun e w'=>e=.returned (.bool false)/\w'=w):=fun w=>by have h:=dx who 1 60 w;rw [<-cM,decide_eq_false a1] at h;exact h
   have v1:(decide (1<=who)&&decide (who<=60))=false:=by rw [<-cM];exact decide_eq_false a1
   rw [v1,Bool.false_and] at hV
   clear v1 a1
   rw [hV]
   clear hV
   go_enter func63,ntmps63
   go_wp2_with (go_at_call 52;(with_reducible refine (c1.out _).mono ?_);rintro e w2 ⟨rfl,rfl⟩)
   all_goals go_ret
   all_goals exact ⟨by first|rfl|simp,rfl⟩
 have Qj:(k.toList==[114,105,110,103])=false:=by rw [<-(show (⟨#[114,105,110,103]⟩:ByteArray).toList=[114,105,110,103] from ByteArray.toList_eq ⟨#[114,105,110,103]⟩)];exact (Lib.bytes_beq_false_iff k ⟨#[114,105,110,103]⟩).2 tV
 have Qk:(k.toList==[104,97,110,103])=false:=by rw [<-(show (⟨#[104,97,110,103]⟩:ByteArray).toList=[104,97,110,103] from ByteArray.toList_eq ⟨#[104,97,110,103]⟩)];exact (Lib.bytes_beq_false_iff k ⟨#[104,97,110,103]⟩).2 tW
 have JW:(k.toList==[97,110,115,119,101,114])=false:=by rw [<-(show (⟨#[97,110,115,119,101,114]⟩:ByteArray).toList=[97,110,115,119,101,114] from ByteArray.toList_eq ⟨#[97,110,115,119,101,114]⟩)];exact (Lib.bytes_beq_false_iff k ⟨#[97,110,115,119,101,114]⟩).2 mM
 have JV:(k.toList==[114,101,116,117,114,110])=false:=by rw [<-(show (⟨#[114,101,116,117,114,110]⟩:ByteArray).toList=[114,101,116,117,114,110] from ByteArray.toList_eq ⟨#[114,101,116,117,114,110]⟩)];exact (Lib.bytes_beq_false_iff k ⟨#[114,101,116,117,114,110]⟩).2 mL
 have Qi:(k.toList==[119,97,105,116])=false:=by rw [<-(show (⟨#[119,97,105,116]⟩:ByteArray).toList=[119,97,105,116] from ByteArray.toList_eq ⟨#[119,97,105,116]⟩)];exact (Lib.bytes_beq_false_iff k ⟨#[119,97,105,116]⟩).2 tU
 have hV:bu ⟨k,who,word⟩ m=false:=by simp [bu,tV,tW,mM,mL,tU]
 rw [hV]
 go_enter func63,ntmps63
 go_wp2_with fail
 all_goals go_ret
 all_goals exact ⟨rfl,rfl⟩
variable {nl:Nat}
theorem GZ {vw:M'} (R:bA B m vr vw vb w) (mP:∃a n c,vl=.slice a n c) (c pt:Int) {q:Rm × Bs} (hc:∀w',bA B m vr vw vb w'->d_ p_ 82 #[jD (nl:Nat) O P m.clock vr vw vb vl,.agg #[.int .i64 c,.int .i64 pt]] w' (Done w' vr vb B q.1 (nl:Nat) O P vl q.2)):
 d_ p_ 64 #[jD (nl:Nat) O P m.clock vr vw vb vl,.agg #[.string ⟨#[114,105,110,103]⟩,.int .i64 c,.int .i64 pt]] w (Done w vr vb B q.1 (nl:Nat) O P vl q.2):=by
 obtain ⟨al,bM,cl,rfl⟩:=mP
 obtain ⟨ab,cb,oK⟩:=aE R.back
 subst oK
 obtain ⟨ar,cr,ql⟩:=aE R.recs
 subst ql
 obtain ⟨gw,cw,qG,KC,yN⟩:=fV R.wait R.iQ
 subst qG
 obtain ⟨w1,cf⟩:∃w1,((w.alloc (.cells (gi (nl:Nat) O P m.clock (.slice ar m.recs.length cr) (.slice (some ⟨gw,0,none⟩) m.wait.length cw) (.slice ab m.back.length cb) (.slice al bM cl)) 63)).alloc (.cells #[.string ⟨#[114,105,110,103]⟩,.int .i64 c,.int .i64 pt] 55)).alloc (.cells ia 63)=w1:=⟨_,rfl⟩
 have lr:f_ (w1.heap.size=w.heap.size+3):=by rw [f_,<-cf,B_,B_,B_]
 have eo:g_ w.heap.size w w1:=by rw [<-cf];exact (((h_ _ _).alloc (C_ _) _).alloc (by rw [B_];omega) _).alloc (by rw [B_,B_];omega) _
 have jx:w1.heap[w.heap.size]?=some (.cells (gi (nl:Nat) O P m.clock (.slice ar m.recs.length cr) (.slice (some ⟨gw,0,none⟩) m.wait.length cw) (.slice ab m.back.length cb) (.slice al bM cl)) 63 (0,0)):=by rw [<-cf];exact br (br (Z' w _))
 have oG:w1.heap[w.heap.size+1]?=some (.cells #[.string ⟨#[114,105,110,103]⟩,.int .i64 c,.int .i64 pt] 55 (0,0)):=by
  have:=Z' (w.alloc (.cells (gi (nl:Nat) O P m.clock (.slice ar m.recs.length cr) (.slice (some ⟨gw,0,none⟩) m.wait.length cw) (.slice ab m.back.length cb) (.slice al bM cl)) 63)) (.cells #[.string ⟨#[114,105,110,103]⟩,.int .i64 c,.int .i64 pt] 55)
  rw [B_] at this
  rw [<-cf];exact br this
 have sH:f_ (w1.heap[w.heap.size+1+1]?=some (.cells ia 63 (0,0))):=by
  have:=Z' ((w.alloc (.cells (gi (nl:Nat) O P m.clock (.slice ar m.recs.length cr) (.slice (some ⟨gw,0,none⟩) m.wait.length cw) (.slice ab m.back.length cb) (.slice al bM cl)) 63)).alloc (.cells #[.string ⟨#[114,105,110,103]⟩,.int .i64 c,.int .i64 pt] 55)) (.cells ia 63)
  rw [B_,B_,cf] at this
  exact this
 obtain ⟨⟨a0,a1,a2,a3,a4,a5,a6,a7⟩,_⟩:=aG jx
 have g0:w1.cell? ⟨w.heap.size+1,0,none⟩=some (.string ⟨#[114,105,110,103]⟩):=aB oG
 have g1:w1.cell? ⟨w.heap.size+1,1,none⟩=some (.int .i64 c):=aB oG
 have g2:w1.cell? ⟨w.heap.size+1,2,none⟩=some (.int .i64 pt):=aB oG
 have hcc:f_ (d_ p_ 82 #[.agg #[.int .i64 (nl:Nat),.int .i64 O,.int .i64 P,.int .i64 m.clock,.slice ar m.recs.length cr,.slice (some ⟨gw,0,none⟩) m.wait.length cw,.slice ab m.back.length cb,.slice al bM cl],.agg #[.int .i64 c,.int .i64 pt]] w1 (Done w1 (.slice ar m.recs.length cr) (.slice ab m.back.length cb) B q.1 (nl:Nat) O P (.slice al bM cl) q.2)):=hc w1 (R.below eo)
 have fz:=aa R.nN
 have uf:=aa eo
 clear R eo jx oG hc
 unfold gi ia at cf
 unfold jD
 go_enter func64,ntmps64
 go_wp2_with (go_at_call 82;(with_reducible refine hcc.out.mono ?_);rintro e w2 ⟨LU,N3,N4,rfl,R2,nj,pk,po⟩;obtain ⟨W7,WZ,AR⟩:=aE R2.recs;subst AR;obtain ⟨ID,IC,rn⟩:=aE R2.wait;subst rn;obtain ⟨W8,W4,AU⟩:=aE R2.back;subst AU;have uI:=aa ((nj.block _ (by rw [lr.out];omega) (fun e=>by have:=fz.out.1 _ e;omega) (fun e=>by have:=fz.out.2.2 _ e;omega)).trans sH.out);obtain ⟨⟨p0,p1,p2,p3,p4,p5,p6,p7⟩,s0,s1,s2,s3,s4,s5,s6,s7⟩:=aG (show w2.heap[w.heap.size+1+1]?=some (jY #[.int .i64 0,.int .i64 0,.int .i64 0,.int .i64 0,.slice none 0 0,.slice none 0 0,.slice none 0 0,.slice none 0 0] 63 (0,0)) from uI.out);have DD:=aa R2;have tY:=aa nj;have pk:=aa pk;have po:=aa po;unfold jD;clear R2 nj a0 a1 a2 a3 a4 a5 a6 a7 g0 g1 g2 cf)
 change bodyPost p_ f64 _ .ret _ (Of.b8 _ (w.heap.size+1+1) (.int .i64 (nl:Nat)) (.int .i64 O) (.int .i64 P) (.int .i64 q.1.clock) _ _ _ (.slice al bM cl))
 refine zB DD.out ((bg.bW uf.out).trans tY.out) (fun g hg e=>pk.out g (by rw [lr.out];omega) e) (fun g hg e=>po.out g (by rw [lr.out];omega) e) uI.out (by omega) ?_ ?_ ?_<;>rfl
theorem B5 {vw:M'} (R:bA B m vr vw vb w) (mP:∃a n c,vl=.slice a n c) (c:Int) {q:Rm × Bs} (hc:∀w',bA B m vr vw vb w'->d_ p_ 83 #[jD (nl:Nat) O P m.clock vr vw vb vl,.int .i64 c] w' (Done w' vr vb B q.1 (nl:Nat) O P vl q.2)):
 d_ p_ 64 #[jD (nl:Nat) O P m.clock vr vw vb vl,.agg #[.string ⟨#[97,110,115,119,101,114]⟩,.int .i64 c,.int .i64 0]] w (Done w vr vb B q.1 (nl:Nat) O P vl q.2):=by
 obtain ⟨al,bM,cl,rfl⟩:=mP
 obtain ⟨ab,cb,oK⟩:=aE R.back
 subst oK
 obtain ⟨ar,cr,ql⟩:=aE R.recs
 subst ql
 obtain ⟨gw,cw,qG,KC,yN⟩:=fV R.wait R.iQ
 subst qG
 obtain ⟨w1,cf⟩:∃w1,((w.alloc (.cells (gi (nl:Nat) O P m.clock (.slice ar m.recs.length cr) (.slice (some ⟨gw,0,none⟩) m.wait.length cw) (.slice ab m.back.length cb) (.slice al bM cl)) 63)).alloc (.cells #[.string ⟨#[97,110,115,119,101,114]⟩,.int .i64 c,.int .i64 0] 55)).alloc (.cells ia 63)=w1:=⟨_,rfl⟩
 have lr:f_ (w1.heap.size=w.heap.size+3):=by rw [f_,<-cf,B_,B_,B_]
 have eo:g_ w.heap.size w w1:=by rw [<-cf];exact (((h_ _ _).alloc (C_ _) _).alloc (by rw [B_];omega) _).alloc (by rw [B_,B_];omega) _
 have jx:w1.heap[w.heap.size]?=some (.cells (gi (nl:Nat) O P m.clock (.slice ar m.recs.length cr) (.slice (some ⟨gw,0,none⟩) m.wait.length cw) (.slice ab m.back.length cb) (.slice al bM cl)) 63 (0,0)):=by rw [<-cf];exact br (br (Z' w _))
 have oG:w1.heap[w.heap.size+1]?=some (.cells #[.string ⟨#[97,110,115,119,101,114]⟩,.int .i64 c,.int .i64 0] 55 (0,0)):=by
  have:=Z' (w.alloc (.cells (gi (nl:Nat) O P m.clock (.slice ar m.recs.length cr) (.slice (some ⟨gw,0,none⟩) m.wait.length cw) (.slice ab m.back.length cb) (.slice al bM cl)) 63)) (.cells #[.string ⟨#[97,110,115,119,101,114]⟩,.int .i64 c,.int .i64 0] 55)
  rw [B_] at this
  rw [<-cf];exact br this
 have sH:f_ (w1.heap[w.heap.size+1+1]?=some (.cells ia 63 (0,0))):=by
  have:=Z' ((w.alloc (.cells (gi (nl:Nat) O P m.clock (.slice ar m.recs.length cr) (.slice (some ⟨gw,0,none⟩) m.wait.length cw) (.slice ab m.back.length cb) (.slice al bM cl)) 63)).alloc (.cells #[.string ⟨#[97,110,115,119,101,114]⟩,.int .i64 c,.int .i64 0] 55)) (.cells ia 63)
  rw [B_,B_,cf] at this
  exact this
 obtain ⟨⟨a0,a1,a2,a3,a4,a5,a6,a7⟩,_⟩:=aG jx
 have g0:w1.cell? ⟨w.heap.size+1,0,none⟩=some (.string ⟨#[97,110,115,119,101,114]⟩):=aB oG
 have g1:w1.cell? ⟨w.heap.size+1,1,none⟩=some (.int .i64 c):=aB oG
 have g2:w1.cell? ⟨w.heap.size+1,2,none⟩=some (.int .i64 0):=aB oG
 have hcc:f_ (d_ p_ 83 #[.agg #[.int .i64 (nl:Nat),.int .i64 O,.int .i64 P,.int .i64 m.clock,.slice ar m.recs.length cr,.slice (some ⟨gw,0,none⟩) m.wait.length cw,.slice ab m.back.length cb,.slice al bM cl],.int .i64 c] w1 (Done w1 (.slice ar m.recs.length cr) (.slice ab m.back.length cb) B q.1 (nl:Nat) O P (.slice al bM cl) q.2)):=hc w1 (R.below eo)
 have fz:=aa R.nN
 have uf:=aa eo
 clear R eo jx oG hc
 unfold gi ia at cf
 unfold jD
 go_enter func64,ntmps64
 go_wp2_with (go_at_call 83;(with_reducible refine hcc.out.mono ?_);rintro e w2 ⟨LU,N3,N4,rfl,R2,nj,pk,po⟩;obtain ⟨W7,WZ,AR⟩:=aE R2.recs;subst AR;obtain ⟨ID,IC,rn⟩:=aE R2.wait;subst rn;obtain ⟨W8,W4,AU⟩:=aE R2.back;subst AU;have uI:=aa ((nj.block _ (by rw [lr.out];omega) (fun e=>by have:=fz.out.1 _ e;omega) (fun e=>by have:=fz.out.2.2 _ e;omega)).trans sH.out);obtain ⟨⟨p0,p1,p2,p3,p4,p5,p6,p7⟩,s0,s1,s2,s3,s4,s5,s6,s7⟩:=aG (show w2.heap[w.heap.size+1+1]?=some (jY #[.int .i64 0,.int .i64 0,.int .i64 0,.int .i64 0,.slice none 0 0,.slice none 0 0,.slice none 0 0,.slice none 0 0] 63 (0,0)) from uI.out);have DD:=aa R2;have tY:=aa nj;have pk:=aa pk;have po:=aa po;unfold jD;clear R2 nj a0 a1 a2 a3 a4 a5 a6 a7 g0 g1 g2 cf)
 change bodyPost p_ f64 _ .ret _ (Of.b8 _ (w.heap.size+1+1) (.int .i64 (nl:Nat)) (.int .i64 O) (.int .i64 P) (.int .i64 q.1.clock) _ _ _ (.slice al bM cl))
 refine zB DD.out ((bg.bW uf.out).trans tY.out) (fun g hg e=>pk.out g (by rw [lr.out];omega) e) (fun g hg e=>po.out g (by rw [lr.out];omega) e) uI.out (by omega) ?_ ?_ ?_<;>rfl
theorem G2 {vw:M'} (R:bA B m vr vw vb w) (mP:∃a n c,vl=.slice a n c) (c:Int) {q:Rm × Bs} (hc:∀w',bA B m vr vw vb w'->d_ p_ 84 #[jD (nl:Nat) O P m.clock vr vw vb vl,.int .i64 c] w' (Done w' vr vb B q.1 (nl:Nat) O P vl q.2)):
 d_ p_ 64 #[jD (nl:Nat) O P m.clock vr vw vb vl,.agg #[.string ⟨#[114,101,116,117,114,110]⟩,.int .i64 c,.int .i64 0]] w (Done w vr vb B q.1 (nl:Nat) O P vl q.2):=by
 obtain ⟨al,bM,cl,rfl⟩:=mP
 obtain ⟨ab,cb,oK⟩:=aE R.back
 subst oK
 obtain ⟨ar,cr,ql⟩:=aE R.recs
 subst ql
 obtain ⟨gw,cw,qG,KC,yN⟩:=fV R.wait R.iQ
 subst qG
 obtain ⟨w1,cf⟩:∃w1,((w.alloc (.cells (gi (nl:Nat) O P m.clock (.slice ar m.recs.length cr) (.slice (some ⟨gw,0,none⟩) m.wait.length cw) (.slice ab m.back.length cb) (.slice al bM cl)) 63)).alloc (.cells #[.string ⟨#[114,101,116,117,114,110]⟩,.int .i64 c,.int .i64 0] 55)).alloc (.cells ia 63)=w1:=⟨_,rfl⟩
 have lr:f_ (w1.heap.size=w.heap.size+3):=by rw [f_,<-cf,B_,B_,B_]
 have eo:g_ w.heap.size w w1:=by rw [<-cf];exact (((h_ _ _).alloc (C_ _) _).alloc (by rw [B_];omega) _).alloc (by rw [B_,B_];omega) _
 have jx:w1.heap[w.heap.size]?=some (.cells (gi (nl:Nat) O P m.clock (.slice ar m.recs.length cr) (.slice (some ⟨gw,0,none⟩) m.wait.length cw) (.slice ab m.back.length cb) (.slice al bM cl)) 63 (0,0)):=by rw [<-cf];exact br (br (Z' w _))
 have oG:w1.heap[w.heap.size+1]?=some (.cells #[.string ⟨#[114,101,116,117,114,110]⟩,.int .i64 c,.int .i64 0] 55 (0,0)):=by
  have:=Z' (w.alloc (.cells (gi (nl:Nat) O P m.clock (.slice ar m.recs.length cr) (.slice (some ⟨gw,0,none⟩) m.wait.length cw) (.slice ab m.back.length cb) (.slice al bM cl)) 63)) (.cells #[.string ⟨#[114,101,116,117,114,110]⟩,.int .i64 c,.int .i64 0] 55)
  rw [B_] at this
  rw [<-cf];exact br this
 have sH:f_ (w1.heap[w.heap.size+1+1]?=some (.cells ia 63 (0,0))):=by
  have:=Z' ((w.alloc (.cells (gi (nl:Nat) O P m.clock (.slice ar m.recs.length cr) (.slice (some ⟨gw,0,none⟩) m.wait.length cw) (.slice ab m.back.length cb) (.slice al bM cl)) 63)).alloc (.cells #[.string ⟨#[114,101,116,117,114,110]⟩,.int .i64 c,.int .i64 0] 55)) (.cells ia 63)
  rw [B_,B_,cf] at this
  exact this
 obtain ⟨⟨a0,a1,a2,a3,a4,a5,a6,a7⟩,_⟩:=aG jx
 have g0:w1.cell? ⟨w.heap.size+1,0,none⟩=some (.string ⟨#[114,101,116,117,114,110]⟩):=aB oG
 have g1:w1.cell? ⟨w.heap.size+1,1,none⟩=some (.int .i64 c):=aB oG
 have g2:w1.cell? ⟨w.heap.size+1,2,none⟩=some (.int .i64 0):=aB oG
 have hcc:f_ (d_ p_ 84 #[.agg #[.int .i64 (nl:Nat),.int .i64 O,.int .i64 P,.int .i64 m.clock,.slice ar m.recs.length cr,.slice (some ⟨gw,0,none⟩) m.wait.length cw,.slice ab m.back.length cb,.slice al bM cl],.int .i64 c] w1 (Done w1 (.slice ar m.recs.length cr) (.slice ab m.back.length cb) B q.1 (nl:Nat) O P (.slice al bM cl) q.2)):=hc w1 (R.below eo)
 have fz:=aa R.nN
 have uf:=aa eo
 clear R eo jx oG hc
 unfold gi ia at cf
 unfold jD
 go_enter func64,ntmps64
 go_wp2_with (go_at_call 84;(with_reducible refine hcc.out.mono ?_);rintro e w2 ⟨LU,N3,N4,rfl,R2,nj,pk,po⟩;obtain ⟨W7,WZ,AR⟩:=aE R2.recs;subst AR;obtain ⟨ID,IC,rn⟩:=aE R2.wait;subst rn;obtain ⟨W8,W4,AU⟩:=aE R2.back;subst AU;have uI:=aa ((nj.block _ (by rw [lr.out];omega) (fun e=>by have:=fz.out.1 _ e;omega) (fun e=>by have:=fz.out.2.2 _ e;omega)).trans sH.out);obtain ⟨⟨p0,p1,p2,p3,p4,p5,p6,p7⟩,s0,s1,s2,s3,s4,s5,s6,s7⟩:=aG (show w2.heap[w.heap.size+1+1]?=some (jY #[.int .i64 0,.int .i64 0,.int .i64 0,.int .i64 0,.slice none 0 0,.slice none 0 0,.slice none 0 0,.slice none 0 0] 63 (0,0)) from uI.out);have DD:=aa R2;have tY:=aa nj;have pk:=aa pk;have po:=aa po;unfold jD;clear R2 nj a0 a1 a2 a3 a4 a5 a6 a7 g0 g1 g2 cf)
 change bodyPost p_ f64 _ .ret _ (Of.b8 _ (w.heap.size+1+1) (.int .i64 (nl:Nat)) (.int .i64 O) (.int .i64 P) (.int .i64 q.1.clock) _ _ _ (.slice al bM cl))
 refine zB DD.out ((bg.bW uf.out).trans tY.out) (fun g hg e=>pk.out g (by rw [lr.out];omega) e) (fun g hg e=>po.out g (by rw [lr.out];omega) e) uI.out (by omega) ?_ ?_ ?_<;>rfl
theorem G0 {vw:M'} (R:bA B m vr vw vb w) (mP:∃a n c,vl=.slice a n c) (c:Int) {q:Rm × Bs} (hc:∀w',bA B m vr vw vb w'->d_ p_ 85 #[jD (nl:Nat) O P m.clock vr vw vb vl,.int .i64 c] w' (Done w' vr vb B q.1 (nl:Nat) O P vl q.2)):
 d_ p_ 64 #[jD (nl:Nat) O P m.clock vr vw vb vl,.agg #[.string ⟨#[104,97,110,103]⟩,.int .i64 c,.int .i64 0]] w (Done w vr vb B q.1 (nl:Nat) O P vl q.2):=by
 obtain ⟨al,bM,cl,rfl⟩:=mP
 obtain ⟨ab,cb,oK⟩:=aE R.back
 subst oK
 obtain ⟨ar,cr,ql⟩:=aE R.recs
 subst ql
 obtain ⟨gw,cw,qG,KC,yN⟩:=fV R.wait R.iQ
 subst qG
 obtain ⟨w1,cf⟩:∃w1,((w.alloc (.cells (gi (nl:Nat) O P m.clock (.slice ar m.recs.length cr) (.slice (some ⟨gw,0,none⟩) m.wait.length cw) (.slice ab m.back.length cb) (.slice al bM cl)) 63)).alloc (.cells #[.string ⟨#[104,97,110,103]⟩,.int .i64 c,.int .i64 0] 55)).alloc (.cells ia 63)=w1:=⟨_,rfl⟩
 have lr:f_ (w1.heap.size=w.heap.size+3):=by rw [f_,<-cf,B_,B_,B_]
 have eo:g_ w.heap.size w w1:=by rw [<-cf];exact (((h_ _ _).alloc (C_ _) _).alloc (by rw [B_];omega) _).alloc (by rw [B_,B_];omega) _
 have jx:w1.heap[w.heap.size]?=some (.cells (gi (nl:Nat) O P m.clock (.slice ar m.recs.length cr) (.slice (some ⟨gw,0,none⟩) m.wait.length cw) (.slice ab m.back.length cb) (.slice al bM cl)) 63 (0,0)):=by rw [<-cf];exact br (br (Z' w _))
 have oG:w1.heap[w.heap.size+1]?=some (.cells #[.string ⟨#[104,97,110,103]⟩,.int .i64 c,.int .i64 0] 55 (0,0)):=by
  have:=Z' (w.alloc (.cells (gi (nl:Nat) O P m.clock (.slice ar m.recs.length cr) (.slice (some ⟨gw,0,none⟩) m.wait.length cw) (.slice ab m.back.length cb) (.slice al bM cl)) 63)) (.cells #[.string ⟨#[104,97,110,103]⟩,.int .i64 c,.int .i64 0] 55)
  rw [B_] at this
  rw [<-cf];exact br this
 have sH:f_ (w1.heap[w.heap.size+1+1]?=some (.cells ia 63 (0,0))):=by
  have:=Z' ((w.alloc (.cells (gi (nl:Nat) O P m.clock (.slice ar m.recs.length cr) (.slice (some ⟨gw,0,none⟩) m.wait.length cw) (.slice ab m.back.length cb) (.slice al bM cl)) 63)).alloc (.cells #[.string ⟨#[104,97,110,103]⟩,.int .i64 c,.int .i64 0] 55)) (.cells ia 63)
  rw [B_,B_,cf] at this
  exact this
 obtain ⟨⟨a0,a1,a2,a3,a4,a5,a6,a7⟩,_⟩:=aG jx
 have g0:w1.cell? ⟨w.heap.size+1,0,none⟩=some (.string ⟨#[104,97,110,103]⟩):=aB oG
 have g1:w1.cell? ⟨w.heap.size+1,1,none⟩=some (.int .i64 c):=aB oG
 have g2:w1.cell? ⟨w.heap.size+1,2,none⟩=some (.int .i64 0):=aB oG
 have hcc:f_ (d_ p_ 85 #[.agg #[.int .i64 (nl:Nat),.int .i64 O,.int .i64 P,.int .i64 m.clock,.slice ar m.recs.length cr,.slice (some ⟨gw,0,none⟩) m.wait.length cw,.slice ab m.back.length cb,.slice al bM cl],.int .i64 c] w1 (Done w1 (.slice ar m.recs.length cr) (.slice ab m.back.length cb) B q.1 (nl:Nat) O P (.slice al bM cl) q.2)):=hc w1 (R.below eo)
 have fz:=aa R.nN
 have uf:=aa eo
 clear R eo jx oG hc
 unfold gi ia at cf
 unfold jD
 go_enter func64,ntmps64
 go_wp2_with (go_at_call 85;(with_reducible refine hcc.out.mono ?_);rintro e w2 ⟨LU,N3,N4,rfl,R2,nj,pk,po⟩;obtain ⟨W7,WZ,AR⟩:=aE R2.recs;subst AR;obtain ⟨ID,IC,rn⟩:=aE R2.wait;subst rn;obtain ⟨W8,W4,AU⟩:=aE R2.back;subst AU;have uI:=aa ((nj.block _ (by rw [lr.out];omega) (fun e=>by have:=fz.out.1 _ e;omega) (fun e=>by have:=fz.out.2.2 _ e;omega)).trans sH.out);obtain ⟨⟨p0,p1,p2,p3,p4,p5,p6,p7⟩,s0,s1,s2,s3,s4,s5,s6,s7⟩:=aG (show w2.heap[w.heap.size+1+1]?=some (jY #[.int .i64 0,.int .i64 0,.int .i64 0,.int .i64 0,.slice none 0 0,.slice none 0 0,.slice none 0 0,.slice none 0 0] 63 (0,0)) from uI.out);have DD:=aa R2;have tY:=aa nj;have pk:=aa pk;have po:=aa po;unfold jD;clear R2 nj a0 a1 a2 a3 a4 a5 a6 a7 g0 g1 g2 cf)
 change bodyPost p_ f64 _ .ret _ (Of.b8 _ (w.heap.size+1+1) (.int .i64 (nl:Nat)) (.int .i64 O) (.int .i64 P) (.int .i64 q.1.clock) _ _ _ (.slice al bM cl))
 refine zB DD.out ((bg.bW uf.out).trans tY.out) (fun g hg e=>pk.out g (by rw [lr.out];omega) e) (fun g hg e=>po.out g (by rw [lr.out];omega) e) uI.out (by omega) ?_ ?_ ?_<;>rfl
theorem GY {vw:M'} (R:bA B m vr vw vb w) (mP:∃a n c,vl=.slice a n c) (c:Int) {q:Rm × Bs} (hc:∀w',bA B m vr vw vb w'->d_ p_ 86 #[jD (nl:Nat) O P m.clock vr vw vb vl,.int .i64 c] w' (Done w' vr vb B q.1 (nl:Nat) O P vl q.2)):
 d_ p_ 64 #[jD (nl:Nat) O P m.clock vr vw vb vl,.agg #[.string ⟨#[119,97,105,116]⟩,.int .i64 c,.int .i64 0]] w (Done w vr vb B q.1 (nl:Nat) O P vl q.2):=by
 obtain ⟨al,bM,cl,rfl⟩:=mP
 obtain ⟨ab,cb,oK⟩:=aE R.back
 subst oK
 obtain ⟨ar,cr,ql⟩:=aE R.recs
 subst ql
 obtain ⟨gw,cw,qG,KC,yN⟩:=fV R.wait R.iQ
 subst qG
 obtain ⟨w1,cf⟩:∃w1,((w.alloc (.cells (gi (nl:Nat) O P m.clock (.slice ar m.recs.length cr) (.slice (some ⟨gw,0,none⟩) m.wait.length cw) (.slice ab m.back.length cb) (.slice al bM cl)) 63)).alloc (.cells #[.string ⟨#[119,97,105,116]⟩,.int .i64 c,.int .i64 0] 55)).alloc (.cells ia 63)=w1:=⟨_,rfl⟩
 have lr:f_ (w1.heap.size=w.heap.size+3):=by rw [f_,<-cf,B_,B_,B_]
 have eo:g_ w.heap.size w w1:=by rw [<-cf];exact (((h_ _ _).alloc (C_ _) _).alloc (by rw [B_];omega) _).alloc (by rw [B_,B_];omega) _
 have jx:w1.heap[w.heap.size]?=some (.cells (gi (nl:Nat) O P m.clock (.slice ar m.recs.length cr) (.slice (some ⟨gw,0,none⟩) m.wait.length cw) (.slice ab m.back.length cb) (.slice al bM cl)) 63 (0,0)):=by rw [<-cf];exact br (br (Z' w _))
 have oG:w1.heap[w.heap.size+1]?=some (.cells #[.string ⟨#[119,97,105,116]⟩,.int .i64 c,.int .i64 0] 55 (0,0)):=by
  have:=Z' (w.alloc (.cells (gi (nl:Nat) O P m.clock (.slice ar m.recs.length cr) (.slice (some ⟨gw,0,none⟩) m.wait.length cw) (.slice ab m.back.length cb) (.slice al bM cl)) 63)) (.cells #[.string ⟨#[119,97,105,116]⟩,.int .i64 c,.int .i64 0] 55)
  rw [B_] at this
  rw [<-cf];exact br this
 have sH:f_ (w1.heap[w.heap.size+1+1]?=some (.cells ia 63 (0,0))):=by
  have:=Z' ((w.alloc (.cells (gi (nl:Nat) O P m.clock (.slice ar m.recs.length cr) (.slice (some ⟨gw,0,none⟩) m.wait.length cw) (.slice ab m.back.length cb) (.slice al bM cl)) 63)).alloc (.cells #[.string ⟨#[119,97,105,116]⟩,.int .i64 c,.int .i64 0] 55)) (.cells ia 63)
  rw [B_,B_,cf] at this
  exact this
 obtain ⟨⟨a0,a1,a2,a3,a4,a5,a6,a7⟩,_⟩:=aG jx
 have g0:w1.cell? ⟨w.heap.size+1,0,none⟩=some (.string ⟨#[119,97,105,116]⟩):=aB oG
 have g1:w1.cell? ⟨w.heap.size+1,1,none⟩=some (.int .i64 c):=aB oG
 have g2:w1.cell? ⟨w.heap.size+1,2,none⟩=some (.int .i64 0):=aB oG
 have hcc:f_ (d_ p_ 86 #[.agg #[.int .i64 (nl:Nat),.int .i64 O,.int .i64 P,.int .i64 m.clock,.slice ar m.recs.length cr,.slice (some ⟨gw,0,none⟩) m.wait.length cw,.slice ab m.back.length cb,.slice al bM cl],.int .i64 c] w1 (Done w1 (.slice ar m.recs.length cr) (.slice ab m.back.length cb) B q.1 (nl:Nat) O P (.slice al bM cl) q.2)):=hc w1 (R.below eo)
 have fz:=aa R.nN
 have uf:=aa eo
 clear R eo jx oG hc
 unfold gi ia at cf
 unfold jD
 go_enter func64,ntmps64
 go_wp2_with (go_at_call 86;(with_reducible refine hcc.out.mono ?_);rintro e w2 ⟨LU,N3,N4,rfl,R2,nj,pk,po⟩;obtain ⟨W7,WZ,AR⟩:=aE R2.recs;subst AR;obtain ⟨ID,IC,rn⟩:=aE R2.wait;subst rn;obtain ⟨W8,W4,AU⟩:=aE R2.back;subst AU;have uI:=aa ((nj.block _ (by rw [lr.out];omega) (fun e=>by have:=fz.out.1 _ e;omega) (fun e=>by have:=fz.out.2.2 _ e;omega)).trans sH.out);obtain ⟨⟨p0,p1,p2,p3,p4,p5,p6,p7⟩,s0,s1,s2,s3,s4,s5,s6,s7⟩:=aG (show w2.heap[w.heap.size+1+1]?=some (jY #[.int .i64 0,.int .i64 0,.int .i64 0,.int .i64 0,.slice none 0 0,.slice none 0 0,.slice none 0 0,.slice none 0 0] 63 (0,0)) from uI.out);have DD:=aa R2;have tY:=aa nj;have pk:=aa pk;have po:=aa po;unfold jD;clear R2 nj a0 a1 a2 a3 a4 a5 a6 a7 g0 g1 g2 cf)
 change bodyPost p_ f64 _ .ret _ (Of.b8 _ (w.heap.size+1+1) (.int .i64 (nl:Nat)) (.int .i64 O) (.int .i64 P) (.int .i64 q.1.clock) _ _ _ (.slice al bM cl))
 refine zB DD.out ((bg.bW uf.out).trans tY.out) (fun g hg e=>pk.out g (by rw [lr.out];omega) e) (fun g hg e=>po.out g (by rw [lr.out];omega) e) uI.out (by omega) ?_ ?_ ?_<;>rfl
structure Xf (nl:Nat) (m:Rm):Prop where
 n1:m.recs.length<=100
 n2:m.wait.length<=100
 n3:m.back.length<=100
 n4:nl<=100
 ck:0<=m.clock/\m.clock<=1000000
 fr:∀(i:Nat) (r:Rec),m.recs[i]?=some r->0<=r.jy/\r.jy<=m.clock
 op:∀p∈m.wait,(1<=p.1/\p.1<=1000000)/\∃i,dE m.recs p.1=some i
 nd:(m.wait.map (·.1)).Nodup
 bk:∀p∈m.back,1<=p.1/\p.1<=1000000
variable {no:Nat}
theorem okM {n:Nat} {S:Hs} {us:List Od} (h:Rel nl no n S us m) (hn:n<=60) (rp:nl<=100):Xf nl m:=by
 have:=h.n1
 have:=h.n2
 have:=h.n4
 have:=h.cl
 refine ⟨by omega,by omega,by omega,rp,⟨by omega,by omega⟩,h.jy,fun p hp=> ?_,h.w0,fun p hp=> ?_⟩
 ·obtain ⟨i,r,h1,h2,h3⟩:=h.w1 p hp
  obtain ⟨_,_,h4⟩:=h.good.G8 i r h1.1
  exact ⟨by omega,i,kX h.good h1 h2⟩
 ·have:=h.b2 p hp;omega
theorem Ex {vw:M'} (R:bA B m vr vw vb w) (cK:Xf nl m) (mP:∃a n c,vl=.slice a n c) (e:Ev) (he:e.good no):
 d_ p_ 64 #[jD (nl:Nat) O P m.clock vr vw vb vl,e.raw.val] w (Done w vr vb B (qy nl P m e).1 (nl:Nat) O P vl (qy nl P m e).2):=by
 cases e with
 |ring c pt=>exact GZ R mP c pt fun w' R'=>Cy R' cK.n1 cK.n2 cK.n3 cK.n4 cK.ck mP c pt
 |answer i=>exact B5 R mP _ fun w' R'=>yC R' cK.n1 cK.n2 cK.n3 cK.ck mP cK.op _
 |back i=>exact G2 R mP _ fun w' R'=>yB R' cK.n1 cK.n2 cK.n3 cK.n4 mP cK.bk _
 |hang c=>exact G0 R mP c fun w' R'=>Cz R' cK.n1 cK.n2 cK.n3 mP c
 |wait n=>
  have hg:0<=n/\n<=1000000:=by have:=he;unfold Ev.good at this;omega
  exact GY R mP n fun w' R'=>Cx R' cK.n1 cK.n2 cK.n3 mP cK.fr cK.op cK.nd n ⟨cK.ck,hg⟩
noncomputable def Bt:Code:=f42.body.getD .skip
noncomputable def R42:Code:=match ai 4 Bt with| .seq _ (.block _ (.loop (.seq _ (.seq (.block _ (.seq c _)) _))))=>c|c=>c
structure Q42 where
 ar:Option z_
 aw:Option z_
 ab:Option z_
 cr:Nat
 cw:Nat
 cb:Nat
 g:Nat
structure GF (w1:J') (B:Nat) (Wc We:M') (m:Rm) (vr vw vb:M') (w:J'):Prop where
 room:bA B m vr vw vb w
 fr:bg Wc We w1 w
 rr:∀g,g<w1.heap.size->vr.ownBlock=some g->Wc.ownBlock=some g
 rb:∀g,g<w1.heap.size->vb.ownBlock=some g->We.ownBlock=some g
structure NT (w1:J') (B nl:Nat) (O P:Int) (ar aw ab al:Option z_) (nr cr nw cw nb cb bM cl:Nat) (q:Rm × Bs) (D:Array Bool) (x:Q42) (w:J'):Prop where
 o5:D.getD 5 false=true->D.getD 0 false=true/\D.getD 4 false=true
 o6:D.getD 6 false=true->D.getD 5 false=true
 o7:D.getD 7 false=true->D.getD 5 false=true
 Yy:D.getD 10 false=true->D.getD 5 false=true/\D.getD 9 false=true
 a:D.getD 5 false=false->D.getD 9 false=false->w=w1
 b:D.getD 5 false=false->D.getD 9 false=true->w=w1.alloc (.cells ia 63)/\x.g=w1.heap.size
 c:D.getD 5 false=true->D.getD 10 false=false->GF w1 B (.slice ar nr cr) (.slice ab nb cb) q.1 (.slice x.ar q.1.recs.length x.cr) (.slice x.aw q.1.wait.length x.cw) (.slice x.ab q.1.back.length x.cb) w
 c9:D.getD 5 false=true->D.getD 9 false=true->D.getD 10 false=false->w.heap[x.g]?=some (.cells ia 63 (0,0))/\w1.heap.size<=x.g
 d:D.getD 10 false=true->∃w5,GF w1 B (.slice ar nr cr) (.slice ab nb cb) q.1 (.slice x.ar q.1.recs.length x.cr) (.slice x.aw q.1.wait.length x.cw) (.slice x.ab q.1.back.length x.cb) w5/\w5.heap[x.g]?=some (.cells ia 63 (0,0))/\w1.heap.size<=x.g/\w=Of.b8 w5 x.g (.int .i64 (nl:Nat)) (.int .i64 O) (.int .i64 P) (.int .i64 q.1.clock) (.slice x.ar q.1.recs.length x.cr) (.slice x.aw q.1.wait.length x.cw) (.slice x.ab q.1.back.length x.cb) (.slice al bM cl)
variable {w1:J'} {ar aw ab al:Option z_} {nr cr nw cw nb cb bM cl i:Nat} {D D':Array Bool}
theorem NT.same {q:Rm × Bs} {x:Q42} (h:NT w1 B nl O P ar aw ab al nr cr nw cw nb cb bM cl q D x w) (qn:∀j,j≠i->D'.getD j false=D.getD j false) (qi:D'.getD i false=true) (hi:i∉[5,9,10]) (h6:i=6->D.getD 5 false=true) (h7:i=7->D.getD 5 false=true):NT w1 B nl O P ar aw ab al nr cr nw cw nb cb bM cl q D' x w:=by
 have e5:=qn 5 (fun e=>hi (by simp [<-e]))
 have e9:=qn 9 (fun e=>hi (by simp [<-e]))
 have ow:=qn 10 (fun e=>hi (by simp [<-e]))
 have mo:∀j,D.getD j false=true->D'.getD j false=true:=fun j hj=>by
  by_cases e:j=i
  ·subst e;exact qi
  ·rw [qn j e];exact hj
 refine ⟨by rw [e5];exact fun h1=>⟨mo _ (h.o5 h1).1,mo _ (h.o5 h1).2⟩, ?_, ?_,by rw [ow,e5,e9];exact h.Yy,by rw [e5,e9];exact h.a,by rw [e5,e9];exact h.b,by rw [e5,ow];exact h.c,by rw [e5,e9,ow];exact h.c9,by rw [ow];exact h.d⟩
 ·rw [e5]
  by_cases e:(6:Nat)=i
  ·exact fun _=>h6 e.symm
  ·rw [qn 6 e];exact h.o6
 ·rw [e5]
  by_cases e:(7:Nat)=i
  ·exact fun _=>h7 e.symm
  ·rw [qn 7 e];exact h.o7
def zS (b6 eb n ec k:Nat) (r:Raw) (nl:Nat) (O P ck:Int) (ar aw ab al:Option z_) (nr cr nw cw nb cb bM cl:Nat) (q:Rm × Bs) (x:Q42):Nat->M'
 |0=>.agg #[.int .i64 (nl:Nat),.int .i64 O,.int .i64 P,.int .i64 ck,.slice ar nr cr,.slice aw nw cw,.slice ab nb cb,.slice al bM cl]
 |1=>.slice (some ⟨eb,0,none⟩) n ec
 |2=>.int .i64 (k:Nat)
 |3=>.pointer (some ⟨eb,k * 3,none⟩)
 |4=>.agg #[.string r.kind,.int .i64 r.who,.int .i64 r.word]
 |5=>.tuple #[.agg #[.int .i64 (nl:Nat),.int .i64 O,.int .i64 P,.int .i64 q.1.clock,.slice x.ar q.1.recs.length x.cr,.slice x.aw q.1.wait.length x.cw,.slice x.ab q.1.back.length x.cb,.slice al bM cl],.string ⟨q.2.toArray⟩]
 |6=>.tuple #[.agg #[.int .i64 (nl:Nat),.int .i64 O,.int .i64 P,.int .i64 q.1.clock,.slice x.ar q.1.recs.length x.cr,.slice x.aw q.1.wait.length x.cw,.slice x.ab q.1.back.length x.cb,.slice al bM cl],.string ⟨q.2.toArray⟩]
 |7=>.agg #[.int .i64 (nl:Nat),.int .i64 O,.int .i64 P,.int .i64 q.1.clock,.slice x.ar q.1.recs.length x.cr,.slice x.aw q.1.wait.length x.cw,.slice x.ab q.1.back.length x.cb,.slice al bM cl]
 |8=>.string ⟨q.2.toArray⟩
 |9=>.pointer (some ⟨x.g,0,none⟩)
 |11=>.string ⟨q.2.toArray⟩
 |_=>undef
variable {eb ec k:Nat} {z0 z3 z4 z5 z9 dB cZ de dn dm dk dj dA dz dD dC dM dQ dK dP dO dV ey ew eu eK eJ eI eH eQ eN en iu iF iE iD iC iB nv nu np nk:M'} {Q:Exit->Act->J'->Prop}
theorem Tj {ck:Int} {q:Rm × Bs} {b6 n:Nat} {r:Raw} (hR:bA B m (.slice ar nr cr) (.slice aw nw cw) (.slice ab nb cb) w) (lF:w.heap[b6]?=some (.cells #[.int .i64 (nl:Nat),.int .i64 O,.int .i64 P,.int .i64 ck,.slice ar nr cr,.slice aw nw cw,.slice ab nb cb,.slice al bM cl] 63 (0,0))) (s0:w.cell? ⟨eb,k * 3,none⟩=some (.string r.kind)) (s1:w.cell? ⟨eb,k * 3+1,none⟩=some (.int .i64 r.who)) (s2:w.cell? ⟨eb,k * 3+2,none⟩=some (.int .i64 r.word)) (hkn:k<n) (hn:n<=1000000) (jX:∀w',bA B m (.slice ar nr cr) (.slice aw nw cw) (.slice ab nb cb) w'->d_ p_ 64 #[.agg #[.int .i64 (nl:Nat),.int .i64 O,.int .i64 P,.int .i64 ck,.slice ar nr cr,.slice aw nw cw,.slice ab nb cb,.slice al bM cl],.agg #[.string r.kind,.int .i64 r.who,.int .i64 r.word]] w' (Done w' (.slice ar nr cr) (.slice ab nb cb) B q.1 (nl:Nat) O P (.slice al bM cl) q.2)) {z2 z7 z12 z20 z21 z22 z23 z24 z25 z26 z28 z31 z37 z40 z46 z49 z51 z53 z59:M'}
 (hQ:∀w5 DN DL DT DI DG DJ g5 (Oj Oi Oh Ju Jt Js Ol Jr Jq:M'),GF w B (.slice ar nr cr) (.slice ab nb cb) q.1 (.slice DN q.1.recs.length DI) (.slice DL q.1.wait.length DG) (.slice DT q.1.back.length DJ) w5->w5.heap[g5]?=some (.cells ia 63 (0,0))->w.heap.size<=g5->Q .normal ⟨#[z0,.slice (some ⟨eb,0,none⟩) n ec,z2,z3,z4,z5,.pointer (some ⟨b6,0,none⟩),z7,.int .i64 (k:Nat),.pointer (some ⟨g5,0,none⟩),.string ⟨q.2.toArray⟩,cZ,z12,de,dn,dm,dk,dj,dA,dz,z20,z21,z22,z23,z24,z25,z26,dD,z28,dC,dM,z31,dQ,dK,dP,dO,dV,z37,ey,ew,z40,eu,eK,eJ,eI,eH,z46,Ol,Oj,Oi,Oh,Ju,Jt,Js,Jr,Jq,iD,iC,iB,z59,nv,nu,np,nk],[]⟩ (Of.b8 w5 g5 (.int .i64 (nl:Nat)) (.int .i64 O) (.int .i64 P) (.int .i64 q.1.clock) (.slice DN q.1.recs.length DI) (.slice DL q.1.wait.length DG) (.slice DT q.1.back.length DJ) (.slice al bM cl))):
 Code.wp p_ R42 Q ⟨#[z0,.slice (some ⟨eb,0,none⟩) n ec,z2,z3,z4,z5,.pointer (some ⟨b6,0,none⟩),z7,.int .i64 (k:Nat),z9,dB,cZ,z12,de,dn,dm,dk,dj,dA,dz,z20,z21,z22,z23,z24,z25,z26,dD,z28,dC,dM,z31,dQ,dK,dP,dO,dV,z37,ey,ew,z40,eu,eK,eJ,eI,eH,z46,eQ,eN,z49,en,z51,iu,z53,iF,iE,iD,iC,iB,z59,nv,nu,np,nk],[]⟩ w:=by
 have UH:(k:Int)<(n:Int):=by omega
 replace hR:=aa hR.drew
 replace jX:=aa jX
 obtain ⟨w1,cf⟩:∃w1,w.drew=w1:=⟨_,rfl⟩
 have YI:f_ (w1.heap.size=w.heap.size):=by rw [<-cf];rfl
 have EE:f_ (bg (.slice ar nr cr) (.slice ab nb cb) w w1):=by rw [<-cf];exact bg.drew
 replace s0:w1.cell? ⟨eb,k * 3,none⟩=some (.string r.kind):=by rw [<-cf];exact s0
 replace s1:w1.cell? ⟨eb,k * 3+1,none⟩=some (.int .i64 r.who):=by rw [<-cf];exact s1
 replace s2:w1.cell? ⟨eb,k * 3+2,none⟩=some (.int .i64 r.word):=by rw [<-cf];exact s2
 replace lF:w1.heap[b6]?=some (.cells #[.int .i64 (nl:Nat),.int .i64 O,.int .i64 P,.int .i64 ck,.slice ar nr cr,.slice aw nw cw,.slice ab nb cb,.slice al bM cl] 63 (0,0)):=by rw [<-cf];exact lF
 obtain ⟨⟨r0,r1,r2,r3,r4,r5,r6,r7⟩,_⟩:=aG lF
 rw [cf] at hR
 clear lF
 refine wpN 64 fun bs cn oq HI=> ?_
 simp only [R42,ai,Bt,f42,A_]
 refine mz (by kernel_rfl) (kP:=⟨none,none,none,0,0,0,0⟩) (base:=bs) (by rw [oq];kernel_rfl) (by kernel_rfl) (fun x=>zS b6 eb n ec k r nl O P ck ar aw ab al nr cr nw cw nb cb bM cl q x) (NT w1 B nl O P ar aw ab al nr cr nw cw nb cb bM cl q)
  (by
   exact ⟨E5,E5,E5,E5,fun _ _=>cf,fun _ h=>E5 h,E5,E5,E5⟩) ?_ ?_
 ·intro i o' ho D x w a hD bc hw bH aD K k
  have hlt:i<12:=(cI ho)
  have Gl:=bT oq
  have qi:=qI hD hlt
  have qn:=qN D i
  have aA:=aa k
  clear k
  obtain rfl|rfl|rfl|rfl|rfl|rfl|rfl|rfl|rfl|rfl|rfl|rfl:i=0\/i=1\/i=2\/i=3\/i=4\/i=5\/i=6\/i=7\/i=8\/i=9\/i=10\/i=11:=by omega
  all_goals obtain rfl:=so ho rfl
  ·obtain ⟨v6,w6⟩:=bc.oo (.pointer (some ⟨b6,0,none⟩)) 6
   have h5:=ff bH fun hx=>(hw.o5 hx).1
   have hcell:∀j v,w1.cell? ⟨b6,j,none⟩=some v->w.cell? ⟨b6,j,none⟩=some v:=fun j v hv=>by
    cases hb:D.getD 9 false with
    |false=>rw [hw.a h5 hb];exact hv
    |true=>rw [(hw.b h5 hb).1];exact (N_ w1 _ none).cell hv (by simp)
   replace r0:=hcell _ _ r0
   replace r1:=hcell _ _ r1
   replace r2:=hcell _ _ r2
   replace r3:=hcell _ _ r3
   replace r4:=hcell _ _ r4
   replace r5:=hcell _ _ r5
   replace r6:=hcell _ _ r6
   replace r7:=hcell _ _ r7
   clear hcell h5
   exact iY rfl (.agg #[.int .i64 (nl:Nat),.int .i64 O,.int .i64 P,.int .i64 ck,.slice ar nr cr,.slice aw nw cw,.slice ab nb cb,.slice al bM cl]) (aA.out x w (fun _ _=>rfl) (hw.same qn qi (by decide) (fun e=>absurd e (by decide)) (fun e=>absurd e (by decide))))
  ·obtain ⟨v1,w1⟩:=bc.oo (.slice (some ⟨eb,0,none⟩) n ec) 1
   exact iY rfl (.slice (some ⟨eb,0,none⟩) n ec) (aA.out x w (fun _ _=>rfl) (hw.same qn qi (by decide) (fun e=>absurd e (by decide)) (fun e=>absurd e (by decide))))
  ·obtain ⟨v8,w8⟩:=bc.oo (.int .i64 (k:Nat)) 8
   exact iY rfl (.int .i64 (k:Nat)) (aA.out x w (fun _ _=>rfl) (hw.same qn qi (by decide) (fun e=>absurd e (by decide)) (fun e=>absurd e (by decide))))
  ·have d1:=dq aD 1
   obtain ⟨v49,Wa⟩:=bc.vv (.slice (some ⟨eb,0,none⟩) n ec) 49 1 d1
   obtain ⟨v50,w50⟩:=bc.vv (.int .i64 (k:Nat)) 50 2 (dq aD 2)
   exact iY rfl (.pointer (some ⟨eb,k * 3,none⟩)) (aA.out x w (fun _ _=>rfl) (hw.same qn qi (by decide) (fun e=>absurd e (by decide)) (fun e=>absurd e (by decide))))
  ·have d3:=dq aD 3
   obtain ⟨v51,XP⟩:=bc.vv (.pointer (some ⟨eb,k * 3,none⟩)) 51 3 d3
   have h5:=ff bH fun hx=>(hw.o5 hx).2
   have hcell:∀j v,w1.cell? ⟨eb,j,none⟩=some v->w.cell? ⟨eb,j,none⟩=some v:=fun j v hv=>by
    cases hb:D.getD 9 false with
    |false=>rw [hw.a h5 hb];exact hv
    |true=>rw [(hw.b h5 hb).1];exact (N_ w1 _ none).cell hv (by simp)
   replace s0:=hcell _ _ s0
   replace s1:=hcell _ _ s1
   replace s2:=hcell _ _ s2
   clear hcell h5
   exact iY rfl (.agg #[.string r.kind,.int .i64 r.who,.int .i64 r.word]) (aA.out x w (fun _ _=>rfl) (hw.same qn qi (by decide) (fun e=>absurd e (by decide)) (fun e=>absurd e (by decide))))
  ·have d0:=dq aD 0
   have d4:=dq aD 4
   obtain ⟨v48,Wb⟩:=bc.vv (.agg #[.int .i64 (nl:Nat),.int .i64 O,.int .i64 P,.int .i64 ck,.slice ar nr cr,.slice aw nw cw,.slice ab nb cb,.slice al bM cl]) 48 0 d0
   obtain ⟨v52,V9⟩:=bc.vv (.agg #[.string r.kind,.int .i64 r.who,.int .i64 r.word]) 52 4 d4
   clear aD ho
   have e0:=qn 0 (by decide)
   have e4:=qn 4 (by decide)
   have e5:=qi
   have e6:=qn 6 (by decide)
   have e7:=qn 7 (by decide)
   have e9:=qn 9 (by decide)
   have ow:=qn 10 (by decide)
   have ZS:=ff bH fun hx=>(hw.Yy hx).1
   have h6:=ff bH fun hx=>hw.o6 hx
   have h7:=ff bH fun hx=>hw.o7 hx
   have ZZ:bA B m (.slice ar nr cr) (.slice aw nw cw) (.slice ab nb cb) w:=by
    cases hb:D.getD 9 false with
    |false=>rw [hw.a bH hb];exact hR.out
    |true=>rw [(hw.b bH hb).1];exact hR.out.alloc _
   have WQ:bg (.slice ar nr cr) (.slice ab nb cb) w1 w:=by
    cases hb:D.getD 9 false with
    |false=>rw [hw.a bH hb];exact bg.refl _ _ _
    |true=>rw [(hw.b bH hb).1];exact bg.alloc _
   have hgz:D.getD 9 false=true->w.heap[x.g]?=some (.cells ia 63 (0,0))/\w1.heap.size<=x.g:=fun hb=>by
    obtain ⟨z1,z2⟩:=hw.b bH hb
    rw [z1,z2];exact ⟨Z' w1 _,C_ _⟩
   have fz:=hR.out.nN
   have sY:=jX.out w ZZ
   have hsz:=WQ.size
   unfold wpOp
   simp only [List.getElem?_toArray,List.getElem?_cons_succ,List.getElem?_cons_zero,Region.wanted,if_true,Option.isNone_none]
   left
   unfold Oper.wp
   simp only [execOp,resolve,invoke,Sem.run_bind,Sem.run_pure,Result.andThen_ok,List.map_toArray,S_,List.map_nil,v48,v52]
   refine (sY.mono ?_)
   rintro e w5 ⟨vr5,vw5,vb5,rfl,R5,F5,rr5,rb5⟩
   obtain ⟨DN,DI,M5⟩:=aE R5.recs
   subst M5
   obtain ⟨DL,DG,hv2⟩:=aE R5.wait
   subst hv2
   obtain ⟨DT,DJ,hv3⟩:=aE R5.back
   subst hv3
   refine aA.out ⟨DN,DL,DT,DI,DG,DJ,x.g⟩ w5 (fun j hj=>by
    have hne:j≠5:=fun e=>by rw [e,bH] at hj;cases hj
    unfold zS;split<;>first|rfl|exact absurd rfl hne|(rw [h6] at hj;cases hj)|(rw [h7] at hj;cases hj)) ⟨fun _=>by rw [e0,e4];exact ⟨d0,d4⟩,by rw [e6,h6];exact fun h=>(by cases h),by rw [e7,h7];exact fun h=>(by cases h),by rw [ow,ZS];exact fun h=>(by cases h),by rw [e5];exact fun h=>(by cases h),by rw [e5];exact fun h=>(by cases h),fun _ _=>⟨R5,WQ.then F5 (fun _ _ h=>h) (fun _ _ h=>h),fun g hg h=>rr5 g (by omega) h,fun g hg h=>rb5 g (by omega) h⟩, ?_,by rw [ow,ZS];exact fun h=>(by cases h)⟩
   rw [e9]
   intro _ hb _
   obtain ⟨y1,y2⟩:=hgz hb
   refine ⟨(F5.block _ (cI y1) (fun e=> ?_) (fun e=> ?_)).trans y1,y2⟩
   ·have:=fz.1 _ e;omega
   ·have:=fz.2.2 _ e;omega
  ·have d5:=dq aD 5
   obtain ⟨v53,XO⟩:=bc.vv (.tuple #[.agg #[.int .i64 (nl:Nat),.int .i64 O,.int .i64 P,.int .i64 q.1.clock,.slice x.ar q.1.recs.length x.cr,.slice x.aw q.1.wait.length x.cw,.slice x.ab q.1.back.length x.cb,.slice al bM cl],.string ⟨q.2.toArray⟩]) 53 5 d5
   have h5:=d5
   exact iY rfl (.tuple #[.agg #[.int .i64 (nl:Nat),.int .i64 O,.int .i64 P,.int .i64 q.1.clock,.slice x.ar q.1.recs.length x.cr,.slice x.aw q.1.wait.length x.cw,.slice x.ab q.1.back.length x.cb,.slice al bM cl],.string ⟨q.2.toArray⟩]) (aA.out x w (fun _ _=>rfl) (hw.same qn qi (by decide) (fun e=>h5) (fun e=>absurd e (by decide))))
  ·have d6:=dq aD 6
   obtain ⟨v47,LS⟩:=bc.vv (.tuple #[.agg #[.int .i64 (nl:Nat),.int .i64 O,.int .i64 P,.int .i64 q.1.clock,.slice x.ar q.1.recs.length x.cr,.slice x.aw q.1.wait.length x.cw,.slice x.ab q.1.back.length x.cb,.slice al bM cl],.string ⟨q.2.toArray⟩]) 47 6 d6
   have h5:=hw.o6 d6
   exact iY rfl (.agg #[.int .i64 (nl:Nat),.int .i64 O,.int .i64 P,.int .i64 q.1.clock,.slice x.ar q.1.recs.length x.cr,.slice x.aw q.1.wait.length x.cw,.slice x.ab q.1.back.length x.cb,.slice al bM cl]) (aA.out x w (fun _ _=>rfl) (hw.same qn qi (by decide) (fun e=>absurd e (by decide)) (fun e=>h5)))
  ·have d6:=dq aD 6
   obtain ⟨v47,LS⟩:=bc.vv (.tuple #[.agg #[.int .i64 (nl:Nat),.int .i64 O,.int .i64 P,.int .i64 q.1.clock,.slice x.ar q.1.recs.length x.cr,.slice x.aw q.1.wait.length x.cw,.slice x.ab q.1.back.length x.cb,.slice al bM cl],.string ⟨q.2.toArray⟩]) 47 6 d6
   exact iY rfl (.string ⟨q.2.toArray⟩) (aA.out x w (fun _ _=>rfl) (hw.same qn qi (by decide) (fun e=>absurd e (by decide)) (fun e=>absurd e (by decide))))
  ·clear aD ho
   have e0:=qn 0 (by decide)
   have e4:=qn 4 (by decide)
   have e5:=qn 5 (by decide)
   have e6:=qn 6 (by decide)
   have e7:=qn 7 (by decide)
   have e9:=qi
   have ow:=qn 10 (by decide)
   have ZS:=ff bH fun hx=>(hw.Yy hx).2
   refine bj (v:=.pointer (some ⟨w.heap.size,0,none⟩)) (w':=w.alloc (.cells ia 63)) rfl rfl ?_ ?_
   ·clear bc hw aA bH qi qn e0 e4 e5 e6 e7 e9 ow
    unfold ia
    go_simp
   ·refine aA.out ⟨x.ar,x.aw,x.ab,x.cr,x.cw,x.cb,w.heap.size⟩ _ (fun j hj=>by
     have hne:j≠9:=fun e=>by rw [e,bH] at hj;cases hj
     unfold zS;split<;>first|rfl|exact absurd rfl hne) ⟨by rw [e5,e0,e4];exact hw.o5,by rw [e6,e5];exact hw.o6,by rw [e7,e5];exact hw.o7,by rw [ow,ZS];exact fun h=>(by cases h),by rw [e9];exact fun _ h=>(by cases h), ?_, ?_, ?_,by rw [ow,ZS];exact fun h=>(by cases h)⟩
    ·rw [e5];intro h5 _;rw [hw.a h5 bH];exact ⟨rfl,rfl⟩
    ·rw [e5,ow];intro h5 h0
     have p:=hw.c h5 h0
     exact ⟨p.room.alloc _,p.fr.trans (bg.alloc _),p.rr,p.rb⟩
    ·rw [e5,ow];intro h5 _ h0
     have p:=hw.c h5 h0
     exact ⟨Z' w _,p.fr.size⟩
  ·have d9:=dq aD 9
   have d7:=dq aD 7
   obtain ⟨v9,w9⟩:=bc.vv (.pointer (some ⟨x.g,0,none⟩)) 9 9 d9
   obtain ⟨v54,XN⟩:=bc.vv (.agg #[.int .i64 (nl:Nat),.int .i64 O,.int .i64 P,.int .i64 q.1.clock,.slice x.ar q.1.recs.length x.cr,.slice x.aw q.1.wait.length x.cw,.slice x.ab q.1.back.length x.cb,.slice al bM cl]) 54 7 d7
   clear aD ho
   have e0:=qn 0 (by decide)
   have e4:=qn 4 (by decide)
   have e5:=qn 5 (by decide)
   have e6:=qn 6 (by decide)
   have e7:=qn 7 (by decide)
   have e9:=qn 9 (by decide)
   have ow:=qi
   have d5:=hw.o7 d7
   have p:=hw.c d5 bH
   obtain ⟨y1,y2⟩:=hw.c9 d5 d9 bH
   obtain ⟨⟨p0,p1,p2,p3,p4,p5,p6,p7⟩,t0,t1,t2,t3,t4,t5,t6,t7⟩:=aG (show w.heap[x.g]?=some (jY #[.int .i64 0,.int .i64 0,.int .i64 0,.int .i64 0,.slice none 0 0,.slice none 0 0,.slice none 0 0,.slice none 0 0] 63 (0,0)) from y1)
   refine gQ (w':=Of.b8 w x.g (.int .i64 (nl:Nat)) (.int .i64 O) (.int .i64 P) (.int .i64 q.1.clock) (.slice x.ar q.1.recs.length x.cr) (.slice x.aw q.1.wait.length x.cw) (.slice x.ab q.1.back.length x.cb) (.slice al bM cl)) rfl rfl ?_ (aA.out x _ (fun _ _=>rfl) ⟨by rw [e5,e0,e4];exact hw.o5,by rw [e6,e5];exact hw.o6,by rw [e7,e5];exact hw.o7,fun _=>by rw [e5,e9];exact ⟨d5,d9⟩,by rw [e5,d5];exact fun h=>(by cases h),by rw [e5,d5];exact fun h=>(by cases h),by rw [ow];exact fun _ h=>(by cases h),by rw [ow];exact fun _ _ h=>(by cases h),fun _=>⟨w,p,y1,y2,rfl⟩⟩)
   clear bc hw aA bH qi qn e0 e4 e5 e6 e7 e9 ow p y1 y2
   unfold Of.b8
   go_simp
  ·have d8:=dq aD 8
   obtain ⟨v55,XM⟩:=bc.vv (.string ⟨q.2.toArray⟩) 55 8 d8
   exact iY rfl (.string ⟨q.2.toArray⟩) (aA.out x w (fun _ _=>rfl) (hw.same qn qi (by decide) (fun e=>absurd e (by decide)) (fun e=>absurd e (by decide))))
 ·intro D x w hd hw
  obtain ⟨w5,hp,hz,hg,rfl⟩:=hw.d (hd 10 (by decide))
  obtain ⟨DN,DL,DT,DI,DG,DJ,g5⟩:=x
  simp only at hp hz hg
  have:=hQ w5 DN DL DT DI DG DJ g5 (.agg #[.int .i64 (nl:Nat),.int .i64 O,.int .i64 P,.int .i64 ck,.slice ar nr cr,.slice aw nw cw,.slice ab nb cb,.slice al bM cl]) (.slice (some ⟨eb,0,none⟩) n ec) (.int .i64 (k:Nat)) (.pointer (some ⟨eb,k * 3,none⟩)) (.agg #[.string r.kind,.int .i64 r.who,.int .i64 r.word]) (.tuple #[.agg #[.int .i64 (nl:Nat),.int .i64 O,.int .i64 P,.int .i64 q.1.clock,.slice DN q.1.recs.length DI,.slice DL q.1.wait.length DG,.slice DT q.1.back.length DJ,.slice al bM cl],.string ⟨q.2.toArray⟩]) (.tuple #[.agg #[.int .i64 (nl:Nat),.int .i64 O,.int .i64 P,.int .i64 q.1.clock,.slice DN q.1.recs.length DI,.slice DL q.1.wait.length DG,.slice DT q.1.back.length DJ,.slice al bM cl],.string ⟨q.2.toArray⟩]) (.agg #[.int .i64 (nl:Nat),.int .i64 O,.int .i64 P,.int .i64 q.1.clock,.slice DN q.1.recs.length DI,.slice DL q.1.wait.length DG,.slice DT q.1.back.length DJ,.slice al bM cl]) (.string ⟨q.2.toArray⟩) ⟨hp.room,EE.out.trans hp.fr,fun g h e=>hp.rr g (by rw [YI.out];exact h) e,fun g h e=>hp.rb g (by rw [YI.out];exact h) e⟩ hz (by rw [<-YI.out];exact hg)
  generalize bc:slotsOf _ bs (zS b6 eb n ec k r nl O P ck ar aw ab al nr cr nw cw nb cb bM cl q ⟨DN,DL,DT,DI,DG,DJ,g5⟩)=sl
  have eS:sl=#[z0,.slice (some ⟨eb,0,none⟩) n ec,z2,z3,z4,z5,.pointer (some ⟨b6,0,none⟩),z7,.int .i64 (k:Nat),.pointer (some ⟨g5,0,none⟩),.string ⟨q.2.toArray⟩,cZ,z12,de,dn,dm,dk,dj,dA,dz,z20,z21,z22,z23,z24,z25,z26,dD,z28,dC,dM,z31,dQ,dK,dP,dO,dV,z37,ey,ew,z40,eu,eK,eJ,eI,eH,z46,.tuple #[.agg #[.int .i64 (nl:Nat),.int .i64 O,.int .i64 P,.int .i64 q.1.clock,.slice DN q.1.recs.length DI,.slice DL q.1.wait.length DG,.slice DT q.1.back.length DJ,.slice al bM cl],.string ⟨q.2.toArray⟩],.agg #[.int .i64 (nl:Nat),.int .i64 O,.int .i64 P,.int .i64 ck,.slice ar nr cr,.slice aw nw cw,.slice ab nb cb,.slice al bM cl],.slice (some ⟨eb,0,none⟩) n ec,.int .i64 (k:Nat),.pointer (some ⟨eb,k * 3,none⟩),.agg #[.string r.kind,.int .i64 r.who,.int .i64 r.word],.tuple #[.agg #[.int .i64 (nl:Nat),.int .i64 O,.int .i64 P,.int .i64 q.1.clock,.slice DN q.1.recs.length DI,.slice DL q.1.wait.length DG,.slice DT q.1.back.length DJ,.slice al bM cl],.string ⟨q.2.toArray⟩],.agg #[.int .i64 (nl:Nat),.int .i64 O,.int .i64 P,.int .i64 q.1.clock,.slice DN q.1.recs.length DI,.slice DL q.1.wait.length DG,.slice DT q.1.back.length DJ,.slice al bM cl],.string ⟨q.2.toArray⟩,iD,iC,iB,z59,nv,nu,np,nk]:=by rw [<-bc,<-cn];kernel_rfl
  rw [eS]
  exact this
noncomputable def V3:Code:=match ai 3 Bt with| .seq _ (.block _ (.loop (.seq _ (.seq (.block _ (.seq c _)) _))))=>c|c=>c
structure Xc (w1:J') (r:Raw) (D:Array Bool) (_:Unit) (w:J'):Prop where
 o:D.getD 6 false=true->D.getD 3 false=true/\D.getD 5 false=true
 a:D.getD 6 false=false->w=w1
 b:D.getD 6 false=true->w=w1.alloc (.cells #[.string r.kind,.int .i64 r.who,.int .i64 r.word] 55)
theorem Xc.same {r:Raw} {q:Unit} (h:Xc w1 r D q w) (qn:∀j,j≠i->D'.getD j false=D.getD j false) (qi:D'.getD i false=true) (hi:i∉[6]):Xc w1 r D' q w:=by
 have e6:=qn 6 (fun e=>hi (by simp [<-e]))
 have mo:∀j,D.getD j false=true->D'.getD j false=true:=fun j hj=>by
  by_cases e:j=i
  ·subst e;exact qi
  ·rw [qn j e];exact hj
 exact ⟨by rw [e6];exact fun h1=>⟨mo _ (h.o h1).1,mo _ (h.o h1).2⟩,by rw [e6];exact h.a,by rw [e6];exact h.b⟩
def Fz (eb n ec k b2:Nat) (r:Raw) (O:Int) (bb:Bool) (_:Unit):Nat->M'
 |0=>.slice (some ⟨eb,0,none⟩) n ec
 |1=>.int .i64 (k:Nat)
 |2=>.pointer (some ⟨eb,k * 3,none⟩)
 |3=>.agg #[.string r.kind,.int .i64 r.who,.int .i64 r.word]
 |4=>.pointer (some ⟨b2,1,none⟩)
 |5=>.int .i64 O
 |6=>.bool bb
 |7=>.bool (!bb)
 |_=>undef
variable {b2:Nat} {z6:M'}
theorem P4 {n:Nat} {r:Raw} {bb:Bool} (s0:w.cell? ⟨eb,k * 3,none⟩=some (.string r.kind)) (s1:w.cell? ⟨eb,k * 3+1,none⟩=some (.int .i64 r.who)) (s2:w.cell? ⟨eb,k * 3+2,none⟩=some (.int .i64 r.word)) (s3:w.cell? ⟨b2,1,none⟩=some (.int .i64 O)) (hkn:k<n) (hn:n<=1000000) (jX:∀w',d_ p_ 63 #[.agg #[.string r.kind,.int .i64 r.who,.int .i64 r.word],.int .i64 O] w' fun e SW=>e=.returned (.bool bb)/\SW=w'.alloc (.cells #[.string r.kind,.int .i64 r.who,.int .i64 r.word] 55)) {z8 z12 z20 z21 z22 z23 z24 z25 z26 z28 z31 z37 z40 z46 z49 z51 z53 z59:M'}
 (hQ:∀w5 (Sn Sm q34 q35 TE TC Om:M'),g_ w.heap.size w w5->Q .normal ⟨#[z0,.slice (some ⟨eb,0,none⟩) n ec,.pointer (some ⟨b2,0,none⟩),z3,z4,z5,z6,.int .i64 (k:Nat),z8,z9,dB,cZ,z12,de,dn,dm,dk,dj,dA,dz,z20,z21,z22,z23,z24,z25,z26,dD,z28,dC,dM,z31,Sn,Sm,q34,q35,TE,TC,Om,.bool (!bb),z40,eu,eK,eJ,eI,eH,z46,eQ,eN,z49,en,z51,iu,z53,iF,iE,iD,iC,iB,z59,nv,nu,np,nk],[]⟩ w5):
 Code.wp p_ V3 Q ⟨#[z0,.slice (some ⟨eb,0,none⟩) n ec,.pointer (some ⟨b2,0,none⟩),z3,z4,z5,z6,.int .i64 (k:Nat),z8,z9,dB,cZ,z12,de,dn,dm,dk,dj,dA,dz,z20,z21,z22,z23,z24,z25,z26,dD,z28,dC,dM,z31,dQ,dK,dP,dO,dV,z37,ey,ew,z40,eu,eK,eJ,eI,eH,z46,eQ,eN,z49,en,z51,iu,z53,iF,iE,iD,iC,iB,z59,nv,nu,np,nk],[]⟩ w:=by
 have UH:(k:Int)<(n:Int):=by omega
 obtain ⟨w1,cf⟩:∃w1,w.drew=w1:=⟨_,rfl⟩
 have sD:f_ (g_ w.heap.size w (w1.alloc (.cells #[.string r.kind,.int .i64 r.who,.int .i64 r.word] 55))):=by rw [<-cf];exact ((h_ _ _).drew).alloc (C_ _) _
 replace s0:w1.cell? ⟨eb,k * 3,none⟩=some (.string r.kind):=by rw [<-cf];exact s0
 replace s1:w1.cell? ⟨eb,k * 3+1,none⟩=some (.int .i64 r.who):=by rw [<-cf];exact s1
 replace s2:w1.cell? ⟨eb,k * 3+2,none⟩=some (.int .i64 r.word):=by rw [<-cf];exact s2
 replace s3:w1.cell? ⟨b2,1,none⟩=some (.int .i64 O):=by rw [<-cf];exact s3
 refine wpN 64 fun bs cn oq HI=> ?_
 simp only [V3,ai,Bt,f42,A_]
 refine mz (by kernel_rfl) (kP:=()) (base:=bs) (by rw [oq];kernel_rfl) (by kernel_rfl) (fun x=>Fz eb n ec k b2 r O bb x) (Xc w1 r)
  (by
   exact ⟨E5,fun _=>cf,E5⟩) ?_ ?_
 ·intro i o' ho D x w a hD bc hw bH aD K k
  have hlt:i<8:=(cI ho)
  have Gl:=bT oq
  have qi:=qI hD hlt
  have qn:=qN D i
  have aA:=aa k
  clear k
  obtain rfl|rfl|rfl|rfl|rfl|rfl|rfl|rfl:i=0\/i=1\/i=2\/i=3\/i=4\/i=5\/i=6\/i=7:=by omega
  all_goals obtain rfl:=so ho rfl
  ·obtain ⟨v1,w1⟩:=bc.oo (.slice (some ⟨eb,0,none⟩) n ec) 1
   exact IZ (.slice (some ⟨eb,0,none⟩) n ec)
  ·obtain ⟨v7,w7⟩:=bc.oo (.int .i64 (k:Nat)) 7
   exact IZ (.int .i64 (k:Nat))
  ·have d0:=dq aD 0
   obtain ⟨v32,w32⟩:=bc.vv (.slice (some ⟨eb,0,none⟩) n ec) 32 0 d0
   obtain ⟨v33,w33⟩:=bc.vv (.int .i64 (k:Nat)) 33 1 (dq aD 1)
   exact IZ (.pointer (some ⟨eb,k * 3,none⟩))
  ·have d2:=dq aD 2
   obtain ⟨v34,w34⟩:=bc.vv (.pointer (some ⟨eb,k * 3,none⟩)) 34 2 d2
   have h6:=ff bH fun hx=>(hw.o hx).1
   obtain rfl:=hw.a h6
   exact IZ (.agg #[.string r.kind,.int .i64 r.who,.int .i64 r.word])
  ·obtain ⟨v2,w2⟩:=bc.oo (.pointer (some ⟨b2,0,none⟩)) 2
   exact IZ (.pointer (some ⟨b2,1,none⟩))
  ·have d4:=dq aD 4
   obtain ⟨v36,w36⟩:=bc.vv (.pointer (some ⟨b2,1,none⟩)) 36 4 d4
   have h6:=ff bH fun hx=>(hw.o hx).2
   obtain rfl:=hw.a h6
   exact IZ (.int .i64 O)
  ·have d3:=dq aD 3
   have d5:=dq aD 5
   obtain ⟨v35,w35⟩:=bc.vv (.agg #[.string r.kind,.int .i64 r.who,.int .i64 r.word]) 35 3 d3
   obtain ⟨v37,w37⟩:=bc.vv (.int .i64 O) 37 5 d5
   clear aD ho
   have e3:=qn 3 (by decide)
   have e5:=qn 5 (by decide)
   obtain rfl:=hw.a bH
   have sY:=jX w
   unfold wpOp
   simp only [List.getElem?_toArray,List.getElem?_cons_succ,List.getElem?_cons_zero,Region.wanted,if_true,Option.isNone_none]
   left
   unfold Oper.wp
   simp only [execOp,resolve,invoke,Sem.run_bind,Sem.run_pure,Result.andThen_ok,List.map_toArray,S_,List.map_nil,v35,v37]
   refine (sY.mono ?_)
   rintro e w5 ⟨rfl,rfl⟩
   exact aA.out x _ (fun _ _=>rfl) ⟨fun _=>by rw [e3,e5];exact ⟨d3,d5⟩,by rw [qi];exact fun h=>(by cases h),fun _=>rfl⟩
  ·have d6:=dq aD 6
   obtain ⟨v38,XX⟩:=bc.vv (.bool bb) 38 6 d6
   exact IZ (.bool (!bb))
 ·intro D x w hd hw
  have hww:=hw.b (hd 6 (by decide))
  have:=hQ w (.slice (some ⟨eb,0,none⟩) n ec) (.int .i64 (k:Nat)) (.pointer (some ⟨eb,k * 3,none⟩)) (.agg #[.string r.kind,.int .i64 r.who,.int .i64 r.word]) (.pointer (some ⟨b2,1,none⟩)) (.int .i64 O) (.bool bb) (by rw [hww];exact sD.out)
  generalize bc:slotsOf _ bs (Fz eb n ec k b2 r O bb ())=sl
  have eS:sl=#[z0,.slice (some ⟨eb,0,none⟩) n ec,.pointer (some ⟨b2,0,none⟩),z3,z4,z5,z6,.int .i64 (k:Nat),z8,z9,dB,cZ,z12,de,dn,dm,dk,dj,dA,dz,z20,z21,z22,z23,z24,z25,z26,dD,z28,dC,dM,z31,.slice (some ⟨eb,0,none⟩) n ec,.int .i64 (k:Nat),.pointer (some ⟨eb,k * 3,none⟩),.agg #[.string r.kind,.int .i64 r.who,.int .i64 r.word],.pointer (some ⟨b2,1,none⟩),.int .i64 O,.bool bb,.bool (!bb),z40,eu,eK,eJ,eI,eH,z46,eQ,eN,z49,en,z51,iu,z53,iF,iE,iD,iC,iB,z59,nv,nu,np,nk]:=by rw [<-bc,<-cn];kernel_rfl
  rw [eS]
  exact this
end
end Go.aC.Of
