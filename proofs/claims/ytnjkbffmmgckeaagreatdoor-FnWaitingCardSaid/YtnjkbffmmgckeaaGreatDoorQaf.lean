/-
  The reference's l6Returns.
-/
import Derived.StillTailTactics
import Derived.Deep.RegionWith
import Derived.Lib.Hide
import Derived.Laws.Rows
import Derived.BigQuiet
import Derived.Deep.QuietTactic
import Derived.Maps.AppendAt
import Derived.Lib.QuietBelow
import Derived.Test.YtnjkbffmmgckeaaGreatDoorQaa
import Derived.Test.YtnjkbffmmgckeaaGreatDoorQab
import Derived.Test.YtnjkbffmmgckeaaGreatDoorQae
set_option linter.all false
set_option maxRecDepth 100000
set_option maxHeartbeats 32000000
open Go renaming undef->I',World->J',Value->M',TypeId->Q',Program->U',execOp->V',Frame->Y',heap_alloc_new->Z',heap_setCell_other->a_,Calls->d_,Addr->z_
open Go.RowKit renaming Hid->f_,Below->g_
open Go.RowKit.Below renaming refl->h_
open Option renaming getD_some->A_
open Go.World renaming size_alloc->B_,cell?_of_block->J_,grownBy_alloc->N_,size_setCell->o_
open Nat renaming le_refl->C_,le_trans->D_,lt_of_lt_of_le->E_,zero_le->nz
open List renaming getElem?_eq_getElem->G_,length_append->K_,length_take->Q_,map_cons->S_,take_succ_eq_append_getElem->sC
open Go.Lib renaming itoa->L_
open Option.some renaming inj->M_
open Bool renaming and_eq_true->T_,decide_and->cM
open Go.Proofs.Tryz renaming prog->p_
open Array renaming getD_eq_getD_getElem?->r_
open Go.Value renaming int->ah,slice->mN
open Go.Frame renaming enter->fZ
open Go.Obj renaming cells->jY
open Go.Proofs.Tryz
namespace Go.aC.Of
section
open Go Go.Conc Go.Conc.Lib Go.ConcR Go.ConcR.Gen Go.aC Go.Proofs
open Go.RowKit hiding Hid
open Go.ConcN (upd upd_ne upd_same)
variable {B nl:Nat} {m:Rm} {vr vb vl:M'} {w:J'} {O P:Int}
theorem yB {vw:M'} (R:bA B m vr vw vb w) (hn:m.recs.length<=100) (L9:m.wait.length<=100) (QO:m.back.length<=100) (rp:nl<=100) (mP:∃a n c,vl=.slice a n c) (sD:∀p∈m.back,1<=p.1/\p.1<=1000000) (op:Int):
 d_ p_ 84 #[jD (nl:Nat) O P m.clock vr vw vb vl,.int .i64 op] w (Done w vr vb B (lD nl m op).1 (nl:Nat) O P vl (lD nl m op).2):=by
 obtain ⟨al,bM,cl,rfl⟩:=mP
 obtain ⟨ab,cb,oK⟩:=aE R.back
 subst oK
 obtain ⟨ar,cr,ql⟩:=aE R.recs
 subst ql
 obtain ⟨gw,cw,qG,KC,yN⟩:=fV R.wait R.iQ
 subst qG
 obtain ⟨w1,cf⟩:∃w1,(w.alloc (.cells (gi (nl:Nat) O P m.clock (.slice ar m.recs.length cr) (.slice (some ⟨gw,0,none⟩) m.wait.length cw) (.slice ab m.back.length cb) (.slice al bM cl)) 63)).alloc (.cells ia 63)=w1:=⟨_,rfl⟩
 have lr:f_ (w1.heap.size=w.heap.size+2):=by rw [f_,<-cf,B_,B_]
 have eo:g_ w.heap.size w w1:=by rw [<-cf];exact ((h_ _ _).alloc (C_ _) _).alloc (by rw [B_];omega) _
 have jx:w1.heap[w.heap.size]?=some (.cells (gi (nl:Nat) O P m.clock (.slice ar m.recs.length cr) (.slice (some ⟨gw,0,none⟩) m.wait.length cw) (.slice ab m.back.length cb) (.slice al bM cl)) 63 (0,0)):=by rw [<-cf];exact br (Z' w _)
 have sH:w1.heap[w.heap.size+1]?=some (.cells ia 63 (0,0)):=by
  have:=Z' (w.alloc (.cells (gi (nl:Nat) O P m.clock (.slice ar m.recs.length cr) (.slice (some ⟨gw,0,none⟩) m.wait.length cw) (.slice ab m.back.length cb) (.slice al bM cl)) 63)) (.cells ia 63)
  rw [B_,cf] at this
  exact this
 have F1:=aa (gO.start R eo jx sH (C_ _) (by omega) (by omega))
 obtain ⟨⟨a0,a1,a2,a3,a4,a5,a6,a7⟩,_⟩:=aG jx
 have jV:f_ (d_ p_ 43 #[.agg #[.int .i64 (nl:Nat),.int .i64 O,.int .i64 P,.int .i64 m.clock,.slice ar m.recs.length cr,.slice (some ⟨gw,0,none⟩) m.wait.length cw,.slice ab m.back.length cb,.slice al bM cl]] w1 fun e w'=>∃u,e=.returned u/\w'.ownsRow w1.heap.size 3 1 u (AD nl m.recs).length ((AD nl m.recs).map (ah .i64))/\g_ w1.heap.size w1 w'):=rf F1.out.room.rd.1 F1.out.room.nN.1 (by omega) (by omega)
 obtain ⟨fs,yf⟩:∃fs,AD nl m.recs=fs:=⟨_,rfl⟩
 rw [yf] at jV
 have Kz:fs.length<=1000:=by have:=mV nl m.recs;rw [yf] at this;omega
 have yf:=aa yf
 clear R eo jx sH
 unfold gi ia at cf
 unfold jD
 go_enter func84,ntmps84
 go_wp2_with (go_at_call 43;(with_reducible refine jV.out.mono ?_);rintro e w2 ⟨u,rfl,nS,HJ⟩;obtain ⟨au,cu,hu⟩:=aE nS;subst hu;have F2:=aa (F1.out.below HJ);have nS:=aa nS;obtain ⟨⟨e0,e1,e2,e3,e4,e5,e6,e7⟩,f0,f1,f2,f3,f4,f5,f6,f7⟩:=aG F2.out.box;clear a0 a1 a2 a3 a4 a5 a6 a7 HJ cf jV)
 have Mi:m.back.length<=1000:=by omega
 obtain ⟨⟨x0,x1,x2,x3,x4,x5,x6,x7⟩,y0,y1,y2,y3,y4,y5,y6,y7⟩:=aG (show w2.heap[w.heap.size+1]?=some (jY #[.int .i64 0,.int .i64 0,.int .i64 0,.int .i64 0,.slice none 0 0,.slice none 0 0,.slice none 0 0,.slice none 0 0] 63 (0,0)) from F2.out.res)
 have CX:m.recs.length<=1000:=by omega
 have sQ:=uB F2.out.room.rd.1 CX op
 by_cases ht:ez m.recs op>0
 ·have hR:f_ (lD nl m op=(m,l8)):=by rw [f_];unfold lD;rw [if_pos ht]
  generalize ez m.recs op=tk at sQ ht
  refine sQ.mono ?_
  rintro e w5 ⟨rfl,rfl⟩
  go_wp2_with fail
  change bodyPost p_ f84 _ .ret _ (Of.b8 _ (w.heap.size+1) (.int .i64 (nl:Nat)) (.int .i64 O) (.int .i64 P) (.int .i64 m.clock) (.slice ar m.recs.length cr) (.slice (some ⟨gw,0,none⟩) m.wait.length cw) (.slice ab m.back.length cb) (.slice al bM cl))
  rw [hR.out];refine gO.ends F2.out ?_ ?_ ?_<;>rfl
 have M7:¬0<ez m.recs op:=ht
 have SF:f_ (¬ez m.recs op>0):=ht
 generalize ez m.recs op=tk at sQ ht M7
 rcases (show m.back=[]\/∃p ws,m.back=p::ws by cases m.back with|nil=>exact .inl rfl|cons p ws=>exact .inr ⟨p,ws,rfl⟩) with hw|⟨p,ws,hw⟩
 ·have hR:f_ (lD nl m op=(m,qB)):=by rw [f_];unfold lD;rw [if_neg SF.out,hw]
  have lW:((m.back.length:Int)==0)=true:=by rw [hw];rfl
  replace hw:=aa hw
  refine sQ.mono ?_
  rintro e w5 ⟨rfl,rfl⟩
  go_wp2_with fail
  change bodyPost p_ f84 _ .ret _ (Of.b8 _ (w.heap.size+1) (.int .i64 (nl:Nat)) (.int .i64 O) (.int .i64 P) (.int .i64 m.clock) (.slice ar m.recs.length cr) (.slice (some ⟨gw,0,none⟩) m.wait.length cw) (.slice ab m.back.length cb) (.slice al bM cl))
  rw [hR.out];refine gO.ends F2.out ?_ ?_ ?_<;>rfl
 have uK:0<m.back.length:=by rw [hw];simp
 have UG:(0:Int)<(m.back.length:Int):=by omega
 have lW:((m.back.length:Int)==0)=false:=beq_eq_false_iff_ne.2 (by omega)
 cases fs with
 |nil=>
  have hR:f_ (lD nl m op=(m,KQ)):=by rw [f_];unfold lD;rw [if_neg SF.out,hw,yf.out]
  simp only [List.length_nil] at nS Kz ⊢
  replace hw:=aa hw
  clear yf uK UG
  refine sQ.mono ?_
  rintro e w5 ⟨rfl,rfl⟩
  go_wp2_with fail
  change bodyPost p_ f84 _ .ret _ (Of.b8 _ (w.heap.size+1) (.int .i64 (nl:Nat)) (.int .i64 O) (.int .i64 P) (.int .i64 m.clock) (.slice ar m.recs.length cr) (.slice (some ⟨gw,0,none⟩) m.wait.length cw) (.slice ab m.back.length cb) (.slice al bM cl))
  rw [hR.out];refine gO.ends F2.out ?_ ?_ ?_<;>rfl
 |cons l t=>
  have hR:f_ (lD nl m op=({m with back:=aJ m.back p.1,recs:=m.recs++[⟨p.1,l,op,m.clock,m.clock, -1,eR⟩]},dL++L_ p.1)):=by
   rw [f_];unfold lD;rw [if_neg SF.out]
   split
   ·rename_i h;rw [hw] at h;cases h
   ·rename_i q qs h
    rw [hw] at h;injection h with h1 h2
    subst h1
    rw [yf.out]
  obtain ⟨Iu,hp2⟩:=sD p (by rw [hw];exact List.mem_cons_self)
  have Uh:m.back[0]?=some p:=by rw [hw];rfl
  obtain ⟨yd,QI⟩:=List.getElem?_eq_some_iff.1 Uh
  obtain ⟨g1,c1,M5,hcb,k0,k1⟩:=pR F2.out.room.rd.2.2 uK
  injection M5 with i1 i2 i3
  subst i1 i3
  rw [QI] at k0 k1
  have k0':w2.cell? ⟨g1,0,none⟩=some (.int .i64 p.1):=by simpa using k0
  have k1':w2.cell? ⟨g1,1,none⟩=some (.int .i64 p.2):=by simpa using k1
  obtain ⟨gu,aCz,E9,FT,_,hU,Gk,_⟩:=cz nS.out (by simp)
  injection FT with Wm Su YQ
  subst Wm YQ
  have ZY:f_ (E9[0]?=some (.int .i64 l)):=by rw [f_,<-cV hU];exact nS.out.cellAt 0 (by simp)
  have hU:=aa hU
  replace hw:=aa hw
  clear QI Uh yf
  have dJ:0<(l::t).length:=by simp
  generalize (l::t).length=nf at dJ Kz Gk
  have aDw:((nf:Int)==0)=false:=beq_eq_false_iff_ne.2 (by omega)
  clear nS
  obtain ⟨w3,CK⟩:∃w3,w2.alloc (.cells #[.int .i64 p.1,.int .i64 p.2] 114)=w3:=⟨_,rfl⟩
  have Rj:g_ w2.heap.size w2 w3:=by rw [<-CK];exact (h_ _ _).alloc (C_ _) _
  have F3:=aa (F2.out.below Rj)
  have oG:f_ (w3.heap[w2.heap.size]?=some (.cells #[.int .i64 p.1,.int .i64 p.2] 114 (0,0))):=by rw [f_,<-CK];exact Z' w2 _
  have ZX:f_ (w3.heap[gu]?=some (.cells E9 3 (0,0))):=(Rj.block gu (cI hU.out)).trans hU.out
  obtain ⟨⟨b0,b1,b2,b3,b4,b5,b6,b7⟩,_⟩:=aG F3.out.box
  have g3:w3.cell? ⟨w2.heap.size,0,none⟩=some (.int .i64 p.1):=cV oG.out
  have Fg:f_ (d_ p_ 115 #[.slice (some ⟨g1,0,none⟩) m.back.length cb,.int .i64 p.1] w3 fun e w'=>∃u,e=.returned u/\w'.ownsRow w3.heap.size 114 2 u (aJ m.back p.1).length (ax (aJ m.back p.1))/\g_ w3.heap.size w3 w'/\∃g,u.ownBlock=some g):=jR F3.out.room.rd.2.2 F3.out.room.nN.2.2 Mi p.1
  have Zg:f_ (w2.heap.size<w3.heap.size/\w.heap.size<w2.heap.size):=⟨(cI oG.out),F2.out.LX⟩
  have hzr:f_ ((mN ar m.recs.length cr).ownBlock≠some w2.heap.size):=fun e=>by have:=F2.out.room.nN.1 _ e;omega
  have hzu:f_ ((mN ar m.recs.length cr).ownBlock≠some gu):=bB F2.out.room.recs hU.out (by decide)
  have Ky:f_ (gu≠w.heap.size):=fun e=>by
   have h1:=F2.out.box
   rw [<-e,hU.out] at h1
   simp at h1
  clear Rj x0 x1 x2 x3 x4 x5 x6 x7 y0 y1 y2 y3 y4 y5 y6 y7 hU uK F1
  refine sQ.mono ?_
  rintro e w5 ⟨rfl,rfl⟩
  go_wp2_with (go_at_call 115;(with_reducible refine Fg.out.mono ?_);rintro e w9 ⟨u,rfl,nS,vJ,_⟩;obtain ⟨aq,cq,Qv⟩:=aE nS;subst Qv;obtain ⟨⟨l0,l1,l2,l3,l4,l5,l6,l7⟩,j0,j1,j2,j3,j4,j5,j6,j7⟩:=aG (F3.out.below vJ).box;have nS:=aa nS;have vJ:=aa vJ)
  have F5:=aa (F3.out.O6 vJ.out nS.out)
  have SK:f_ ((w9.setCell ⟨w.heap.size,6,none⟩ (.slice aq (aJ m.back p.1).length cq)).heap[w5.heap.size]?=some (.cells #[.int .i64 p.1,.int .i64 p.2] 114 (0,0))):=(a_ w9 ⟨w.heap.size,6,none⟩ w5.heap.size _ (show w5.heap.size≠w.heap.size by have:=Zg.out.2;omega)).trans ((vJ.out.block _ Zg.out.1).trans oG.out)
  have SE:f_ ((w9.setCell ⟨w.heap.size,6,none⟩ (.slice aq (aJ m.back p.1).length cq)).heap[gu]?=some (.cells E9 3 (0,0))):=(a_ w9 ⟨w.heap.size,6,none⟩ gu _ Ky.out).trans ((vJ.out.block gu (cI ZX.out)).trans ZX.out)
  clear nS vJ l0 l1 l2 l3 l4 l5 l6 l7 j0 j1 j2 j3 j4 j5 j6 j7 b0 b1 b2 b3 b4 b5 b6 b7 e0 e1 e2 e3 e4 e5 e6 e7 f0 f1 f2 f3 f4 f5 f6 f7 g3 oG ZX sQ Fg F3
  generalize w9.setCell ⟨w.heap.size,6,none⟩ (.slice aq (aJ m.back p.1).length cq)=Fw at *
  have hh3:Fw.cell? ⟨w5.heap.size,0,none⟩=some (.int .i64 p.1):=cV SK.out
  have SB:Fw.cell? ⟨gu,0,none⟩=some (.int .i64 l):=(cV SE.out).trans ZY.out
  refine Tg (r:=⟨p.1,l,op,m.clock,m.clock, -1,eR⟩) (b2:=w.heap.size) (b4:=w.heap.size+1) (bx:=w5.heap.size) (gu:=gu) (nf:=nf) (cu:=cu) (op:=op) F5.out (by show m.recs.length<=1000;omega) dJ Gk rfl hh3 SB fun BQ gg mW Om TB TA Tz Ty Tx Tw Tv Tu Ol Oj Oi Oh Ju Jt Js Vz QL=> ?_
  have Xh:=aa Vz
  have RD:f_ (BQ.heap[w5.heap.size]?=some (.cells #[.int .i64 p.1,.int .i64 p.2] 114 (0,0))):=(QL _ (cI SK.out) (by have:=Zg.out.2;omega) hzr.out).trans SK.out
  clear Vz QL hh3 SB SE SK F5
  go_wp2_with fail
  refine MF (l:=p.1) (b2:=w.heap.size) (b4:=w.heap.size+1) (bx:=w5.heap.size) Xh.out.box Xh.out.res (cI RD.out) (cV RD.out) (by omega) (by omega) fun BD Jr Jq Og Oe Oc CY=> ?_
  have F13:=Xh.out.below CY
  clear CY RD Xh
  generalize dL++L_ p.1=tx at *
  go_wp2_with fail
  rw [hR.out];refine gO.ends F13 ?_ ?_ ?_
  ·rfl
  ·rfl
  ·rfl
noncomputable def Lz:Code:=f86.body.getD .skip
noncomputable def R86:Code:=match ai 4 Lz with| .seq _ (.block _ (.loop (.seq _ (.seq (.block _ (.seq _ (.seq _ (.cond _ (.seq _ (.seq c _)) _)))) _))))=>c|c=>c
structure Xb (w1:J') (w0:J') (r0 b0:M') (B:Nat) (m:Rm) (L O P:Int) (vr vw vl:M') (b2 b4:Nat) (ab:Option z_) (cb:Nat) (p:Int × Int) (D:Array Bool) (q:Qr) (w:J'):Prop where
 o0:D.getD 6 false=true->D.getD 5 false=true
 o2:D.getD 7 false=true->D.getD 6 false=true/\D.getD 1 false=true
 o3:D.getD 9 false=true->D.getD 7 false=true
 a:D.getD 6 false=false->w=w1
 b:D.getD 6 false=true->D.getD 7 false=false->w=w1.alloc (.cells #[.int .i64 p.1,.int .i64 p.2] 114)/\q.g=w1.heap.size
 c:D.getD 7 false=true->D.getD 9 false=false->w.ownsRow B 114 2 q.u (m.back.length+1) (ax (m.back++[p]))/\(w1.alloc (.cells #[.int .i64 p.1,.int .i64 p.2] 114)).grownBy w (mN ab m.back.length cb).ownBlock/\(q.u.ownBlock=(mN ab m.back.length cb).ownBlock\/q.u.ownBlock=some (w1.heap.size+1))
 d:D.getD 9 false=true->(gO w0 r0 b0 B {m with back:=m.back++[p]} L O P vr vw q.u vl b2 b4 w)/\(∀g,g<w1.heap.size->g≠b2->(mN ab m.back.length cb).ownBlock≠some g->w.heap[g]?=w1.heap[g]?)/\(q.u.ownBlock=(mN ab m.back.length cb).ownBlock\/q.u.ownBlock=some (w1.heap.size+1))
 e:D.getD 7 false=true->∃gg cap,q.u=.slice (some ⟨gg,0,none⟩) (m.back.length+1) cap
variable {w1 w0:J'} {r0 b0:M'} {L:Int} {b2 b4 cb i:Nat} {ab:Option z_} {D D':Array Bool}
theorem Xb.same {vw:M'} {p:Int × Int} {q:Qr} (h:Xb w1 w0 r0 b0 B m L O P vr vw vl b2 b4 ab cb p D q w) (qn:∀j,j≠i->D'.getD j false=D.getD j false) (qi:D'.getD i false=true) (hi:i∉[6,7,9]):Xb w1 w0 r0 b0 B m L O P vr vw vl b2 b4 ab cb p D' q w:=by
 have e1:=qn 6 (fun e=>hi (by simp [<-e]))
 have e2:=qn 7 (fun e=>hi (by simp [<-e]))
 have e3:=qn 9 (fun e=>hi (by simp [<-e]))
 have mo:∀j,D.getD j false=true->D'.getD j false=true:=fun j hj=>by
  by_cases e:j=i
  ·subst e;exact qi
  ·rw [qn j e];exact hj
 exact ⟨by rw [e1];exact fun h1=>mo _ (h.o0 h1),by rw [e2];exact fun ha=>⟨mo _ (h.o2 ha).1,mo _ (h.o2 ha).2⟩,by rw [e3,e2];exact h.o3,by rw [e1];exact h.a,by rw [e1,e2];exact h.b,by rw [e2,e3];exact h.c,by rw [e3];exact h.d,by rw [e2];exact h.e⟩
def zP (b2 g7 n7 c7 k:Nat) (m:Rm) (ab:Option z_) (cb:Nat) (p:Int × Int) (x:Qr):Nat->M'
 |0=>.pointer (some ⟨b2,6,none⟩)
 |1=>.slice ab m.back.length cb
 |2=>.slice (some ⟨g7,0,none⟩) n7 c7
 |3=>.int .i64 (k:Nat)
 |4=>.pointer (some ⟨g7,k * 2,none⟩)
 |5=>.agg #[.int .i64 p.1,.int .i64 p.2]
 |6=>.slice (some ⟨x.g,0,none⟩) 1 1
 |7=>x.u
 |8=>.pointer (some ⟨b2,6,none⟩)
 |_=>I'
variable {k:Nat} {z0 z3 z4 z5 z6 z9 dB cZ de dn dm dk dj dA dz dD dC dM dQ dK dP dO dV ey ew eu eK eJ eI eH eQ eN en iu iF iE iD iC iB nv nu np nk:M'} {Q:Exit->Act->J'->Prop}
theorem Tf {vw:M'} {p:Int × Int} {g7 n7 c7:Nat} (hF:gO w0 r0 b0 B m L O P vr vw (.slice ab m.back.length cb) vl b2 b4 w) (hn:m.back.length<=1000) (hkn:k<n7) (hnc:n7<=c7) (hn7:n7<=1000) (tX:w.cell? ⟨g7,k * 2,none⟩=some (.int .i64 p.1)) (rm:w.cell? ⟨g7,k * 2+1,none⟩=some (.int .i64 p.2)) {z1 z12 z20 z21 z22 z23 z24 z25 z26 z28 z31 z37 z40 z46 z49 z51 z53 z59 sW sV rH rG rF uu z70:M'}
 (hQ:∀w' gg cap (Ju Jt Js Jr Jq Og Oe Oc Tt:M'),gO w0 r0 b0 B {m with back:=m.back++[p]} L O P vr vw (.slice (some ⟨gg,0,none⟩) (m.back.length+1) cap) vl b2 b4 w'->(∀g,g<w.heap.size->g≠b2->(mN ab m.back.length cb).ownBlock≠some g->w'.heap[g]?=w.heap[g]?)->(some gg=(mN ab m.back.length cb).ownBlock\/w.heap.size<=gg)->Q .normal ⟨#[z0,z1,.pointer (some ⟨b2,0,none⟩),z3,z4,z5,z6,.slice (some ⟨g7,0,none⟩) n7 c7,.int .i64 (k:Nat),z9,dB,cZ,z12,de,dn,dm,dk,dj,dA,dz,z20,z21,z22,z23,z24,z25,z26,dD,z28,dC,dM,z31,dQ,dK,dP,dO,dV,z37,ey,ew,z40,eu,eK,eJ,eI,eH,z46,eQ,eN,z49,en,Ju,Jt,Js,Jr,Jq,Og,Oe,Oc,Tt,nv,nu,np,nk,sW,sV,rH,rG,rF,uu,z70],[]⟩ w'):
 Code.wp p_ R86 Q ⟨#[z0,z1,.pointer (some ⟨b2,0,none⟩),z3,z4,z5,z6,.slice (some ⟨g7,0,none⟩) n7 c7,.int .i64 (k:Nat),z9,dB,cZ,z12,de,dn,dm,dk,dj,dA,dz,z20,z21,z22,z23,z24,z25,z26,dD,z28,dC,dM,z31,dQ,dK,dP,dO,dV,z37,ey,ew,z40,eu,eK,eJ,eI,eH,z46,eQ,eN,z49,en,z51,iu,z53,iF,iE,iD,iC,iB,z59,nv,nu,np,nk,sW,sV,rH,rG,rF,uu,z70],[]⟩ w:=by
 have hF:=hF.drew
 have UH:(k:Int)<(n7:Int):=by omega
 have c6:w.drew.cell? ⟨b2,6,none⟩=some (.slice ab m.back.length cb):=(aG hF.box).1.2.2.2.2.2.2.1
 have tX:w.drew.cell? ⟨g7,k * 2,none⟩=some (.int .i64 p.1):=tX
 have rm:w.drew.cell? ⟨g7,k * 2+1,none⟩=some (.int .i64 p.2):=rm
 obtain ⟨w1,cf⟩:∃w1,w.drew=w1:=⟨_,rfl⟩
 have vC:f_ (∀g:Nat,w1.heap[g]?=w.heap[g]?/\w1.heap.size=w.heap.size):=fun g=>by rw [<-cf];exact ⟨rfl,rfl⟩
 rw [cf] at hF c6 tX rm
 refine wpN 71 fun bs cn oq HI=> ?_
 simp only [R86,ai,Lz,f86,A_]
 refine mA (by kernel_rfl) (kP:=⟨I',0⟩) (base:=bs) (by rw [oq];kernel_rfl) (by kernel_rfl) (fun x=>zP b2 g7 n7 c7 k m ab cb p x) (Xb w1 w0 r0 b0 B m L O P vr vw vl b2 b4 ab cb p)
  (by
   exact ⟨E5,E5,E5,fun _=>cf,E5,E5,E5,E5⟩) ?_ ?_
 ·intro i o' ho D x w a hD bc hw bH aD K k
  have hlt:i<10:=(cI ho)
  have Gl:=bT oq
  have qi:=qI hD hlt
  have qn:=qN D i
  have aA:=aa k
  clear k
  obtain rfl|rfl|rfl|rfl|rfl|rfl|rfl|rfl|rfl|rfl:i=0\/i=1\/i=2\/i=3\/i=4\/i=5\/i=6\/i=7\/i=8\/i=9:=by omega
  all_goals obtain rfl:=so ho rfl
  ·obtain ⟨v2,w2⟩:=bc.oo (.pointer (some ⟨b2,0,none⟩)) 2
   exact IZ (.pointer (some ⟨b2,6,none⟩))
  ·have d0:=dq aD 0
   obtain ⟨v51,XP⟩:=bc.vv (.pointer (some ⟨b2,6,none⟩)) 51 0 d0
   have c6:w.cell? ⟨b2,6,none⟩=some (.slice ab m.back.length cb):=by
    have hk:=ff bH fun hx=>(hw.o2 hx).2
    cases hb:D.getD 6 false with
    |false=>rw [hw.a hb];exact c6
    |true=>rw [(hw.b hb hk).1];exact (N_ w1 _ none).cell c6 (by simp)
   exact IZ (.slice ab m.back.length cb)
  ·obtain ⟨v7,w7⟩:=bc.oo (.slice (some ⟨g7,0,none⟩) n7 c7) 7
   exact IZ (.slice (some ⟨g7,0,none⟩) n7 c7)
  ·obtain ⟨v8,w8⟩:=bc.oo (.int .i64 (k:Nat)) 8
   exact IZ (.int .i64 (k:Nat))
  ·have d2:=dq aD 2
   obtain ⟨v53,XO⟩:=bc.vv (.slice (some ⟨g7,0,none⟩) n7 c7) 53 2 d2
   obtain ⟨v54,XN⟩:=bc.vv (.int .i64 (k:Nat)) 54 3 (dq aD 3)
   exact IZ (.pointer (some ⟨g7,k * 2,none⟩))
  ·have d4:=dq aD 4
   obtain ⟨v55,XM⟩:=bc.vv (.pointer (some ⟨g7,k * 2,none⟩)) 55 4 d4
   have vF:=ff bH fun hx=>hw.o0 hx
   obtain rfl:=hw.a vF
   exact IZ (.agg #[.int .i64 p.1,.int .i64 p.2])
  ·have d5:=dq aD 5
   obtain ⟨v56,XL⟩:=bc.vv (.agg #[.int .i64 p.1,.int .i64 p.2]) 56 5 d5
   clear aD ho
   have e6:=qi
   have e7:=qn 7 (by decide)
   have e9:=qn 9 (by decide)
   have xE:=ff bH fun hx=>(hw.o2 hx).1
   have CR:=ff xE fun hx=>hw.o3 hx
   obtain rfl:=hw.a bH
   refine bj (v:=.slice (some ⟨w.heap.size,0,none⟩) 1 1) (w':=w.alloc (.cells #[.int .i64 p.1,.int .i64 p.2] 114)) rfl rfl ?_ ?_
   ·clear bc hw aA bH qi qn e6 e7 e9
    go_simp
   ·refine aA.out ⟨x.u,w.heap.size⟩ _ (fun j hj=>by
     have hne:j≠6:=fun e=>by rw [e,bH] at hj;cases hj
     unfold zP;split<;>first|rfl|exact absurd rfl hne) ⟨fun _=>by rw [qn 5 (by decide)];exact d5,by rw [e7,xE];exact fun h=>(by cases h),by rw [e9,CR];exact fun h=>(by cases h),by rw [e6];exact fun h=>(by cases h),fun _ _=>⟨rfl,rfl⟩,by rw [e7,xE];exact fun h=>(by cases h),by rw [e9,CR];exact fun h=>(by cases h),by rw [e7,xE];exact fun h=>(by cases h)⟩
  ·have d1:=dq aD 1
   have d6:=dq aD 6
   obtain ⟨v52,V9⟩:=bc.vv (.slice ab m.back.length cb) 52 1 d1
   obtain ⟨Kx,XK⟩:=bc.vv (.slice (some ⟨x.g,0,none⟩) 1 1) 57 6 d6
   clear aD ho
   have e6:=qn 6 (by decide)
   have e7:=qi
   have e9:=qn 9 (by decide)
   have CR:=ff bH fun hx=>hw.o3 hx
   obtain ⟨yc,hg⟩:=hw.b d6 bH
   obtain ⟨i9,A5,Kl,nQ,nP⟩:=info_parts pX
   have bR:=hF.room.back.alloc (.cells #[.int .i64 p.1,.int .i64 p.2] 114)
   obtain ⟨g,cap,w6,hrun,yI,pZ,iP,mR⟩:=run_append_lies (P:=p_) (w1.alloc (.cells #[.int .i64 p.1,.int .i64 p.2] 114)) 61 61 B 114 i9 _ 2 16 Tryz.underlying61 A5 Kl nQ nP rfl (by decide) (.slice ab m.back.length cb) m.back.length _ bR ⟨w1.heap.size,0,none⟩ 1 1 [.int .i64 p.1,.int .i64 p.2] rfl (fY w1 _ _ rfl) (by intro u hu;simp at hu;rcases hu with rfl|rfl<;>rfl) (by decide) (by unfold maxLen;omega) (by omega) (D_ hF.room.big (N_ w1 _ none).size) _ rfl
   rw [hg] at Kx
   subst yc
   refine bj (v:=.slice (some ⟨g,0,none⟩) (m.back.length+1) cap) (w':=w6) rfl rfl ?_ ?_
   ·clear bc hw aA bH qi qn e6 e7 e9
    simp only [List.getElem_toArray,List.getElem_cons_succ,List.getElem_cons_zero,V',resolve,invoke,builtin,Sem.run_bind,Sem.run_pure,Result.andThen_ok,List.map_toArray,S_,List.map_nil,v52,Kx,hrun]
   ·refine aA.out ⟨.slice (some ⟨g,0,none⟩) (m.back.length+1) cap,x.g⟩ _ (fun j hj=>by
     have hne:j≠7:=fun e=>by rw [e,bH] at hj;cases hj
     unfold zP;split<;>first|rfl|exact absurd rfl hne) ⟨by rw [e6,qn 5 (by decide)];exact hw.o0, ?_,by rw [e9,CR];exact fun h=>(by cases h),by rw [e6,d6];exact fun h=>(by cases h),by rw [e7];exact fun _ h=>(by cases h),fun _ _=>⟨by rw [gE];exact yI,pZ, ?_⟩,by rw [e9,CR];exact fun h=>(by cases h),fun _=>⟨g,cap,rfl⟩⟩
    ·intro _;rw [e6];exact ⟨d6,by rw [qn 1 (by decide)];exact d1⟩
    ·rcases iP with h|h
     ·exact .inl h.symm
     ·exact .inr (by rw [h,B_];rfl)
  ·obtain ⟨v2,w2⟩:=bc.oo (.pointer (some ⟨b2,0,none⟩)) 2
   exact IZ (.pointer (some ⟨b2,6,none⟩))
  ·have d8:=dq aD 8
   have d7:=dq aD 7
   obtain ⟨v59,w59⟩:=bc.vv (.pointer (some ⟨b2,6,none⟩)) 59 8 d8
   obtain ⟨v58,V8⟩:=bc.vv (x.u) 58 7 d7
   clear aD ho
   have e6:=qn 6 (by decide)
   have e7:=qn 7 (by decide)
   have e9:=qi
   obtain ⟨ho,lH,fH⟩:=hw.c d7 bH
   obtain ⟨gg,cap,hu⟩:=hw.e d7
   have F3:=hF.below ((h_ _ _).alloc (C_ _) (.cells #[.int .i64 p.1,.int .i64 p.2] 114))
   have F4:=F3.aBt (p:=p) rfl lH ho (by rw [B_];exact fH)
   have lF:=(lH.block _ F3.LX (fun e=>F3.oB.1.2.2 e.symm)).trans F3.box
   have p6:w.cell? ⟨b2,6,none⟩=some (.slice ab m.back.length cb):=by rw [cV lF];rfl
   have q6:w.frozen? ⟨b2,6,none⟩=false:=bX lF
   have QL:∀g,g<w1.heap.size->g≠b2->(mN ab m.back.length cb).ownBlock≠some g->(w.setCell ⟨b2,6,none⟩ x.u).heap[g]?=w1.heap[g]?:=fun g h1 h2 h3=>(a_ w ⟨b2,6,none⟩ g x.u h2).trans ((lH.block g (by rw [B_];omega) (fun e=>h3 e.symm)).trans ((N_ w1 _ none).block g h1 (by simp)))
   have QL:=aa QL
   have fH:=aa fH
   refine gQ (w':=w.setCell ⟨b2,6,none⟩ x.u) rfl rfl ?_ ?_
   ·clear bc hw aA bH qi qn e6 e7 e9 F3 F4 ho lH lF
    rw [hu] at V8
    rw [hu]
    go_simp
   ·refine aA.out x _ (fun _ _=>rfl) ⟨by rw [e6,qn 5 (by decide)];exact hw.o0,by rw [e7,e6,qn 1 (by decide)];exact hw.o2,fun _=>by rw [e7];exact d7,by rw [e6];exact fun h=>(by rw [(hw.o2 d7).1] at h;cases h),by rw [e7,d7];exact fun _ h=>(by cases h),by rw [e9];exact fun _ h=>(by cases h),fun _=>⟨F4,QL.out,fH.out⟩,by rw [e7];exact hw.e⟩
 ·intro D x w hd hw
  obtain ⟨gg,cap,hu⟩:=hw.e (hd 7 (by decide))
  have EX:=hw.d (hd 9 (by decide))
  obtain ⟨u9,g9⟩:=x
  simp only at hu EX
  subst hu
  have:=hQ w gg cap (.pointer (some ⟨b2,6,none⟩)) (.slice ab m.back.length cb) (.slice (some ⟨g7,0,none⟩) n7 c7) (.int .i64 (k:Nat)) (.pointer (some ⟨g7,k * 2,none⟩)) (.agg #[.int .i64 p.1,.int .i64 p.2]) (.slice (some ⟨g9,0,none⟩) 1 1) (.slice (some ⟨gg,0,none⟩) (m.back.length+1) cap) (.pointer (some ⟨b2,6,none⟩)) EX.1 (fun g h1 h2 h3=>(EX.2.1 g (by rw [(vC.out g).2];exact h1) h2 h3).trans (vC.out g).1) (by
   rcases EX.2.2 with h|h
   ·exact .inl h
   ·have e:gg=w1.heap.size+1:=M_ h
    have:=(vC.out 0).2
    exact .inr (by omega))
  generalize bc:slotsOf _ bs (zP b2 g7 n7 c7 k m ab cb p ⟨.slice (some ⟨gg,0,none⟩) (m.back.length+1) cap,g9⟩)=sl
  have eS:sl=#[z0,z1,.pointer (some ⟨b2,0,none⟩),z3,z4,z5,z6,.slice (some ⟨g7,0,none⟩) n7 c7,.int .i64 (k:Nat),z9,dB,cZ,z12,de,dn,dm,dk,dj,dA,dz,z20,z21,z22,z23,z24,z25,z26,dD,z28,dC,dM,z31,dQ,dK,dP,dO,dV,z37,ey,ew,z40,eu,eK,eJ,eI,eH,z46,eQ,eN,z49,en,.pointer (some ⟨b2,6,none⟩),.slice ab m.back.length cb,.slice (some ⟨g7,0,none⟩) n7 c7,.int .i64 (k:Nat),.pointer (some ⟨g7,k * 2,none⟩),.agg #[.int .i64 p.1,.int .i64 p.2],.slice (some ⟨g9,0,none⟩) 1 1,.slice (some ⟨gg,0,none⟩) (m.back.length+1) cap,.pointer (some ⟨b2,6,none⟩),nv,nu,np,nk,sW,sV,rH,rG,rF,uu,z70]:=by rw [<-bc,<-cn];kernel_rfl
  rw [eS]
  exact this
end
section
open Go Go.Conc Go.aC Go.Proofs
def Qw (P n:Int) (m:Rm) (k:Nat):Rm × Bs:=(m.wait.take k).foldl (fB P) ({m with clock:=m.clock+n},rI++L_ (m.clock+n))
theorem Sc (P n:Int) (m:Rm):Qw P n m m.wait.length=mB P m n:=by unfold Qw mB;rw [List.take_length]
variable {P:Int} {m:Rm} {k:Nat}
theorem NV {n:Int} (hk:k<m.wait.length):Qw P n m (k+1)=fB P (Qw P n m k) m.wait[k]:=by
 unfold Qw;rw [sC hk,List.foldl_append];rfl
variable {i:Nat} {r':Rec}
theorem Hl {rs:List Rec} {r:Rec} {c:Int} (h:rs[i]?=some r) (hc:r.call≠c) (hc':r'.call≠c):dE (rs.set i r') c=dE rs c:=by
 unfold dE
 induction rs generalizing i with
 |nil=>simp at h
 |cons a t ih=>
  cases i with
  |zero=>
   have:a=r:=by simpa using h
   subst this
   simp [List.findIdx?_cons,hc,hc']
  |succ i=>
   have h':t[i]?=some r:=by simpa using h
   simp only [List.set_cons_succ,List.findIdx?_cons]
   rw [ih h']
structure VV (P n:Int) (m:Rm) (k:Nat):Prop where
 ck:(Qw P n m k).1.clock=m.clock+n
 rl:(Qw P n m k).1.recs.length=m.recs.length
 bl:(Qw P n m k).1.back.length<=m.back.length+k
 wl:(Qw P n m k).1.wait.length<=m.wait.length
 fr:∀(i:Nat) (r:Rec),(Qw P n m k).1.recs[i]?=some r->0<=r.jy/\r.jy<=m.clock
 op:∀(j:Nat) (hj:j<m.wait.length),k<=j->∃i,dE (Qw P n m k).1.recs (m.wait[j]).1=some i
 tl:(Qw P n m k).2.length<=24+22 * k
theorem pW {n:Int} (h0:0<=n) (h1:n<=1000000000):(L_ n).length<=21:=Lib.itoa_length_le n (by omega) (by omega)
theorem Fv {n:Int} (hk:k<m.wait.length) (h:VV P n m k):∃i r,dE (Qw P n m k).1.recs (m.wait[k]).1=some i/\(Qw P n m k).1.recs[i]?=some r/\r.call=(m.wait[k]).1/\
 Qw P n m (k+1)=(if (Qw P n m k).1.clock - r.jy>=P then ({jJ (Qw P n m k).1 i eT with back:=(Qw P n m k).1.back++[m.wait[k]]},(Qw P n m k).2++(32::L_ (m.wait[k]).1)) else Qw P n m k):=by
 obtain ⟨i,hi⟩:=h.op k hk (C_ _)
 obtain ⟨r,h1,h2⟩:=wT hi
 refine ⟨i,r,hi,h1.1,h2, ?_⟩
 rw [NV hk]
 generalize Qw P n m k=q at *
 unfold fB
 rw [hi];simp only;rw [h1.1]
theorem XH {n:Int} (kj:∀(i:Nat) (r:Rec),m.recs[i]?=some r->0<=r.jy/\r.jy<=m.clock) (hop:∀p∈m.wait,(1<=p.1/\p.1<=1000000)/\∃i,dE m.recs p.1=some i) (QM:(m.wait.map (·.1)).Nodup) (gv:0<=m.clock+n/\m.clock+n<=1000000000):∀k,k<=m.wait.length->VV P n m k:=by
 intro k
 induction k with
 |zero=>
  intro _
  refine ⟨rfl,rfl,C_ _,C_ _,kj,fun j hj _=>(hop _ (List.getElem_mem hj)).2, ?_⟩
  have:=pW gv.1 gv.2
  show (rI++L_ (m.clock+n)).length<=24
  rw [K_]
  have:rI.length=3:=rfl
  omega
 |succ k ih=>
  intro hk
  have h:=ih (by omega)
  obtain ⟨i,r,hi,h1,h2,h3⟩:=Fv (by omega) h
  have ml:=(List.getElem?_eq_some_iff.1 h1)
  obtain ⟨ml,QZ⟩:=ml
  have Uk:=(hop _ (List.getElem_mem (show k<m.wait.length by omega))).1
  by_cases hP:(Qw P n m k).1.clock - r.jy>=P
  ·rw [if_pos hP,sM ml] at h3
   rw [QZ] at h3
   refine ⟨?_, ?_, ?_, ?_, ?_, ?_, ?_⟩<;>rw [h3]
   ·exact h.ck
   ·show ((Qw P n m k).1.recs.set i _).length=_
    rw [List.length_set];exact h.rl
   ·show ((Qw P n m k).1.back++[_]).length<=_
    rw [K_];have:=h.bl;simp;omega
   ·exact D_ (jQ _ _) h.wl
   ·intro j s hs
    have xv:((Qw P n m k).1.recs.set i {r with wI:=(Qw P n m k).1.clock,fin:=eT})[j]?=some s:=hs
    rw [List.getElem?_set] at xv
    by_cases e:i=j
    ·rw [if_pos e,if_pos ml] at xv
     obtain rfl:=M_ xv
     exact h.fr i r h1
    ·rw [if_neg e] at xv;exact h.fr j s xv
   ·intro j hj hkj
    obtain ⟨i',lE⟩:=h.op j hj (by omega)
    have hne:(m.wait[k]).1≠(m.wait[j]).1:=fun e=>by
     have:=(List.getElem_inj (h₀:=(by rw [List.length_map];omega:k<(m.wait.map (·.1)).length)) (h₁:=(by rw [List.length_map];exact hj)) QM).1 (by simpa using e)
     omega
    refine ⟨i', ?_⟩
    show dE ((Qw P n m k).1.recs.set i _) _=_
    rw [Hl h1 (by rw [h2];exact hne) (by show r.call≠_;rw [h2];exact hne)];exact lE
   ·show ((Qw P n m k).2++(32::L_ _)).length<=_
    have:=pW (n:=(m.wait[k]).1) (by omega) (by omega)
    have:=h.tl
    simp only [K_,List.length_cons];omega
  ·rw [if_neg hP] at h3
   exact ⟨by rw [h3];exact h.ck,by rw [h3];exact h.rl,by rw [h3];have:=h.bl;omega,by rw [h3];exact h.wl,by rw [h3];exact h.fr,by rw [h3];exact fun j hj hkj=>h.op j hj (by omega),by rw [h3];have:=h.tl;omega⟩
variable {w0 w:J'} {r0 b0:M'} {B:Nat} {L O:Int} {vr vw vb vl:M'} {b2 b4:Nat}
theorem gO.drewN (h:gO w0 r0 b0 B m L O P vr vw vb vl b2 b4 w) (n:Nat):gO w0 r0 b0 B m L O P vr vw vb vl b2 b4 (w.drewN n):=
 ⟨h.room.keep (C_ _) (fun _ _ _=>rfl),h.fr.trans ⟨rfl,rfl,rfl,C_ _,fun _ _ _ _=>rfl⟩,h.rr,h.rb,h.box,h.res,h.l2,h.l4,h.ne⟩
end
section
open Go Go.Conc Go.Conc.Lib Go.ConcR Go.ConcR.Gen Go.aC Go.Proofs
open Go.RowKit hiding Hid
open Go.ConcN (upd upd_ne upd_same)
structure Φ (w:J') (Wc We:M') (B:Nat) (m:Rm) (L O P n:Int) (vl:M') (b2 b4 gw:Nat) (k:Nat) (tv:M') (wr:J'):Prop where
 ex:∃vr vw vb,gO w Wc We B (Qw P n m k).1 L O P vr vw vb vl b2 b4 wr/\vb.ownBlock≠some gw
 tx:tv=.string ⟨(Qw P n m k).2.toArray⟩
 row:wr.heap[gw]?=w.heap[gw]?
variable {B:Nat} {m:Rm} {vr vb vl:M'} {w:J'} {L O P:Int}
theorem Cx {vw:M'} (R:bA B m vr vw vb w) (hn:m.recs.length<=100) (L9:m.wait.length<=100) (QO:m.back.length<=100) (mP:∃a n c,vl=.slice a n c)
 (kj:∀(i:Nat) (r:Rec),m.recs[i]?=some r->0<=r.jy/\r.jy<=m.clock) (hop:∀p∈m.wait,(1<=p.1/\p.1<=1000000)/\∃i,dE m.recs p.1=some i) (QM:(m.wait.map (·.1)).Nodup) (n:Int) (gv:(0<=m.clock/\m.clock<=1000000)/\0<=n/\n<=1000000):
 d_ p_ 86 #[jD L O P m.clock vr vw vb vl,.int .i64 n] w (Done w vr vb B (mB P m n).1 L O P vl (mB P m n).2):=by
 obtain ⟨al,bM,cl,rfl⟩:=mP
 obtain ⟨ab,cb,oK⟩:=aE R.back
 subst oK
 obtain ⟨ar,cr,ql⟩:=aE R.recs
 subst ql
 obtain ⟨gw,cw,qG,KC,yN⟩:=fV R.wait R.iQ
 subst qG
 obtain ⟨w1,cf⟩:∃w1,(w.alloc (.cells (gi L O P m.clock (.slice ar m.recs.length cr) (.slice (some ⟨gw,0,none⟩) m.wait.length cw) (.slice ab m.back.length cb) (.slice al bM cl)) 63)).alloc (.cells ia 63)=w1:=⟨_,rfl⟩
 have lr:f_ (w1.heap.size=w.heap.size+2):=by rw [f_,<-cf,B_,B_]
 have eo:g_ w.heap.size w w1:=by rw [<-cf];exact ((h_ _ _).alloc (C_ _) _).alloc (by rw [B_];omega) _
 have jx:w1.heap[w.heap.size]?=some (.cells (gi L O P m.clock (.slice ar m.recs.length cr) (.slice (some ⟨gw,0,none⟩) m.wait.length cw) (.slice ab m.back.length cb) (.slice al bM cl)) 63 (0,0)):=by rw [<-cf];exact br (Z' w _)
 have sH:w1.heap[w.heap.size+1]?=some (.cells ia 63 (0,0)):=by
  have:=Z' (w.alloc (.cells (gi L O P m.clock (.slice ar m.recs.length cr) (.slice (some ⟨gw,0,none⟩) m.wait.length cw) (.slice ab m.back.length cb) (.slice al bM cl)) 63)) (.cells ia 63)
  rw [B_,cf] at this
  exact this
 have hWt:=aa (XH (P:=P) kj hop QM (n:=n) ⟨by omega,by omega⟩)
 have Uk:=aa (fun k (hk:k<m.wait.length)=>(hop _ (List.getElem_mem hk)).1)
 have Mg:gw<w.heap.size:=R.nN.2.1 gw rfl
 have Ky:=aa (R.apart gw rfl)
 have ZZ:=aa R.rd.2.1
 have Zs:=aa (jF R.wait (g:=gw) rfl)
 have F1:=aa (gO.start R eo jx sH (C_ _) (by omega) (by omega))
 replace Mg:=aa Mg
 obtain ⟨c,hc⟩:∃c,m.clock+n=c:=⟨_,rfl⟩
 have oJ:IntKind.i64.wrap (m.clock+n)=c:=by rw [hc];exact IntWalk.i64_in _ (by omega)
 have KE:0<=c:=by omega
 have BK:c<=2000000:=by omega
 obtain ⟨w2,wh⟩:∃w2,w1.setCell ⟨w.heap.size,3,none⟩ (.int .i64 c)=w2:=⟨_,rfl⟩
 have F2:=F1.out.clock c
 rw [wh] at F2
 have uJ:f_ (w2.heap[gw]?=w.heap[gw]?):=by rw [f_,<-wh];exact (a_ w1 ⟨w.heap.size,3,none⟩ gw _ (show gw≠w.heap.size by have:=Mg.out;omega)).trans (eo.block gw Mg.out)
 have UY:f_ (gw<w2.heap.size):=by rw [f_,<-wh,o_];have:=Mg.out;have:=eo.size;omega
 obtain ⟨⟨a0,a1,a2,a3,a4,a5,a6,a7⟩,b0,b1,b2,b3,b4,b5,b6,b7⟩:=aG jx
 obtain ⟨⟨d0,d1,d2,d3,d4,d5,d6,d7⟩,_⟩:=aG F2.box
 replace F2:=aa F2
 have KB:=aa (lp c w2 KE (by omega))
 have Rr:=pW KE (show c<=1000000000 by omega)
 have hL:¬(9223372036854775807<3+(L_ c).length):=by omega
 have qo:m.wait.length<=1000:=by omega
 have ZG:=aa gv
 clear R eo jx sH kj hop gv
 unfold gi ia at cf
 unfold jD
 obtain ⟨Po,EW⟩:∃Po:Ending->J'->Prop,f_ (Po=Done w (.slice ar m.recs.length cr) (.slice ab m.back.length cb) B (mB P m n).1 L O P (.slice al bM cl) (mB P m n).2):=⟨_,rfl⟩
 refine Calls.mono (R:=Po) ?_ (fun e w' h=>by rw [EW.out] at h;exact h)
 replace hc:=aa hc
 go_enter func86,ntmps86
 go_wp2_with (go_at_call 113;(with_reducible refine KB.out.mono ?_);rintro e w3 ⟨rfl,Mi⟩;have F3:=aa (F2.out.below Mi);obtain ⟨⟨e0,e1,e2,e3,e4,e5,e6,e7⟩,f0,f1,f2,f3,f4,f5,f6,f7⟩:=aG F3.out.box;have OI:f_ (w3.heap[gw]?=w.heap[gw]?):=(Mi.block gw UY.out).trans uJ.out;clear Mi F1 F2 d0 d1 d2 d3 d4 d5 d6 d7)
 have Rq:f_ (Φ w (.slice ar m.recs.length cr) (.slice ab m.back.length cb) B m L O P n (.slice al bM cl) w.heap.size (w.heap.size+1) gw 0 (.string ({data:=#[97,116,32]}++{data:=(L_ c).toArray})) w3):=by
  refine ⟨⟨_,_,_,by have:=F3.out;rw [<-hc.out] at this;exact this,Ky.out⟩, ?_,OI.out⟩
  show _=Value.string ⟨(rI++L_ (m.clock+n)).toArray⟩
  rw [hc.out];exact congrArg Value.string (vQ rI (L_ c))
 clear oJ cf wh uJ OI F3 e0 e1 e2 e3 e4 e5 e6 e7 f0 f1 f2 f3 f4 f5 f6 f7 KB hL Rr UY
 go_loopw [8,6] (fun i tv wr=>∃k:Nat,k<=m.wait.length/\i=.int .i64 k/\f_ (Φ w (.slice ar m.recs.length cr) (.slice ab m.back.length cb) B m L O P n (.slice al bM cl) w.heap.size (w.heap.size+1) gw k tv wr)) (fun i _ _=>m.wait.length - (intOf i).toNat)
 case atStart=>exact ⟨0,nz _,rfl,Rq⟩
 case round=>
  clear Rq
  obtain ⟨k,hk,rfl,hR⟩:=hrel
  by_cases hlt:k<m.wait.length
  ·have gJ:(k:Int)<(m.wait.length:Int):=by omega
   have W:=hWt.out k hk
   obtain ⟨⟨vr,vw,vb,F,oK⟩,TZ,bR⟩:=hR.out
   subst TZ
   obtain ⟨i,r,Gc,wj,mj,OL⟩:=Fv hlt W
   have Iu:=Uk.out k hlt
   obtain ⟨ml,Kk⟩:=List.getElem?_eq_some_iff.1 wj
   have Q6:=W.fr i r wj
   have Ug:(Qw P n m k).1.clock=c:=by rw [W.ck];exact hc.out
   have q1:=W.rl
   have q2:=W.bl
   have q3:=W.wl
   have q4:=W.tl
   have L6:f_ (∀wx:J',wx.heap[gw]?=w.heap[gw]?->wx.cell? ⟨gw,k * 2,none⟩=some (.int .i64 (m.wait[k]).1)/\wx.cell? ⟨gw,k * 2+1,none⟩=some (.int .i64 (m.wait[k]).2)):=fun wx h=>by
    have hr:=ZZ.out.keep (w':=wx) (fun g hg=>by have e:gw=g:=M_ hg;subst e;exact h)
    obtain ⟨g1,c1,M5,_,y0,y1⟩:=pR hr hlt
    injection M5 with i1 i2 i3
    injection i1 with i1
    injection i1 with i1
    subst i1
    exact ⟨y0,y1⟩
   clear W hR
   have Up:=aa OL
   clear OL
   generalize Qw P n m k=q at *
   obtain ⟨LG,Lv,Qt⟩:=aE F.room.back
   subst Qt
   obtain ⟨gq,cq,YL,_,_⟩:=fV F.room.wait F.room.iQ
   subst YL
   obtain ⟨gr,HZ,Qq,aEc,zz⟩:=nH F.room.rd.1 ml
   subst Qq
   clear zz
   have Oz:f_ (∀wx:J',gO w (.slice ar m.recs.length cr) (.slice ab m.back.length cb) B q.1 L O P (.slice (some ⟨gr,0,none⟩) q.1.recs.length HZ) (.slice (some ⟨gq,0,none⟩) q.1.wait.length cq) (.slice LG q.1.back.length Lv) (.slice al bM cl) w.heap.size (w.heap.size+1) wx->wx.cell? ⟨gr,i * 7+3,none⟩=some (.int .i64 r.jy)):=fun wx h=>by
    obtain ⟨g1,c1,M5,_,y0,y1,y2,y3,_⟩:=nH h.room.rd.1 ml
    injection M5 with i1 i2 i3
    injection i1 with i1
    injection i1 with i1
    subst i1
    rw [Kk] at y3
    exact y3
   generalize m.wait[k]=p at *
   have lA:f_ (∀N,d_ p_ 110 #[.slice (some ⟨gr,0,none⟩) q.1.recs.length HZ,.int .i64 p.1] (wr.drewN N) fun e w'=>e=.returned (.int .i64 (i:Nat))/\w'=wr.drewN N):=fun N=>by rw [<-(pV Gc).1];exact nO (F.drewN N).room.rd.1 (by omega) p.1
   have QY:(i:Int)<(q.1.recs.length:Int):=by omega
   have vI:(0:Int)<=(i:Int):=by omega
   have M3:IntKind.i64.wrap (q.1.clock - r.jy)=q.1.clock - r.jy:=IntWalk.i64_in _ (by have:=ZG.out;omega)
   have aDu:0<=q.1.clock/\q.1.clock<=2000000:=by omega
   replace Iu:=aa Iu
   replace Gc:=aa Gc
   replace wj:=aa wj
   replace Kk:=aa Kk
   replace mj:=aa mj
   replace q1:=aa q1
   replace q2:=aa q2
   replace q3:=aa q3
   replace q4:=aa q4
   have hF:=aa F
   replace bR:=aa bR
   replace oK:=aa oK
   replace ml:=aa ml
   replace Q6:=aa Q6
   clear Ug F
   obtain ⟨⟨e0,e1,e2,e3,e4,e5,e6,e7⟩,f0,f1,f2,f3,f4,f5,f6,f7⟩:=aG hF.out.box
   obtain ⟨k0,k1⟩:=L6.out _ bR.out
   have z3:=Oz.out _ hF.out
   go_wp2_with fail
   go_quiet ((go_at_call 110;exact Calls.quiet_of_same (lA.out _)))
   have Fa:=aa (hF.out.drewN nq)
   have Jf:f_ ((wr.drewN nq).heap[gw]?=w.heap[gw]?):=bR.out
   clear e0 e1 e2 e3 e4 e5 e6 e7 f0 f1 f2 f3 f4 f5 f6 f7 k0 k1 z3 hF bR lA
   generalize wr.drewN nq=wa at *
   obtain ⟨⟨e0a,e1a,e2a,e3a,e4a,e5a,e6a,e7a⟩,f0a,f1a,f2a,f3a,f4a,f5a,f6a,f7a⟩:=aG Fa.out.box
   obtain ⟨k0a,k1a⟩:=L6.out _ Jf.out
   have z3a:=Oz.out _ Fa.out
   go_wp2_with fail
   by_cases hP:q.1.clock - r.jy>=P
   ·have hd:decide (P<=q.1.clock - r.jy)=true:=decide_eq_true hP
    have CP:f_ (Qw P n m (k+1)=({{q.1 with recs:=q.1.recs.set i {r with wI:=q.1.clock,fin:=eT},wait:=aJ q.1.wait r.call} with back:=q.1.back++[p]},q.2++(32::L_ p.1))):=by rw [f_,Up.out,if_pos hP,sM ml.out,Kk.out]
    go_quiet (fail)
    have Fb:=aa (Fa.out.drewN nq)
    have Je:f_ ((wa.drewN nq).heap[gw]?=w.heap[gw]?):=Jf.out
    clear e0a e1a e2a e3a e4a e5a e6a e7a f0a f1a f2a f3a f4a f5a f6a f7a k0a k1a z3a Fa Jf hd hP M3
    generalize wa.drewN nq=wb at *
    obtain ⟨⟨e0,e1,e2,e3,e4,e5,e6,e7⟩,_⟩:=aG Fb.out.box
    have hE:f_ (d_ p_ 116 #[.agg #[.int .i64 L,.int .i64 O,.int .i64 P,.int .i64 q.1.clock,.slice (some ⟨gr,0,none⟩) q.1.recs.length HZ,.slice (some ⟨gq,0,none⟩) q.1.wait.length cq,.slice LG q.1.back.length Lv,.slice al bM cl],.int .i64 (i:Nat),.string ⟨#[116,105,114,101,100]⟩] wb fun e w'=>∃jA,e=.returned (jD L O P q.1.clock (.slice (some ⟨gr,0,none⟩) q.1.recs.length HZ) jA (.slice LG q.1.back.length Lv) (.slice al bM cl))/\bA B {q.1 with recs:=q.1.recs.set i {r with wI:=q.1.clock,fin:=eT},wait:=aJ q.1.wait r.call} (.slice (some ⟨gr,0,none⟩) q.1.recs.length HZ) jA (.slice LG q.1.back.length Lv) w'/\bg (.slice (some ⟨gr,0,none⟩) q.1.recs.length HZ) (.slice none 0 0) wb w'/\(∀g,jA.ownBlock=some g->wb.heap.size<=g)):=by
     have h:=xm (L:=L) (O:=O) (P:=P) (vl:=.slice al bM cl) Fb.out.room ml.out (by have:=q1.out;omega) (by have:=q3.out;omega) ⟨_,_,_,rfl⟩ eT
     rw [sM ml.out,Kk.out] at h
     exact h
    go_wp2_with (go_at_call 116;(with_reducible refine hE.out.mono ?_);rintro e w4 ⟨N3,rfl,R2,nj,_⟩;obtain ⟨ID,IC,rn⟩:=aE R2.wait;subst rn;have lF:=(nj.block _ Fb.out.LX Fb.out.oB.1.1 (fun e=>by cases e)).trans Fb.out.box;obtain ⟨⟨p0,p1,p2,p3,p4,p5,p6,p7⟩,s0,s1,s2,s3,s4,s5,s6,s7⟩:=aG lF;have DD:=aa R2;have tY:=aa nj;unfold jD;clear R2 nj lF e0 e1 e2 e3 e4 e5 e6 e7 hE)
    have F9:f_ (gO w (.slice ar m.recs.length cr) (.slice ab m.back.length cb) B {q.1 with recs:=q.1.recs.set i {r with wI:=q.1.clock,fin:=eT},wait:=aJ q.1.wait r.call} L O P (.slice (some ⟨gr,0,none⟩) q.1.recs.length HZ) (.slice ID (aJ q.1.wait r.call).length IC) (.slice LG q.1.back.length Lv) (.slice al bM cl) w.heap.size (w.heap.size+1) (Of.b8 w4 w.heap.size (.int .i64 L) (.int .i64 O) (.int .i64 P) (.int .i64 q.1.clock) (.slice (some ⟨gr,0,none⟩) q.1.recs.length HZ) (.slice ID (aJ q.1.wait r.call).length IC) (.slice LG q.1.back.length Lv) (.slice al bM cl))):=gO.put Fb.out tY.out DD.out
    obtain ⟨cub,Vb⟩:=Zs.out
    have PX:f_ ((Of.b8 w4 w.heap.size (.int .i64 L) (.int .i64 O) (.int .i64 P) (.int .i64 q.1.clock) (.slice (some ⟨gr,0,none⟩) q.1.recs.length HZ) (.slice ID (aJ q.1.wait r.call).length IC) (.slice LG q.1.back.length Lv) (.slice al bM cl)).heap[gw]?=w.heap[gw]?):=(kN (show gw≠w.heap.size by have:=Mg.out;omega)).trans ((tY.out.block gw (by have:=Mg.out;have:=Fb.out.fr.size;omega) (bB Fb.out.room.recs (Je.out.trans Vb) (by decide)) (fun e=>by cases e)).trans Je.out)
    change Code.wp _ _ _ _ (Of.b8 w4 w.heap.size (.int .i64 L) (.int .i64 O) (.int .i64 P) (.int .i64 q.1.clock) (.slice (some ⟨gr,0,none⟩) q.1.recs.length HZ) (.slice ID (aJ q.1.wait r.call).length IC) (.slice LG q.1.back.length Lv) (.slice al bM cl))
    clear DD tY p0 p1 p2 p3 p4 p5 p6 p7 s0 s1 s2 s3 s4 s5 s6 s7 Fb Je Vb
    generalize Of.b8 w4 w.heap.size (.int .i64 L) (.int .i64 O) (.int .i64 P) (.int .i64 q.1.clock) (.slice (some ⟨gr,0,none⟩) q.1.recs.length HZ) (.slice ID (aJ q.1.wait r.call).length IC) (.slice LG q.1.back.length Lv) (.slice al bM cl)=w9 at *
    obtain ⟨k0c,k1c⟩:=L6.out _ PX.out
    have Q3:f_ (gw<w9.heap.size):=by have:=Mg.out;have:=F9.out.fr.size;show _<_;omega
    refine Tf (m:={q.1 with recs:=q.1.recs.set i {r with wI:=q.1.clock,fin:=eT},wait:=aJ q.1.wait r.call}) (k:=k) (p:=p) (g7:=gw) (n7:=m.wait.length) (c7:=cw) F9.out (by show q.1.back.length<=1000;have:=q2.out;omega) hlt KC qo k0c k1c fun w6 gg mW Ju Jt Js Jr Jq Og Oe Oc Tt hF6 QL Iw=> ?_
    have F6:=aa hF6
    have PY:f_ (w6.heap[gw]?=w.heap[gw]?):=(QL gw Q3.out (by have:=Mg.out;omega) oK.out).trans PX.out
    have Zu:f_ (gw<w6.heap.size):=by have:=Mg.out;have:=hF6.fr.size;show _<_;omega
    have Za:f_ ((mN (some ⟨gg,0,none⟩) (q.1.back.length+1) mW).ownBlock≠some gw):=fun e=>by
     have e1:gg=gw:=M_ e
     rcases Iw with h|h
     ·exact oK.out (by rw [<-e1];exact h.symm)
     ·have:=Q3.out;omega
    clear hF6 QL Iw F9 PX k0c k1c Q3
    obtain ⟨k0d,k1d⟩:=L6.out _ PY.out
    have aDv:=Iu.out
    have KB:=lp p.1 w6 (by omega) (by omega)
    have Rr:=pW (n:=p.1) (by omega) (by omega)
    have q4':=q4.out
    have nU:¬(9223372036854775807<q.2.length+1):=by omega
    have du:¬(9223372036854775807<q.2.length+1+(L_ p.1).length):=by omega
    replace q4':=aa q4'
    go_wp2_with fail
    refine KB.mono ?_
    rintro e w7 ⟨rfl,Vj⟩
    have EU:f_ (Φ w (.slice ar m.recs.length cr) (.slice ab m.back.length cb) B m L O P n (.slice al bM cl) w.heap.size (w.heap.size+1) gw (k+1) (.string (({data:=q.2.toArray}++{data:=#[32]})++{data:=(L_ p.1).toArray})) w7):=by
     refine ⟨⟨_,_,_,by rw [CP.out];exact F6.out.below Vj,Za.out⟩, ?_,(Vj.block gw Zu.out).trans PY.out⟩
     rw [CP.out]
     have e1:=vQ q.2 [32]
     have e2:=vQ (q.2++[32]) (L_ p.1)
     rw [List.append_assoc] at e2
     exact congrArg Value.string ((congrArg (fun y=>y++({data:=(L_ p.1).toArray}:ByteArray)) e1).trans e2)
    clear Vj F6 PY k0d k1d KB
    go_wp2_with fail
    go_roundw
    case rel=>exact ⟨k+1,by omega,by go_num,EU⟩
    case measure=>simp [intOf];omega
   ·have hd:decide (P<=q.1.clock - r.jy)=false:=decide_eq_false hP
    have CP:f_ (Qw P n m (k+1)=q):=by rw [f_,Up.out,if_neg hP]
    go_quiet (fail)
    have Fb:=aa (Fa.out.drewN nq)
    have Je:f_ ((wa.drewN nq).heap[gw]?=w.heap[gw]?):=Jf.out
    clear e0a e1a e2a e3a e4a e5a e6a e7a f0a f1a f2a f3a f4a f5a f6a f7a k0a k1a z3a Fa Jf hd hP M3
    generalize wa.drewN nq=wb at *
    have EU:f_ (Φ w (.slice ar m.recs.length cr) (.slice ab m.back.length cb) B m L O P n (.slice al bM cl) w.heap.size (w.heap.size+1) gw (k+1) (.string ⟨q.2.toArray⟩) wb):=⟨⟨_,_,_,by rw [CP.out];exact Fb.out,oK.out⟩,by rw [CP.out],Je.out⟩
    go_wp2_with fail
    go_roundw
    case rel=>exact ⟨k+1,by omega,by go_num,EU⟩
    case measure=>simp [intOf];omega
  ·have yK:k=m.wait.length:=by omega
   obtain ⟨⟨vr,vw,vb,F,oK⟩,TZ,bR⟩:=hR.out
   subst TZ
   subst yK
   rw [Sc] at F ⊢
   clear hR
   generalize mB P m n=q at *
   obtain ⟨LG,Lv,Qt⟩:=aE F.room.back
   subst Qt
   obtain ⟨gq,cq,YL,_,_⟩:=fV F.room.wait F.room.iQ
   subst YL
   obtain ⟨ar1,HZ,Qq⟩:=aE F.room.recs
   subst Qq
   obtain ⟨⟨e0,e1,e2,e3,e4,e5,e6,e7⟩,_⟩:=aG F.box
   obtain ⟨⟨x0,x1,x2,x3,x4,x5,x6,x7⟩,y0,y1,y2,y3,y4,y5,y6,y7⟩:=aG (show wr.heap[w.heap.size+1]?=some (jY #[.int .i64 0,.int .i64 0,.int .i64 0,.int .i64 0,.slice none 0 0,.slice none 0 0,.slice none 0 0,.slice none 0 0] 63 (0,0)) from F.res)
   have hF:=aa F
   clear F
   go_wp2_with fail
   change bodyPost p_ f86 _ .ret _ (Of.b8 _ (w.heap.size+1) (.int .i64 L) (.int .i64 O) (.int .i64 P) (.int .i64 q.1.clock) (.slice ar1 q.1.recs.length HZ) (.slice (some ⟨gq,0,none⟩) q.1.wait.length cq) (.slice LG q.1.back.length Lv) (.slice al bM cl))
   rw [EW.out];refine gO.ends hF.out ?_ ?_ ?_<;>rfl
theorem wL (w:J') (L O P:Int):d_ p_ 62 #[.agg #[.int .i64 L,.int .i64 O,.int .i64 P]] w fun e w'=>e=.returned (.bool (dw L O P))/\w'=w.alloc (.cells #[.int .i64 L,.int .i64 O,.int .i64 P] 28):=by
 have h0:(w.alloc (.cells #[.int .i64 L,.int .i64 O,.int .i64 P] 28)).cell? ⟨w.heap.size,0,none⟩=some (.int .i64 L):=bJ rfl
 have h1:(w.alloc (.cells #[.int .i64 L,.int .i64 O,.int .i64 P] 28)).cell? ⟨w.heap.size,1,none⟩=some (.int .i64 O):=bJ rfl
 have h2:(w.alloc (.cells #[.int .i64 L,.int .i64 O,.int .i64 P] 28)).cell? ⟨w.heap.size,2,none⟩=some (.int .i64 P):=bJ rfl
 have hV:dw L O P=(decide (1<=L)&&decide (L<=6)&&(decide (1<=O)&&decide (O<=4))&&(decide (1<=P)&&decide (P<=60))):=rfl
 by_cases aL:1<=L/\L<=6
 ·have cL:f_ (∀w,d_ p_ 52 #[.int .i64 L,.int .i64 1,.int .i64 6] w fun e w'=>e=.returned (.bool true)/\w'=w):=fun w=>by have h:=dx L 1 6 w;rw [decide_eq_true aL.1,decide_eq_true aL.2] at h;exact h
  have v1:(decide (1<=L)&&decide (L<=6))=true:=by rw [<-cM];exact decide_eq_true aL
  rw [v1] at hV
  clear v1 aL
  by_cases aO:1<=O/\O<=4
  ·have cO:f_ (∀w,d_ p_ 52 #[.int .i64 O,.int .i64 1,.int .i64 4] w fun e w'=>e=.returned (.bool true)/\w'=w):=fun w=>by have h:=dx O 1 4 w;rw [decide_eq_true aO.1,decide_eq_true aO.2] at h;exact h
   have v1:(decide (1<=O)&&decide (O<=4))=true:=by rw [<-cM];exact decide_eq_true aO
   rw [v1] at hV
   clear v1 aO
   by_cases aP:1<=P/\P<=60
   ·have cP:f_ (∀w,d_ p_ 52 #[.int .i64 P,.int .i64 1,.int .i64 60] w fun e w'=>e=.returned (.bool true)/\w'=w):=fun w=>by have h:=dx P 1 60 w;rw [decide_eq_true aP.1,decide_eq_true aP.2] at h;exact h
    have v1:(decide (1<=P)&&decide (P<=60))=true:=by rw [<-cM];exact decide_eq_true aP
    rw [v1] at hV
    clear v1 aP
    rw [hV]
    clear hV
    go_enter func62,ntmps62
    go_wp2_with (go_at_call 52;(with_reducible first|refine (cL.out _).mono ?_|refine (cO.out _).mono ?_|refine (cP.out _).mono ?_);rintro e w2 ⟨rfl,rfl⟩)
    all_goals go_ret
    all_goals exact ⟨by first|rfl|simp,rfl⟩
   ·have cP:f_ (∀w,d_ p_ 52 #[.int .i64 P,.int .i64 1,.int .i64 60] w fun e w'=>e=.returned (.bool false)/\w'=w):=fun w=>by have h:=dx P 1 60 w;rw [<-cM,decide_eq_false aP] at h;exact h
    have v1:(decide (1<=P)&&decide (P<=60))=false:=by rw [<-cM];exact decide_eq_false aP
    rw [v1] at hV
    clear v1 aP
    simp only [Bool.and_false,Bool.false_and] at hV
    rw [hV]
    clear hV
    go_enter func62,ntmps62
    go_wp2_with (go_at_call 52;(with_reducible first|refine (cL.out _).mono ?_|refine (cO.out _).mono ?_|refine (cP.out _).mono ?_);rintro e w2 ⟨rfl,rfl⟩)
    all_goals go_ret
    all_goals exact ⟨by first|rfl|simp,rfl⟩
  ·have cO:f_ (∀w,d_ p_ 52 #[.int .i64 O,.int .i64 1,.int .i64 4] w fun e w'=>e=.returned (.bool false)/\w'=w):=fun w=>by have h:=dx O 1 4 w;rw [<-cM,decide_eq_false aO] at h;exact h
   have v1:(decide (1<=O)&&decide (O<=4))=false:=by rw [<-cM];exact decide_eq_false aO
   rw [v1] at hV
   clear v1 aO
   simp only [Bool.and_false,Bool.false_and] at hV
   rw [hV]
   clear hV
   go_enter func62,ntmps62
   go_wp2_with (go_at_call 52;(with_reducible first|refine (cL.out _).mono ?_|refine (cO.out _).mono ?_);rintro e w2 ⟨rfl,rfl⟩)
   all_goals go_ret
   all_goals exact ⟨by first|rfl|simp,rfl⟩
 ·have cL:f_ (∀w,d_ p_ 52 #[.int .i64 L,.int .i64 1,.int .i64 6] w fun e w'=>e=.returned (.bool false)/\w'=w):=fun w=>by have h:=dx L 1 6 w;rw [<-cM,decide_eq_false aL] at h;exact h
  have v1:(decide (1<=L)&&decide (L<=6))=false:=by rw [<-cM];exact decide_eq_false aL
  rw [v1] at hV
  clear v1 aL
  simp only [Bool.and_false,Bool.false_and] at hV
  rw [hV]
  clear hV
  go_enter func62,ntmps62
  go_wp2_with (go_at_call 52;(with_reducible refine (cL.out _).mono ?_);rintro e w2 ⟨rfl,rfl⟩)
  all_goals go_ret
  all_goals exact ⟨by first|rfl|simp,rfl⟩
theorem yj (w:J') (r:Raw) (m:Int) (hm:1<=m/\m<=4):d_ p_ 63 #[r.val,.int .i64 m] w fun e w'=>e=.returned (.bool (bu r m))/\w'=w.alloc (.cells #[.string r.kind,.int .i64 r.who,.int .i64 r.word] 55):=by
 obtain ⟨k,who,word⟩:=r
 show d_ p_ 63 #[.agg #[.string k,.int .i64 who,.int .i64 word],.int .i64 m] w _
 have q1:(m<1)=False:=eq_false (by omega)
 have q2:(4<m)=False:=eq_false (by omega)
 have h0:(w.alloc (.cells #[.string k,.int .i64 who,.int .i64 word] 55)).cell? ⟨w.heap.size,0,none⟩=some (.string k):=bJ rfl
 have h1:(w.alloc (.cells #[.string k,.int .i64 who,.int .i64 word] 55)).cell? ⟨w.heap.size,1,none⟩=some (.int .i64 who):=bJ rfl
 have h2:(w.alloc (.cells #[.string k,.int .i64 who,.int .i64 word] 55)).cell? ⟨w.heap.size,2,none⟩=some (.int .i64 word):=bJ rfl
 by_cases tV:k=⟨#[114,105,110,103]⟩
 ·subst tV
  have hV:bu ⟨⟨#[114,105,110,103]⟩,who,word⟩ m=(decide (1<=who)&&decide (who<=99)&&(decide (0<=word)&&decide (word<=9))):=by
   simp only [bu,q1,q2,if_false]
   by_cases h:who<1
   ·simp [h];omega
   ·have h':1<=who:=by omega
    simp [h,h']
  by_cases a1:1<=who/\who<=99
  ·have c1:f_ (∀w,d_ p_ 52 #[.int .i64 who,.int .i64 1,.int .i64 99] w fun e w'=>e=.returned (.bool true)/\w'=w):=fun w=>by have h:=dx who 1 99 w;rw [decide_eq_true a1.1,decide_eq_true a1.2] at h;exact h
   have v1:(decide (1<=who)&&decide (who<=99))=true:=by rw [<-cM];exact decide_eq_true a1
   rw [v1] at hV
   clear v1 a1
   by_cases a2:0<=word/\word<=9
   ·have c2:f_ (∀w,d_ p_ 52 #[.int .i64 word,.int .i64 0,.int .i64 9] w fun e w'=>e=.returned (.bool true)/\w'=w):=fun w=>by have h:=dx word 0 9 w;rw [decide_eq_true a2.1,decide_eq_true a2.2] at h;exact h
    have v2:(decide (0<=word)&&decide (word<=9))=true:=by rw [<-cM];exact decide_eq_true a2
    rw [v2] at hV
    clear v2 a2
    rw [hV]
    clear hV
    go_enter func63,ntmps63
    go_wp2_with (go_at_call 52;(with_reducible first|refine (c1.out _).mono ?_|refine (c2.out _).mono ?_);rintro e w2 ⟨rfl,rfl⟩)
    all_goals go_ret
    all_goals exact ⟨by first|rfl|simp,rfl⟩
   ·have c2:f_ (∀w,d_ p_ 52 #[.int .i64 word,.int .i64 0,.int .i64 9] w fun e w'=>e=.returned (.bool false)/\w'=w):=fun w=>by have h:=dx word 0 9 w;rw [<-cM,decide_eq_false a2] at h;exact h
    have v2:(decide (0<=word)&&decide (word<=9))=false:=by rw [<-cM];exact decide_eq_false a2
    rw [v2] at hV
    clear v2 a2
    rw [hV]
    clear hV
    go_enter func63,ntmps63
    go_wp2_with (go_at_call 52;(with_reducible first|refine (c1.out _).mono ?_|refine (c2.out _).mono ?_);rintro e w2 ⟨rfl,rfl⟩)
    all_goals go_ret
    all_goals exact ⟨by first|rfl|simp,rfl⟩
  ·have c1:f_ (∀w,d_ p_ 52 #[.int .i64 who,.int .i64 1,.int .i64 99] w fun e w'=>e=.returned (.bool false)/\w'=w):=fun w=>by have h:=dx who 1 99 w;rw [<-cM,decide_eq_false a1] at h;exact h
   have v1:(decide (1<=who)&&decide (who<=99))=false:=by rw [<-cM];exact decide_eq_false a1
   rw [v1,Bool.false_and] at hV
   clear v1 a1
   rw [hV]
   clear hV
   go_enter func63,ntmps63
   go_wp2_with (go_at_call 52;(with_reducible refine (c1.out _).mono ?_);rintro e w2 ⟨rfl,rfl⟩)
   all_goals go_ret
   all_goals exact ⟨by first|rfl|simp,rfl⟩
 by_cases tW:k=⟨#[104,97,110,103]⟩
 ·subst tW
  have hV:bu ⟨⟨#[104,97,110,103]⟩,who,word⟩ m=(decide (1<=who)&&decide (who<=99)&&(word==0)):=by
   simp only [bu,q1,q2,if_false]
   by_cases h:who<1
   ·simp [h];omega
   ·have h':1<=who:=by omega
    simp [h,h']
  by_cases a1:1<=who/\who<=99
  ·have c1:f_ (∀w,d_ p_ 52 #[.int .i64 who,.int .i64 1,.int .i64 99] w fun e w'=>e=.returned (.bool true)/\w'=w):=fun w=>by have h:=dx who 1 99 w;rw [decide_eq_true a1.1,decide_eq_true a1.2] at h;exact h
   have v1:(decide (1<=who)&&decide (who<=99))=true:=by rw [<-cM];exact decide_eq_true a1
   rw [v1] at hV
   clear v1 a1
   rw [hV]
   clear hV
   go_enter func63,ntmps63
   go_wp2_with (go_at_call 52;(with_reducible refine (c1.out _).mono ?_);rintro e w2 ⟨rfl,rfl⟩)
   all_goals go_ret
   all_goals exact ⟨by first|rfl|simp,rfl⟩
  ·have c1:f_ (∀w,d_ p_ 52 #[.int .i64 who,.int .i64 1,.int .i64 99] w fun e w'=>e=.returned (.bool false)/\w'=w):=fun w=>by have h:=dx who 1 99 w;rw [<-cM,decide_eq_false a1] at h;exact h
   have v1:(decide (1<=who)&&decide (who<=99))=false:=by rw [<-cM];exact decide_eq_false a1
   rw [v1,Bool.false_and] at hV
   clear v1 a1
   rw [hV]
   clear hV
   go_enter func63,ntmps63
   go_wp2_with (go_at_call 52;(with_reducible refine (c1.out _).mono ?_);rintro e w2 ⟨rfl,rfl⟩)
   all_goals go_ret
   all_goals exact ⟨by first|rfl|simp,rfl⟩
 by_cases mM:k=⟨#[97,110,115,119,101,114]⟩
 ·subst mM
  have hV:bu ⟨⟨#[97,110,115,119,101,114]⟩,who,word⟩ m=(decide (1<=who)&&decide (who<=m)&&(word==0)):=by
   simp only [bu,q1,q2,if_false]
   by_cases h:who<1
   ·simp [h];omega
   ·have h':1<=who:=by omega
    simp [h,h']
  by_cases a1:1<=who/\who<=m
  ·have c1:f_ (∀w,d_ p_ 52 #[.int .i64 who,.int .i64 1,.int .i64 m] w fun e w'=>e=.returned (.bool true)/\w'=w):=fun w=>by have h:=dx who 1 m w;rw [decide_eq_true a1.1,decide_eq_true a1.2] at h;exact h
   have v1:(decide (1<=who)&&decide (who<=m))=true:=by rw [<-cM];exact decide_eq_true a1
   rw [v1] at hV
   clear v1 a1
   rw [hV]
   clear hV
   go_enter func63,ntmps63
   go_wp2_with (go_at_call 52;(with_reducible refine (c1.out _).mono ?_);rintro e w2 ⟨rfl,rfl⟩)
   all_goals go_ret
   all_goals exact ⟨by first|rfl|simp,rfl⟩
  ·have c1:f_ (∀w,d_ p_ 52 #[.int .i64 who,.int .i64 1,.int .i64 m] w fun e w'=>e=.returned (.bool false)/\w'=w):=fun w=>by have h:=dx who 1 m w;rw [<-cM,decide_eq_false a1] at h;exact h
   have v1:(decide (1<=who)&&decide (who<=m))=false:=by rw [<-cM];exact decide_eq_false a1
   rw [v1,Bool.false_and] at hV
   clear v1 a1
   rw [hV]
   clear hV
   go_enter func63,ntmps63
   go_wp2_with (go_at_call 52;(with_reducible refine (c1.out _).mono ?_);rintro e w2 ⟨rfl,rfl⟩)
   all_goals go_ret
   all_goals exact ⟨by first|rfl|simp,rfl⟩
 by_cases mL:k=⟨#[114,101,116,117,114,110]⟩
 ·subst mL
  have hV:bu ⟨⟨#[114,101,116,117,114,110]⟩,who,word⟩ m=(decide (1<=who)&&decide (who<=m)&&(word==0)):=by
   simp only [bu,q1,q2,if_false]
   by_cases h:who<1
   ·simp [h];omega
   ·have h':1<=who:=by omega
    simp [h,h']
  by_cases a1:1<=who/\who<=m
  ·have c1:f_ (∀w,d_ p_ 52 #[.int .i64 who,.int .i64 1,.int .i64 m] w fun e w'=>e=.returned (.bool true)/\w'=w):=fun w=>by have h:=dx who 1 m w;rw [decide_eq_true a1.1,decide_eq_true a1.2] at h;exact h
   have v1:(decide (1<=who)&&decide (who<=m))=true:=by rw [<-cM];exact decide_eq_true a1
   rw [v1] at hV
   clear v1 a1
   rw [hV]
   clear hV
   go_enter func63,ntmps63
   go_wp2_with (go_at_call 52;(with_reducible refine (c1.out _).mono ?_);rintro e w2 ⟨rfl,rfl⟩)
   all_goals go_ret
   all_goals exact ⟨by first|rfl|simp,rfl⟩
  ·have c1:f_ (∀w,d_ p_ 52 #[.int .i64 who,.int .i64 1,.int .i64 m] w fun e w'=>e=.returned (.bool false)/\w'=w):=fun w=>by have h:=dx who 1 m w;rw [<-cM,decide_eq_false a1] at h;exact h
   have v1:(decide (1<=who)&&decide (who<=m))=false:=by rw [<-cM];exact decide_eq_false a1
   rw [v1,Bool.false_and] at hV
   clear v1 a1
   rw [hV]
   clear hV
   go_enter func63,ntmps63
   go_wp2_with (go_at_call 52;(with_reducible refine (c1.out _).mono ?_);rintro e w2 ⟨rfl,rfl⟩)
   all_goals go_ret
   all_goals exact ⟨by first|rfl|simp,rfl⟩
 by_cases tU:k=⟨#[119,97,105,116]⟩
 ·subst tU
  have hV:bu ⟨⟨#[119,97,105,116]⟩,who,word⟩ m=(decide (1<=who)&&decide (who<=60)&&(word==0)):=by
   simp only [bu,q1,q2,if_false]
   by_cases h:who<1
   ·simp [h];omega
   ·have h':1<=who:=by omega
    simp [h,h']
  by_cases a1:1<=who/\who<=60
  ·have c1:f_ (∀w,d_ p_ 52 #[.int .i64 who,.int .i64 1,.int .i64 60] w fun e w'=>e=.returned (.bool true)/\w'=w):=fun w=>by have h:=dx who 1 60 w;rw [decide_eq_true a1.1,decide_eq_true a1.2] at h;exact h
   have v1:(decide (1<=who)&&decide (who<=60))=true:=by rw [<-cM];exact decide_eq_true a1
   rw [v1] at hV
   clear v1 a1
   rw [hV]
   clear hV
   go_enter func63,ntmps63
   go_wp2_with (go_at_call 52;(with_reducible refine (c1.out _).mono ?_);rintro e w2 ⟨rfl,rfl⟩)
   all_goals go_ret
   all_goals exact ⟨by first|rfl|simp,rfl⟩
  ·have c1:f_ (∀w,d_ p_ 52 #[.int .i64 who,.int .i64 1,.int .i64 60] w fun e w'=>e=.returned (.bool false)/\w'=w):=fun w=>by have h:=dx who 1 60 w;rw [<-cM,decide_eq_false a1] at h;exact h
   have v1:(decide (1<=who)&&decide (who<=60))=false:=by rw [<-cM];exact decide_eq_false a1
   rw [v1,Bool.false_and] at hV
   clear v1 a1
   rw [hV]
   clear hV
   go_enter func63,ntmps63
   go_wp2_with (go_at_call 52;(with_reducible refine (c1.out _).mono ?_);rintro e w2 ⟨rfl,rfl⟩)
   all_goals go_ret
   all_goals exact ⟨by first|rfl|simp,rfl⟩
 have Qj:(k.toList==[114,105,110,103])=false:=by rw [<-(show (⟨#[114,105,110,103]⟩:ByteArray).toList=[114,105,110,103] from ByteArray.toList_eq ⟨#[114,105,110,103]⟩)];exact (Lib.bytes_beq_false_iff k ⟨#[114,105,110,103]⟩).2 tV
 have Qk:(k.toList==[104,97,110,103])=false:=by rw [<-(show (⟨#[104,97,110,103]⟩:ByteArray).toList=[104,97,110,103] from ByteArray.toList_eq ⟨#[104,97,110,103]⟩)];exact (Lib.bytes_beq_false_iff k ⟨#[104,97,110,103]⟩).2 tW
 have JW:(k.toList==[97,110,115,119,101,114])=false:=by rw [<-(show (⟨#[97,110,115,119,101,114]⟩:ByteArray).toList=[97,110,115,119,101,114] from ByteArray.toList_eq ⟨#[97,110,115,119,101,114]⟩)];exact (Lib.bytes_beq_false_iff k ⟨#[97,110,115,119,101,114]⟩).2 mM
 have JV:(k.toList==[114,101,116,117,114,110])=false:=by rw [<-(show (⟨#[114,101,116,117,114,110]⟩:ByteArray).toList=[114,101,116,117,114,110] from ByteArray.toList_eq ⟨#[114,101,116,117,114,110]⟩)];exact (Lib.bytes_beq_false_iff k ⟨#[114,101,116,117,114,110]⟩).2 mL
 have Qi:(k.toList==[119,97,105,116])=false:=by rw [<-(show (⟨#[119,97,105,116]⟩:ByteArray).toList=[119,97,105,116] from ByteArray.toList_eq ⟨#[119,97,105,116]⟩)];exact (Lib.bytes_beq_false_iff k ⟨#[119,97,105,116]⟩).2 tU
 have hV:bu ⟨k,who,word⟩ m=false:=by simp [bu,tV,tW,mM,mL,tU]
 rw [hV]
 go_enter func63,ntmps63
 go_wp2_with fail
 all_goals go_ret
 all_goals exact ⟨rfl,rfl⟩
variable {nl:Nat}
theorem GZ {vw:M'} (R:bA B m vr vw vb w) (mP:∃a n c,vl=.slice a n c) (c pt:Int) {q:Rm × Bs} (hc:∀w',bA B m vr vw vb w'->d_ p_ 82 #[jD (nl:Nat) O P m.clock vr vw vb vl,.agg #[.int .i64 c,.int .i64 pt]] w' (Done w' vr vb B q.1 (nl:Nat) O P vl q.2)):
 d_ p_ 64 #[jD (nl:Nat) O P m.clock vr vw vb vl,.agg #[.string ⟨#[114,105,110,103]⟩,.int .i64 c,.int .i64 pt]] w (Done w vr vb B q.1 (nl:Nat) O P vl q.2):=by
 obtain ⟨al,bM,cl,rfl⟩:=mP
 obtain ⟨ab,cb,oK⟩:=aE R.back
 subst oK
 obtain ⟨ar,cr,ql⟩:=aE R.recs
 subst ql
 obtain ⟨gw,cw,qG,KC,yN⟩:=fV R.wait R.iQ
 subst qG
 obtain ⟨w1,cf⟩:∃w1,((w.alloc (.cells (gi (nl:Nat) O P m.clock (.slice ar m.recs.length cr) (.slice (some ⟨gw,0,none⟩) m.wait.length cw) (.slice ab m.back.length cb) (.slice al bM cl)) 63)).alloc (.cells #[.string ⟨#[114,105,110,103]⟩,.int .i64 c,.int .i64 pt] 55)).alloc (.cells ia 63)=w1:=⟨_,rfl⟩
 have lr:f_ (w1.heap.size=w.heap.size+3):=by rw [f_,<-cf,B_,B_,B_]
 have eo:g_ w.heap.size w w1:=by rw [<-cf];exact (((h_ _ _).alloc (C_ _) _).alloc (by rw [B_];omega) _).alloc (by rw [B_,B_];omega) _
 have jx:w1.heap[w.heap.size]?=some (.cells (gi (nl:Nat) O P m.clock (.slice ar m.recs.length cr) (.slice (some ⟨gw,0,none⟩) m.wait.length cw) (.slice ab m.back.length cb) (.slice al bM cl)) 63 (0,0)):=by rw [<-cf];exact br (br (Z' w _))
 have oG:w1.heap[w.heap.size+1]?=some (.cells #[.string ⟨#[114,105,110,103]⟩,.int .i64 c,.int .i64 pt] 55 (0,0)):=by
  have:=Z' (w.alloc (.cells (gi (nl:Nat) O P m.clock (.slice ar m.recs.length cr) (.slice (some ⟨gw,0,none⟩) m.wait.length cw) (.slice ab m.back.length cb) (.slice al bM cl)) 63)) (.cells #[.string ⟨#[114,105,110,103]⟩,.int .i64 c,.int .i64 pt] 55)
  rw [B_] at this
  rw [<-cf];exact br this
 have sH:f_ (w1.heap[w.heap.size+1+1]?=some (.cells ia 63 (0,0))):=by
  have:=Z' ((w.alloc (.cells (gi (nl:Nat) O P m.clock (.slice ar m.recs.length cr) (.slice (some ⟨gw,0,none⟩) m.wait.length cw) (.slice ab m.back.length cb) (.slice al bM cl)) 63)).alloc (.cells #[.string ⟨#[114,105,110,103]⟩,.int .i64 c,.int .i64 pt] 55)) (.cells ia 63)
  rw [B_,B_,cf] at this
  exact this
 obtain ⟨⟨a0,a1,a2,a3,a4,a5,a6,a7⟩,_⟩:=aG jx
 have g0:w1.cell? ⟨w.heap.size+1,0,none⟩=some (.string ⟨#[114,105,110,103]⟩):=cV oG
 have g1:w1.cell? ⟨w.heap.size+1,1,none⟩=some (.int .i64 c):=cV oG
 have g2:w1.cell? ⟨w.heap.size+1,2,none⟩=some (.int .i64 pt):=cV oG
 have hcc:f_ (d_ p_ 82 #[.agg #[.int .i64 (nl:Nat),.int .i64 O,.int .i64 P,.int .i64 m.clock,.slice ar m.recs.length cr,.slice (some ⟨gw,0,none⟩) m.wait.length cw,.slice ab m.back.length cb,.slice al bM cl],.agg #[.int .i64 c,.int .i64 pt]] w1 (Done w1 (.slice ar m.recs.length cr) (.slice ab m.back.length cb) B q.1 (nl:Nat) O P (.slice al bM cl) q.2)):=hc w1 (R.below eo)
 have fz:=aa R.nN
 have uf:=aa eo
 clear R eo jx oG hc
 unfold gi ia at cf
 unfold jD
 go_enter func64,ntmps64
 go_wp2_with (go_at_call 82;(with_reducible refine hcc.out.mono ?_);rintro e w2 ⟨LU,N3,N4,rfl,R2,nj,NL,po⟩;obtain ⟨W7,WZ,AR⟩:=aE R2.recs;subst AR;obtain ⟨ID,IC,rn⟩:=aE R2.wait;subst rn;obtain ⟨W8,W4,AU⟩:=aE R2.back;subst AU;have uI:=aa ((nj.block _ (by rw [lr.out];omega) (fun e=>by have:=fz.out.1 _ e;omega) (fun e=>by have:=fz.out.2.2 _ e;omega)).trans sH.out);obtain ⟨⟨p0,p1,p2,p3,p4,p5,p6,p7⟩,s0,s1,s2,s3,s4,s5,s6,s7⟩:=aG (show w2.heap[w.heap.size+1+1]?=some (jY #[.int .i64 0,.int .i64 0,.int .i64 0,.int .i64 0,.slice none 0 0,.slice none 0 0,.slice none 0 0,.slice none 0 0] 63 (0,0)) from uI.out);have DD:=aa R2;have tY:=aa nj;have NL:=aa NL;have po:=aa po;unfold jD;clear R2 nj a0 a1 a2 a3 a4 a5 a6 a7 g0 g1 g2 cf)
 change bodyPost p_ f64 _ .ret _ (Of.b8 _ (w.heap.size+1+1) (.int .i64 (nl:Nat)) (.int .i64 O) (.int .i64 P) (.int .i64 q.1.clock) _ _ _ (.slice al bM cl))
 refine zB DD.out ((bg.bW uf.out).trans tY.out) (fun g hg e=>NL.out g (by rw [lr.out];omega) e) (fun g hg e=>po.out g (by rw [lr.out];omega) e) uI.out (by omega) ?_ ?_ ?_<;>rfl
theorem B5 {vw:M'} (R:bA B m vr vw vb w) (mP:∃a n c,vl=.slice a n c) (c:Int) {q:Rm × Bs} (hc:∀w',bA B m vr vw vb w'->d_ p_ 83 #[jD (nl:Nat) O P m.clock vr vw vb vl,.int .i64 c] w' (Done w' vr vb B q.1 (nl:Nat) O P vl q.2)):
 d_ p_ 64 #[jD (nl:Nat) O P m.clock vr vw vb vl,.agg #[.string ⟨#[97,110,115,119,101,114]⟩,.int .i64 c,.int .i64 0]] w (Done w vr vb B q.1 (nl:Nat) O P vl q.2):=by
 obtain ⟨al,bM,cl,rfl⟩:=mP
 obtain ⟨ab,cb,oK⟩:=aE R.back
 subst oK
 obtain ⟨ar,cr,ql⟩:=aE R.recs
 subst ql
 obtain ⟨gw,cw,qG,KC,yN⟩:=fV R.wait R.iQ
 subst qG
 obtain ⟨w1,cf⟩:∃w1,((w.alloc (.cells (gi (nl:Nat) O P m.clock (.slice ar m.recs.length cr) (.slice (some ⟨gw,0,none⟩) m.wait.length cw) (.slice ab m.back.length cb) (.slice al bM cl)) 63)).alloc (.cells #[.string ⟨#[97,110,115,119,101,114]⟩,.int .i64 c,.int .i64 0] 55)).alloc (.cells ia 63)=w1:=⟨_,rfl⟩
 have lr:f_ (w1.heap.size=w.heap.size+3):=by rw [f_,<-cf,B_,B_,B_]
 have eo:g_ w.heap.size w w1:=by rw [<-cf];exact (((h_ _ _).alloc (C_ _) _).alloc (by rw [B_];omega) _).alloc (by rw [B_,B_];omega) _
 have jx:w1.heap[w.heap.size]?=some (.cells (gi (nl:Nat) O P m.clock (.slice ar m.recs.length cr) (.slice (some ⟨gw,0,none⟩) m.wait.length cw) (.slice ab m.back.length cb) (.slice al bM cl)) 63 (0,0)):=by rw [<-cf];exact br (br (Z' w _))
 have oG:w1.heap[w.heap.size+1]?=some (.cells #[.string ⟨#[97,110,115,119,101,114]⟩,.int .i64 c,.int .i64 0] 55 (0,0)):=by
  have:=Z' (w.alloc (.cells (gi (nl:Nat) O P m.clock (.slice ar m.recs.length cr) (.slice (some ⟨gw,0,none⟩) m.wait.length cw) (.slice ab m.back.length cb) (.slice al bM cl)) 63)) (.cells #[.string ⟨#[97,110,115,119,101,114]⟩,.int .i64 c,.int .i64 0] 55)
  rw [B_] at this
  rw [<-cf];exact br this
 have sH:f_ (w1.heap[w.heap.size+1+1]?=some (.cells ia 63 (0,0))):=by
  have:=Z' ((w.alloc (.cells (gi (nl:Nat) O P m.clock (.slice ar m.recs.length cr) (.slice (some ⟨gw,0,none⟩) m.wait.length cw) (.slice ab m.back.length cb) (.slice al bM cl)) 63)).alloc (.cells #[.string ⟨#[97,110,115,119,101,114]⟩,.int .i64 c,.int .i64 0] 55)) (.cells ia 63)
  rw [B_,B_,cf] at this
  exact this
 obtain ⟨⟨a0,a1,a2,a3,a4,a5,a6,a7⟩,_⟩:=aG jx
 have g0:w1.cell? ⟨w.heap.size+1,0,none⟩=some (.string ⟨#[97,110,115,119,101,114]⟩):=cV oG
 have g1:w1.cell? ⟨w.heap.size+1,1,none⟩=some (.int .i64 c):=cV oG
 have g2:w1.cell? ⟨w.heap.size+1,2,none⟩=some (.int .i64 0):=cV oG
 have hcc:f_ (d_ p_ 83 #[.agg #[.int .i64 (nl:Nat),.int .i64 O,.int .i64 P,.int .i64 m.clock,.slice ar m.recs.length cr,.slice (some ⟨gw,0,none⟩) m.wait.length cw,.slice ab m.back.length cb,.slice al bM cl],.int .i64 c] w1 (Done w1 (.slice ar m.recs.length cr) (.slice ab m.back.length cb) B q.1 (nl:Nat) O P (.slice al bM cl) q.2)):=hc w1 (R.below eo)
 have fz:=aa R.nN
 have uf:=aa eo
 clear R eo jx oG hc
 unfold gi ia at cf
 unfold jD
 go_enter func64,ntmps64
 go_wp2_with (go_at_call 83;(with_reducible refine hcc.out.mono ?_);rintro e w2 ⟨LU,N3,N4,rfl,R2,nj,NL,po⟩;obtain ⟨W7,WZ,AR⟩:=aE R2.recs;subst AR;obtain ⟨ID,IC,rn⟩:=aE R2.wait;subst rn;obtain ⟨W8,W4,AU⟩:=aE R2.back;subst AU;have uI:=aa ((nj.block _ (by rw [lr.out];omega) (fun e=>by have:=fz.out.1 _ e;omega) (fun e=>by have:=fz.out.2.2 _ e;omega)).trans sH.out);obtain ⟨⟨p0,p1,p2,p3,p4,p5,p6,p7⟩,s0,s1,s2,s3,s4,s5,s6,s7⟩:=aG (show w2.heap[w.heap.size+1+1]?=some (jY #[.int .i64 0,.int .i64 0,.int .i64 0,.int .i64 0,.slice none 0 0,.slice none 0 0,.slice none 0 0,.slice none 0 0] 63 (0,0)) from uI.out);have DD:=aa R2;have tY:=aa nj;have NL:=aa NL;have po:=aa po;unfold jD;clear R2 nj a0 a1 a2 a3 a4 a5 a6 a7 g0 g1 g2 cf)
 change bodyPost p_ f64 _ .ret _ (Of.b8 _ (w.heap.size+1+1) (.int .i64 (nl:Nat)) (.int .i64 O) (.int .i64 P) (.int .i64 q.1.clock) _ _ _ (.slice al bM cl))
 refine zB DD.out ((bg.bW uf.out).trans tY.out) (fun g hg e=>NL.out g (by rw [lr.out];omega) e) (fun g hg e=>po.out g (by rw [lr.out];omega) e) uI.out (by omega) ?_ ?_ ?_<;>rfl
theorem G2 {vw:M'} (R:bA B m vr vw vb w) (mP:∃a n c,vl=.slice a n c) (c:Int) {q:Rm × Bs} (hc:∀w',bA B m vr vw vb w'->d_ p_ 84 #[jD (nl:Nat) O P m.clock vr vw vb vl,.int .i64 c] w' (Done w' vr vb B q.1 (nl:Nat) O P vl q.2)):
 d_ p_ 64 #[jD (nl:Nat) O P m.clock vr vw vb vl,.agg #[.string ⟨#[114,101,116,117,114,110]⟩,.int .i64 c,.int .i64 0]] w (Done w vr vb B q.1 (nl:Nat) O P vl q.2):=by
 obtain ⟨al,bM,cl,rfl⟩:=mP
 obtain ⟨ab,cb,oK⟩:=aE R.back
 subst oK
 obtain ⟨ar,cr,ql⟩:=aE R.recs
 subst ql
 obtain ⟨gw,cw,qG,KC,yN⟩:=fV R.wait R.iQ
 subst qG
 obtain ⟨w1,cf⟩:∃w1,((w.alloc (.cells (gi (nl:Nat) O P m.clock (.slice ar m.recs.length cr) (.slice (some ⟨gw,0,none⟩) m.wait.length cw) (.slice ab m.back.length cb) (.slice al bM cl)) 63)).alloc (.cells #[.string ⟨#[114,101,116,117,114,110]⟩,.int .i64 c,.int .i64 0] 55)).alloc (.cells ia 63)=w1:=⟨_,rfl⟩
 have lr:f_ (w1.heap.size=w.heap.size+3):=by rw [f_,<-cf,B_,B_,B_]
 have eo:g_ w.heap.size w w1:=by rw [<-cf];exact (((h_ _ _).alloc (C_ _) _).alloc (by rw [B_];omega) _).alloc (by rw [B_,B_];omega) _
 have jx:w1.heap[w.heap.size]?=some (.cells (gi (nl:Nat) O P m.clock (.slice ar m.recs.length cr) (.slice (some ⟨gw,0,none⟩) m.wait.length cw) (.slice ab m.back.length cb) (.slice al bM cl)) 63 (0,0)):=by rw [<-cf];exact br (br (Z' w _))
 have oG:w1.heap[w.heap.size+1]?=some (.cells #[.string ⟨#[114,101,116,117,114,110]⟩,.int .i64 c,.int .i64 0] 55 (0,0)):=by
  have:=Z' (w.alloc (.cells (gi (nl:Nat) O P m.clock (.slice ar m.recs.length cr) (.slice (some ⟨gw,0,none⟩) m.wait.length cw) (.slice ab m.back.length cb) (.slice al bM cl)) 63)) (.cells #[.string ⟨#[114,101,116,117,114,110]⟩,.int .i64 c,.int .i64 0] 55)
  rw [B_] at this
  rw [<-cf];exact br this
 have sH:f_ (w1.heap[w.heap.size+1+1]?=some (.cells ia 63 (0,0))):=by
  have:=Z' ((w.alloc (.cells (gi (nl:Nat) O P m.clock (.slice ar m.recs.length cr) (.slice (some ⟨gw,0,none⟩) m.wait.length cw) (.slice ab m.back.length cb) (.slice al bM cl)) 63)).alloc (.cells #[.string ⟨#[114,101,116,117,114,110]⟩,.int .i64 c,.int .i64 0] 55)) (.cells ia 63)
  rw [B_,B_,cf] at this
  exact this
 obtain ⟨⟨a0,a1,a2,a3,a4,a5,a6,a7⟩,_⟩:=aG jx
 have g0:w1.cell? ⟨w.heap.size+1,0,none⟩=some (.string ⟨#[114,101,116,117,114,110]⟩):=cV oG
 have g1:w1.cell? ⟨w.heap.size+1,1,none⟩=some (.int .i64 c):=cV oG
 have g2:w1.cell? ⟨w.heap.size+1,2,none⟩=some (.int .i64 0):=cV oG
 have hcc:f_ (d_ p_ 84 #[.agg #[.int .i64 (nl:Nat),.int .i64 O,.int .i64 P,.int .i64 m.clock,.slice ar m.recs.length cr,.slice (some ⟨gw,0,none⟩) m.wait.length cw,.slice ab m.back.length cb,.slice al bM cl],.int .i64 c] w1 (Done w1 (.slice ar m.recs.length cr) (.slice ab m.back.length cb) B q.1 (nl:Nat) O P (.slice al bM cl) q.2)):=hc w1 (R.below eo)
 have fz:=aa R.nN
 have uf:=aa eo
 clear R eo jx oG hc
 unfold gi ia at cf
 unfold jD
 go_enter func64,ntmps64
 go_wp2_with (go_at_call 84;(with_reducible refine hcc.out.mono ?_);rintro e w2 ⟨LU,N3,N4,rfl,R2,nj,NL,po⟩;obtain ⟨W7,WZ,AR⟩:=aE R2.recs;subst AR;obtain ⟨ID,IC,rn⟩:=aE R2.wait;subst rn;obtain ⟨W8,W4,AU⟩:=aE R2.back;subst AU;have uI:=aa ((nj.block _ (by rw [lr.out];omega) (fun e=>by have:=fz.out.1 _ e;omega) (fun e=>by have:=fz.out.2.2 _ e;omega)).trans sH.out);obtain ⟨⟨p0,p1,p2,p3,p4,p5,p6,p7⟩,s0,s1,s2,s3,s4,s5,s6,s7⟩:=aG (show w2.heap[w.heap.size+1+1]?=some (jY #[.int .i64 0,.int .i64 0,.int .i64 0,.int .i64 0,.slice none 0 0,.slice none 0 0,.slice none 0 0,.slice none 0 0] 63 (0,0)) from uI.out);have DD:=aa R2;have tY:=aa nj;have NL:=aa NL;have po:=aa po;unfold jD;clear R2 nj a0 a1 a2 a3 a4 a5 a6 a7 g0 g1 g2 cf)
 change bodyPost p_ f64 _ .ret _ (Of.b8 _ (w.heap.size+1+1) (.int .i64 (nl:Nat)) (.int .i64 O) (.int .i64 P) (.int .i64 q.1.clock) _ _ _ (.slice al bM cl))
 refine zB DD.out ((bg.bW uf.out).trans tY.out) (fun g hg e=>NL.out g (by rw [lr.out];omega) e) (fun g hg e=>po.out g (by rw [lr.out];omega) e) uI.out (by omega) ?_ ?_ ?_<;>rfl
theorem G0 {vw:M'} (R:bA B m vr vw vb w) (mP:∃a n c,vl=.slice a n c) (c:Int) {q:Rm × Bs} (hc:∀w',bA B m vr vw vb w'->d_ p_ 85 #[jD (nl:Nat) O P m.clock vr vw vb vl,.int .i64 c] w' (Done w' vr vb B q.1 (nl:Nat) O P vl q.2)):
 d_ p_ 64 #[jD (nl:Nat) O P m.clock vr vw vb vl,.agg #[.string ⟨#[104,97,110,103]⟩,.int .i64 c,.int .i64 0]] w (Done w vr vb B q.1 (nl:Nat) O P vl q.2):=by
 obtain ⟨al,bM,cl,rfl⟩:=mP
 obtain ⟨ab,cb,oK⟩:=aE R.back
 subst oK
 obtain ⟨ar,cr,ql⟩:=aE R.recs
 subst ql
 obtain ⟨gw,cw,qG,KC,yN⟩:=fV R.wait R.iQ
 subst qG
 obtain ⟨w1,cf⟩:∃w1,((w.alloc (.cells (gi (nl:Nat) O P m.clock (.slice ar m.recs.length cr) (.slice (some ⟨gw,0,none⟩) m.wait.length cw) (.slice ab m.back.length cb) (.slice al bM cl)) 63)).alloc (.cells #[.string ⟨#[104,97,110,103]⟩,.int .i64 c,.int .i64 0] 55)).alloc (.cells ia 63)=w1:=⟨_,rfl⟩
 have lr:f_ (w1.heap.size=w.heap.size+3):=by rw [f_,<-cf,B_,B_,B_]
 have eo:g_ w.heap.size w w1:=by rw [<-cf];exact (((h_ _ _).alloc (C_ _) _).alloc (by rw [B_];omega) _).alloc (by rw [B_,B_];omega) _
 have jx:w1.heap[w.heap.size]?=some (.cells (gi (nl:Nat) O P m.clock (.slice ar m.recs.length cr) (.slice (some ⟨gw,0,none⟩) m.wait.length cw) (.slice ab m.back.length cb) (.slice al bM cl)) 63 (0,0)):=by rw [<-cf];exact br (br (Z' w _))
 have oG:w1.heap[w.heap.size+1]?=some (.cells #[.string ⟨#[104,97,110,103]⟩,.int .i64 c,.int .i64 0] 55 (0,0)):=by
  have:=Z' (w.alloc (.cells (gi (nl:Nat) O P m.clock (.slice ar m.recs.length cr) (.slice (some ⟨gw,0,none⟩) m.wait.length cw) (.slice ab m.back.length cb) (.slice al bM cl)) 63)) (.cells #[.string ⟨#[104,97,110,103]⟩,.int .i64 c,.int .i64 0] 55)
  rw [B_] at this
  rw [<-cf];exact br this
 have sH:f_ (w1.heap[w.heap.size+1+1]?=some (.cells ia 63 (0,0))):=by
  have:=Z' ((w.alloc (.cells (gi (nl:Nat) O P m.clock (.slice ar m.recs.length cr) (.slice (some ⟨gw,0,none⟩) m.wait.length cw) (.slice ab m.back.length cb) (.slice al bM cl)) 63)).alloc (.cells #[.string ⟨#[104,97,110,103]⟩,.int .i64 c,.int .i64 0] 55)) (.cells ia 63)
  rw [B_,B_,cf] at this
  exact this
 obtain ⟨⟨a0,a1,a2,a3,a4,a5,a6,a7⟩,_⟩:=aG jx
 have g0:w1.cell? ⟨w.heap.size+1,0,none⟩=some (.string ⟨#[104,97,110,103]⟩):=cV oG
 have g1:w1.cell? ⟨w.heap.size+1,1,none⟩=some (.int .i64 c):=cV oG
 have g2:w1.cell? ⟨w.heap.size+1,2,none⟩=some (.int .i64 0):=cV oG
 have hcc:f_ (d_ p_ 85 #[.agg #[.int .i64 (nl:Nat),.int .i64 O,.int .i64 P,.int .i64 m.clock,.slice ar m.recs.length cr,.slice (some ⟨gw,0,none⟩) m.wait.length cw,.slice ab m.back.length cb,.slice al bM cl],.int .i64 c] w1 (Done w1 (.slice ar m.recs.length cr) (.slice ab m.back.length cb) B q.1 (nl:Nat) O P (.slice al bM cl) q.2)):=hc w1 (R.below eo)
 have fz:=aa R.nN
 have uf:=aa eo
 clear R eo jx oG hc
 unfold gi ia at cf
 unfold jD
 go_enter func64,ntmps64
 go_wp2_with (go_at_call 85;(with_reducible refine hcc.out.mono ?_);rintro e w2 ⟨LU,N3,N4,rfl,R2,nj,NL,po⟩;obtain ⟨W7,WZ,AR⟩:=aE R2.recs;subst AR;obtain ⟨ID,IC,rn⟩:=aE R2.wait;subst rn;obtain ⟨W8,W4,AU⟩:=aE R2.back;subst AU;have uI:=aa ((nj.block _ (by rw [lr.out];omega) (fun e=>by have:=fz.out.1 _ e;omega) (fun e=>by have:=fz.out.2.2 _ e;omega)).trans sH.out);obtain ⟨⟨p0,p1,p2,p3,p4,p5,p6,p7⟩,s0,s1,s2,s3,s4,s5,s6,s7⟩:=aG (show w2.heap[w.heap.size+1+1]?=some (jY #[.int .i64 0,.int .i64 0,.int .i64 0,.int .i64 0,.slice none 0 0,.slice none 0 0,.slice none 0 0,.slice none 0 0] 63 (0,0)) from uI.out);have DD:=aa R2;have tY:=aa nj;have NL:=aa NL;have po:=aa po;unfold jD;clear R2 nj a0 a1 a2 a3 a4 a5 a6 a7 g0 g1 g2 cf)
 change bodyPost p_ f64 _ .ret _ (Of.b8 _ (w.heap.size+1+1) (.int .i64 (nl:Nat)) (.int .i64 O) (.int .i64 P) (.int .i64 q.1.clock) _ _ _ (.slice al bM cl))
 refine zB DD.out ((bg.bW uf.out).trans tY.out) (fun g hg e=>NL.out g (by rw [lr.out];omega) e) (fun g hg e=>po.out g (by rw [lr.out];omega) e) uI.out (by omega) ?_ ?_ ?_<;>rfl
theorem GY {vw:M'} (R:bA B m vr vw vb w) (mP:∃a n c,vl=.slice a n c) (c:Int) {q:Rm × Bs} (hc:∀w',bA B m vr vw vb w'->d_ p_ 86 #[jD (nl:Nat) O P m.clock vr vw vb vl,.int .i64 c] w' (Done w' vr vb B q.1 (nl:Nat) O P vl q.2)):
 d_ p_ 64 #[jD (nl:Nat) O P m.clock vr vw vb vl,.agg #[.string ⟨#[119,97,105,116]⟩,.int .i64 c,.int .i64 0]] w (Done w vr vb B q.1 (nl:Nat) O P vl q.2):=by
 obtain ⟨al,bM,cl,rfl⟩:=mP
 obtain ⟨ab,cb,oK⟩:=aE R.back
 subst oK
 obtain ⟨ar,cr,ql⟩:=aE R.recs
 subst ql
 obtain ⟨gw,cw,qG,KC,yN⟩:=fV R.wait R.iQ
 subst qG
 obtain ⟨w1,cf⟩:∃w1,((w.alloc (.cells (gi (nl:Nat) O P m.clock (.slice ar m.recs.length cr) (.slice (some ⟨gw,0,none⟩) m.wait.length cw) (.slice ab m.back.length cb) (.slice al bM cl)) 63)).alloc (.cells #[.string ⟨#[119,97,105,116]⟩,.int .i64 c,.int .i64 0] 55)).alloc (.cells ia 63)=w1:=⟨_,rfl⟩
 have lr:f_ (w1.heap.size=w.heap.size+3):=by rw [f_,<-cf,B_,B_,B_]
 have eo:g_ w.heap.size w w1:=by rw [<-cf];exact (((h_ _ _).alloc (C_ _) _).alloc (by rw [B_];omega) _).alloc (by rw [B_,B_];omega) _
 have jx:w1.heap[w.heap.size]?=some (.cells (gi (nl:Nat) O P m.clock (.slice ar m.recs.length cr) (.slice (some ⟨gw,0,none⟩) m.wait.length cw) (.slice ab m.back.length cb) (.slice al bM cl)) 63 (0,0)):=by rw [<-cf];exact br (br (Z' w _))
 have oG:w1.heap[w.heap.size+1]?=some (.cells #[.string ⟨#[119,97,105,116]⟩,.int .i64 c,.int .i64 0] 55 (0,0)):=by
  have:=Z' (w.alloc (.cells (gi (nl:Nat) O P m.clock (.slice ar m.recs.length cr) (.slice (some ⟨gw,0,none⟩) m.wait.length cw) (.slice ab m.back.length cb) (.slice al bM cl)) 63)) (.cells #[.string ⟨#[119,97,105,116]⟩,.int .i64 c,.int .i64 0] 55)
  rw [B_] at this
  rw [<-cf];exact br this
 have sH:f_ (w1.heap[w.heap.size+1+1]?=some (.cells ia 63 (0,0))):=by
  have:=Z' ((w.alloc (.cells (gi (nl:Nat) O P m.clock (.slice ar m.recs.length cr) (.slice (some ⟨gw,0,none⟩) m.wait.length cw) (.slice ab m.back.length cb) (.slice al bM cl)) 63)).alloc (.cells #[.string ⟨#[119,97,105,116]⟩,.int .i64 c,.int .i64 0] 55)) (.cells ia 63)
  rw [B_,B_,cf] at this
  exact this
 obtain ⟨⟨a0,a1,a2,a3,a4,a5,a6,a7⟩,_⟩:=aG jx
 have g0:w1.cell? ⟨w.heap.size+1,0,none⟩=some (.string ⟨#[119,97,105,116]⟩):=cV oG
 have g1:w1.cell? ⟨w.heap.size+1,1,none⟩=some (.int .i64 c):=cV oG
 have g2:w1.cell? ⟨w.heap.size+1,2,none⟩=some (.int .i64 0):=cV oG
 have hcc:f_ (d_ p_ 86 #[.agg #[.int .i64 (nl:Nat),.int .i64 O,.int .i64 P,.int .i64 m.clock,.slice ar m.recs.length cr,.slice (some ⟨gw,0,none⟩) m.wait.length cw,.slice ab m.back.length cb,.slice al bM cl],.int .i64 c] w1 (Done w1 (.slice ar m.recs.length cr) (.slice ab m.back.length cb) B q.1 (nl:Nat) O P (.slice al bM cl) q.2)):=hc w1 (R.below eo)
 have fz:=aa R.nN
 have uf:=aa eo
 clear R eo jx oG hc
 unfold gi ia at cf
 unfold jD
 go_enter func64,ntmps64
 go_wp2_with (go_at_call 86;(with_reducible refine hcc.out.mono ?_);rintro e w2 ⟨LU,N3,N4,rfl,R2,nj,NL,po⟩;obtain ⟨W7,WZ,AR⟩:=aE R2.recs;subst AR;obtain ⟨ID,IC,rn⟩:=aE R2.wait;subst rn;obtain ⟨W8,W4,AU⟩:=aE R2.back;subst AU;have uI:=aa ((nj.block _ (by rw [lr.out];omega) (fun e=>by have:=fz.out.1 _ e;omega) (fun e=>by have:=fz.out.2.2 _ e;omega)).trans sH.out);obtain ⟨⟨p0,p1,p2,p3,p4,p5,p6,p7⟩,s0,s1,s2,s3,s4,s5,s6,s7⟩:=aG (show w2.heap[w.heap.size+1+1]?=some (jY #[.int .i64 0,.int .i64 0,.int .i64 0,.int .i64 0,.slice none 0 0,.slice none 0 0,.slice none 0 0,.slice none 0 0] 63 (0,0)) from uI.out);have DD:=aa R2;have tY:=aa nj;have NL:=aa NL;have po:=aa po;unfold jD;clear R2 nj a0 a1 a2 a3 a4 a5 a6 a7 g0 g1 g2 cf)
 change bodyPost p_ f64 _ .ret _ (Of.b8 _ (w.heap.size+1+1) (.int .i64 (nl:Nat)) (.int .i64 O) (.int .i64 P) (.int .i64 q.1.clock) _ _ _ (.slice al bM cl))
 refine zB DD.out ((bg.bW uf.out).trans tY.out) (fun g hg e=>NL.out g (by rw [lr.out];omega) e) (fun g hg e=>po.out g (by rw [lr.out];omega) e) uI.out (by omega) ?_ ?_ ?_<;>rfl
structure Xf (nl:Nat) (m:Rm):Prop where
 n1:m.recs.length<=100
 n2:m.wait.length<=100
 n3:m.back.length<=100
 n4:nl<=100
 ck:0<=m.clock/\m.clock<=1000000
 fr:∀(i:Nat) (r:Rec),m.recs[i]?=some r->0<=r.jy/\r.jy<=m.clock
 op:∀p∈m.wait,(1<=p.1/\p.1<=1000000)/\∃i,dE m.recs p.1=some i
 nd:(m.wait.map (·.1)).Nodup
 bk:∀p∈m.back,1<=p.1/\p.1<=1000000
variable {no:Nat} {S:Hs} {us:List Od}
theorem okM {n:Nat} (h:Rel nl no n S us m) (hn:n<=60) (rp:nl<=100):Xf nl m:=by
 have:=h.n1
 have:=h.n2
 have:=h.n4
 have:=h.cl
 refine ⟨by omega,by omega,by omega,rp,⟨by omega,by omega⟩,h.jy,fun p hp=> ?_,h.w0,fun p hp=> ?_⟩
 ·obtain ⟨i,r,h1,h2,h3⟩:=h.w1 p hp
  obtain ⟨_,_,h4⟩:=h.good.G8 i r h1.1
  exact ⟨by omega,i,kX h.good h1 h2⟩
 ·have:=h.b2 p hp;omega
theorem Ex {vw:M'} (R:bA B m vr vw vb w) (cK:Xf nl m) (mP:∃a n c,vl=.slice a n c) (e:Ev) (he:e.good no):
 d_ p_ 64 #[jD (nl:Nat) O P m.clock vr vw vb vl,e.raw.val] w (Done w vr vb B (qy nl P m e).1 (nl:Nat) O P vl (qy nl P m e).2):=by
 cases e with
 |ring c pt=>exact GZ R mP c pt fun w' R'=>Cy R' cK.n1 cK.n2 cK.n3 cK.n4 cK.ck mP c pt
 |answer i=>exact B5 R mP _ fun w' R'=>yC R' cK.n1 cK.n2 cK.n3 cK.ck mP cK.op _
 |back i=>exact G2 R mP _ fun w' R'=>yB R' cK.n1 cK.n2 cK.n3 cK.n4 mP cK.bk _
 |hang c=>exact G0 R mP c fun w' R'=>Cz R' cK.n1 cK.n2 cK.n3 mP c
 |wait n=>
  have hg:0<=n/\n<=1000000:=by have:=he;unfold Ev.good at this;omega
  exact GY R mP n fun w' R'=>Cx R' cK.n1 cK.n2 cK.n3 mP cK.fr cK.op cK.nd n ⟨cK.ck,hg⟩
noncomputable def Bt:Code:=f42.body.getD .skip
noncomputable def R42:Code:=match ai 4 Bt with| .seq _ (.block _ (.loop (.seq _ (.seq (.block _ (.seq c _)) _))))=>c|c=>c
structure Q42 where
 ar:Option z_
 aw:Option z_
 ab:Option z_
 cr:Nat
 cw:Nat
 cb:Nat
 g:Nat
structure GF (w1:J') (B:Nat) (Wc We:M') (m:Rm) (vr vw vb:M') (w:J'):Prop where
 room:bA B m vr vw vb w
 fr:bg Wc We w1 w
 rr:∀g,g<w1.heap.size->vr.ownBlock=some g->Wc.ownBlock=some g
 rb:∀g,g<w1.heap.size->vb.ownBlock=some g->We.ownBlock=some g
structure NT (w1:J') (B nl:Nat) (O P:Int) (ar aw ab al:Option z_) (nr cr nw cw nb cb bM cl:Nat) (q:Rm × Bs) (D:Array Bool) (x:Q42) (w:J'):Prop where
 o5:D.getD 5 false=true->D.getD 0 false=true/\D.getD 4 false=true
 o6:D.getD 6 false=true->D.getD 5 false=true
 o7:D.getD 7 false=true->D.getD 5 false=true
 Yy:D.getD 10 false=true->D.getD 5 false=true/\D.getD 9 false=true
 a:D.getD 5 false=false->D.getD 9 false=false->w=w1
 b:D.getD 5 false=false->D.getD 9 false=true->w=w1.alloc (.cells ia 63)/\x.g=w1.heap.size
 c:D.getD 5 false=true->D.getD 10 false=false->GF w1 B (.slice ar nr cr) (.slice ab nb cb) q.1 (.slice x.ar q.1.recs.length x.cr) (.slice x.aw q.1.wait.length x.cw) (.slice x.ab q.1.back.length x.cb) w
 c9:D.getD 5 false=true->D.getD 9 false=true->D.getD 10 false=false->w.heap[x.g]?=some (.cells ia 63 (0,0))/\w1.heap.size<=x.g
 d:D.getD 10 false=true->∃w5,GF w1 B (.slice ar nr cr) (.slice ab nb cb) q.1 (.slice x.ar q.1.recs.length x.cr) (.slice x.aw q.1.wait.length x.cw) (.slice x.ab q.1.back.length x.cb) w5/\w5.heap[x.g]?=some (.cells ia 63 (0,0))/\w1.heap.size<=x.g/\w=Of.b8 w5 x.g (.int .i64 (nl:Nat)) (.int .i64 O) (.int .i64 P) (.int .i64 q.1.clock) (.slice x.ar q.1.recs.length x.cr) (.slice x.aw q.1.wait.length x.cw) (.slice x.ab q.1.back.length x.cb) (.slice al bM cl)
variable {w1:J'} {ar aw ab al:Option z_} {nr cr nw cw nb cb bM cl i:Nat} {D D':Array Bool}
theorem NT.same {q:Rm × Bs} {x:Q42} (h:NT w1 B nl O P ar aw ab al nr cr nw cw nb cb bM cl q D x w) (qn:∀j,j≠i->D'.getD j false=D.getD j false) (qi:D'.getD i false=true) (hi:i∉[5,9,10]) (h6:i=6->D.getD 5 false=true) (h7:i=7->D.getD 5 false=true):NT w1 B nl O P ar aw ab al nr cr nw cw nb cb bM cl q D' x w:=by
 have e5:=qn 5 (fun e=>hi (by simp [<-e]))
 have e9:=qn 9 (fun e=>hi (by simp [<-e]))
 have ow:=qn 10 (fun e=>hi (by simp [<-e]))
 have mo:∀j,D.getD j false=true->D'.getD j false=true:=fun j hj=>by
  by_cases e:j=i
  ·subst e;exact qi
  ·rw [qn j e];exact hj
 refine ⟨by rw [e5];exact fun h1=>⟨mo _ (h.o5 h1).1,mo _ (h.o5 h1).2⟩, ?_, ?_,by rw [ow,e5,e9];exact h.Yy,by rw [e5,e9];exact h.a,by rw [e5,e9];exact h.b,by rw [e5,ow];exact h.c,by rw [e5,e9,ow];exact h.c9,by rw [ow];exact h.d⟩
 ·rw [e5]
  by_cases e:(6:Nat)=i
  ·exact fun _=>h6 e.symm
  ·rw [qn 6 e];exact h.o6
 ·rw [e5]
  by_cases e:(7:Nat)=i
  ·exact fun _=>h7 e.symm
  ·rw [qn 7 e];exact h.o7
def zS (b6 eb n ec k:Nat) (r:Raw) (nl:Nat) (O P ck:Int) (ar aw ab al:Option z_) (nr cr nw cw nb cb bM cl:Nat) (q:Rm × Bs) (x:Q42):Nat->M'
 |0=>.agg #[.int .i64 (nl:Nat),.int .i64 O,.int .i64 P,.int .i64 ck,.slice ar nr cr,.slice aw nw cw,.slice ab nb cb,.slice al bM cl]
 |1=>.slice (some ⟨eb,0,none⟩) n ec
 |2=>.int .i64 (k:Nat)
 |3=>.pointer (some ⟨eb,k * 3,none⟩)
 |4=>.agg #[.string r.kind,.int .i64 r.who,.int .i64 r.word]
 |5=>.tuple #[.agg #[.int .i64 (nl:Nat),.int .i64 O,.int .i64 P,.int .i64 q.1.clock,.slice x.ar q.1.recs.length x.cr,.slice x.aw q.1.wait.length x.cw,.slice x.ab q.1.back.length x.cb,.slice al bM cl],.string ⟨q.2.toArray⟩]
 |6=>.tuple #[.agg #[.int .i64 (nl:Nat),.int .i64 O,.int .i64 P,.int .i64 q.1.clock,.slice x.ar q.1.recs.length x.cr,.slice x.aw q.1.wait.length x.cw,.slice x.ab q.1.back.length x.cb,.slice al bM cl],.string ⟨q.2.toArray⟩]
 |7=>.agg #[.int .i64 (nl:Nat),.int .i64 O,.int .i64 P,.int .i64 q.1.clock,.slice x.ar q.1.recs.length x.cr,.slice x.aw q.1.wait.length x.cw,.slice x.ab q.1.back.length x.cb,.slice al bM cl]
 |8=>.string ⟨q.2.toArray⟩
 |9=>.pointer (some ⟨x.g,0,none⟩)
 |11=>.string ⟨q.2.toArray⟩
 |_=>I'
variable {ck:Int} {eb ec k:Nat} {z0 z3 z4 z5 z9 dB cZ de dn dm dk dj dA dz dD dC dM dQ dK dP dO dV ey ew eu eK eJ eI eH eQ eN en iu iF iE iD iC iB nv nu np nk:M'} {Q:Exit->Act->J'->Prop}
theorem Tj {q:Rm × Bs} {b6 n:Nat} {r:Raw} (hR:bA B m (.slice ar nr cr) (.slice aw nw cw) (.slice ab nb cb) w) (lF:w.heap[b6]?=some (.cells #[.int .i64 (nl:Nat),.int .i64 O,.int .i64 P,.int .i64 ck,.slice ar nr cr,.slice aw nw cw,.slice ab nb cb,.slice al bM cl] 63 (0,0))) (s0:w.cell? ⟨eb,k * 3,none⟩=some (.string r.kind)) (s1:w.cell? ⟨eb,k * 3+1,none⟩=some (.int .i64 r.who)) (s2:w.cell? ⟨eb,k * 3+2,none⟩=some (.int .i64 r.word)) (hkn:k<n) (hn:n<=1000000) (jX:∀w',bA B m (.slice ar nr cr) (.slice aw nw cw) (.slice ab nb cb) w'->d_ p_ 64 #[.agg #[.int .i64 (nl:Nat),.int .i64 O,.int .i64 P,.int .i64 ck,.slice ar nr cr,.slice aw nw cw,.slice ab nb cb,.slice al bM cl],.agg #[.string r.kind,.int .i64 r.who,.int .i64 r.word]] w' (Done w' (.slice ar nr cr) (.slice ab nb cb) B q.1 (nl:Nat) O P (.slice al bM cl) q.2)) {z2 z7 z12 z20 z21 z22 z23 z24 z25 z26 z28 z31 z37 z40 z46 z49 z51 z53 z59:M'}
 (hQ:∀w5 DN DL DT DI DG DJ g5 (Oj Oi Oh Ju Jt Js Ol Jr Jq:M'),GF w B (.slice ar nr cr) (.slice ab nb cb) q.1 (.slice DN q.1.recs.length DI) (.slice DL q.1.wait.length DG) (.slice DT q.1.back.length DJ) w5->w5.heap[g5]?=some (.cells ia 63 (0,0))->w.heap.size<=g5->Q .normal ⟨#[z0,.slice (some ⟨eb,0,none⟩) n ec,z2,z3,z4,z5,.pointer (some ⟨b6,0,none⟩),z7,.int .i64 (k:Nat),.pointer (some ⟨g5,0,none⟩),.string ⟨q.2.toArray⟩,cZ,z12,de,dn,dm,dk,dj,dA,dz,z20,z21,z22,z23,z24,z25,z26,dD,z28,dC,dM,z31,dQ,dK,dP,dO,dV,z37,ey,ew,z40,eu,eK,eJ,eI,eH,z46,Ol,Oj,Oi,Oh,Ju,Jt,Js,Jr,Jq,iD,iC,iB,z59,nv,nu,np,nk],[]⟩ (Of.b8 w5 g5 (.int .i64 (nl:Nat)) (.int .i64 O) (.int .i64 P) (.int .i64 q.1.clock) (.slice DN q.1.recs.length DI) (.slice DL q.1.wait.length DG) (.slice DT q.1.back.length DJ) (.slice al bM cl))):
 Code.wp p_ R42 Q ⟨#[z0,.slice (some ⟨eb,0,none⟩) n ec,z2,z3,z4,z5,.pointer (some ⟨b6,0,none⟩),z7,.int .i64 (k:Nat),z9,dB,cZ,z12,de,dn,dm,dk,dj,dA,dz,z20,z21,z22,z23,z24,z25,z26,dD,z28,dC,dM,z31,dQ,dK,dP,dO,dV,z37,ey,ew,z40,eu,eK,eJ,eI,eH,z46,eQ,eN,z49,en,z51,iu,z53,iF,iE,iD,iC,iB,z59,nv,nu,np,nk],[]⟩ w:=by
 have UH:(k:Int)<(n:Int):=by omega
 replace hR:=aa hR.drew
 replace jX:=aa jX
 obtain ⟨w1,cf⟩:∃w1,w.drew=w1:=⟨_,rfl⟩
 have YI:f_ (w1.heap.size=w.heap.size):=by rw [<-cf];rfl
 have EE:f_ (bg (.slice ar nr cr) (.slice ab nb cb) w w1):=by rw [<-cf];exact bg.drew
 replace s0:w1.cell? ⟨eb,k * 3,none⟩=some (.string r.kind):=by rw [<-cf];exact s0
 replace s1:w1.cell? ⟨eb,k * 3+1,none⟩=some (.int .i64 r.who):=by rw [<-cf];exact s1
 replace s2:w1.cell? ⟨eb,k * 3+2,none⟩=some (.int .i64 r.word):=by rw [<-cf];exact s2
 replace lF:w1.heap[b6]?=some (.cells #[.int .i64 (nl:Nat),.int .i64 O,.int .i64 P,.int .i64 ck,.slice ar nr cr,.slice aw nw cw,.slice ab nb cb,.slice al bM cl] 63 (0,0)):=by rw [<-cf];exact lF
 obtain ⟨⟨r0,r1,r2,r3,r4,r5,r6,r7⟩,_⟩:=aG lF
 rw [cf] at hR
 clear lF
 refine wpN 64 fun bs cn oq HI=> ?_
 simp only [R42,ai,Bt,f42,A_]
 refine mz (by kernel_rfl) (kP:=⟨none,none,none,0,0,0,0⟩) (base:=bs) (by rw [oq];kernel_rfl) (by kernel_rfl) (fun x=>zS b6 eb n ec k r nl O P ck ar aw ab al nr cr nw cw nb cb bM cl q x) (NT w1 B nl O P ar aw ab al nr cr nw cw nb cb bM cl q)
  (by
   exact ⟨E5,E5,E5,E5,fun _ _=>cf,fun _ h=>E5 h,E5,E5,E5⟩) ?_ ?_
 ·intro i o' ho D x w a hD bc hw bH aD K k
  have hlt:i<12:=(cI ho)
  have Gl:=bT oq
  have qi:=qI hD hlt
  have qn:=qN D i
  have aA:=aa k
  clear k
  obtain rfl|rfl|rfl|rfl|rfl|rfl|rfl|rfl|rfl|rfl|rfl|rfl:i=0\/i=1\/i=2\/i=3\/i=4\/i=5\/i=6\/i=7\/i=8\/i=9\/i=10\/i=11:=by omega
  all_goals obtain rfl:=so ho rfl
  ·obtain ⟨v6,w6⟩:=bc.oo (.pointer (some ⟨b6,0,none⟩)) 6
   have h5:=ff bH fun hx=>(hw.o5 hx).1
   have hcell:∀j v,w1.cell? ⟨b6,j,none⟩=some v->w.cell? ⟨b6,j,none⟩=some v:=fun j v hv=>by
    cases hb:D.getD 9 false with
    |false=>rw [hw.a h5 hb];exact hv
    |true=>rw [(hw.b h5 hb).1];exact (N_ w1 _ none).cell hv (by simp)
   replace r0:=hcell _ _ r0
   replace r1:=hcell _ _ r1
   replace r2:=hcell _ _ r2
   replace r3:=hcell _ _ r3
   replace r4:=hcell _ _ r4
   replace r5:=hcell _ _ r5
   replace r6:=hcell _ _ r6
   replace r7:=hcell _ _ r7
   clear hcell h5
   exact iY rfl (.agg #[.int .i64 (nl:Nat),.int .i64 O,.int .i64 P,.int .i64 ck,.slice ar nr cr,.slice aw nw cw,.slice ab nb cb,.slice al bM cl]) (aA.out x w (fun _ _=>rfl) (hw.same qn qi (by decide) (fun e=>absurd e (by decide)) (fun e=>absurd e (by decide))))
  ·obtain ⟨v1,w1⟩:=bc.oo (.slice (some ⟨eb,0,none⟩) n ec) 1
   exact iY rfl (.slice (some ⟨eb,0,none⟩) n ec) (aA.out x w (fun _ _=>rfl) (hw.same qn qi (by decide) (fun e=>absurd e (by decide)) (fun e=>absurd e (by decide))))
  ·obtain ⟨v8,w8⟩:=bc.oo (.int .i64 (k:Nat)) 8
   exact iY rfl (.int .i64 (k:Nat)) (aA.out x w (fun _ _=>rfl) (hw.same qn qi (by decide) (fun e=>absurd e (by decide)) (fun e=>absurd e (by decide))))
  ·have d1:=dq aD 1
   obtain ⟨v49,Wa⟩:=bc.vv (.slice (some ⟨eb,0,none⟩) n ec) 49 1 d1
   obtain ⟨v50,w50⟩:=bc.vv (.int .i64 (k:Nat)) 50 2 (dq aD 2)
   exact iY rfl (.pointer (some ⟨eb,k * 3,none⟩)) (aA.out x w (fun _ _=>rfl) (hw.same qn qi (by decide) (fun e=>absurd e (by decide)) (fun e=>absurd e (by decide))))
  ·have d3:=dq aD 3
   obtain ⟨v51,XP⟩:=bc.vv (.pointer (some ⟨eb,k * 3,none⟩)) 51 3 d3
   have h5:=ff bH fun hx=>(hw.o5 hx).2
   have hcell:∀j v,w1.cell? ⟨eb,j,none⟩=some v->w.cell? ⟨eb,j,none⟩=some v:=fun j v hv=>by
    cases hb:D.getD 9 false with
    |false=>rw [hw.a h5 hb];exact hv
    |true=>rw [(hw.b h5 hb).1];exact (N_ w1 _ none).cell hv (by simp)
   replace s0:=hcell _ _ s0
   replace s1:=hcell _ _ s1
   replace s2:=hcell _ _ s2
   clear hcell h5
   exact iY rfl (.agg #[.string r.kind,.int .i64 r.who,.int .i64 r.word]) (aA.out x w (fun _ _=>rfl) (hw.same qn qi (by decide) (fun e=>absurd e (by decide)) (fun e=>absurd e (by decide))))
  ·have d0:=dq aD 0
   have d4:=dq aD 4
   obtain ⟨v48,Wb⟩:=bc.vv (.agg #[.int .i64 (nl:Nat),.int .i64 O,.int .i64 P,.int .i64 ck,.slice ar nr cr,.slice aw nw cw,.slice ab nb cb,.slice al bM cl]) 48 0 d0
   obtain ⟨v52,V9⟩:=bc.vv (.agg #[.string r.kind,.int .i64 r.who,.int .i64 r.word]) 52 4 d4
   clear aD ho
   have e0:=qn 0 (by decide)
   have e4:=qn 4 (by decide)
   have e5:=qi
   have e6:=qn 6 (by decide)
   have e7:=qn 7 (by decide)
   have e9:=qn 9 (by decide)
   have ow:=qn 10 (by decide)
   have ZS:=ff bH fun hx=>(hw.Yy hx).1
   have h6:=ff bH fun hx=>hw.o6 hx
   have h7:=ff bH fun hx=>hw.o7 hx
   have ZZ:bA B m (.slice ar nr cr) (.slice aw nw cw) (.slice ab nb cb) w:=by
    cases hb:D.getD 9 false with
    |false=>rw [hw.a bH hb];exact hR.out
    |true=>rw [(hw.b bH hb).1];exact hR.out.alloc _
   have WQ:bg (.slice ar nr cr) (.slice ab nb cb) w1 w:=by
    cases hb:D.getD 9 false with
    |false=>rw [hw.a bH hb];exact bg.refl _ _ _
    |true=>rw [(hw.b bH hb).1];exact bg.alloc _
   have hgz:D.getD 9 false=true->w.heap[x.g]?=some (.cells ia 63 (0,0))/\w1.heap.size<=x.g:=fun hb=>by
    obtain ⟨z1,z2⟩:=hw.b bH hb
    rw [z1,z2];exact ⟨Z' w1 _,C_ _⟩
   have fz:=hR.out.nN
   have sY:=jX.out w ZZ
   have hsz:=WQ.size
   unfold wpOp
   simp only [List.getElem?_toArray,List.getElem?_cons_succ,List.getElem?_cons_zero,Region.wanted,if_true,Option.isNone_none]
   left
   unfold Oper.wp
   simp only [V',resolve,invoke,Sem.run_bind,Sem.run_pure,Result.andThen_ok,List.map_toArray,S_,List.map_nil,v48,v52]
   refine (sY.mono ?_)
   rintro e w5 ⟨vr5,vw5,vb5,rfl,R5,F5,rr5,rb5⟩
   obtain ⟨DN,DI,M5⟩:=aE R5.recs
   subst M5
   obtain ⟨DL,DG,hv2⟩:=aE R5.wait
   subst hv2
   obtain ⟨DT,DJ,hv3⟩:=aE R5.back
   subst hv3
   refine aA.out ⟨DN,DL,DT,DI,DG,DJ,x.g⟩ w5 (fun j hj=>by
    have hne:j≠5:=fun e=>by rw [e,bH] at hj;cases hj
    unfold zS;split<;>first|rfl|exact absurd rfl hne|(rw [h6] at hj;cases hj)|(rw [h7] at hj;cases hj)) ⟨fun _=>by rw [e0,e4];exact ⟨d0,d4⟩,by rw [e6,h6];exact fun h=>(by cases h),by rw [e7,h7];exact fun h=>(by cases h),by rw [ow,ZS];exact fun h=>(by cases h),by rw [e5];exact fun h=>(by cases h),by rw [e5];exact fun h=>(by cases h),fun _ _=>⟨R5,WQ.then F5 (fun _ _ h=>h) (fun _ _ h=>h),fun g hg h=>rr5 g (by omega) h,fun g hg h=>rb5 g (by omega) h⟩, ?_,by rw [ow,ZS];exact fun h=>(by cases h)⟩
   rw [e9]
   intro _ hb _
   obtain ⟨y1,y2⟩:=hgz hb
   refine ⟨(F5.block _ (cI y1) (fun e=> ?_) (fun e=> ?_)).trans y1,y2⟩
   ·have:=fz.1 _ e;omega
   ·have:=fz.2.2 _ e;omega
  ·have d5:=dq aD 5
   obtain ⟨v53,XO⟩:=bc.vv (.tuple #[.agg #[.int .i64 (nl:Nat),.int .i64 O,.int .i64 P,.int .i64 q.1.clock,.slice x.ar q.1.recs.length x.cr,.slice x.aw q.1.wait.length x.cw,.slice x.ab q.1.back.length x.cb,.slice al bM cl],.string ⟨q.2.toArray⟩]) 53 5 d5
   have h5:=d5
   exact iY rfl (.tuple #[.agg #[.int .i64 (nl:Nat),.int .i64 O,.int .i64 P,.int .i64 q.1.clock,.slice x.ar q.1.recs.length x.cr,.slice x.aw q.1.wait.length x.cw,.slice x.ab q.1.back.length x.cb,.slice al bM cl],.string ⟨q.2.toArray⟩]) (aA.out x w (fun _ _=>rfl) (hw.same qn qi (by decide) (fun e=>h5) (fun e=>absurd e (by decide))))
  ·have d6:=dq aD 6
   obtain ⟨v47,LS⟩:=bc.vv (.tuple #[.agg #[.int .i64 (nl:Nat),.int .i64 O,.int .i64 P,.int .i64 q.1.clock,.slice x.ar q.1.recs.length x.cr,.slice x.aw q.1.wait.length x.cw,.slice x.ab q.1.back.length x.cb,.slice al bM cl],.string ⟨q.2.toArray⟩]) 47 6 d6
   have h5:=hw.o6 d6
   exact iY rfl (.agg #[.int .i64 (nl:Nat),.int .i64 O,.int .i64 P,.int .i64 q.1.clock,.slice x.ar q.1.recs.length x.cr,.slice x.aw q.1.wait.length x.cw,.slice x.ab q.1.back.length x.cb,.slice al bM cl]) (aA.out x w (fun _ _=>rfl) (hw.same qn qi (by decide) (fun e=>absurd e (by decide)) (fun e=>h5)))
  ·have d6:=dq aD 6
   obtain ⟨v47,LS⟩:=bc.vv (.tuple #[.agg #[.int .i64 (nl:Nat),.int .i64 O,.int .i64 P,.int .i64 q.1.clock,.slice x.ar q.1.recs.length x.cr,.slice x.aw q.1.wait.length x.cw,.slice x.ab q.1.back.length x.cb,.slice al bM cl],.string ⟨q.2.toArray⟩]) 47 6 d6
   exact iY rfl (.string ⟨q.2.toArray⟩) (aA.out x w (fun _ _=>rfl) (hw.same qn qi (by decide) (fun e=>absurd e (by decide)) (fun e=>absurd e (by decide))))
  ·clear aD ho
   have e0:=qn 0 (by decide)
   have e4:=qn 4 (by decide)
   have e5:=qn 5 (by decide)
   have e6:=qn 6 (by decide)
   have e7:=qn 7 (by decide)
   have e9:=qi
   have ow:=qn 10 (by decide)
   have ZS:=ff bH fun hx=>(hw.Yy hx).2
   refine bj (v:=.pointer (some ⟨w.heap.size,0,none⟩)) (w':=w.alloc (.cells ia 63)) rfl rfl ?_ ?_
   ·clear bc hw aA bH qi qn e0 e4 e5 e6 e7 e9 ow
    unfold ia
    go_simp
   ·refine aA.out ⟨x.ar,x.aw,x.ab,x.cr,x.cw,x.cb,w.heap.size⟩ _ (fun j hj=>by
     have hne:j≠9:=fun e=>by rw [e,bH] at hj;cases hj
     unfold zS;split<;>first|rfl|exact absurd rfl hne) ⟨by rw [e5,e0,e4];exact hw.o5,by rw [e6,e5];exact hw.o6,by rw [e7,e5];exact hw.o7,by rw [ow,ZS];exact fun h=>(by cases h),by rw [e9];exact fun _ h=>(by cases h), ?_, ?_, ?_,by rw [ow,ZS];exact fun h=>(by cases h)⟩
    ·rw [e5];intro h5 _;rw [hw.a h5 bH];exact ⟨rfl,rfl⟩
    ·rw [e5,ow];intro h5 h0
     have p:=hw.c h5 h0
     exact ⟨p.room.alloc _,p.fr.trans (bg.alloc _),p.rr,p.rb⟩
    ·rw [e5,ow];intro h5 _ h0
     have p:=hw.c h5 h0
     exact ⟨Z' w _,p.fr.size⟩
  ·have d9:=dq aD 9
   have d7:=dq aD 7
   obtain ⟨v9,w9⟩:=bc.vv (.pointer (some ⟨x.g,0,none⟩)) 9 9 d9
   obtain ⟨v54,XN⟩:=bc.vv (.agg #[.int .i64 (nl:Nat),.int .i64 O,.int .i64 P,.int .i64 q.1.clock,.slice x.ar q.1.recs.length x.cr,.slice x.aw q.1.wait.length x.cw,.slice x.ab q.1.back.length x.cb,.slice al bM cl]) 54 7 d7
   clear aD ho
   have e0:=qn 0 (by decide)
   have e4:=qn 4 (by decide)
   have e5:=qn 5 (by decide)
   have e6:=qn 6 (by decide)
   have e7:=qn 7 (by decide)
   have e9:=qn 9 (by decide)
   have ow:=qi
   have d5:=hw.o7 d7
   have p:=hw.c d5 bH
   obtain ⟨y1,y2⟩:=hw.c9 d5 d9 bH
   obtain ⟨⟨p0,p1,p2,p3,p4,p5,p6,p7⟩,t0,t1,t2,t3,t4,t5,t6,t7⟩:=aG (show w.heap[x.g]?=some (jY #[.int .i64 0,.int .i64 0,.int .i64 0,.int .i64 0,.slice none 0 0,.slice none 0 0,.slice none 0 0,.slice none 0 0] 63 (0,0)) from y1)
   refine gQ (w':=Of.b8 w x.g (.int .i64 (nl:Nat)) (.int .i64 O) (.int .i64 P) (.int .i64 q.1.clock) (.slice x.ar q.1.recs.length x.cr) (.slice x.aw q.1.wait.length x.cw) (.slice x.ab q.1.back.length x.cb) (.slice al bM cl)) rfl rfl ?_ (aA.out x _ (fun _ _=>rfl) ⟨by rw [e5,e0,e4];exact hw.o5,by rw [e6,e5];exact hw.o6,by rw [e7,e5];exact hw.o7,fun _=>by rw [e5,e9];exact ⟨d5,d9⟩,by rw [e5,d5];exact fun h=>(by cases h),by rw [e5,d5];exact fun h=>(by cases h),by rw [ow];exact fun _ h=>(by cases h),by rw [ow];exact fun _ _ h=>(by cases h),fun _=>⟨w,p,y1,y2,rfl⟩⟩)
   clear bc hw aA bH qi qn e0 e4 e5 e6 e7 e9 ow p y1 y2
   unfold Of.b8
   go_simp
  ·have d8:=dq aD 8
   obtain ⟨v55,XM⟩:=bc.vv (.string ⟨q.2.toArray⟩) 55 8 d8
   exact iY rfl (.string ⟨q.2.toArray⟩) (aA.out x w (fun _ _=>rfl) (hw.same qn qi (by decide) (fun e=>absurd e (by decide)) (fun e=>absurd e (by decide))))
 ·intro D x w hd hw
  obtain ⟨w5,hp,hz,hg,rfl⟩:=hw.d (hd 10 (by decide))
  obtain ⟨DN,DL,DT,DI,DG,DJ,g5⟩:=x
  simp only at hp hz hg
  have:=hQ w5 DN DL DT DI DG DJ g5 (.agg #[.int .i64 (nl:Nat),.int .i64 O,.int .i64 P,.int .i64 ck,.slice ar nr cr,.slice aw nw cw,.slice ab nb cb,.slice al bM cl]) (.slice (some ⟨eb,0,none⟩) n ec) (.int .i64 (k:Nat)) (.pointer (some ⟨eb,k * 3,none⟩)) (.agg #[.string r.kind,.int .i64 r.who,.int .i64 r.word]) (.tuple #[.agg #[.int .i64 (nl:Nat),.int .i64 O,.int .i64 P,.int .i64 q.1.clock,.slice DN q.1.recs.length DI,.slice DL q.1.wait.length DG,.slice DT q.1.back.length DJ,.slice al bM cl],.string ⟨q.2.toArray⟩]) (.tuple #[.agg #[.int .i64 (nl:Nat),.int .i64 O,.int .i64 P,.int .i64 q.1.clock,.slice DN q.1.recs.length DI,.slice DL q.1.wait.length DG,.slice DT q.1.back.length DJ,.slice al bM cl],.string ⟨q.2.toArray⟩]) (.agg #[.int .i64 (nl:Nat),.int .i64 O,.int .i64 P,.int .i64 q.1.clock,.slice DN q.1.recs.length DI,.slice DL q.1.wait.length DG,.slice DT q.1.back.length DJ,.slice al bM cl]) (.string ⟨q.2.toArray⟩) ⟨hp.room,EE.out.trans hp.fr,fun g h e=>hp.rr g (by rw [YI.out];exact h) e,fun g h e=>hp.rb g (by rw [YI.out];exact h) e⟩ hz (by rw [<-YI.out];exact hg)
  generalize bc:slotsOf _ bs (zS b6 eb n ec k r nl O P ck ar aw ab al nr cr nw cw nb cb bM cl q ⟨DN,DL,DT,DI,DG,DJ,g5⟩)=sl
  have eS:sl=#[z0,.slice (some ⟨eb,0,none⟩) n ec,z2,z3,z4,z5,.pointer (some ⟨b6,0,none⟩),z7,.int .i64 (k:Nat),.pointer (some ⟨g5,0,none⟩),.string ⟨q.2.toArray⟩,cZ,z12,de,dn,dm,dk,dj,dA,dz,z20,z21,z22,z23,z24,z25,z26,dD,z28,dC,dM,z31,dQ,dK,dP,dO,dV,z37,ey,ew,z40,eu,eK,eJ,eI,eH,z46,.tuple #[.agg #[.int .i64 (nl:Nat),.int .i64 O,.int .i64 P,.int .i64 q.1.clock,.slice DN q.1.recs.length DI,.slice DL q.1.wait.length DG,.slice DT q.1.back.length DJ,.slice al bM cl],.string ⟨q.2.toArray⟩],.agg #[.int .i64 (nl:Nat),.int .i64 O,.int .i64 P,.int .i64 ck,.slice ar nr cr,.slice aw nw cw,.slice ab nb cb,.slice al bM cl],.slice (some ⟨eb,0,none⟩) n ec,.int .i64 (k:Nat),.pointer (some ⟨eb,k * 3,none⟩),.agg #[.string r.kind,.int .i64 r.who,.int .i64 r.word],.tuple #[.agg #[.int .i64 (nl:Nat),.int .i64 O,.int .i64 P,.int .i64 q.1.clock,.slice DN q.1.recs.length DI,.slice DL q.1.wait.length DG,.slice DT q.1.back.length DJ,.slice al bM cl],.string ⟨q.2.toArray⟩],.agg #[.int .i64 (nl:Nat),.int .i64 O,.int .i64 P,.int .i64 q.1.clock,.slice DN q.1.recs.length DI,.slice DL q.1.wait.length DG,.slice DT q.1.back.length DJ,.slice al bM cl],.string ⟨q.2.toArray⟩,iD,iC,iB,z59,nv,nu,np,nk]:=by rw [<-bc,<-cn];kernel_rfl
  rw [eS]
  exact this
noncomputable def V3:Code:=match ai 3 Bt with| .seq _ (.block _ (.loop (.seq _ (.seq (.block _ (.seq c _)) _))))=>c|c=>c
structure Xc (w1:J') (r:Raw) (D:Array Bool) (_:Unit) (w:J'):Prop where
 o:D.getD 6 false=true->D.getD 3 false=true/\D.getD 5 false=true
 a:D.getD 6 false=false->w=w1
 b:D.getD 6 false=true->w=w1.alloc (.cells #[.string r.kind,.int .i64 r.who,.int .i64 r.word] 55)
theorem Xc.same {r:Raw} {q:Unit} (h:Xc w1 r D q w) (qn:∀j,j≠i->D'.getD j false=D.getD j false) (qi:D'.getD i false=true) (hi:i∉[6]):Xc w1 r D' q w:=by
 have e6:=qn 6 (fun e=>hi (by simp [<-e]))
 have mo:∀j,D.getD j false=true->D'.getD j false=true:=fun j hj=>by
  by_cases e:j=i
  ·subst e;exact qi
  ·rw [qn j e];exact hj
 exact ⟨by rw [e6];exact fun h1=>⟨mo _ (h.o h1).1,mo _ (h.o h1).2⟩,by rw [e6];exact h.a,by rw [e6];exact h.b⟩
def Fz (eb n ec k b2:Nat) (r:Raw) (O:Int) (bb:Bool) (_:Unit):Nat->M'
 |0=>.slice (some ⟨eb,0,none⟩) n ec
 |1=>.int .i64 (k:Nat)
 |2=>.pointer (some ⟨eb,k * 3,none⟩)
 |3=>.agg #[.string r.kind,.int .i64 r.who,.int .i64 r.word]
 |4=>.pointer (some ⟨b2,1,none⟩)
 |5=>.int .i64 O
 |6=>.bool bb
 |7=>.bool (!bb)
 |_=>I'
variable {b2:Nat} {z6:M'}
theorem P4 {n:Nat} {r:Raw} {bb:Bool} (s0:w.cell? ⟨eb,k * 3,none⟩=some (.string r.kind)) (s1:w.cell? ⟨eb,k * 3+1,none⟩=some (.int .i64 r.who)) (s2:w.cell? ⟨eb,k * 3+2,none⟩=some (.int .i64 r.word)) (s3:w.cell? ⟨b2,1,none⟩=some (.int .i64 O)) (hkn:k<n) (hn:n<=1000000) (jX:∀w',d_ p_ 63 #[.agg #[.string r.kind,.int .i64 r.who,.int .i64 r.word],.int .i64 O] w' fun e SW=>e=.returned (.bool bb)/\SW=w'.alloc (.cells #[.string r.kind,.int .i64 r.who,.int .i64 r.word] 55)) {z8 z12 z20 z21 z22 z23 z24 z25 z26 z28 z31 z37 z40 z46 z49 z51 z53 z59:M'}
 (hQ:∀w5 (Sn Sm q34 q35 TE TC Om:M'),g_ w.heap.size w w5->Q .normal ⟨#[z0,.slice (some ⟨eb,0,none⟩) n ec,.pointer (some ⟨b2,0,none⟩),z3,z4,z5,z6,.int .i64 (k:Nat),z8,z9,dB,cZ,z12,de,dn,dm,dk,dj,dA,dz,z20,z21,z22,z23,z24,z25,z26,dD,z28,dC,dM,z31,Sn,Sm,q34,q35,TE,TC,Om,.bool (!bb),z40,eu,eK,eJ,eI,eH,z46,eQ,eN,z49,en,z51,iu,z53,iF,iE,iD,iC,iB,z59,nv,nu,np,nk],[]⟩ w5):
 Code.wp p_ V3 Q ⟨#[z0,.slice (some ⟨eb,0,none⟩) n ec,.pointer (some ⟨b2,0,none⟩),z3,z4,z5,z6,.int .i64 (k:Nat),z8,z9,dB,cZ,z12,de,dn,dm,dk,dj,dA,dz,z20,z21,z22,z23,z24,z25,z26,dD,z28,dC,dM,z31,dQ,dK,dP,dO,dV,z37,ey,ew,z40,eu,eK,eJ,eI,eH,z46,eQ,eN,z49,en,z51,iu,z53,iF,iE,iD,iC,iB,z59,nv,nu,np,nk],[]⟩ w:=by
 have UH:(k:Int)<(n:Int):=by omega
 obtain ⟨w1,cf⟩:∃w1,w.drew=w1:=⟨_,rfl⟩
 have sD:f_ (g_ w.heap.size w (w1.alloc (.cells #[.string r.kind,.int .i64 r.who,.int .i64 r.word] 55))):=by rw [<-cf];exact ((h_ _ _).drew).alloc (C_ _) _
 replace s0:w1.cell? ⟨eb,k * 3,none⟩=some (.string r.kind):=by rw [<-cf];exact s0
 replace s1:w1.cell? ⟨eb,k * 3+1,none⟩=some (.int .i64 r.who):=by rw [<-cf];exact s1
 replace s2:w1.cell? ⟨eb,k * 3+2,none⟩=some (.int .i64 r.word):=by rw [<-cf];exact s2
 replace s3:w1.cell? ⟨b2,1,none⟩=some (.int .i64 O):=by rw [<-cf];exact s3
 refine wpN 64 fun bs cn oq HI=> ?_
 simp only [V3,ai,Bt,f42,A_]
 refine mz (by kernel_rfl) (kP:=()) (base:=bs) (by rw [oq];kernel_rfl) (by kernel_rfl) (fun x=>Fz eb n ec k b2 r O bb x) (Xc w1 r)
  (by
   exact ⟨E5,fun _=>cf,E5⟩) ?_ ?_
 ·intro i o' ho D x w a hD bc hw bH aD K k
  have hlt:i<8:=(cI ho)
  have Gl:=bT oq
  have qi:=qI hD hlt
  have qn:=qN D i
  have aA:=aa k
  clear k
  obtain rfl|rfl|rfl|rfl|rfl|rfl|rfl|rfl:i=0\/i=1\/i=2\/i=3\/i=4\/i=5\/i=6\/i=7:=by omega
  all_goals obtain rfl:=so ho rfl
  ·obtain ⟨v1,w1⟩:=bc.oo (.slice (some ⟨eb,0,none⟩) n ec) 1
   exact IZ (.slice (some ⟨eb,0,none⟩) n ec)
  ·obtain ⟨v7,w7⟩:=bc.oo (.int .i64 (k:Nat)) 7
   exact IZ (.int .i64 (k:Nat))
  ·have d0:=dq aD 0
   obtain ⟨v32,w32⟩:=bc.vv (.slice (some ⟨eb,0,none⟩) n ec) 32 0 d0
   obtain ⟨v33,w33⟩:=bc.vv (.int .i64 (k:Nat)) 33 1 (dq aD 1)
   exact IZ (.pointer (some ⟨eb,k * 3,none⟩))
  ·have d2:=dq aD 2
   obtain ⟨v34,w34⟩:=bc.vv (.pointer (some ⟨eb,k * 3,none⟩)) 34 2 d2
   have h6:=ff bH fun hx=>(hw.o hx).1
   obtain rfl:=hw.a h6
   exact IZ (.agg #[.string r.kind,.int .i64 r.who,.int .i64 r.word])
  ·obtain ⟨v2,w2⟩:=bc.oo (.pointer (some ⟨b2,0,none⟩)) 2
   exact IZ (.pointer (some ⟨b2,1,none⟩))
  ·have d4:=dq aD 4
   obtain ⟨v36,w36⟩:=bc.vv (.pointer (some ⟨b2,1,none⟩)) 36 4 d4
   have h6:=ff bH fun hx=>(hw.o hx).2
   obtain rfl:=hw.a h6
   exact IZ (.int .i64 O)
  ·have d3:=dq aD 3
   have d5:=dq aD 5
   obtain ⟨v35,w35⟩:=bc.vv (.agg #[.string r.kind,.int .i64 r.who,.int .i64 r.word]) 35 3 d3
   obtain ⟨v37,w37⟩:=bc.vv (.int .i64 O) 37 5 d5
   clear aD ho
   have e3:=qn 3 (by decide)
   have e5:=qn 5 (by decide)
   obtain rfl:=hw.a bH
   have sY:=jX w
   unfold wpOp
   simp only [List.getElem?_toArray,List.getElem?_cons_succ,List.getElem?_cons_zero,Region.wanted,if_true,Option.isNone_none]
   left
   unfold Oper.wp
   simp only [V',resolve,invoke,Sem.run_bind,Sem.run_pure,Result.andThen_ok,List.map_toArray,S_,List.map_nil,v35,v37]
   refine (sY.mono ?_)
   rintro e w5 ⟨rfl,rfl⟩
   exact aA.out x _ (fun _ _=>rfl) ⟨fun _=>by rw [e3,e5];exact ⟨d3,d5⟩,by rw [qi];exact fun h=>(by cases h),fun _=>rfl⟩
  ·have d6:=dq aD 6
   obtain ⟨v38,XX⟩:=bc.vv (.bool bb) 38 6 d6
   exact IZ (.bool (!bb))
 ·intro D x w hd hw
  have hww:=hw.b (hd 6 (by decide))
  have:=hQ w (.slice (some ⟨eb,0,none⟩) n ec) (.int .i64 (k:Nat)) (.pointer (some ⟨eb,k * 3,none⟩)) (.agg #[.string r.kind,.int .i64 r.who,.int .i64 r.word]) (.pointer (some ⟨b2,1,none⟩)) (.int .i64 O) (.bool bb) (by rw [hww];exact sD.out)
  generalize bc:slotsOf _ bs (Fz eb n ec k b2 r O bb ())=sl
  have eS:sl=#[z0,.slice (some ⟨eb,0,none⟩) n ec,.pointer (some ⟨b2,0,none⟩),z3,z4,z5,z6,.int .i64 (k:Nat),z8,z9,dB,cZ,z12,de,dn,dm,dk,dj,dA,dz,z20,z21,z22,z23,z24,z25,z26,dD,z28,dC,dM,z31,.slice (some ⟨eb,0,none⟩) n ec,.int .i64 (k:Nat),.pointer (some ⟨eb,k * 3,none⟩),.agg #[.string r.kind,.int .i64 r.who,.int .i64 r.word],.pointer (some ⟨b2,1,none⟩),.int .i64 O,.bool bb,.bool (!bb),z40,eu,eK,eJ,eI,eH,z46,eQ,eN,z49,en,z51,iu,z53,iF,iE,iD,iC,iB,z59,nv,nu,np,nk]:=by rw [<-bc,<-cn];kernel_rfl
  rw [eS]
  exact this
def Mz:Rm:=⟨[],[],[],0,[]⟩
def da (L O P:Int) (rs:List Raw):Bool:=dw L O P&&decide (rs.length<=60)&&rs.all (fun r=>bu r O)
def Bv (w:J') (L O P:Int) (rs:List Raw) (e:Ending) (w':J'):Prop:=
 ∃(m:Rm) (vr vw vb vl:M'),e=.returned (.tuple #[jD L O P m.clock vr vw vb vl,.bool (da L O P rs)])/\bA w.heap.size m vr vw vb w'/\g_ w.heap.size w w'/\(∃a n c,vl=.slice a n c)/\
  (da L O P rs=false->m=Mz)/\(da L O P rs=true->∀evs,rs=evs.map Ev.raw->m=ja L.toNat P evs)
variable {evs:List Ev}
theorem G7 (hk:k<evs.length):ja nl P (evs.take (k+1))=Ca nl P (ja nl P (evs.take k)) evs[k]:=by
 unfold ja;rw [sC hk,List.foldl_append];rfl
theorem MJ {a b:Ev} (h:a.raw=b.raw):a=b:=by
 cases a<;>cases b<;>simp [Ev.raw,Ev.kind,Ev.who,Ev.word] at h ⊢<;>first|exact h|omega
theorem rQ {a b:List Ev} (h:a.map Ev.raw=b.map Ev.raw):a=b:=(List.map_inj_right fun _ _=>MJ).1 h
theorem Cj (he:∀e∈evs,Ev.good no e) (hn:evs.length<=60) (rp:nl<=100) (hno:no<=999) (k:Nat):Xf nl (ja nl P (evs.take k)):=by
 have hl:(evs.take k).length<=60:=by rw [Q_];omega
 exact okM (Ag (nl:=nl) (no:=no) (ls:=List.range nl) (us:=List.replicate no ⟨0,0,0⟩) (P:=P) (evs:=evs.take k) List.nodup_range List.length_range List.length_replicate (fun u hu=>by rw [List.eq_of_mem_replicate hu]) (fun e h=>he e (List.mem_of_mem_take h)) hl (by omega) hno).2 hl rp
theorem kJ {e sz:Nat} (hB:B<=w.heap.size) (hm:0<=maxLen):(w.alloc (.cells #[] e)).ownsRow B e sz (.slice (some ⟨w.heap.size,0,none⟩) 0 0) 0 []:=World.ownsRow_lit w #[] 0 hB (by decide) (by simp)
variable {w':J'} {j:Nat}
theorem iW {n:Nat} {b:Nat} {v:M'} (h:g_ n w w') (hb:n<=b):g_ n w (w'.setCell ⟨b,j,none⟩ v):=
 ⟨h.os,h.tape,h.output,by rw [o_];exact h.size,fun g hg=>(a_ w' ⟨b,j,none⟩ g v (show g≠b by omega)).trans (h.block g hg)⟩
theorem rB {n:Nat} {b:Nat} {v0 v1 v2 v3 v4 v5 v6 v7:M'} (h:g_ n w w') (hb:n<=b):g_ n w (Of.b8 w' b v0 v1 v2 v3 v4 v5 v6 v7):=by
 unfold Of.b8
 exact iW (iW (iW (iW (iW (iW (iW (iW h hb) hb) hb) hb) hb) hb) hb) hb
theorem D8 {n B:Nat} {w5:J'} (h:g_ n w w') (k:bg vr vb w' w5) (h1:∀g,vr.ownBlock=some g->n<=g) (h2:∀g,vb.ownBlock=some g->n<=g) (hn:n<=w'.heap.size):g_ n w w5:=
 ⟨k.os.trans h.os,k.tape.trans h.tape,k.output.trans h.output,D_ h.size k.size,fun g hg=>(k.block g (by omega) (fun e=>by have:=h1 g e;omega) (fun e=>by have:=h2 g e;omega)).trans (h.block g hg)⟩
variable {fn:Func} {w0:J'} {rs:List Raw} {b4:Nat}
theorem Bi {vw:M'} {tm:Array M'} (R:bA w0.heap.size m vr vw vb w) (hF:g_ w0.heap.size w0 w) (hb:w.heap[b4]?=some (.cells ia 63 (0,0))) (l4:w0.heap.size<=b4) (mP:∃a n c,vl=.slice a n c)
 (EJ:fn.results=#[.cell 4 63,.tmp 5]) (h4:tm.getD 4 I'=.pointer (some ⟨b4,0,none⟩)) (h5:tm.getD 5 I'=.bool (da L O P rs)) (k1:da L O P rs=false->m=Mz) (k2:da L O P rs=true->∀evs,rs=evs.map Ev.raw->m=ja L.toNat P evs):
 bodyPost p_ fn (Bv w0 L O P rs) .ret ⟨tm,[]⟩ (Of.b8 w b4 (.int .i64 L) (.int .i64 O) (.int .i64 P) (.int .i64 m.clock) vr vw vb vl):=by
 have q4:vr.ownBlock≠some b4:=bB R.recs hb (by decide)
 have q5:vw.ownBlock≠some b4:=bB R.wait hb (by decide)
 have q6:vb.ownBlock≠some b4:=bB R.back hb (by decide)
 have hR:=R.b8 (v0:=.int .i64 L) (v1:=.int .i64 O) (v2:=.int .i64 P) (v3:=.int .i64 m.clock) (v4:=vr) (v5:=vw) (v6:=vb) (v7:=vl) q4 q5 q6
 have hF2:=rB (v0:=.int .i64 L) (v1:=.int .i64 O) (v2:=.int .i64 P) (v3:=.int .i64 m.clock) (v4:=vr) (v5:=vw) (v6:=vb) (v7:=vl) hF l4
 obtain ⟨⟨s0,s1,s2,s3,s4,s5,s6,s7⟩,_⟩:=aG (lB (show w.heap[b4]?=some (jY #[.int .i64 0,.int .i64 0,.int .i64 0,.int .i64 0,.slice none 0 0,.slice none 0 0,.slice none 0 0,.slice none 0 0] 63 (0,0)) from hb) (.int .i64 L) (.int .i64 O) (.int .i64 P) (.int .i64 m.clock) vr vw vb vl)
 generalize Of.b8 w b4 (.int .i64 L) (.int .i64 O) (.int .i64 P) (.int .i64 m.clock) vr vw vb vl=W at *
 have VC:tm[4]?.getD I'=.pointer (some ⟨b4,0,none⟩):=by rw [<-r_];exact h4
 have VB:tm[5]?.getD I'=.bool (da L O P rs):=by rw [<-r_];exact h5
 refine bodyPost_ret (v:=.tuple #[jD L O P m.clock vr vw vb vl,.bool (da L O P rs)]) (by simp [results,EJ,go_sem,jD,VC,VB,s0,s1,s2,s3,s4,s5,s6,s7]) rfl ?_
 exact ⟨m,vr,vw,vb,vl,rfl,hR,hF2,mP,k1,k2⟩
structure rD (w:J') (L O P:Int) (b6:Nat) (m:Rm) (vr vw vb vl:M') (kl:Nat) (wr:J'):Prop where
 room:bA w.heap.size m vr vw vb wr
 log:∃xs,wr.ownsRow w.heap.size 9 1 vl kl xs
 below:g_ w.heap.size w wr
 Ml:wr.heap[w.heap.size]?=some (.cells #[.int .i64 L,.int .i64 O,.int .i64 P] 28 (0,0))
 DK:wr.heap[w.heap.size+1]?=some (.cells ia 63 (0,0))
 Fh:wr.heap[b6]?=some (.cells (gi L O P m.clock vr vw vb vl) 63 (0,0))
 TN:w.heap.size+2<=b6
variable {wr wr' w5:J'} {b6 g5 kl:Nat} {m':Rm} {vw qb jA qS S0:M'}
theorem fw {g:Nat} {o:Obj} (h:w.heap[g]?=some o):g<w.heap.size:=(cI h)
theorem rD.step (h:rD w L O P b6 m vr vw vb vl kl wr) (hb:g_ wr.heap.size wr wr'):rD w L O P b6 m vr vw vb vl kl wr':=by
 obtain ⟨xs,hx⟩:=h.log
 exact ⟨h.room.below hb,⟨xs,fE hx fun g e=>hb.block g (hx.lt g e).2⟩,h.below.trans (hb.mono h.below.size),(hb.block _ (fw h.Ml)).trans h.Ml,(hb.block _ (fw h.DK)).trans h.DK,(hb.block _ (fw h.Fh)).trans h.Fh,h.TN⟩
theorem rD.took (h:rD w L O P b6 m vr vw vb vl kl wr) (p:GF wr w.heap.size vr vb m' qb jA qS w5) (hz:w5.heap[g5]?=some (.cells ia 63 (0,0))) (hg:wr.heap.size<=g5):
 ((Of.b8 w5 g5 (.int .i64 L) (.int .i64 O) (.int .i64 P) (.int .i64 m'.clock) qb jA qS vl).heap[g5]?=some (.cells (gi L O P m'.clock qb jA qS vl) 63 (0,0))/\
 (Of.b8 w5 g5 (.int .i64 L) (.int .i64 O) (.int .i64 P) (.int .i64 m'.clock) qb jA qS vl).heap[b6]?=some (.cells (gi L O P m.clock vr vw vb vl) 63 (0,0)))/\
 rD w L O P b6 m' qb jA qS vl kl (Of.b8 (Of.b8 w5 g5 (.int .i64 L) (.int .i64 O) (.int .i64 P) (.int .i64 m'.clock) qb jA qS vl) b6 (.int .i64 L) (.int .i64 O) (.int .i64 P) (.int .i64 m'.clock) qb jA qS vl):=by
 obtain ⟨xs,hx⟩:=h.log
 have l6:=fw h.Fh
 have l4:=fw h.DK
 have l2:=fw h.Ml
 have n6:b6≠g5:=by omega
 have v6:w5.heap[b6]?=some (.cells (gi L O P m.clock vr vw vb vl) 63 (0,0)):=(p.fr.block _ l6 (bB h.room.recs h.Fh (by decide)) (bB h.room.back h.Fh (by decide))).trans h.Fh
 have v4:w5.heap[w.heap.size+1]?=some (.cells ia 63 (0,0)):=(p.fr.block _ l4 (bB h.room.recs h.DK (by decide)) (bB h.room.back h.DK (by decide))).trans h.DK
 have v2:w5.heap[w.heap.size]?=some (.cells #[.int .i64 L,.int .i64 O,.int .i64 P] 28 (0,0)):=(p.fr.block _ l2 (bB h.room.recs h.Ml (by decide)) (bB h.room.back h.Ml (by decide))).trans h.Ml
 have x5:w5.ownsRow w.heap.size 9 1 vl kl xs:=fE hx fun g e=>p.fr.block g (hx.lt g e).2 (fun e2=>by
  obtain ⟨c1,z1⟩:=jF hx e
  obtain ⟨c2,z2⟩:=jF h.room.recs e2
  rw [z1] at z2;simp at z2) (fun e2=>by
  obtain ⟨c1,z1⟩:=jF hx e
  obtain ⟨c2,z2⟩:=jF h.room.back e2
  rw [z1] at z2;simp at z2)
 have a6:=fw v6
 refine ⟨⟨?_, ?_⟩, ?_⟩
 ·exact lB (show w5.heap[g5]?=some (jY #[.int .i64 0,.int .i64 0,.int .i64 0,.int .i64 0,.slice none 0 0,.slice none 0 0,.slice none 0 0,.slice none 0 0] 63 (0,0)) from hz) _ _ _ _ _ _ _ _
 ·exact (kN n6).trans v6
 ·have R1:=p.room.b8 (v0:=.int .i64 L) (v1:=.int .i64 O) (v2:=.int .i64 P) (v3:=.int .i64 m'.clock) (v4:=qb) (v5:=jA) (v6:=qS) (v7:=vl) (bB p.room.recs hz (by decide)) (bB p.room.wait hz (by decide)) (bB p.room.back hz (by decide))
  have R2:=R1.b8 (v0:=.int .i64 L) (v1:=.int .i64 O) (v2:=.int .i64 P) (v3:=.int .i64 m'.clock) (v4:=qb) (v5:=jA) (v6:=qS) (v7:=vl) (bB p.room.recs v6 (by decide)) (bB p.room.wait v6 (by decide)) (bB p.room.back v6 (by decide))
  have hne:∀g,g≠b6->g≠g5->(Of.b8 (Of.b8 w5 g5 (.int .i64 L) (.int .i64 O) (.int .i64 P) (.int .i64 m'.clock) qb jA qS vl) b6 (.int .i64 L) (.int .i64 O) (.int .i64 P) (.int .i64 m'.clock) qb jA qS vl).heap[g]?=w5.heap[g]?:=fun g h1 h2=>(kN h1).trans (kN h2)
  have mR:=h.TN
  have q6:vl.ownBlock≠some b6:=bB hx h.Fh (by decide)
  have q5:vl.ownBlock≠some g5:=bB x5 hz (by decide)
  refine ⟨R2,⟨xs,fE x5 fun g e=>hne g (fun e2=>q6 (e2▸e)) (fun e2=>q5 (e2▸e))⟩, ?_,(hne _ (by omega) (by omega)).trans v2,(hne _ (by omega) (by omega)).trans v4, ?_,h.TN⟩
  ·exact rB (rB (D8 (B:=0) h.below p.fr (fun g e=>(h.room.recs.lt g e).1) (fun g e=>(h.room.back.lt g e).1) h.below.size) (D_ h.below.size hg)) (by omega)
  ·exact lB (show (Of.b8 w5 g5 (.int .i64 L) (.int .i64 O) (.int .i64 P) (.int .i64 m'.clock) qb jA qS vl).heap[b6]?=some (jY #[_,_,_,_,_,_,_,_] 63 (0,0)) from (kN n6).trans v6) _ _ _ _ _ _ _ _
theorem Jg (v:M'):(gi L O P ck vr vw vb vl).setIfInBounds 7 v=gi L O P ck vr vw vb v:=rfl
theorem rD.YA (h:rD w L O P b6 m vr vw vb vl kl wr) {o:Obj} (lH:(wr.alloc o).grownBy wr' vl.ownBlock) {Sk:List M'} {k':Nat} (iw:wr'.ownsRow w.heap.size 9 1 S0 k' Sk) (h1:m'.recs=m.recs) (h2:m'.wait=m.wait) (h3:m'.back=m.back) (h4:m'.clock=m.clock):
 rD w L O P b6 m' vr vw vb S0 k' (wr'.setCell ⟨b6,7,none⟩ S0)/\wr'.heap[b6]?=some (.cells (gi L O P m.clock vr vw vb vl) 63 (0,0)):=by
 have H:=h.step ((h_ _ _).alloc (C_ _) o)
 obtain ⟨xs,hx⟩:=H.log
 have z6:=(lH.block _ (fw H.Fh) (fun e=>bB hx H.Fh (by decide) e.symm)).trans H.Fh
 have z4:=(lH.block _ (fw H.DK) (fun e=>bB hx H.DK (by decide) e.symm)).trans H.DK
 have z2:=(lH.block _ (fw H.Ml) (fun e=>bB hx H.Ml (by decide) e.symm)).trans H.Ml
 have RA:bA w.heap.size m vr vw vb wr':=⟨D_ H.room.big lH.size,H.room.recs.kept lH (gF H.room.recs hx (by decide)),H.room.wait.kept lH (gF H.room.wait hx (by decide)),H.room.back.kept lH (gF H.room.back hx (by decide)),H.room.apart,H.room.iQ⟩
 have hB:=H.below.grown lH H.below.size fun g e=>(hx.lt g e).1
 have q6:S0.ownBlock≠some b6:=bB iw z6 (by decide)
 have hl:=h.TN
 refine ⟨⟨(RA.cell (bB RA.recs z6 (by decide)) (bB RA.wait z6 (by decide)) (bB RA.back z6 (by decide))).same h1 h2 h3,⟨Sk,fE iw fun g e=>a_ wr' ⟨b6,7,none⟩ g _ (fun e2=>q6 (by rw [e,show g=b6 from e2]))⟩, ?_, ?_, ?_, ?_,h.TN⟩,z6⟩
 ·exact ⟨hB.os,hB.tape,hB.output,by rw [o_];exact hB.size,fun g hg=>(a_ wr' ⟨b6,7,none⟩ g _ (show g≠b6 by omega)).trans (hB.block g hg)⟩
 ·exact (a_ wr' ⟨b6,7,none⟩ _ _ (show w.heap.size≠b6 by omega)).trans z2
 ·exact (a_ wr' ⟨b6,7,none⟩ _ _ (show w.heap.size+1≠b6 by omega)).trans z4
 ·have:=Go.heap_setCell_same wr' b6 7 _ 63 S0 z6
  rw [Jg] at this
  rw [h4];exact this
variable {ea:Option z_}
theorem fF.below (h:fF w ea rs) (hb:g_ w.heap.size w wr):fF wr ea rs:=by
 rcases h with h|⟨eb,cs,t,f,h1,h2,h3⟩
 ·exact .inl h
 ·exact .inr ⟨eb,cs,t,f,h1,(hb.block eb (fw h2)).trans h2,h3⟩
theorem Hx (bR:fF w ea rs) (hlen:rs.length<=1048576):
 d_ p_ 42 #[.agg #[.int .i64 L,.int .i64 O,.int .i64 P],.slice ea rs.length ec] w (Bv w L O P rs):=by
 obtain ⟨wa,Sr⟩:∃wa,(w.alloc (.cells #[.int .i64 L,.int .i64 O,.int .i64 P] 28)).alloc (.cells ia 63)=wa:=⟨_,rfl⟩
 have YV:f_ (wa.heap.size=w.heap.size+2):=by rw [f_,<-Sr,B_,B_]
 have Ri:g_ w.heap.size w wa:=by rw [<-Sr];exact ((h_ _ _).alloc (C_ _) _).alloc (by rw [B_];omega) _
 have VA:wa.heap[w.heap.size]?=some (.cells #[.int .i64 L,.int .i64 O,.int .i64 P] 28 (0,0)):=by rw [<-Sr];exact br (Z' w _)
 have hA4:wa.heap[w.heap.size+1]?=some (.cells ia 63 (0,0)):=by
  have:=Z' (w.alloc (.cells #[.int .i64 L,.int .i64 O,.int .i64 P] 28)) (.cells ia 63)
  rw [B_,Sr] at this
  exact this
 have hle:w.heap.size<=wa.heap.size:=Ri.size
 obtain ⟨wb,yc⟩:∃wb,((((wa.alloc (.cells #[] 44)).alloc (.cells #[] 114)).alloc (.cells #[] 114)).alloc (.cells #[] 9)).alloc (.cells (gi L O P 0 (.slice (some ⟨wa.heap.size,0,none⟩) 0 0) (.slice (some ⟨wa.heap.size+1,0,none⟩) 0 0) (.slice (some ⟨wa.heap.size+1+1,0,none⟩) 0 0) (.slice (some ⟨wa.heap.size+1+1+1,0,none⟩) 0 0)) 63)=wb:=⟨_,rfl⟩
 have t1:=kJ (w:=wa) (e:=44) (sz:=7) hle (by decide)
 have t2:=kJ (w:=wa.alloc (.cells #[] 44)) (B:=w.heap.size) (e:=114) (sz:=2) (by rw [B_];omega) (by decide)
 have t3:=kJ (w:=(wa.alloc (.cells #[] 44)).alloc (.cells #[] 114)) (B:=w.heap.size) (e:=114) (sz:=2) (by rw [B_,B_];omega) (by decide)
 have t4:=kJ (w:=((wa.alloc (.cells #[] 44)).alloc (.cells #[] 114)).alloc (.cells #[] 114)) (B:=w.heap.size) (e:=9) (sz:=1) (by rw [B_,B_,B_];omega) (by decide)
 rw [B_] at t2
 rw [B_,B_] at t3
 rw [B_,B_,B_] at t4
 have hR:f_ (bA w.heap.size Mz (.slice (some ⟨wa.heap.size,0,none⟩) 0 0) (.slice (some ⟨wa.heap.size+1,0,none⟩) 0 0) (.slice (some ⟨wa.heap.size+1+1,0,none⟩) 0 0) wb):=by
  rw [<-yc]
  refine ⟨by rw [B_,B_,B_,B_,B_];omega,(((t1.alloc _).alloc _).alloc _).alloc _,((t2.alloc _).alloc _).alloc _,(t3.alloc _).alloc _,fun g e1 e2=> ?_,⟨_,rfl⟩⟩
  have h1:wa.heap.size+1=g:=M_ e1
  have h2:wa.heap.size+1+1=g:=M_ e2
  omega
 have Uz:f_ (wb.ownsRow w.heap.size 9 1 (.slice (some ⟨wa.heap.size+1+1+1,0,none⟩) 0 0) 0 []):=by rw [f_,<-yc];exact t4.alloc _
 have uf:f_ (g_ w.heap.size w wb):=by
  rw [f_,<-yc]
  exact ((((Ri.alloc hle _).alloc (by rw [B_];omega) _).alloc (by rw [B_,B_];omega) _).alloc (by rw [B_,B_,B_];omega) _).alloc (by rw [B_,B_,B_,B_];omega) _
 have jx:f_ (wb.heap[w.heap.size]?=some (.cells #[.int .i64 L,.int .i64 O,.int .i64 P] 28 (0,0))):=by rw [f_,<-yc];exact br (br (br (br (br VA))))
 have sH:f_ (wb.heap[w.heap.size+1]?=some (.cells ia 63 (0,0))):=by rw [f_,<-yc];exact br (br (br (br (br hA4))))
 have SJ:f_ (wb.heap[wa.heap.size+1+1+1+1]?=some (.cells (gi L O P 0 (.slice (some ⟨wa.heap.size,0,none⟩) 0 0) (.slice (some ⟨wa.heap.size+1,0,none⟩) 0 0) (.slice (some ⟨wa.heap.size+1+1,0,none⟩) 0 0) (.slice (some ⟨wa.heap.size+1+1+1,0,none⟩) 0 0)) 63 (0,0))):=by
  have:=Z' ((((wa.alloc (.cells #[] 44)).alloc (.cells #[] 114)).alloc (.cells #[] 114)).alloc (.cells #[] 9)) (.cells (gi L O P 0 (.slice (some ⟨wa.heap.size,0,none⟩) 0 0) (.slice (some ⟨wa.heap.size+1,0,none⟩) 0 0) (.slice (some ⟨wa.heap.size+1+1,0,none⟩) 0 0) (.slice (some ⟨wa.heap.size+1+1+1,0,none⟩) 0 0)) 63)
  rw [B_,B_,B_,B_,yc] at this
  exact this
 have g0:wa.cell? ⟨w.heap.size,0,none⟩=some (.int .i64 L):=cV VA
 have g1:wa.cell? ⟨w.heap.size,1,none⟩=some (.int .i64 O):=cV VA
 have g2:wa.cell? ⟨w.heap.size,2,none⟩=some (.int .i64 P):=cV VA
 have k0:wb.cell? ⟨w.heap.size,0,none⟩=some (.int .i64 L):=cV jx.out
 have k1:wb.cell? ⟨w.heap.size,1,none⟩=some (.int .i64 O):=cV jx.out
 have k2:wb.cell? ⟨w.heap.size,2,none⟩=some (.int .i64 P):=cV jx.out
 have AX:=aa (wL wb L O P)
 clear t1 t2 t3 t4 Ri VA hA4
 replace hle:=aa hle
 unfold ia at Sr
 unfold gi at yc
 have OH:=aa bR
 clear bR
 obtain ⟨Po,EW⟩:∃Po:Ending->J'->Prop,f_ (Po=Bv w L O P rs):=⟨_,rfl⟩
 refine Calls.mono (R:=Po) ?_ (fun e w' h=>by rw [EW.out] at h;exact h)
 go_enter func42,ntmps42
 go_wp2_with fail
 refine AX.out.mono ?_
 rintro e wc ⟨rfl,Wl⟩
 have I0:f_ (rD w L O P (wa.heap.size+1+1+1+1) Mz (.slice (some ⟨wa.heap.size,0,none⟩) 0 0) (.slice (some ⟨wa.heap.size+1,0,none⟩) 0 0) (.slice (some ⟨wa.heap.size+1+1,0,none⟩) 0 0) (.slice (some ⟨wa.heap.size+1+1+1,0,none⟩) 0 0) 0 wc):=by
  have h:rD w L O P (wa.heap.size+1+1+1+1) Mz (.slice (some ⟨wa.heap.size,0,none⟩) 0 0) (.slice (some ⟨wa.heap.size+1,0,none⟩) 0 0) (.slice (some ⟨wa.heap.size+1+1,0,none⟩) 0 0) (.slice (some ⟨wa.heap.size+1+1+1,0,none⟩) 0 0) 0 wb:=⟨hR.out,⟨[],Uz.out⟩,uf.out,jx.out,sH.out,SJ.out,by rw [YV.out];omega⟩
  rw [Wl]
  exact h.step ((h_ _ _).alloc (C_ _) _)
 clear Wl Sr yc hR Uz uf jx sH SJ g0 g1 g2 k0 k1 k2 AX
 obtain ⟨⟨e0,e1,e2,e3,e4,e5,e6,e7⟩,_⟩:=aG (show wc.heap[wa.heap.size+1+1+1+1]?=some (jY #[.int .i64 L,.int .i64 O,.int .i64 P,.int .i64 0,(.slice (some ⟨wa.heap.size,0,none⟩) 0 0),(.slice (some ⟨wa.heap.size+1,0,none⟩) 0 0),(.slice (some ⟨wa.heap.size+1+1,0,none⟩) 0 0),(.slice (some ⟨wa.heap.size+1+1+1,0,none⟩) 0 0)] 63 (0,0)) from I0.out.Fh)
 obtain ⟨⟨x0,x1,x2,x3,x4,x5,x6,x7⟩,y0,y1,y2,y3,y4,y5,y6,y7⟩:=aG (show wc.heap[w.heap.size+1]?=some (jY #[.int .i64 0,.int .i64 0,.int .i64 0,.int .i64 0,.slice none 0 0,.slice none 0 0,.slice none 0 0,.slice none 0 0] 63 (0,0)) from I0.out.DK)
 cases kE:dw L O P with
 |false=>
  have eU:f_ (da L O P rs=false):=by rw [f_];unfold da;rw [kE];rfl
  go_wp2_with fail
  change bodyPost p_ f42 _ .ret _ (Of.b8 _ (w.heap.size+1) (.int .i64 L) (.int .i64 O) (.int .i64 P) (.int .i64 0) (.slice (some ⟨wa.heap.size,0,none⟩) 0 0) (.slice (some ⟨wa.heap.size+1,0,none⟩) 0 0) (.slice (some ⟨wa.heap.size+1+1,0,none⟩) 0 0) (.slice (some ⟨wa.heap.size+1+1+1,0,none⟩) 0 0))
  rw [EW.out]
  exact Bi (m:=Mz) I0.out.room I0.out.below I0.out.DK (Nat.le_succ _) ⟨_,_,_,rfl⟩ rfl rfl (by rw [eU.out];rfl) (fun _=>rfl) (fun h=>by rw [eU.out] at h;cases h)
 |true=>
  by_cases OZ:rs.length<=60
  ·have RF:¬(60:Int)<(rs.length:Int):=by omega
   have Um:=aa kE
   obtain ⟨⟨Gd,Uo⟩,QK,ho4⟩:(1<=L/\L<=6)/\1<=O/\O<=4:=by
    simp only [dw,T_,decide_eq_true_eq] at kE
    omega
   clear kE
   go_wp2_with fail
   clear e0 e1 e2 e3 e4 e5 e6 e7 x0 x1 x2 x3 x4 x5 x6 x7 y0 y1 y2 y3 y4 y5 y6 y7
   go_loopw [7] (fun i wr=>∃k:Nat,k<=rs.length/\i=.int .i64 k/\f_ (∀j (hj:j<rs.length),j<k->bu rs[j] O=true)/\f_ (rD w L O P (wa.heap.size+1+1+1+1) Mz (.slice (some ⟨wa.heap.size,0,none⟩) 0 0) (.slice (some ⟨wa.heap.size+1,0,none⟩) 0 0) (.slice (some ⟨wa.heap.size+1+1,0,none⟩) 0 0) (.slice (some ⟨wa.heap.size+1+1+1,0,none⟩) 0 0) 0 wr)) (fun i _=>rs.length - (intOf i).toNat)
   case atStart=>exact ⟨0,nz _,rfl,aa (fun j hj h0=>by omega),I0⟩
   case round=>
    clear I0
    obtain ⟨k,hk,rfl,hT,hI⟩:=hrel
    by_cases hlt:k<rs.length
    ·have gJ:(k:Int)<(rs.length:Int):=by omega
     obtain ⟨eb,WY,et,ef,rfl,M4,hcs⟩:=(OH.out.below hI.out.below).resolve_left (fun e=>by rw [e] at hlt;simp at hlt)
     obtain ⟨d1,d2,d3⟩:=hcs k hlt
     have j1:wr.cell? ⟨eb,k * 3,none⟩=some (.string (rs[k]).kind):=(cV M4).trans d1
     have j2:wr.cell? ⟨eb,k * 3+1,none⟩=some (.int .i64 (rs[k]).who):=(cV M4).trans d2
     have j3:wr.cell? ⟨eb,k * 3+2,none⟩=some (.int .i64 (rs[k]).word):=(cV M4).trans d3
     have j4:wr.cell? ⟨w.heap.size,1,none⟩=some (.int .i64 O):=cV hI.out.Ml
     clear d1 d2 d3 hcs M4
     have oF:f_ (bu rs[k] O=false->da L O P rs=false):=fun hv=>by
      unfold da
      rw [List.all_eq_false.2 ⟨rs[k],List.getElem_mem hlt,by rw [hv];simp⟩,Bool.and_false]
     have hgo:f_ (bu rs[k] O=true->∀j (hj:j<rs.length),j<k+1->bu rs[j] O=true):=fun hv j hj hjk=>if e:j=k then by subst e;exact hv else hT.out j hj (by omega)
     generalize rs[k]=r at *
     go_wp2_with fail
     refine P4 (r:=r) (bb:=bu r O) (b2:=w.heap.size) (eb:=eb) (k:=k) (n:=rs.length) (ec:=ec) j1 j2 j3 j4 hlt (by omega) (fun w'=>yj w' r O ⟨QK,ho4⟩) fun w5 Sn Sm q34 q35 TE TC Om qo=> ?_
     have I5:=aa (hI.out.step qo)
     clear j1 j2 j3 j4 qo hI hT
     obtain ⟨⟨e0,e1,e2,e3,e4,e5,e6,e7⟩,_⟩:=aG (show w5.heap[wa.heap.size+1+1+1+1]?=some (jY #[.int .i64 L,.int .i64 O,.int .i64 P,.int .i64 0,(.slice (some ⟨wa.heap.size,0,none⟩) 0 0),(.slice (some ⟨wa.heap.size+1,0,none⟩) 0 0),(.slice (some ⟨wa.heap.size+1+1,0,none⟩) 0 0),(.slice (some ⟨wa.heap.size+1+1+1,0,none⟩) 0 0)] 63 (0,0)) from I5.out.Fh)
     obtain ⟨⟨x0,x1,x2,x3,x4,x5,x6,x7⟩,y0,y1,y2,y3,y4,y5,y6,y7⟩:=aG (show w5.heap[w.heap.size+1]?=some (jY #[.int .i64 0,.int .i64 0,.int .i64 0,.int .i64 0,.slice none 0 0,.slice none 0 0,.slice none 0 0,.slice none 0 0] 63 (0,0)) from I5.out.DK)
     cases hv:bu r O with
     |true=>
      have hgo:=aa (hgo.out hv)
      clear oF hv
      go_wp2_with fail
      go_roundw
      case rel=>exact ⟨k+1,by omega,by go_num,hgo,I5⟩
      case measure=>simp [intOf];omega
     |false=>
      have eU:f_ (da L O P rs=false):=oF.out hv
      clear hgo oF hv
      go_wp2_with fail
      change bodyPost p_ f42 _ .ret _ (Of.b8 _ (w.heap.size+1) (.int .i64 L) (.int .i64 O) (.int .i64 P) (.int .i64 0) (.slice (some ⟨wa.heap.size,0,none⟩) 0 0) (.slice (some ⟨wa.heap.size+1,0,none⟩) 0 0) (.slice (some ⟨wa.heap.size+1+1,0,none⟩) 0 0) (.slice (some ⟨wa.heap.size+1+1+1,0,none⟩) 0 0))
      rw [EW.out]
      exact Bi (m:=Mz) I5.out.room I5.out.below I5.out.DK (Nat.le_succ _) ⟨_,_,_,rfl⟩ rfl rfl (by rw [eU.out];rfl) (fun _=>rfl) (fun h=>by rw [eU.out] at h;cases h)
    ·have yK:k=rs.length:=by omega
     subst yK
     have KL:rs.all (fun r=>bu r O)=true:=by
      rw [List.all_eq_true]
      intro x hx
      obtain ⟨j,hj,rfl⟩:=List.getElem_of_mem hx
      exact hT.out j hj hj
     have eU:f_ (da L O P rs=true):=by
      rw [f_];unfold da;rw [Um.out,KL,decide_eq_true OZ];rfl
     obtain ⟨evs,EP,J9⟩:=s8 KL
     clear hT
     go_wp2_with fail
     obtain ⟨nl,rfl⟩:∃nl:Nat,L=(nl:Int):=⟨L.toNat,by omega⟩
     have Nv:evs.length=rs.length:=by rw [EP,List.length_map]
     have Y4:=aa (Cj (nl:=nl) (no:=O.toNat) (P:=P) J9 (by omega) (by omega) (by omega))
     have hI0:f_ (∃vr vw vb vl,rD w (nl:Nat) O P (wa.heap.size+1+1+1+1) (ja nl P (evs.take 0)) vr vw vb vl 0 wr):=⟨_,_,_,_,hI.out⟩
     have Q2:=aa J9
     have Q7:=aa EP
     replace Nv:=aa Nv
     clear hI J9 EP KL Um
     go_loopw [8] (fun i w2=>∃k:Nat,k<=rs.length/\i=.int .i64 k/\f_ (∃vr vw vb vl,rD w (nl:Nat) O P (wa.heap.size+1+1+1+1) (ja nl P (evs.take k)) vr vw vb vl k w2)) (fun i _=>rs.length - (intOf i).toNat)
     case atStart=>exact ⟨0,nz _,rfl,hI0⟩
     case round=>
      clear hI0
      obtain ⟨k,hk,rfl,hJ⟩:=hrel
      by_cases hlt:k<rs.length
      ·have gJ:(k:Int)<(rs.length:Int):=by omega
       obtain ⟨vr,vw,vb,vl,I⟩:=hJ.out
       have cK:=Y4.out k
       have Wz:k<evs.length:=by rw [Nv.out];exact hlt
       have OL:=aa (G7 (nl:=nl) (P:=P) Wz)
       have vI:=Q2.out _ (List.getElem_mem Wz)
       have QF:rs[k]=(evs[k]).raw:=by
        have h1:rs[k]?=some (evs[k]).raw:=by rw [Q7.out,List.getElem?_map,G_ Wz];rfl
        exact M_ ((G_ hlt).symm.trans h1)
       obtain ⟨eb,WY,et,ef,rfl,M4,hcs⟩:=(OH.out.below I.below).resolve_left (fun e=>by rw [e] at hlt;simp at hlt)
       obtain ⟨d1,d2,d3⟩:=hcs k hlt
       rw [QF] at d1 d2 d3
       have j1:wr.cell? ⟨eb,k * 3,none⟩=some (.string (evs[k]).raw.kind):=(cV M4).trans d1
       have j2:wr.cell? ⟨eb,k * 3+1,none⟩=some (.int .i64 (evs[k]).raw.who):=(cV M4).trans d2
       have j3:wr.cell? ⟨eb,k * 3+2,none⟩=some (.int .i64 (evs[k]).raw.word):=(cV M4).trans d3
       clear d1 d2 d3 hcs M4 QF hJ
       generalize ja nl P (evs.take k)=M at *
       generalize evs[k]=e at *
       obtain ⟨q,hq⟩:∃q,qy nl P M e=q:=⟨_,rfl⟩
       obtain ⟨ar,cr,ql⟩:=aE I.room.recs
       subst ql
       obtain ⟨aw,cw,qG⟩:=aE I.room.wait
       subst qG
       obtain ⟨ab,cb,oK⟩:=aE I.room.back
       subst oK
       obtain ⟨xs,hx⟩:=I.log
       obtain ⟨al,cl,mP⟩:=aE hx
       subst mP
       clear hx xs
       have jX:f_ (∀w',bA w.heap.size M (.slice ar M.recs.length cr) (.slice aw M.wait.length cw) (.slice ab M.back.length cb) w'->d_ p_ 64 #[.agg #[.int .i64 (nl:Nat),.int .i64 O,.int .i64 P,.int .i64 M.clock,.slice ar M.recs.length cr,.slice aw M.wait.length cw,.slice ab M.back.length cb,.slice al k cl],.agg #[.string e.raw.kind,.int .i64 e.raw.who,.int .i64 e.raw.word]] w' (Done w' (.slice ar M.recs.length cr) (.slice ab M.back.length cb) w.heap.size q.1 (nl:Nat) O P (.slice al k cl) q.2)):=fun w' R'=>by rw [<-hq];exact Ex R' cK ⟨_,_,_,rfl⟩ e vI
       have hst:f_ (ja nl P (evs.take (k+1))={q.1 with log:=q.1.log++[q.2]}):=by rw [f_,OL.out,<-hq];rfl
       have hI:=aa I
       clear I cK vI hq OL Wz
       go_wp2_with fail
       refine Tj (m:=M) (q:=q) (r:=e.raw) (b6:=wa.heap.size+1+1+1+1) (eb:=eb) (n:=rs.length) (ec:=ec) (k:=k) hI.out.room hI.out.Fh j1 j2 j3 hlt (by omega) jX.out fun w5 DN DL DT DI DG DJ g5 Oj Oi Oh Ju Jt Js Ol Jr Jq PQ hz hg=> ?_
       obtain ⟨⟨τ,KF⟩,I7⟩:=hI.out.took PQ hz hg
       clear PQ hz hg jX j1 j2 j3 hI
       generalize Of.b8 w5 g5 (.int .i64 (nl:Nat)) (.int .i64 O) (.int .i64 P) (.int .i64 q.1.clock) (.slice DN q.1.recs.length DI) (.slice DL q.1.wait.length DG) (.slice DT q.1.back.length DJ) (.slice al k cl)=w6 at *
       obtain ⟨⟨c0,c1,c2,c3,c4,c5,c6,c7⟩,_⟩:=aG τ
       obtain ⟨⟨d0,d1,d2,d3,d4,d5,d6,d7⟩,f0,f1,f2,f3,f4,f5,f6,f7⟩:=aG KF
       obtain ⟨w7,Ss⟩:∃w7,Of.b8 w6 (wa.heap.size+1+1+1+1) (.int .i64 (nl:Nat)) (.int .i64 O) (.int .i64 P) (.int .i64 q.1.clock) (.slice DN q.1.recs.length DI) (.slice DL q.1.wait.length DG) (.slice DT q.1.back.length DJ) (.slice al k cl)=w7:=⟨_,rfl⟩
       rw [Ss] at I7
       unfold Of.b8 at Ss
       obtain ⟨⟨a0,a1,a2,a3,a4,a5,a6,a7⟩,_⟩:=aG I7.Fh
       obtain ⟨xs7,TT⟩:=I7.log
       have TT:=aa TT
       have hI7:=aa I7
       have ub:=aa I7.below.size
       clear I7 τ KF
       obtain ⟨i0,qJ,tX,rm,uF⟩:=info_parts Oy
       go_wp2_with (at_builtin;refine wpList_append_lies _ rfl (.tmp 58) (.tmp 60) 51 rfl w.heap.size 9 i0 _ 1 16 Tryz.underlying51 qJ tX rm uF rfl (by decide) _ _ _ rfl (TT.out.alloc _) ⟨w7.heap.size,0,none⟩ 1 1 [.string ⟨q.2.toArray⟩] rfl rfl (fY w7 _ _ rfl) ?c1 (by omega) ?c3 ?c4 ?c5 _ rfl ?_)
       case c1=>intro u hu;simp at hu;rcases hu with rfl;rfl
       case c3=>unfold maxLen;omega
       case c4=>omega
       case c5=>have:=ub.out;rw [B_];omega
       intro gg mW w9 CM UW ZO Zh
       obtain ⟨I9,vJ⟩:=hI7.out.YA (m':={q.1 with log:=q.1.log++[q.2]}) UW CM rfl rfl rfl rfl
       obtain ⟨⟨l0,l1,l2,l3,l4,l5,l6,l7⟩,m0,m1,m2,m3,m4,m5,m6,m7⟩:=aG vJ
       have hJ:f_ (∃vr vw vb vl,rD w (nl:Nat) O P (wa.heap.size+1+1+1+1) (ja nl P (evs.take (k+1))) vr vw vb vl (k+1) (w9.setCell ⟨wa.heap.size+1+1+1+1,7,none⟩ (.slice (some ⟨gg,0,none⟩) (k+1) mW))):=⟨_,_,_,_,by rw [hst.out];exact I9⟩
       clear I9 vJ CM UW ZO Zh TT hI7 ub a0 a1 a2 a3 a4 a5 a6 a7 c0 c1 c2 c3 c4 c5 c6 c7 d0 d1 d2 d3 d4 d5 d6 d7 f0 f1 f2 f3 f4 f5 f6 f7 Ss
       go_wp2_with fail
       go_roundw
       case rel=>exact ⟨k+1,by omega,by go_num,hJ⟩
       case measure=>simp [intOf];omega
      ·have yK:k=rs.length:=by omega
       obtain ⟨vr,vw,vb,vl,I⟩:=hJ.out
       rw [List.take_of_length_le (by rw [Nv.out];omega)] at I
       have A6:f_ (∀qw,rs=qw.map Ev.raw->ja nl P evs=ja (nl:Int).toNat P qw):=fun qw he=>by rw [rQ (Q7.out.symm.trans he),Int.toNat_natCast]
       clear hJ Q7
       generalize ja nl P evs=M at *
       obtain ⟨ar,cr,ql⟩:=aE I.room.recs
       subst ql
       obtain ⟨aw,cw,qG⟩:=aE I.room.wait
       subst qG
       obtain ⟨ab,cb,oK⟩:=aE I.room.back
       subst oK
       obtain ⟨xs,hx⟩:=I.log
       obtain ⟨al,cl,mP⟩:=aE hx
       subst mP
       clear hx xs
       obtain ⟨⟨e0,e1,e2,e3,e4,e5,e6,e7⟩,_⟩:=aG I.Fh
       obtain ⟨⟨x0,x1,x2,x3,x4,x5,x6,x7⟩,y0,y1,y2,y3,y4,y5,y6,y7⟩:=aG (show wr.heap[w.heap.size+1]?=some (jY #[.int .i64 0,.int .i64 0,.int .i64 0,.int .i64 0,.slice none 0 0,.slice none 0 0,.slice none 0 0,.slice none 0 0] 63 (0,0)) from I.DK)
       have hI:=aa I
       replace yK:=aa yK
       clear I
       go_wp2_with fail
       change bodyPost p_ f42 _ .ret _ (Of.b8 _ (w.heap.size+1) (.int .i64 (nl:Nat)) (.int .i64 O) (.int .i64 P) (.int .i64 M.clock) (.slice ar M.recs.length cr) (.slice aw M.wait.length cw) (.slice ab M.back.length cb) (.slice al k cl))
       rw [EW.out]
       exact Bi (m:=M) hI.out.room hI.out.below hI.out.DK (Nat.le_succ _) ⟨_,_,_,rfl⟩ rfl rfl (by rw [eU.out];rfl) (fun h=>by rw [eU.out] at h;cases h) (fun _=>A6.out)
  ·have RF:(60:Int)<(rs.length:Int):=by omega
   have eU:f_ (da L O P rs=false):=by rw [f_];unfold da;rw [decide_eq_false OZ,Bool.and_false];rfl
   clear OZ
   go_wp2_with fail
   change bodyPost p_ f42 _ .ret _ (Of.b8 _ (w.heap.size+1) (.int .i64 L) (.int .i64 O) (.int .i64 P) (.int .i64 0) (.slice (some ⟨wa.heap.size,0,none⟩) 0 0) (.slice (some ⟨wa.heap.size+1,0,none⟩) 0 0) (.slice (some ⟨wa.heap.size+1+1,0,none⟩) 0 0) (.slice (some ⟨wa.heap.size+1+1+1,0,none⟩) 0 0))
   rw [EW.out]
   exact Bi (m:=Mz) I0.out.room I0.out.below I0.out.DK (Nat.le_succ _) ⟨_,_,_,rfl⟩ rfl rfl (by rw [eU.out];rfl) (fun _=>rfl) (fun h=>by rw [eU.out] at h;cases h)
theorem pF (h:da L O P rs=true):∃evs:List Ev,rs=evs.map Ev.raw/\(∀e∈evs,e.good O.toNat)/\evs.length<=60/\(1<=L/\L<=6)/\(1<=O/\O<=4)/\(1<=P/\P<=60)/\Xf L.toNat (ja L.toNat P evs):=by
 unfold da at h
 rw [T_,T_] at h
 obtain ⟨⟨h1,h2⟩,h3⟩:=h
 simp only [dw,T_,decide_eq_true_eq] at h1 h2
 obtain ⟨evs,he,hg⟩:=s8 h3
 have hl:evs.length<=60:=by rw [he,List.length_map] at h2;exact h2
 have:=Cj (nl:=L.toNat) (no:=O.toNat) (P:=P) hg hl (by omega) (by omega) evs.length
 rw [List.take_length] at this
 exact ⟨evs,he,hg,hl,by omega,by omega,by omega,this⟩
def qa (L O P:Int) (rs:List Raw) (R:List Int):Prop:=(da L O P rs=false->R=[])/\(da L O P rs=true->∀evs,rs=evs.map Ev.raw->R=AD L.toNat (ja L.toNat P evs).recs)
def Xd (L O P:Int) (rs:List Raw) (R:List Int):Prop:=(da L O P rs=false->R=[])/\(da L O P rs=true->∀evs,rs=evs.map Ev.raw->R=(ja L.toNat P evs).wait.map (·.1))
def R9 (L O P:Int) (rs:List Raw) (R:List Rec):Prop:=(da L O P rs=false->R=[])/\(da L O P rs=true->∀evs,rs=evs.map Ev.raw->R=(ja L.toNat P evs).recs)
theorem Γ {α:Type} {f:List Ev->List α} {R R':List α} (h:(da L O P rs=false->R=[])/\(da L O P rs=true->∀evs,rs=evs.map Ev.raw->R=f evs)) (k:(da L O P rs=false->R'=[])/\(da L O P rs=true->∀evs,rs=evs.map Ev.raw->R'=f evs)):R'=R:=by
 cases ha:da L O P rs with
 |false=>rw [h.1 ha,k.1 ha]
 |true=>
  obtain ⟨evs,he,_⟩:=pF ha
  rw [h.2 ha evs he,k.2 ha evs he]
theorem aHx (w:J') (L O P:Int):∃w1,w.alloc (.cells #[.int .i64 L,.int .i64 O,.int .i64 P] 28)=w1/\f_ (g_ w.heap.size w w1)/\w1.heap[w.heap.size]?=some (.cells #[.int .i64 L,.int .i64 O,.int .i64 P] 28 (0,0)):=⟨_,rfl,(h_ _ _).alloc (C_ _) _,Z' w _⟩
theorem aHw {Y:Nat} {x y z:Int} (h:w.heap[Y]?=some (.cells #[.int .i64 x,.int .i64 y,.int .i64 z] 28 (0,0))):w.cell? ⟨Y,0,none⟩=some (.int .i64 x)/\w.cell? ⟨Y,1,none⟩=some (.int .i64 y)/\w.cell? ⟨Y,2,none⟩=some (.int .i64 z):=⟨cV h,cV h,cV h⟩
theorem aFb (DF:g_ w.heap.size w w1) (bR:fF w ea rs) (hlen:rs.length<=1048576):
 d_ p_ 42 #[.agg #[.int .i64 L,.int .i64 O,.int .i64 P],.slice ea rs.length ec] w1 fun e w2=>∃m ar cr aw cw ab cb al bM cl w3,e=.returned (.tuple #[.agg #[.int .i64 L,.int .i64 O,.int .i64 P,.int .i64 m.clock,.slice ar m.recs.length cr,.slice aw m.wait.length cw,.slice ab m.back.length cb,.slice al bM cl],.bool (da L O P rs)])/\w2.alloc (.cells #[.int .i64 L,.int .i64 O,.int .i64 P,.int .i64 m.clock,.slice ar m.recs.length cr,.slice aw m.wait.length cw,.slice ab m.back.length cb,.slice al bM cl] 63)=w3/\f_ (bA w1.heap.size m (.slice ar m.recs.length cr) (.slice aw m.wait.length cw) (.slice ab m.back.length cb) w3)/\f_ (g_ w.heap.size w w3)/\w3.heap[w2.heap.size]?=some (.cells #[.int .i64 L,.int .i64 O,.int .i64 P,.int .i64 m.clock,.slice ar m.recs.length cr,.slice aw m.wait.length cw,.slice ab m.back.length cb,.slice al bM cl] 63 (0,0))/\
  f_ (da L O P rs=false->m=Mz)/\f_ (da L O P rs=true->∀evs,rs=evs.map Ev.raw->m=ja L.toNat P evs):=by
 refine (Hx (L:=L) (O:=O) (P:=P) (ec:=ec) (bR.below DF) hlen).mono ?_
 rintro e w2 ⟨m,vr,vw,vb,vl,rfl,R,hB,⟨al,bM,cl,rfl⟩,TP,Sp⟩
 obtain ⟨ar,cr,rfl⟩:=aE R.recs
 obtain ⟨aw,cw,rfl⟩:=aE R.wait
 obtain ⟨ab,cb,rfl⟩:=aE R.back
 exact ⟨m,ar,cr,aw,cw,ab,cb,al,bM,cl,_,rfl,rfl,R.alloc _,(DF.trans (hB.mono DF.size)).alloc (D_ DF.size hB.size) _,Z' w2 _,TP,Sp⟩
theorem YD (bR:fF w ea rs) (hlen:rs.length<=1048576):
 d_ p_ 10 #[.agg #[.int .i64 L,.int .i64 O,.int .i64 P],.slice ea rs.length ec] w fun e w'=>∃u R,e=.returned u/\w'.ownsRow w.heap.size 3 1 u R.length (R.map (ah .i64))/\g_ w.heap.size w w'/\qa L O P rs R:=by
 obtain ⟨w1,cf,DF,jm⟩:=aHx w L O P
 obtain ⟨g0,g1,g2⟩:=aHw jm
 have hrun:=aa (aFb (L:=L) (O:=O) (P:=P) (ec:=ec) DF.out bR hlen)
 clear bR jm
 obtain ⟨Po,EW⟩:∃Po:Ending->J'->Prop,f_ (Po=fun e w'=>∃u R,e=.returned u/\w'.ownsRow w.heap.size 3 1 u R.length (R.map (ah .i64))/\g_ w.heap.size w w'/\qa L O P rs R):=⟨_,rfl⟩
 refine Calls.mono (R:=Po) ?_ (fun e w' h=>by rw [EW.out] at h;exact h)
 cases hal:da L O P rs with
 |false=>
  have eU:=aa hal
  clear hal
  go_enter func10,ntmps10
  go_wp2_with fail
  refine hrun.out.mono ?_
  rintro e w2 ⟨m,ar,cr,aw,cw,ab,cb,al,bM,cl,w3,rfl,CK,R3,B3,h8,TP,Sp⟩
  obtain ⟨⟨a0,a1,a2,a3,a4,a5,a6,a7⟩,_⟩:=aG h8
  clear g0 g1 g2 h8
  rw [eU.out]
  go_wp2_with fail
  rw [EW.out]
  exact ⟨_,[],rfl,World.ownsRow_lit w3 #[] 0 B3.out.size (by decide) (by simp),B3.out.alloc B3.out.size _,fun _=>rfl,fun h=>by rw [eU.out] at h;cases h⟩
 |true=>
  have eU:=aa hal
  obtain ⟨evs,uO,Q4,aKp,hL,hO,hP,cK⟩:=pF hal
  obtain ⟨nl,Mj⟩:∃nl:Nat,L=(nl:Int):=⟨L.toNat,by omega⟩
  have hLt:f_ (L.toNat=nl):=by rw [f_,Mj,Int.toNat_natCast]
  have rp:nl<=1000:=by omega
  replace Mj:=aa Mj
  replace uO:=aa uO
  replace cK:=aa cK
  clear hal Q4 aKp hL hO hP
  go_enter func10,ntmps10
  go_wp2_with fail
  refine hrun.out.mono ?_
  rintro e w2 ⟨m,ar,cr,aw,cw,ab,cb,al,bM,cl,w3,rfl,CK,R3,B3,h8,TP,Sp⟩
  obtain ⟨⟨a0,a1,a2,a3,a4,a5,a6,a7⟩,_⟩:=aG h8
  clear g0 g1 g2 h8
  rw [eU.out]
  go_wp2_with fail
  have hmm:m=ja nl P evs:=by have h:=Sp.out eU.out evs uO.out;rw [hLt.out] at h;exact h
  have hml:m.recs.length<=1000:=by rw [hmm];have h:=cK.out.n1;rw [hLt.out] at h;omega
  have c43:d_ p_ 43 #[.agg #[.int .i64 L,.int .i64 O,.int .i64 P,.int .i64 m.clock,.slice ar m.recs.length cr,.slice aw m.wait.length cw,.slice ab m.back.length cb,.slice al bM cl]] w3 fun e w'=>∃u,e=.returned u/\w'.ownsRow w3.heap.size 3 1 u (AD nl m.recs).length ((AD nl m.recs).map (ah .i64))/\g_ w3.heap.size w3 w':=by rw [Mj.out];exact rf R3.out.rd.1 R3.out.nN.1 hml rp
  refine c43.mono ?_
  rintro e w4 ⟨u,rfl,nS,CX⟩
  replace nS:=aa nS
  replace CX:=aa CX
  replace hmm:=aa hmm
  clear hml rp
  go_wp2_with fail
  rw [EW.out]
  exact ⟨_,_,rfl,gG nS.out B3.out.size,B3.out.trans (CX.out.mono B3.out.size),⟨fun h=>(by rw [eU.out] at h;cases h),fun _ qw he=>(by rw [hmm.out,rQ (uO.out.symm.trans he),hLt.out])⟩⟩
theorem W9 (bR:fF w ea rs) (hlen:rs.length<=1048576):
 d_ p_ 19 #[.agg #[.int .i64 L,.int .i64 O,.int .i64 P],.slice ea rs.length ec] w fun e w'=>∃u R,e=.returned u/\w'.ownsRow w.heap.size 3 1 u R.length (R.map (ah .i64))/\g_ w.heap.size w w'/\Xd L O P rs R:=by
 obtain ⟨w1,cf,DF,jm⟩:=aHx w L O P
 obtain ⟨g0,g1,g2⟩:=aHw jm
 have hrun:=aa (aFb (L:=L) (O:=O) (P:=P) (ec:=ec) DF.out bR hlen)
 clear bR jm
 obtain ⟨Po,EW⟩:∃Po:Ending->J'->Prop,f_ (Po=fun e w'=>∃u R,e=.returned u/\w'.ownsRow w.heap.size 3 1 u R.length (R.map (ah .i64))/\g_ w.heap.size w w'/\Xd L O P rs R):=⟨_,rfl⟩
 refine Calls.mono (R:=Po) ?_ (fun e w' h=>by rw [EW.out] at h;exact h)
 obtain ⟨ok,cK⟩:∃ok,da L O P rs=ok:=⟨_,rfl⟩
 have eU:=aa cK
 clear cK
 go_enter func19,ntmps19
 go_wp2_with fail
 refine hrun.out.mono ?_
 rintro e w2 ⟨m,ar,cr,aw,cw,ab,cb,al,bM,cl,w3,rfl,CK,R3,B3,h8,TP,Sp⟩
 obtain ⟨⟨a0,a1,a2,a3,a4,a5,a6,a7⟩,_⟩:=aG h8
 clear g0 g1 g2 h8
 rw [eU.out]
 go_wp2_with fail
 have hml:m.wait.length<=1000:=by
  cases hx:da L O P rs with
  |false=>rw [TP.out hx];exact nz _
  |true=>
   obtain ⟨evs,uO,_,_,_,_,_,hk⟩:=pF hx
   rw [Sp.out hx evs uO];have:=hk.n2;omega
 refine (US R3.out.rd.2.1 R3.out.nN.2.1 hml).mono ?_
 rintro e w4 ⟨u,rfl,nS,CX⟩
 replace nS:=aa nS
 replace CX:=aa CX
 clear hml
 go_wp2_with fail
 rw [EW.out]
 refine ⟨_,m.wait.map (·.1),rfl, ?_,B3.out.trans (CX.out.mono B3.out.size),fun h=>by rw [TP.out h];rfl,fun h evs he=>by rw [Sp.out h evs he]⟩
 have:=gG nS.out B3.out.size
 rw [List.length_map,List.map_map];exact this
end
end Go.aC.Of
namespace Go.aC
open Go Go.Conc Go.Conc.Lib Go.ConcR Go.ConcR.Gen
section
variable {P:U'} {C:cS} {b o:Nat} {Post:M'->J'->Prop} {Rs:(Nat->Prop)->(Nat->aX)->Nat->Prop} {k:Nat} {wl:J'}
variable {fn:Func}
theorem Can.YC (hS:jK Rs) (hL:Lay C wl) {aI c:Y'} {a:Act} {todo:List Item} {cs:List Y'} {v:M'} (hn:aI.kind=.normal) (hd:a.defers=[]) (hf:P.funcs[aI.fn]?=some fn) (hr:∀T d,(results fn a.tmps).run P (wl.re T d)=.ok v (wl.re T d)) (h:Can P C b o Post k Rs wl (G (c.finish v) cs)):
 Can P C b o Post k Rs wl (G {aI.at a todo with mode:=.returning} (c::cs)):=by
 refine Can.sem (s:=results fn a.tmps) (fn:=aI.fn) (nx:=fun v=>G (c.finish v) cs) hS hL rfl (iH fn a.tmps) (fun w v w' hv=> ?_) (fun T d=>⟨v,wl.re T d,hr T d,fun _=>h.re T d⟩)
 have NL:(results fn a.tmps).runT P w #[]=(.ok v w',(results fn a.tmps).events P w #[]):=by
  have:=Sem.runT_fst P (results fn a.tmps) w #[]
  rw [hv] at this
  show _=(_,((results fn a.tmps).runT P w #[]).2)
  rw [<-this]
 simp only [stepG,G,Frame.at,unwind,hd,hf]
 rw [NL]
 simp [doReturn,hn,GStep.after]
end
end Go.aC
namespace Go.aC.Of
open Go Go.Conc Go.Conc.Lib Go.ConcR Go.ConcR.Gen Go.aC Go.Proofs
open Go.RowKit hiding Hid
open Go.ConcN (upd upd_ne upd_same)
variable {O:Int}
theorem xK (hO:1<=O/\O<=4) {e:Ev} (h:e.good O.toNat):bu e.raw O=true:=by
 have q1:(O<1)=False:=eq_false (by omega)
 have q2:(4<O)=False:=eq_false (by omega)
 cases e with
 |ring c pt=>
  obtain ⟨⟨h1,h2⟩,h3,h4⟩:=h
  have q3:(c<1)=False:=eq_false (by omega)
  simp [bu,Ev.raw,Ev.kind,Ev.who,Ev.word,q1,q2,q3]
  first|exact ⟨decide_eq_true h2,decide_eq_true h3,decide_eq_true h4⟩|exact decide_eq_true h2|exact decide_eq_true (show (i:Int)+1<=O by omega)
 |hang c=>
  obtain ⟨h1,h2⟩:=h
  have q3:(c<1)=False:=eq_false (by omega)
  simp [bu,Ev.raw,Ev.kind,Ev.who,Ev.word,q1,q2,q3]
  first|exact ⟨decide_eq_true h2,decide_eq_true h3,decide_eq_true h4⟩|exact decide_eq_true h2|exact decide_eq_true (show (i:Int)+1<=O by omega)
 |answer i=>
  have h:i<O.toNat:=h
  have q3:((i:Int)+1<1)=False:=eq_false (by omega)
  simp [bu,Ev.raw,Ev.kind,Ev.who,Ev.word,q1,q2,q3]
  first|exact ⟨decide_eq_true h2,decide_eq_true h3,decide_eq_true h4⟩|exact decide_eq_true h2|exact decide_eq_true (show (i:Int)+1<=O by omega)
 |back i=>
  have h:i<O.toNat:=h
  have q3:((i:Int)+1<1)=False:=eq_false (by omega)
  simp [bu,Ev.raw,Ev.kind,Ev.who,Ev.word,q1,q2,q3]
  first|exact ⟨decide_eq_true h2,decide_eq_true h3,decide_eq_true h4⟩|exact decide_eq_true h2|exact decide_eq_true (show (i:Int)+1<=O by omega)
 |wait n=>
  obtain ⟨h1,h2⟩:=h
  have q3:(n<1)=False:=eq_false (by omega)
  simp [bu,Ev.raw,Ev.kind,Ev.who,Ev.word,q1,q2,q3]
  first|exact ⟨decide_eq_true h2,decide_eq_true h3,decide_eq_true h4⟩|exact decide_eq_true h2|exact decide_eq_true (show (i:Int)+1<=O by omega)
def O7 (L O P:Int) (rs:List Raw) (R:List Int):Prop:=(da L O P rs=false->R=[])/\(da L O P rs=true->∀evs,rs=evs.map Ev.raw->R=(ja L.toNat P evs).back.map (·.1))
def aBv (L O P:Int) (rs:List Raw) (R:List Bs):Prop:=(da L O P rs=false->R=[])/\(da L O P rs=true->∀evs,rs=evs.map Ev.raw->R=(ja L.toNat P evs).log)
structure aKt (nl n:Nat) (S:Hs) (m:Rm):Prop where
 recs:S.recs=m.recs
 log:S.log=m.log
 back:S.back=m.back.map (·.1)
 wait:S.wait=m.wait
 ll:S.lines.length=nl
 used:∀k (hk:k<S.lines.length),lM m.recs ((k+1:Nat):Int)=(S.on S.lines[k]).isSome
 n2:m.wait.length+m.back.length<=n
section
variable {oa:cS} {b o:Nat} {Post:M'->J'->Prop} {Bd:Nat} {wl:J'} {aI:Y'} {aS:Act} {av:Array Oper} {aN:Nat} {sg:List Nat} {aV:List Item} {cs:List Y'} {fG P:Int} {ea:Option z_} {ec:Nat} {rs:List Raw}
noncomputable def mr:Code:=f13.body.getD .skip
theorem aEz {p q:M'}:fZ p_ 13 #[p,q] .normal=(base 13).at ⟨#[p,q,I',I',I',I',I',I',I',I',I',I',I',I',I',I',I',I',I',I',I',I',I',I',I',I',I',I',I',I',I',I',I',I',I',I',I',I',I',I',I',I',I',I',I'],[]⟩ [.code (.seq (ai 0 mr) (.seq (ai 1 mr) (az 2 mr)))]:=by kernel_rfl
noncomputable def ε:Code:=f20.body.getD .skip
theorem aEy {p q:M'}:fZ p_ 20 #[p,q] .normal=(base 20).at ⟨#[p,q,I',I',I',I',I',I',I',I',I',I',I',I',I',I',I',I',I',I',I',I',I',I',I',I',I',I',I',I',I',I',I',I',I',I'],[]⟩ [.code (.seq (ai 0 ε) (.seq (ai 1 ε) (az 2 ε)))]:=by kernel_rfl
noncomputable def mq:Code:=f22.body.getD .skip
theorem ζ {p q:M'}:fZ p_ 22 #[p,q] .normal=(base 22).at ⟨#[p,q,I',I',I',I',I',I',I',I',I',I',I',I',I',I'],[]⟩ [.code (.seq (ai 0 mq) (.seq (ai 1 mq) (az 2 mq)))]:=by kernel_rfl
noncomputable def Ou:Code:=f33.body.getD .skip
theorem aEx {p q:M'}:fZ p_ 33 #[p,q] .normal=(base 33).at ⟨#[p,q,I',I',I',I',I',I',I',I',I',I',I',I',I'],[]⟩ [.code (.seq (ai 0 Ou) (.seq (ai 1 Ou) (az 2 Ou)))]:=by kernel_rfl
noncomputable def N6:Code:=f36.body.getD .skip
theorem aEw {p q:M'}:fZ p_ 36 #[p,q] .normal=(base 36).at ⟨#[p,q,I',I',I',I',I',I',I',I',I',I',I',I',I',I'],[]⟩ [.code (.seq (ai 0 N6) (.seq (ai 1 N6) (az 2 N6)))]:=by kernel_rfl
variable {w w':J'}
theorem aEh (h:qO w) (k:dI w w'):qO w':=by
 obtain ⟨g,cs',e,f,t1,t2,t3⟩:=h
 exact ⟨g,cs',e,f,t1,k.blk _ _ t2,t3⟩
variable {w0:J'}
theorem O4 (k:dI w0 wl) (hL:Lay oa wl) (hlen:rs.length<=1048576) (bR:fF w0 ea rs) (sr:qO w0) (SI:Bd<1000000000)
 (oF:da fG O P rs=false->∀aK,Lay oa aK->dI w0 aK->Can p_ oa b o Post 0 (db Bd) aK (G (aI.at (aS.put ((av[aN]?).bind (·.dst)) (.pointer none)) (.inRegion av sg::aV)) cs))
 (J9:f_ (da fG O P rs=true)->∀evs S C' bw A va vt aK vw vb vr,1<=fG/\fG<=6->evs.length<=60->f_ (∀qw,rs=qw.map Ev.raw->qw=evs)->f_ (aKt fG.toNat evs.length S (ja fG.toNat P evs))->f_ (Lay C' aK)->f_ (aQ A S vw vb vr va vt aK)->f_ (SQ w0 aK)->f_ (w0.heap.size<=aK.heap.size/\w0.heap.size<=A.B)->Can p_ C' bw 0 Post 0 (db (Bd+5)) aK (G (aI.at (aS.put ((av[aN]?).bind (·.dst)) (.pointer (some ⟨A.hb,0,none⟩))) (.inRegion av sg::aV)) cs)):
 Can p_ oa b o Post 0 (db Bd) wl (G (fZ p_ 45 #[.agg #[.int .i64 fG,.int .i64 O,.int .i64 P],.slice ea rs.length ec] .normal) (aI.at aS (.inRegion av (aN::sg)::aV)::cs)):=by
 refine FE hL hlen (bR.keep k) (aEh sr k) SI (fun hb w h k'=>oF hb w h (k.trans k')) (fun evs ls us h1 h2 h3 h4 h5 h6 h7 h8=> ?_)
 have AX:(1<=fG/\fG<=6)/\(1<=O/\O<=4):=by
  simp only [dw,T_,decide_eq_true_eq] at h2
  omega
 obtain ⟨Uj,hrel⟩:=Ag (nl:=fG.toNat) (no:=O.toNat) (P:=P) h5 (by omega) (by omega) h8 h4 h3 (by omega) (by omega)
 refine ⟨Uj,fun C' bw A va vt aK fJ hH xq hsz yF=> ?_⟩
 obtain ⟨vw,vb,vr,HV⟩:=hH
 refine J9 ?_ evs (Bf P ls us evs) C' bw A va vt aK vw vb vr AX.1 h3 (aa fun qw he=>rQ (he.symm.trans h1)) (aa ⟨hrel.recs,hrel.log,hrel.back,hrel.wait,hrel.ll,fun k hk=>hrel.used hk,hrel.n2⟩) (aa fJ) (aa HV) (aa fun g cs' e f h=>xq g cs' e f (k.blk _ _ h)) (aa ⟨D_ k.size yF,by have:=HV.ok.hb;have:=k.size;omega⟩)
 refine aa ?_
 unfold da
 rw [h2,decide_eq_true (by rw [h1,List.length_map];exact h3),List.all_eq_true.2];rfl
 intro x hx
 rw [h1] at hx
 obtain ⟨e,he,rfl⟩:=List.mem_map.1 hx
 exact xK AX.2 (h4 e he)
theorem aCq {g:Nat} {x y z:Int} {T:Nat->Question->Nat} {d:Nat} (h:w.heap[g]?=some (.cells #[.int .i64 x,.int .i64 y,.int .i64 z] 28 (0,0))):(w.re T d).cell? ⟨g,0,none⟩=some (.int .i64 x)/\(w.re T d).cell? ⟨g,1,none⟩=some (.int .i64 y)/\(w.re T d).cell? ⟨g,2,none⟩=some (.int .i64 z):=⟨cV h,cV h,cV h⟩
theorem Nh {p q:Prop} (k:q) (m:Go.aC.Hid q->p:=by
 intro hq
 refine hS.s hL.out ?_
 refine Can.cY pA hS hL.out (AB (by kernel_rfl) rfl rfl (by first|exact ⟨_,func13⟩|exact ⟨_,func20⟩|exact ⟨_,func22⟩|exact ⟨_,func33⟩|exact ⟨_,func36⟩)) ?_
 intro T d W hW Bh hB
 have k0:f_ (dI wl W):=by rw [hW.out];exact (dI.refl wl).re T d
 clear hW
 simp only [ai,mr,ε,mq,Ou,N6,f13,f20,f22,f33,f36,A_]
 go_wp2_with fail
 have hB:=hB.out
 subst hB
 intro hcut
 have k1:dI wl (W.alloc (.cells #[.int .i64 fG,.int .i64 O,.int .i64 P] 28)):=k0.out.alloc _
 have x1:=Z' W (.cells #[.int .i64 fG,.int .i64 O,.int .i64 P] 28)
 have nU:Lay oa (W.alloc (.cells #[.int .i64 fG,.int .i64 O,.int .i64 P] 28)):=⟨hcut,hL.out.no⟩
 clear hcut k0
 generalize W.alloc (.cells #[.int .i64 fG,.int .i64 O,.int .i64 P] 28)=w1 at *
 generalize W.heap.size=g1 at *
 revert nU
 revert x1
 revert k1
 revert g1
 revert w1
 exact hq.out):p:=m ⟨k⟩
variable {K:List Item} {f:Y'}
theorem Uv {c:Code} {a:Act} {q:List Item->Prop} (k:q K) (m:∀K,Go.aC.Hid (q K)->Can p_ oa b o Post 0 (db Bd) wl (G (f.at a (.code c::K)) cs):=by
 intro K hq
 simp only [ai,mr,ε,mq,Ou,N6,f13,f20,f22,f33,f36,A_]
 refine Can.ctl hS nU rfl (fun _=>zb) ?_
 refine Can.op (ok:=il) hS nU rfl rfl (by k_ne) (by kernel_rfl) (fun T d=>⟨.agg #[.int .i64 fG,.int .i64 O,.int .i64 P],w1.re T d, ?_,fun _=>Can.re ?_ T d⟩)
 ·obtain ⟨h0,h1,h2⟩:=aCq (T:=T) (d:=d) x1
  go_simp
 walk_nrm
 refine Can.op (ok:=il) hS nU rfl rfl (by k_ne) (by kernel_rfl) (fun T d=>⟨.slice ea rs.length ec,w1.re T d, ?_,fun _=>Can.re ?_ T d⟩)
 ·go_simp
 walk_nrm
 refine Can.ctl hS nU rfl (fun _=>bY (vs:=#[.agg #[.int .i64 fG,.int .i64 O,.int .i64 P],.slice ea rs.length ec]) rfl rfl (by k_ne) rfl func45 rfl rfl (by kernel_rfl)) ?_
 exact hq.out):Can p_ oa b o Post 0 (db Bd) wl (G (f.at a (.code c::K)) cs):=m K ⟨k⟩
variable {i:Nat}
theorem hm3 {a:Act} {v:M'} {ops:Array Oper} {x:Oper} (hL:Lay oa wl) (h:Can p_ oa b o Post 0 (db Bd) wl (G (f.at (a.put x.dst v) K) cs)) (ho:ops[i]?=some x:=by exact rfl) (hw:Region.wanted x (yielded ops a.tmps)=true:=by exact rfl) (hk:f.kind≠.early:=by k_ne) (cK:fN p_ il x=true:=by kernel_rfl) (hx:∀T d,(V' a.eval x).run p_ (wl.re T d)=.ok (.value v) (wl.re T d):=by (intro T d;go_simp)):Can p_ oa b o Post 0 (db Bd) wl (G (f.at a (.inRegion ops [i]::K)) cs):=
 Can.op (ok:=il) (cT Bd) hL ho hw hk cK fun T d=>⟨v,wl.re T d,hx T d,fun _=>Can.re (Can.ctl (cT Bd) hL rfl (fun _=>stepG_region_end) h) T d⟩
theorem aAi {p:Prop} (m:p:=by
 walk_nrm
 refine hm3 (v:=.pointer none) fJ ?_
 walk_nrm
 refine Can.cY pA hS fJ (AB (by kernel_rfl) rfl rfl (by first|exact ⟨_,func13⟩|exact ⟨_,func20⟩|exact ⟨_,func22⟩|exact ⟨_,func33⟩|exact ⟨_,func36⟩)) ?_
 intro T d W hW Bh hB
 have ij:=aa hW
 have qq:=aa fJ
 clear hW fJ
 simp only [az,mr,ε,mq,Ou,N6,f13,f20,f22,f33,f36,A_]
 go_wp2_with fail
 have hB:=hB.out
 subst hB
 intro hcut todo
 have hW:=ij.out.out
 subst hW
 refine Can.re ?_ T d
 first
  |exact Can.ctl hS qq.out rfl (fun _=>aZ rfl rfl func13 rfl) (hc.out _ qq.out k.out)
  |exact Can.ctl hS qq.out rfl (fun _=>aZ rfl rfl func20 rfl) (hc.out _ qq.out k.out)
  |exact Can.ctl hS qq.out rfl (fun _=>aZ rfl rfl func33 rfl) (hc.out _ qq.out k.out)
  |exact Can.YC (v:=.tuple #[.slice none 0 0,.bool false]) hS qq.out rfl rfl func22 (fun T d=>by simp [results,Tryz.results22,go_sem]) (by rw [Frame.finish_at];exact hc.out _ qq.out k.out)
  |exact Can.YC (v:=.tuple #[.slice none 0 0,.bool false]) hS qq.out rfl rfl func36 (fun T d=>by simp [results,Tryz.results36,go_sem]) (by rw [Frame.finish_at];exact hc.out _ qq.out k.out)):p:=m
theorem call22 (hL:Lay oa wl) (hlen:rs.length<=1048576) (bR:fF wl ea rs) (sr:qO wl) (SI:Bd<1000000000)
 (hc:∀C' b' o' aK u R,Lay C' aK->SQ wl aK->wl.heap.size<=aK.heap.size->aK.ownsRow wl.heap.size 44 7 u R.length (cj R)->R9 fG O P rs R->Can p_ C' b' o' Post 0 (db (Bd+5)) aK (G (aI.at (aS.put ((av[aN]?).bind (·.dst)) (.tuple #[u,.bool (da fG O P rs)])) (.inRegion av sg::aV)) cs)):
 Can p_ oa b o Post 0 (db Bd) wl (G (fZ p_ 22 #[.agg #[.int .i64 fG,.int .i64 O,.int .i64 P],.slice ea rs.length ec] .normal) (aI.at aS (.inRegion av (aN::sg)::aV)::cs)):=by
 have hS:=cT Bd
 rw [ζ]
 replace hc:=aa hc
 replace hL:=aa hL
 replace bR:=aa bR
 replace sr:=aa sr
 refine Nh ?_
 intro w1 g1 k1 x1 nU
 refine hS.s nU ?_
 refine Uv ?_
 refine O4 k1 nU hlen bR.out sr.out SI (fun eU aK fJ k=> ?_) (fun eU evs S C' bw A va vt aK vw vb vr hl6 OZ xI hrel fJ HV xq hsz=> ?_)
 ·replace hc:=aa fun (w:J') (h:Lay oa w) (k:dI wl w)=>Can.mono (hc.out oa b o w (.slice none 0 0) [] h (fun g cs' e f h=>k.blk _ _ h) k.size (World.ownsRow_nil _ _ _ _) ⟨fun _=>rfl,fun h=>by rw [eU] at h;cases h⟩) (db.mono (Nat.le_add_right Bd 5))
  rw [eU] at hc
  replace k:=aa k
  clear eU k1 x1 nU hL bR sr hlen SI
  exact aAi
 ·have uh:=cT (Bd+5)
  clear k1 x1 nU hL bR sr hlen SI OZ
  walk_nrm
  refine hm3 (v:=.pointer (some ⟨A.hb,0,none⟩)) fJ.out ?_
  walk_nrm
  refine Can.cY pA uh fJ.out (AB (by kernel_rfl) rfl rfl ⟨_,func22⟩) ?_
  intro T d W hW Bh hB
  have ij:=aa hW
  clear hW
  have HW:=aa (HV.out.heap (w':=W) (by rw [ij.out.out];rfl))
  obtain ⟨_,_,_,_,_,_,c9,_⟩:=HW.out.c
  obtain ⟨ar,cr,ql⟩:=aE HW.out.recs
  subst ql
  simp only [az,mq,f22,A_]
  go_wp2_with fail
  have hB:=hB.out
  subst hB
  intro hcut todo
  have hW:=ij.out.out
  subst hW
  refine Can.re ?_ T d
  refine Can.YC (v:=.tuple #[.slice ar S.recs.length cr,.bool true]) uh fJ.out rfl rfl func22 (fun T d=>by simp [results,Tryz.results22,go_sem]) ?_
  rw [Frame.finish_at]
  have h:=hc.out C' bw 0 aK (.slice ar S.recs.length cr) S.recs fJ.out xq.out hsz.out.1 (gG HV.out.recs hsz.out.2) ⟨fun h=>(by rw [eU.out] at h;cases h),fun _ qw he=>by rw [xI.out qw he,hrel.out.recs]⟩
  rw [eU.out] at h
  exact h
theorem call36 (hL:Lay oa wl) (hlen:rs.length<=1048576) (bR:fF wl ea rs) (sr:qO wl) (SI:Bd<1000000000)
 (hc:∀C' b' o' aK u R,Lay C' aK->SQ wl aK->wl.heap.size<=aK.heap.size->aK.ownsRow wl.heap.size 9 1 u R.length (R.map fun s=>Value.string ⟨s.toArray⟩)->aBv fG O P rs R->Can p_ C' b' o' Post 0 (db (Bd+5)) aK (G (aI.at (aS.put ((av[aN]?).bind (·.dst)) (.tuple #[u,.bool (da fG O P rs)])) (.inRegion av sg::aV)) cs)):
 Can p_ oa b o Post 0 (db Bd) wl (G (fZ p_ 36 #[.agg #[.int .i64 fG,.int .i64 O,.int .i64 P],.slice ea rs.length ec] .normal) (aI.at aS (.inRegion av (aN::sg)::aV)::cs)):=by
 have hS:=cT Bd
 rw [aEw]
 replace hc:=aa hc
 replace hL:=aa hL
 replace bR:=aa bR
 replace sr:=aa sr
 refine Nh ?_
 intro w1 g1 k1 x1 nU
 refine hS.s nU ?_
 refine Uv ?_
 refine O4 k1 nU hlen bR.out sr.out SI (fun eU aK fJ k=> ?_) (fun eU evs S C' bw A va vt aK vw vb vr hl6 OZ xI hrel fJ HV xq hsz=> ?_)
 ·replace hc:=aa fun (w:J') (h:Lay oa w) (k:dI wl w)=>Can.mono (hc.out oa b o w (.slice none 0 0) [] h (fun g cs' e f h=>k.blk _ _ h) k.size (World.ownsRow_nil _ _ _ _) ⟨fun _=>rfl,fun h=>by rw [eU] at h;cases h⟩) (db.mono (Nat.le_add_right Bd 5))
  rw [eU] at hc
  replace k:=aa k
  clear eU k1 x1 nU hL bR sr hlen SI
  exact aAi
 ·have uh:=cT (Bd+5)
  clear k1 x1 nU hL bR sr hlen SI OZ
  walk_nrm
  refine hm3 (v:=.pointer (some ⟨A.hb,0,none⟩)) fJ.out ?_
  walk_nrm
  refine Can.cY pA uh fJ.out (AB (by kernel_rfl) rfl rfl ⟨_,func36⟩) ?_
  intro T d W hW Bh hB
  have ij:=aa hW
  clear hW
  have HW:=aa (HV.out.heap (w':=W) (by rw [ij.out.out];rfl))
  obtain ⟨_,_,_,_,_,_,_,_,_,c12,_⟩:=HW.out.c
  obtain ⟨ar,cr,ql⟩:=aE HW.out.log
  subst ql
  simp only [az,N6,f36,A_]
  go_wp2_with fail
  have hB:=hB.out
  subst hB
  intro hcut todo
  have hW:=ij.out.out
  subst hW
  refine Can.re ?_ T d
  refine Can.YC (v:=.tuple #[.slice ar S.log.length cr,.bool true]) uh fJ.out rfl rfl func36 (fun T d=>by simp [results,Tryz.results36,go_sem]) ?_
  rw [Frame.finish_at]
  have h:=hc.out C' bw 0 aK (.slice ar S.log.length cr) S.log fJ.out xq.out hsz.out.1 (gG HV.out.log hsz.out.2) ⟨fun h=>(by rw [eU.out] at h;cases h),fun _ qw he=>by rw [xI.out qw he,hrel.out.log]⟩
  rw [eU.out] at h
  exact h
theorem call33 (hL:Lay oa wl) (hlen:rs.length<=1048576) (bR:fF wl ea rs) (sr:qO wl) (SI:Bd<1000000000)
 (hc:∀C' b' o' aK u R,Lay C' aK->SQ wl aK->wl.heap.size<=aK.heap.size->aK.ownsRow wl.heap.size 3 1 u R.length (R.map (ah .i64))->O7 fG O P rs R->Can p_ C' b' o' Post 0 (db (Bd+5)) aK (G (aI.at (aS.put ((av[aN]?).bind (·.dst)) (u)) (.inRegion av sg::aV)) cs)):
 Can p_ oa b o Post 0 (db Bd) wl (G (fZ p_ 33 #[.agg #[.int .i64 fG,.int .i64 O,.int .i64 P],.slice ea rs.length ec] .normal) (aI.at aS (.inRegion av (aN::sg)::aV)::cs)):=by
 have hS:=cT Bd
 rw [aEx]
 replace hc:=aa hc
 replace hL:=aa hL
 replace bR:=aa bR
 replace sr:=aa sr
 refine Nh ?_
 intro w1 g1 k1 x1 nU
 refine hS.s nU ?_
 refine Uv ?_
 refine O4 k1 nU hlen bR.out sr.out SI (fun eU aK fJ k=> ?_) (fun eU evs S C' bw A va vt aK vw vb vr hl6 OZ xI hrel fJ HV xq hsz=> ?_)
 ·replace hc:=aa fun (w:J') (h:Lay oa w) (k:dI wl w)=>Can.mono (hc.out oa b o w (.slice none 0 0) [] h (fun g cs' e f h=>k.blk _ _ h) k.size (World.ownsRow_nil _ _ _ _) ⟨fun _=>rfl,fun h=>by rw [eU] at h;cases h⟩) (db.mono (Nat.le_add_right Bd 5))
  replace k:=aa k
  clear eU k1 x1 nU hL bR sr hlen SI
  exact aAi
 ·have uh:=cT (Bd+5)
  clear k1 x1 nU hL bR sr hlen SI OZ
  walk_nrm
  refine hm3 (v:=.pointer (some ⟨A.hb,0,none⟩)) fJ.out ?_
  walk_nrm
  refine Can.cY pA uh fJ.out (AB (by kernel_rfl) rfl rfl ⟨_,func33⟩) ?_
  intro T d W hW Bh hB
  have ij:=aa hW
  clear hW
  have HW:=aa (HV.out.heap (w':=W) (by rw [ij.out.out];rfl))
  obtain ⟨_,_,_,_,_,c8,_⟩:=HW.out.c
  obtain ⟨ar,cr,ql⟩:=aE HW.out.back
  subst ql
  simp only [az,Ou,f33,A_]
  go_wp2_with fail
  have hB:=hB.out
  subst hB
  intro hcut todo
  have hW:=ij.out.out
  subst hW
  refine Can.re ?_ T d
  refine Can.ctl uh fJ.out rfl (fun _=>aZ rfl rfl func33 rfl) ?_
  exact hc.out C' bw 0 aK (.slice ar S.back.length cr) S.back fJ.out xq.out hsz.out.1 (gG HV.out.back hsz.out.2) ⟨fun h=>(by rw [eU.out] at h;cases h),fun _ qw he=>by rw [xI.out qw he,hrel.out.back]⟩
theorem call20 (hL:Lay oa wl) (hlen:rs.length<=1048576) (bR:fF wl ea rs) (sr:qO wl) (SI:Bd<1000000000)
 (hc:∀C' b' o' aK u R,Lay C' aK->SQ wl aK->wl.heap.size<=aK.heap.size->aK.ownsRow wl.heap.size 3 1 u R.length (R.map (ah .i64))->Xd fG O P rs R->Can p_ C' b' o' Post 0 (db (Bd+5)) aK (G (aI.at (aS.put ((av[aN]?).bind (·.dst)) (u)) (.inRegion av sg::aV)) cs)):
 Can p_ oa b o Post 0 (db Bd) wl (G (fZ p_ 20 #[.agg #[.int .i64 fG,.int .i64 O,.int .i64 P],.slice ea rs.length ec] .normal) (aI.at aS (.inRegion av (aN::sg)::aV)::cs)):=by
 have hS:=cT Bd
 rw [aEy]
 replace hc:=aa hc
 replace hL:=aa hL
 replace bR:=aa bR
 replace sr:=aa sr
 refine Nh ?_
 intro w1 g1 k1 x1 nU
 refine hS.s nU ?_
 refine Uv ?_
 refine O4 k1 nU hlen bR.out sr.out SI (fun eU aK fJ k=> ?_) (fun eU evs S C' bw A va vt aK vw vb vr hl6 OZ xI hrel fJ HV xq hsz=> ?_)
 ·replace hc:=aa fun (w:J') (h:Lay oa w) (k:dI wl w)=>Can.mono (hc.out oa b o w (.slice none 0 0) [] h (fun g cs' e f h=>k.blk _ _ h) k.size (World.ownsRow_nil _ _ _ _) ⟨fun _=>rfl,fun h=>by rw [eU] at h;cases h⟩) (db.mono (Nat.le_add_right Bd 5))
  replace k:=aa k
  clear eU k1 x1 nU hL bR sr hlen SI
  exact aAi
 ·have uh:=cT (Bd+5)
  have M1:f_ (S.wait=(ja fG.toNat P evs).wait):=hrel.out.wait
  have AQ:S.wait.length<=1000:=by have h9:=hrel.out.n2;rw [M1.out];omega
  clear k1 x1 nU hL bR sr hlen SI OZ
  walk_nrm
  refine hm3 (v:=.pointer (some ⟨A.hb,0,none⟩)) fJ.out ?_
  walk_nrm
  refine Can.cY pA uh fJ.out (AB (by kernel_rfl) rfl rfl ⟨_,func20⟩) ?_
  intro T d W hW Bh hB
  have ij:=aa hW
  clear hW
  have HW:=aa (HV.out.heap (w':=W) (by rw [ij.out.out];rfl))
  obtain ⟨_,_,_,_,c7,_⟩:=HW.out.c
  obtain ⟨aw,cw,qG⟩:=aE HW.out.wait
  subst qG
  have CW:=aa HW.out.big
  have cK:=aa HW.out.ok
  obtain ⟨i0,qJ,tX,rm,uF⟩:=info_parts CF
  simp only [az,ε,f20,A_]
  go_wp2_with (at_make;refine wpList_make_own _ rfl _ _ 26 rfl W.heap.size 3 i0 (.int .i64 0) 1 Tryz.underlying26 qJ tX rm .i64 .i64 _ S.wait.length rfl rfl rfl ?b2 ?b3 (C_ _) ?_)
  case b2=>rw [uF];omega
  case b3=>unfold maxLen;omega
  intro w3 mQ aIe
  have hT0:f_ (w3.ownsRow W.heap.size 3 1 (.slice (some ⟨W.heap.size,0,none⟩) 0 S.wait.length) 0 []/\g_ W.heap.size W w3):=⟨mQ,(h_ _ _).grown aIe (C_ _) (fun g e=>by cases e)⟩
  have c7a:w3.cell? ⟨A.hb,7,none⟩=some (.slice aw S.wait.length cw):=(J_ (hT0.out.2.block A.hb (by have:=CW.out;have:=cK.out.hb;omega))).trans c7
  clear mQ aIe c7
  go_wp2_with fail
  clear c7a
  go_loopw [25,6] (fun i u wr=>∃k:Nat,k<=S.wait.length/\i=.int .i64 k/\f_ (wr.ownsRow W.heap.size 3 1 u k ((S.wait.take k).map fun p=>ah .i64 p.1)/\g_ W.heap.size W wr)) (fun i _ _=>S.wait.length - (intOf i).toNat)
  case atStart=>exact ⟨0,nz _,rfl,hT0⟩
  case round=>
   clear hT0
   obtain ⟨k,hk,rfl,hT⟩:=hrel
   by_cases hlt:k<S.wait.length
   ·have gJ:(k:Int)<(S.wait.length:Int):=by omega
    obtain ⟨gq,aLa,YL,hcq,y0,y1⟩:=pR (gL.below (Ed HW.out.wait (fun _=>by omega)) (fun g e=>(HW.out.wait.lt g e).2) hT.out.2) hlt
    injection YL with i1 i2 i3
    subst i1 i3
    have h1:f_ ((S.wait.take (k+1)).map (fun p=>ah .i64 p.1)=(S.wait.take k).map (fun p=>ah .i64 p.1)++[.int .i64 (S.wait[k]).1]):=by rw [f_,sC hlt,List.map_append];rfl
    obtain ⟨au,cu,hu⟩:=aE hT.out.1
    subst hu
    generalize S.wait[k]=p at y0 y1 h1
    obtain ⟨w4,hw4⟩:∃w4,wr.alloc (.cells #[.int .i64 p.1,.int .i64 p.2] 84)=w4:=⟨_,rfl⟩
    have g4:w4.cell? ⟨wr.heap.size,0,none⟩=some (.int .i64 p.1):=by rw [<-hw4];exact bJ rfl
    have hT4:f_ (w4.ownsRow W.heap.size 3 1 (.slice au k cu) k ((S.wait.take k).map fun p=>ah .i64 p.1)/\g_ W.heap.size W w4):=by
     rw [<-hw4];exact ⟨hT.out.1.alloc _,hT.out.2.alloc hT.out.2.size _⟩
    have ub:=aa hT4.out.2.size
    clear hT
    go_wp2_with (at_builtin;refine wpList_append_lies _ rfl (.tmp 29) (.tmp 32) 26 rfl W.heap.size 3 i0 _ 1 8 Tryz.underlying26 qJ tX rm uF rfl (by decide) _ _ _ rfl (hT4.out.1.alloc _) ⟨w4.heap.size,0,none⟩ 1 1 [.int .i64 p.1] rfl rfl (fY w4 _ _ rfl) ?c1 (by omega) ?c3 ?c4 ?c5 _ rfl ?_)
    case c1=>rfl
    case c3=>unfold maxLen;omega
    case c4=>omega
    case c5=>have:=ub.out;omega
    intro gg mW w6 jl kh iP mR
    have EU:f_ (w6.ownsRow W.heap.size 3 1 (.slice (some ⟨gg,0,none⟩) (k+1) mW) (k+1) ((S.wait.take (k+1)).map fun p=>ah .i64 p.1)/\g_ W.heap.size W w6):=by
     refine ⟨?_,(hT4.out.2.alloc ub.out _).grown kh (by have:=ub.out;rw [B_];omega) fun g e=>(hT4.out.1.lt g e).1⟩
     rw [h1.out];simpa using jl
    clear jl kh iP mR hT4 g4 y0 y1 hw4
    go_wp2_with fail
    go_roundw
    case rel=>exact ⟨k+1,by omega,by go_num,EU⟩
    case measure=>simp [intOf];omega
   ·have yK:k=S.wait.length:=by omega
    have lI:f_ (Xd fG O P rs (S.wait.map (·.1))):=⟨fun h=>(by rw [eU.out] at h;cases h),fun _ qw he=>by rw [xI.out qw he,M1.out]⟩
    have hTe:=hT.out
    rw [List.take_of_length_le (by omega)] at hTe
    have aHt:wr.ownsRow W.heap.size 3 1 u6 (S.wait.map (·.1)).length ((S.wait.map (·.1)).map (ah .i64)):=by
     rw [List.length_map,List.map_map,<-yK];exact hTe.1
    have hTb:=aa hTe.2
    replace aHt:=aa aHt
    replace yK:=aa yK
    clear hTe hT
    go_wp2_with fail
    have hB:=hB.out
    subst hB
    intro hcut todo
    have du:Lay C' wr:=⟨hcut,fJ.out.no⟩
    have hWe:W.heap=aK.heap:=by rw [ij.out.out];rfl
    refine Can.ctl uh du rfl (fun _=>aZ rfl rfl func20 rfl) ?_
    refine hc.out C' bw 0 wr _ (S.wait.map (·.1)) du (fun g cs' e f h=> ?_) (D_ (by rw [hWe];exact hsz.out.1) hTb.out.size) (gG aHt.out (by rw [hWe];exact hsz.out.1)) lI.out
    have h1:=xq.out g cs' e f h
    rw [<-hWe] at h1
    exact (hTb.out.block g (fw h1)).trans h1
theorem call13 (hL:Lay oa wl) (hlen:rs.length<=1048576) (bR:fF wl ea rs) (sr:qO wl) (SI:Bd<1000000000)
 (hc:∀C' b' o' aK u R,Lay C' aK->SQ wl aK->wl.heap.size<=aK.heap.size->aK.ownsRow wl.heap.size 3 1 u R.length (R.map (ah .i64))->qa fG O P rs R->Can p_ C' b' o' Post 0 (db (Bd+5)) aK (G (aI.at (aS.put ((av[aN]?).bind (·.dst)) (u)) (.inRegion av sg::aV)) cs)):
 Can p_ oa b o Post 0 (db Bd) wl (G (fZ p_ 13 #[.agg #[.int .i64 fG,.int .i64 O,.int .i64 P],.slice ea rs.length ec] .normal) (aI.at aS (.inRegion av (aN::sg)::aV)::cs)):=by
 have hS:=cT Bd
 rw [aEz]
 replace hc:=aa hc
 replace hL:=aa hL
 replace bR:=aa bR
 replace sr:=aa sr
 refine Nh ?_
 intro w1 g1 k1 x1 nU
 refine hS.s nU ?_
 refine Uv ?_
 refine O4 k1 nU hlen bR.out sr.out SI (fun eU aK fJ k=> ?_) (fun eU evs S C' bw A va vt aK vw vb vr hl6 OZ xI hrel fJ HV xq hsz=> ?_)
 ·replace hc:=aa fun (w:J') (h:Lay oa w) (k:dI wl w)=>Can.mono (hc.out oa b o w (.slice none 0 0) [] h (fun g cs' e f h=>k.blk _ _ h) k.size (World.ownsRow_nil _ _ _ _) ⟨fun _=>rfl,fun h=>by rw [eU] at h;cases h⟩) (db.mono (Nat.le_add_right Bd 5))
  replace k:=aa k
  clear eU k1 x1 nU hL bR sr hlen SI
  exact aAi
 ·have uh:=cT (Bd+5)
  have Ma:f_ (S.lines.length=fG.toNat):=hrel.out.ll
  have hU:f_ (∀k (hk:k<S.lines.length),lM (ja fG.toNat P evs).recs ((k+1:Nat):Int)=(S.on S.lines[k]).isSome):=hrel.out.used
  have hl6:S.lines.length<=1000:=by have:=Ma.out;omega
  obtain ⟨recs,aCl⟩:∃recs,(ja fG.toNat P evs).recs=recs:=⟨_,rfl⟩
  rw [aCl] at hU
  replace aCl:=aa aCl
  clear k1 x1 nU hL bR sr hlen SI OZ
  walk_nrm
  refine hm3 (v:=.pointer (some ⟨A.hb,0,none⟩)) fJ.out ?_
  walk_nrm
  refine Can.cY pA uh fJ.out (AB (by kernel_rfl) rfl rfl ⟨_,func13⟩) ?_
  intro T d W hW Bh hB
  have ij:=aa hW
  clear hW
  have HW:=aa (HV.out.heap (w':=W) (by rw [ij.out.out];rfl))
  obtain ⟨c3,c4,_⟩:=HW.out.c
  have CW:=aa HW.out.big
  have cK:=aa HW.out.ok
  have t0:f_ ((W.alloc (.cells #[] 3)).ownsRow W.heap.size 3 1 (.slice (some ⟨W.heap.size,0,none⟩) 0 0) 0 []):=World.ownsRow_lit W #[] 0 (C_ _) (by decide) (by simp)
  have b0':f_ (g_ W.heap.size W (W.alloc (.cells #[] 3))):=(h_ _ _).alloc (C_ _) _
  have c3a:(W.alloc (.cells #[] 3)).cell? ⟨A.hb,3,none⟩=some (.slice (some ⟨A.lb,0,none⟩) S.lines.length A.cl):=(J_ (b0'.out.block A.hb (by have:=CW.out;have:=cK.out.hb;omega))).trans c3
  simp only [az,mr,f13,A_]
  go_wp2_with fail
  obtain ⟨i0,qJ,tX,rm,uF⟩:=info_parts CF
  clear c3 c4 c3a
  go_loopw [22,6] (fun i u wr=>∃k:Nat,k<=S.lines.length/\i=.int .i64 k/\f_ (wr.ownsRow W.heap.size 3 1 u (AD k recs).length ((AD k recs).map (ah .i64))/\g_ W.heap.size W wr)) (fun i _ _=>S.lines.length - (intOf i).toNat)
  case atStart=>exact ⟨0,nz _,rfl,t0.out,b0'.out⟩
  case round=>
   clear t0 b0'
   obtain ⟨k,hk,rfl,hT⟩:=hrel
   by_cases hlt:k<S.lines.length
   ·have gJ:(k:Int)<(S.lines.length:Int):=by omega
    have hkr:IntKind.i64.wrap ((k:Int)+1)=(k:Int)+1:=IntWalk.i64_in _ (by omega)
    have hcell:wr.cell? ⟨A.lb,k,none⟩=some (.chan (some S.lines[k])):=(J_ (hT.out.2.block A.lb (by have:=CW.out;have:=cK.out.lb;omega))).trans (HW.out.lines k hlt)
    have c4w:wr.cell? ⟨A.hb,4,none⟩=some (.map (some A.m1)):=(J_ (hT.out.2.block A.hb (by have:=CW.out;have:=cK.out.hb;omega))).trans HW.out.c.2.1
    have b9:ed wr A.m1 Bl (fun x=>(S.on x).map (ah .i64)):=HW.out.on.block (hT.out.2.block A.m1 (by have:=CW.out;have:=cK.out.m1;omega))
    have kj:f_ (AD (k+1) recs=AD k recs++(if (S.on S.lines[k]).isSome=true then [] else [((k+1:Nat):Int)])):=by rw [f_,xM,hU.out k hlt]
    have dJ:f_ ((AD k recs).length<=k):=mV k recs
    obtain ⟨au,cu,hu⟩:=aE hT.out.1
    subst hu
    generalize S.lines[k]=x at hcell kj
    cases hx:S.on x with
    |none=>
     have h1:f_ (AD (k+1) recs=AD k recs++[((k+1:Nat):Int)]):=by rw [f_,kj.out,hx];rfl
     have ub:=aa hT.out.2.size
     clear kj
     generalize AD k recs=fk at *
     go_wp2_with (first|(at_lookup;refine cU _ rfl _ _ 71 true rfl zo Tryz.underlying71 A.m1 rfl b9 x rfl BO ?_;simp only [hx,Option.map_none,Option.getD_none,Option.isSome_none,if_true])|(at_builtin;refine wpList_append_lies _ rfl (.tmp 38) (.tmp 41) 26 rfl W.heap.size 3 i0 _ 1 8 Tryz.underlying26 qJ tX rm uF rfl (by decide) _ _ _ rfl (hT.out.1.alloc _) ⟨wr.heap.size,0,none⟩ 1 1 [.int .i64 ((k:Int)+1)] rfl rfl (fY wr _ _ rfl) ?c1 (by omega) ?c3 ?c4 ?c5 _ rfl ?_))
     case c1=>intro u hu;simp at hu;subst hu;rfl
     case c3=>have:=dJ.out;unfold maxLen;omega
     case c4=>have:=dJ.out;omega
     case c5=>have:=ub.out;rw [B_];omega
     intro gg mW w6 jl kh iP mR
     have EU:f_ (w6.ownsRow W.heap.size 3 1 (.slice (some ⟨gg,0,none⟩) (fk.length+1) mW) (AD (k+1) recs).length ((AD (k+1) recs).map (ah .i64))/\g_ W.heap.size W w6):=by
      refine ⟨?_,(hT.out.2.alloc ub.out _).grown kh (by have:=ub.out;rw [B_];omega) fun g e=>(hT.out.1.lt g e).1⟩
      rw [h1.out,K_,List.map_append];simpa using jl
     clear jl kh iP mR hT hcell c4w b9
     go_wp2_with fail
     go_roundw
     case rel=>exact ⟨k+1,by omega,by go_num,EU⟩
     case measure=>simp [intOf];omega
    |some c=>
     have h1:f_ (AD (k+1) recs=AD k recs):=by rw [f_,kj.out,hx];simp
     have EU:f_ (wr.ownsRow W.heap.size 3 1 (.slice au (AD k recs).length cu) (AD (k+1) recs).length ((AD (k+1) recs).map (ah .i64))/\g_ W.heap.size W wr):=by rw [h1.out];exact hT.out
     clear kj hT
     generalize (AD k recs).length=fk at *
     go_wp2_with (at_lookup;refine cU _ rfl _ _ 71 true rfl zo Tryz.underlying71 A.m1 rfl b9 x rfl BO ?_;simp only [hx,Option.map_some,A_,Option.isSome_some,if_true])
     go_roundw
     case rel=>exact ⟨k+1,by omega,by go_num,EU⟩
     case measure=>simp [intOf];omega
   ·have yK:k=S.lines.length:=by omega
    have lI:f_ (qa fG O P rs (AD k recs)):=⟨fun h=>(by rw [eU.out] at h;cases h),fun _ qw he=>by rw [xI.out qw he,aCl.out,<-Ma.out,yK]⟩
    replace yK:=aa yK
    go_wp2_with fail
    have hB:=hB.out
    subst hB
    intro hcut todo
    have du:Lay C' wr:=⟨hcut,fJ.out.no⟩
    have hWe:W.heap=aK.heap:=by rw [ij.out.out];rfl
    refine Can.ctl uh du rfl (fun _=>aZ rfl rfl func13 rfl) ?_
    refine hc.out C' bw 0 wr _ (AD k recs) du (fun g cs' e f h=> ?_) (D_ (by rw [hWe];exact hsz.out.1) hT.out.2.size) (gG hT.out.1 (by rw [hWe];exact hsz.out.1)) lI.out
    have h1:=xq.out g cs' e f h
    rw [<-hWe] at h1
    exact (hT.out.2.block g (fw h1)).trans h1
end
end Go.aC.Of
namespace Go.aC.Of
section
open Go Go.Conc Go.aC Go.Proofs
open Go.RowKit hiding Hid Below
open Go.ConcN (upd upd_ne upd_same)
variable {B:Nat} {w wr:J'}
theorem KU (hb:g_ B w wr) (n:Nat):g_ B w (wr.drewN n):=⟨hb.os,hb.tape,hb.output,hb.size,hb.block⟩
theorem n8 {b o:Nat} {c:Array M'} {t:Q'} {f:Nat × Nat} (h:w.heap[b]?=some (.cells c t f)) (v:M'):(w.setCell ⟨b,o,none⟩ v).heap[b]?=some (.cells (c.setIfInBounds o v) t f):=by
 simp only [World.setCell,Array.getElem?_modify]
 simp [h]
structure Dd where
 act:List UInt8
 line:Int
 word:Int
def Dd.v0 (d:Dd):M':=.string ⟨d.act.toArray⟩
def Dd.cells (d:Dd):List M':=[.string ⟨d.act.toArray⟩,.int .i64 d.line,.int .i64 d.word]
def qL (d:Dd):M':=.agg #[.string ⟨d.act.toArray⟩,.int .i64 d.line,.int .i64 d.word]
def aFa (w:J') (a:Option z_) (ds:List Dd):Prop:=
 ds=[]\/∃b off,a=some ⟨b,off,none⟩/\b<w.heap.size/\∀i (h:i<ds.length),w.cell? ⟨b,off+i * 3,none⟩=some (.string ⟨ds[i].act.toArray⟩)/\w.cell? ⟨b,off+i * 3+1,none⟩=some (.int .i64 ds[i].line)/\w.cell? ⟨b,off+i * 3+2,none⟩=some (.int .i64 ds[i].word)
def BZ (ds:List Dd) (k:Nat):Nat:=ds.length+((ds.take k).map (·.act.length)).sum
def zn (left n:Nat):Int:=if n<=left then ((left - n:Nat):Int) else -1
def sO (d:Dd):Nat->M'
 |0=>.string ⟨d.act.toArray⟩
 |1=>.int .i64 d.line
 |_=>.int .i64 d.word
def yU:Dd:=⟨[],0,0⟩
def fM (ds:List Dd) (k:Nat):Array M':=Array.ofFn (n:=ds.length * 3) fun j=>sO (if j.val / 3<k then ds.getD (j.val / 3) yU else yU) (j.val % 3)
theorem Qm:(Tryz.prog.info? 55).map (fun i=>(i.zero,i.size,i.bytes))=some (some (.agg #[.string ⟨#[]⟩,.int .i64 0,.int .i64 0]),3,32):=by kernel_rfl
def Ov (k:Nat):List UInt8:=109::Lib.decDigits k
def Ay (v:Nat) (l:List UInt8):List UInt8:=if v=0 then l else ox v l
def zm (n:Nat):List Dd:=(List.range n).map fun (i:Nat)=>⟨Ov (1+3 * i),2+3 * (i:Int),3+3 * (i:Int)⟩
def eW (w:J') (a:Option z_) (zs:List Int):Prop:=
 zs=[]\/∃b off,a=some ⟨b,off,none⟩/\b<w.heap.size/\∀i,i<zs.length->w.cell? ⟨b,off+i,none⟩=some (.int .i64 (zs.getD i 0))
variable {zs:List Int} {i:Nat}
theorem eW.at {a:Option z_} (h:eW w a zs) (hi:i<zs.length):∃b off,a=some ⟨b,off,none⟩/\b<w.heap.size/\w.cell? ⟨b,off+i,none⟩=some (.int .i64 zs[i]):=by
 rcases h with rfl|⟨b,off,rfl,hb,hc⟩
 ·simp at hi
 ·refine ⟨b,off,rfl,hb, ?_⟩
  rw [hc i hi];simp [List.getD,hi]
variable {w':J'}
theorem eW.below {a:Option z_} (h:eW w a zs) (hw:g_ B w w') (hB:w.heap.size<=B):eW w' a zs:=by
 rcases h with rfl|⟨b,off,rfl,hb,hc⟩
 ·exact .inl rfl
 ·exact .inr ⟨b,off,rfl,E_ hb hw.size,fun i hi=>(hw.cell (by show b<B;omega)).trans (hc i hi)⟩
def marks (n:Nat):List Int:=(List.range n).map fun (i:Nat)=>(1+i:Int)
theorem aAf {base:Nat} {v:M'} {ns:List Int} (h:w.ownsRow base 3 1 v ns.length (ns.map (ah .i64))):∃a c,v=.slice a ns.length c/\eW w a ns:=by
 rcases h.2 with ⟨rfl,h0⟩|⟨g,cap,cur,rfl,_,hg,hc,_,_,aCg⟩
 ·have:ns=[]:=List.length_eq_zero_iff.1 h0
  subst this
  exact ⟨_,_,rfl,.inl rfl⟩
 ·refine ⟨_,_,rfl,.inr ⟨g,0,rfl,(cI hg),fun i hi=> ?_⟩⟩
  rw [cV hg,Nat.zero_add,<-Array.getElem?_toList]
  have h3:(cur.toList.take (ns.length * 1))[i]?=some (.int .i64 ns[i]):=by rw [aCg];simp [hi]
  rw [List.getElem?_take_of_lt (by omega)] at h3
  rw [h3];simp [List.getD,hi]
end
section
open Go Go.Conc Go.Conc.Lib Go.ConcR Go.ConcR.Gen Go.aC Go.Proofs
open Go.RowKit hiding Hid Below
open Go.ConcN (upd upd_ne upd_same)
def JM:List FuncId:=[9,10,11,12,14,15,16,17,18,19,21,41,42,43,44,46,47,48,52,62,63,64,82,83,84,85,86,110,111,112,113,114,115,116]
def MO (f:FuncId):Bool:=JM.contains f
def Dd.raw (d:Dd):Raw:=⟨⟨d.act.toArray⟩,d.line,d.word⟩
structure cG (x:Option Nat) (w w':J'):Prop where
 size:w.heap.size<=w'.heap.size
 blk:∀(g:Nat) (cs:Array M') (e:Q') (f:Nat × Nat),x≠some g->w.heap[g]?=some (jY cs e f)->w'.heap[g]?=some (jY cs e f)
variable {x:Option Nat} {w w' lZ:J'}
theorem cG.bW (h:g_ w.heap.size w w'):cG none w w':=⟨h.size,fun g _ _ _ _ hg=>(h.block g (fw hg)).trans hg⟩
theorem cG.JD (h:SQ w w') (hs:w.heap.size<=w'.heap.size):cG none w w':=⟨hs,fun g cs e f _ hg=>h g cs e f hg⟩
theorem cG.of_heap (h:w'.heap=w.heap):cG none w w':=⟨by rw [h];exact C_ _,fun g _ _ _ _ hg=>by rw [h];exact hg⟩
theorem cG.trans (h:cG none w w') (k:cG none w' lZ):cG none w lZ:=⟨D_ h.size k.size,fun g cs e f hx hg=>k.blk g cs e f hx (h.blk g cs e f hx hg)⟩
theorem zH {a:z_} {v:M'} (h:w.cell? a=some v):∃cs e f,w.heap[a.block]?=some (jY cs e f):=by
 unfold World.cell? at h
 split at h
 ·exact ⟨_,_,_,by assumption⟩
 ·cases h
theorem cG.cell (h:cG x w w') {a:z_} (hx:x≠some a.block) {v:M'} (ha:w.cell? a=some v):w'.cell? a=some v:=by
 obtain ⟨cs,e,f,hb⟩:=zH ha
 exact (J_ ((h.blk _ cs e f hx hb).trans hb.symm)).trans ha
structure ju (B kb:Nat) (L O P:Int) (ta:Option z_) (ds:List Dd) (w:J'):Prop where
 box:w.heap[kb]?=some (.cells #[.int .i64 L,.int .i64 O,.int .i64 P] 23 (0,0))
 kb:kb<B
 ev:aFa w ta ds
 K8:ds≠[]->∀b off,ta=some ⟨b,off,none⟩->b<B
 tab:∃g cs e f,g<B/\Tryz.prog.globalNamed "internal/strconv.uint64pow10" =some g/\w.heap[g]?=some (jY cs e f)/\cs=(Lib.pow10Tab.map fun z=>ah .u64 z).toArray
end
section
open Go Go.Conc Go.Conc.Lib Go.ConcR.Gen Go.aC Go.Proofs
open Go.RowKit hiding Hid Below
variable {w:J'}
theorem aCi {P:U'} {f:FuncId} {args:Array M'} {Q:Ending->J'->Prop} (h:d_ P f args w Q):f_ (d_ P f args w Q):=h
theorem Vq (w:J') (e:Q') (n:Nat):(w.alloc (.cells #[] e)).ownsRow w.heap.size e n (.slice (some ⟨w.heap.size,0,none⟩) 0 0) 0 []:=
 ⟨by simp,.inr ⟨w.heap.size,0,#[],rfl,C_ _,Z' _ _,C_ _,nz _,by simp,by simp⟩⟩
structure U6 (w:J') (g:Nat) (ws:List (List UInt8)):Prop where
 lt:g<w.heap.size
 at':∀k (h:k<ws.length),w.cell? ⟨g,k,none⟩=some (.string ⟨ws[k].toArray⟩)
variable {w':J'} {ws:List (List UInt8)}
theorem U6.block {g:Nat} (h:U6 w g ws) (hg:w'.heap[g]?=w.heap[g]?):U6 w' g ws:=by
 have hl:=(Array.getElem?_eq_some_iff.1 (hg.trans (Array.getElem?_eq_getElem h.lt))).1
 refine ⟨hl,fun k hk=> ?_⟩
 rw [<-h.at' k hk]
 unfold World.cell?
 simp only [hg]
def Bg (w:J') (a:Option z_) (bs:List Int):Prop:=
 bs=[]\/∃b off,a=some ⟨b,off,none⟩/\b<w.heap.size/\∀i,i<bs.length->w.cell? ⟨b,off+i,none⟩=some (.int .u8 (bs.getD i 0))
variable {zs:List Int} {B:Nat}
theorem Bg.below {a:Option z_} (h:Bg w a zs) (hw:g_ B w w') (hB:w.heap.size<=B):Bg w' a zs:=by
 rcases h with rfl|⟨b,off,rfl,hb,hc⟩
 ·exact .inl rfl
 ·exact .inr ⟨b,off,rfl,E_ hb hw.size,fun i hi=>(hw.cell (by show b<B;omega)).trans (hc i hi)⟩
def PU (n:Int):Prop:=0<=n/\n<=255
theorem xp (W:J') (b o:Nat) (v:M'):W.grownBy (W.setCell ⟨b,o,none⟩ v) (some b):=
 ⟨rfl,rfl,rfl,(by rw [o_];exact C_ _),fun k _ hk=>RowKit.Below.heap_setCell _ _ _ k (fun e=>hk (by rw [e]))⟩
theorem OG (a b:Nat) (ha:a<9223372036854775808) (hb:b<9223372036854775808):
 bits .xor .i64 (a:Int) (b:Int)=((a ^^^ b:Nat):Int):=by
 have hx:a ^^^ b<2 ^ 63:=Nat.xor_lt_two_pow (by omega) (by omega)
 have h1:(BitVec.ofInt 64 (a:Int)).toNat=a:=by
  rw [BitVec.ofInt_natCast,BitVec.toNat_ofNat];exact Nat.mod_eq_of_lt (by omega)
 have h2:(BitVec.ofInt 64 (b:Int)).toNat=b:=by
  rw [BitVec.ofInt_natCast,BitVec.toNat_ofNat];exact Nat.mod_eq_of_lt (by omega)
 show IntKind.i64.wrap ((BitVec.ofInt 64 (a:Int) ^^^ BitVec.ofInt 64 (b:Int)).toNat:Int)=_
 rw [BitVec.toNat_xor,h1,h2]
 simp only [IntKind.wrap,IntKind.bits,IntKind.signed]
 simp
 omega
theorem aAh {v:Int} (h0:0<=v) (h1:v<9223372036854775808):0<=bits .xor .i64 v (v / 64):=by
 obtain ⟨n,rfl⟩:=Int.eq_ofNat_of_zero_le h0
 rw [show ((n:Int) / 64)=((n / 64:Nat):Int) by simp,OG n (n / 64) (by omega) (by omega)]
 omega
theorem Vx {r:Option Nat} (h:w.grownBy w' r) (n:Nat):w.grownBy (w'.drewN n) r:=⟨h.os,h.tape,h.output,h.size,h.block⟩
structure Rd (w:J') (g0 g:Nat) (p:Nat):Prop where
 ex:∃(bs:List Int) (a:Option z_) (c:Nat),w.heap[g]?=some (.cells #[.slice a bs.length c,.int .i64 p] 119 (0,0))/\bs.length<=2000/\(∀b∈bs,PU b)/\
  (bs=[]\/∃b off,a=some ⟨b,off,none⟩/\b<g0/\∀i,i<bs.length->w.cell? ⟨b,off+i,none⟩=some (.int .u8 (bs.getD i 0)))
 le:g0<=g
theorem TX (g0 g p:Nat) (n:Int) (w:J') (hR:Rd w g0 g p) (hp:p<=1000000000) (hn:n<=1000000000):
 d_ p_ 75 #[.pointer (some ⟨g,0,none⟩),.int .i64 n] w fun e w'=>∃x:Int,e=.returned (.int .i64 x)/\0<=x/\(x<n\/x=0)/\Rd w' g0 g (p+1)/\w.grownBy w' (some g):=by
 obtain ⟨⟨bs,a,c,hg,lW,hu8,hby⟩,hle⟩:=hR
 have c0:w.cell? ⟨g,0,none⟩=some (.slice a bs.length c):=by rw [cV hg];rfl
 have c1:w.cell? ⟨g,1,none⟩=some (.int .i64 p):=by rw [cV hg];rfl
 have f1:w.frozen? ⟨g,1,none⟩=false:=bX hg
 have hs:=n8 hg (o:=1) (.int .i64 (p+1))
 have xv:(w.setCell ⟨g,1,none⟩ (.int .i64 (p+1))).heap[g]?=some (.cells #[.slice a bs.length c,.int .i64 ((p+1:Nat):Int)] 119 (0,0)):=by rw [hs];simp
 have lH:=xp w g 1 (.int .i64 (p+1))
 have hR':Rd (w.setCell ⟨g,1,none⟩ (.int .i64 (p+1))) g0 g (p+1):=⟨⟨bs,a,c,xv,lW,hu8,by
  rcases hby with h|⟨b,off,rfl,hb,hc⟩
  ·exact .inl h
  ·refine .inr ⟨b,off,rfl,hb,fun i hi=> ?_⟩
   rw [<-hc i hi]
   unfold World.cell?
   rw [RowKit.Below.heap_setCell _ _ _ b (by simp;omega)]⟩,hle⟩
 by_cases h1:n<1
 ·have HQ:decide (n<1)=true:=by simpa using h1
  go_enter func75,ntmps75
  go_wp2
  go_ret
  exact ⟨0,rfl,Int.le_refl _,.inr rfl,hR',lH⟩
 ·have HQ:decide (n<1)=false:=by simpa using h1
  by_cases h0:bs.length=0
  ·have ND:((bs.length:Int)==0)=true:=by simpa using h0
   go_enter func75,ntmps75
   go_wp2
   go_ret
   exact ⟨0,rfl,Int.le_refl _,.inr rfl,hR',lH⟩
  ·have ND:((bs.length:Int)==0)=false:=beq_eq_false_iff_ne.2 (by omega)
   rcases hby with rfl|⟨b,off,rfl,hb,hc⟩
   ·simp at h0
   have hcell:∀i,i<bs.length->∃x:Int,PU x/\(w.setCell ⟨g,1,none⟩ (.int .i64 (p+1))).cell? ⟨b,off+i,none⟩=some (.int .u8 x):=fun i hi=>by
    refine ⟨bs.getD i 0, ?_, ?_⟩
    ·have:bs.getD i 0=bs[i]:=by simp [List.getD,hi]
     rw [this];exact hu8 _ (by simp)
    ·rw [<-hc i hi]
     unfold World.cell?
     rw [RowKit.Below.heap_setCell _ _ _ b (by simp;omega)]
   by_cases hlt:p<bs.length
   ·obtain ⟨x,hx,hcx⟩:=hcell p hlt
    clear hcell hc hs hg hu8
    obtain ⟨AP,M0⟩:=hx
    go_enter func75,ntmps75
    go_wp2
    go_ret
    exact ⟨x % n,rfl,Int.emod_nonneg _ (by omega),.inl (Int.emod_lt_of_pos _ (by omega)),hR',lH⟩
   ·have vI:¬(p:Int)<(bs.length:Int):=by omega
    obtain ⟨q1,hq1⟩:∃q,q=p % bs.length:=⟨_,rfl⟩
    obtain ⟨q2,ς⟩:∃q,q=(p * 7+3) % bs.length:=⟨_,rfl⟩
    obtain ⟨q3,hq3⟩:∃q,q=p / bs.length:=⟨_,rfl⟩
    have l1:q1<bs.length:=hq1▸Nat.mod_lt _ (by omega)
    have l2:q2<bs.length:=ς▸Nat.mod_lt _ (by omega)
    have l3:q3<=p:=hq3▸Nat.div_le_self _ _
    have e1:(p:Int) % (bs.length:Int)=(q1:Int):=by rw [hq1];rfl
    have e2:((p:Int) * 7+3) % (bs.length:Int)=(q2:Int):=by rw [ς];rfl
    have e3:(p:Int) / (bs.length:Int)=(q3:Int):=by rw [hq3];rfl
    obtain ⟨x,hx,hcx⟩:=hcell q1 l1
    obtain ⟨y,hy,hcy⟩:=hcell q2 l2
    clear hcell hc hs hg hu8 hq1 ς hq3
    obtain ⟨AP,M0⟩:=hx
    obtain ⟨hy1,Qo⟩:=hy
    go_enter func75,ntmps75
    go_wp2
    go_quiet (fail)
    go_wp2
    go_ret
    have hm:=aAh (v:=x * 131+y * 1117+p * 29+q3 * 53) (by omega) (by omega)
    obtain ⟨bb,a,c,z1,z2,z3,z4⟩:=hR'.ex
    exact ⟨_,rfl,Int.tmod_nonneg _ hm,.inl (Int.tmod_lt_of_pos _ (by omega)),⟨⟨bb,a,c,z1,z2,z3,z4⟩,hle⟩,Vx lH _⟩
variable {gl:Nat}
theorem aAl {g:Nat} (h:∀(i:Nat) (hi:i<zs.length),w.cell? ⟨gl,i,none⟩=some (.int .i64 zs[i])) (hl:gl<w.heap.size) (hne:gl≠g) (hg:w.grownBy w' (some g)):∀(i:Nat) (hi:i<zs.length),w'.cell? ⟨gl,i,none⟩=some (.int .i64 zs[i]):=fun i hi=>by
 rw [<-h i hi]
 unfold World.cell?
 rw [hg.block gl hl (by intro e;injection e with e;exact hne e)]
theorem aBp (g0 g p gl c:Nat) (zs:List Int) (w:J') (hR:Rd w g0 g p) (hp:p<=1000000000) (hne:gl≠g) (hl:gl<w.heap.size) (hz:zs≠[]) (uF:zs.length<=1000) (hc:∀(i:Nat) (hi:i<zs.length),w.cell? ⟨gl,i,none⟩=some (.int .i64 zs[i])):
 d_ p_ 107 #[.pointer (some ⟨g,0,none⟩),.slice (some ⟨gl,0,none⟩) zs.length c] w fun e w'=>∃x:Int,e=.returned (.int .i64 x)/\x∈zs/\Rd w' g0 g (p+1)/\w.grownBy w' (some g):=by
 have iq:0<zs.length:=by cases zs with|nil=>exact absurd rfl hz|cons _ _=>simp
 have hk:=aCi (TX g0 g p zs.length w hR hp (by omega))
 have hc':=fun w' h=>aAl (w':=w') hc hl hne h
 go_enter func107,ntmps107
 go_wp2_with fail
 refine hk.out.mono ?_
 rintro e w1 ⟨x,rfl,YH,AP,EU,BI⟩
 obtain ⟨n,rfl⟩:=Int.eq_ofNat_of_zero_le YH
 have hlt:n<zs.length:=by omega
 have hcell:=hc' w1 BI n hlt
 clear hc hc' hk
 go_wp2
 go_ret
 exact ⟨_,rfl,by simp,EU,BI⟩
theorem U6.kept {g:Nat} (h:U6 w gl ws) (hne:gl≠g) (hg:w.grownBy w' (some g)):U6 w' gl ws:=
 h.block (hg.block gl h.lt (by intro e;injection e with e;exact hne e))
theorem aBw (g0 g p gl c:Nat) (ws:List (List UInt8)) (w:J') (hR:Rd w g0 g p) (hp:p<=1000000000) (hne:gl≠g) (hz:ws≠[]) (uF:ws.length<=1000) (hT:U6 w gl ws):
 d_ p_ 108 #[.pointer (some ⟨g,0,none⟩),.slice (some ⟨gl,0,none⟩) ws.length c] w fun e w'=>∃x:List UInt8,e=.returned (.string ⟨x.toArray⟩)/\x∈ws/\Rd w' g0 g (p+1)/\w.grownBy w' (some g):=by
 have iq:0<ws.length:=by cases ws with|nil=>exact absurd rfl hz|cons _ _=>simp
 have hk:=aCi (TX g0 g p ws.length w hR hp (by omega))
 go_enter func108,ntmps108
 go_wp2_with fail
 refine hk.out.mono ?_
 rintro e w1 ⟨x,rfl,YH,AP,EU,BI⟩
 obtain ⟨n,rfl⟩:=Int.eq_ofNat_of_zero_le YH
 have hlt:n<ws.length:=by omega
 have hcell:=(hT.kept hne BI).at' n hlt
 clear hT hk
 go_wp2
 go_ret
 exact ⟨ws[n],rfl,by simp,EU,BI⟩
theorem OW (a:Option z_) (c:Nat) (bs:List Int) (w:J') (hA:Bg w a bs) (hu:∀b∈bs,PU b) (lJ:bs.length<=c):
 d_ p_ 51 #[.slice a bs.length c] w fun e w'=>e=.returned (.pointer (some ⟨w.heap.size,0,none⟩))/\Rd w' w.heap.size w.heap.size 0/\g_ w.heap.size w w':=by
 by_cases hn:2000<bs.length
 ·have bH:(2000:Int)<(bs.length:Int):=by omega
  go_enter func51,ntmps51
  go_wp2
  go_ret
  refine ⟨rfl,⟨⟨bs.take 2000,a,c, ?_,by simp;omega,fun b hb=>hu b (List.mem_of_mem_take hb), ?_⟩,C_ _⟩,(h_ _ _).alloc (C_ _) _⟩
  ·rw [Q_,show min 2000 bs.length=2000 by omega];exact Z' _ _
  ·rcases hA with h|⟨b,off,rfl,hb,hc⟩
   ·rw [h] at hn;simp at hn
   ·refine .inr ⟨b,off,rfl,hb,fun i hi=> ?_⟩
    rw [show (bs.take 2000).getD i 0=bs.getD i 0 by rw [Q_] at hi;simp only [List.getD];rw [List.getElem?_take_of_lt (by omega)],<-hc i (by simp at hi;omega)]
    exact ((h_ _ w).alloc (C_ _) _).cell (by show b<_;omega)
 ·have bH:¬(2000:Int)<(bs.length:Int):=by omega
  go_enter func51,ntmps51
  go_wp2
  go_ret
  refine ⟨rfl,⟨⟨bs,a,c,Z' _ _,by omega,hu, ?_⟩,C_ _⟩,(h_ _ _).alloc (C_ _) _⟩
  rcases hA with h|⟨b,off,rfl,hb,hc⟩
  ·exact .inl h
  ·refine .inr ⟨b,off,rfl,hb,fun i hi=> ?_⟩
   rw [<-hc i hi]
   exact ((h_ _ w).alloc (C_ _) _).cell (by show b<_;omega)
variable {g0:Nat}
theorem Rd.kept {g p:Nat} {row:Option Nat} (h:Rd w g0 g p) (hg:w.grownBy w' row) (hr:∀r,row=some r->g0<=r/\r≠g) (hl:g<w.heap.size):Rd w' g0 g p:=by
 obtain ⟨⟨bs,a,c,h1,h2,h3,h4⟩,hle⟩:=h
 refine ⟨⟨bs,a,c,(hg.block g hl (fun e=>(hr g e.symm).2 rfl)).trans h1,h2,h3, ?_⟩,hle⟩
 rcases h4 with h4|⟨b,off,rfl,hb,hc⟩
 ·exact .inl h4
 ·refine .inr ⟨b,off,rfl,hb,fun i hi=> ?_⟩
  rw [<-hc i hi]
  unfold World.cell?
  rw [hg.block b (by omega) (fun e=>by have:=(hr b e.symm).1;omega)]
theorem Rd.lt {g p:Nat} (h:Rd w g0 g p):g<w.heap.size:=by
 obtain ⟨⟨bs,a,c,h1,_⟩,_⟩:=h
 exact (cI h1)
variable {x j:Nat}
theorem CC {r:Option Nat} (h:w.grownBy w' r) (hx:w.heap.size<=x) (v:M'):w.grownBy (w'.setCell ⟨x,j,none⟩ v) r:=
 ⟨h.os,h.tape,h.output,by rw [o_];exact h.size,fun k hk hne=>(RowKit.Below.heap_setCell _ _ _ k (by simp;omega)).trans (h.block k hk hne)⟩
theorem U2 (w:J') (o:Obj):(w.alloc o).heap[w.heap.size]?=some o:=Z' _ _
def Reads (w:J') (x:Nat) (vs:List M'):Prop:=∀j,j<vs.length->w.cell? ⟨x,j,none⟩=vs[j]?/\w.frozen? ⟨x,j,none⟩=false
theorem Rd.alloc {g p:Nat} (h:Rd w g0 g p) (o:Obj):Rd (w.alloc o) g0 g p:=h.kept (N_ w o none) (fun r e=>by cases e) h.lt
def aCd (w:J') (g0 g p:Nat) (w':J'):Prop:=Rd w' g0 g (p+1)/\w.grownBy w' (some g)
theorem Es {g p n:Nat} (zs:List Int) (t:Q') (hR:Rd w g0 g p) (hp:p<=1000000000) (Mg:gl=w.heap.size) (hn:zs.length=n) (hz:0<n) (uF:n<=1000):
 d_ p_ 107 #[.pointer (some ⟨g,0,none⟩),.slice (some ⟨gl,0,none⟩) n n] (w.alloc (.cells (zs.map (ah .i64)).toArray t)) fun e w'=>∃x:Int,e=.returned (.int .i64 x)/\x∈zs/\f_ (aCd w g0 g p w'):=by
 subst Mg hn
 have hlt:=hR.lt
 refine (aBp g0 g p w.heap.size _ zs _ (hR.alloc _) hp (by omega) (by simp) (fun e=>by simp [e] at hz) uF (fun i hi=> ?_)).mono fun e w' ⟨x,h1,h2,h3,h4⟩=>⟨x,h1,h2,h3,(N_ w _ _).trans h4⟩
 rw [cV (U2 w _)];simp [hi]
theorem aAg {g p n:Nat} (ws:List (List UInt8)) (t:Q') (hR:Rd w g0 g p) (hp:p<=1000000000) (Mg:gl=w.heap.size) (hn:ws.length=n) (hz:0<n) (uF:n<=1000):
 d_ p_ 108 #[.pointer (some ⟨g,0,none⟩),.slice (some ⟨gl,0,none⟩) n n] (w.alloc (.cells (ws.map fun s=>Value.string ⟨s.toArray⟩).toArray t)) fun e w'=>∃x:List UInt8,e=.returned (.string ⟨x.toArray⟩)/\f_ (aCd w g0 g p w'):=by
 subst Mg hn
 have hlt:=hR.lt
 refine (aBw g0 g p w.heap.size _ ws _ (hR.alloc _) hp (by omega) (fun e=>by simp [e] at hz) uF ⟨by simp,fun i hi=> ?_⟩).mono fun e w' ⟨x,h1,_,h3,h4⟩=>⟨x,h1,h3,(N_ w _ _).trans h4⟩
 rw [cV (U2 w _)];simp [hi]
theorem BX {g p:Nat} {n:Int} (hR:Rd w g0 g p) (hp:p<=1000000000) (hn:n<=1000000000):
 d_ p_ 75 #[.pointer (some ⟨g,0,none⟩),.int .i64 n] w fun e w'=>∃x:Nat,e=.returned (.int .i64 x)/\(((x:Nat):Int)<n\/x=0)/\f_ (aCd w g0 g p w'):=
 (TX g0 g p n w hR hp hn).mono fun e w' ⟨x,h1,h2,h3,h4,h5⟩=>by
  obtain ⟨m,rfl⟩:=Int.eq_ofNat_of_zero_le h2
  exact ⟨m,h1,h3.imp id (fun h=>by omega),h4,h5⟩
variable {fn:Func}
theorem Yw {p:Tmp} {ty:Q'} (h:fn.results=#[.cell p ty]) (tmps:Array M') (P:U') (w:J'):
 (results fn tmps).run P w=((asAddr (tmps.getD p I')).run P w).andThen fun a w₁=>(loadVar ty a).run P w₁:=by
 simp only [results,h]
 simp [Sem.run_bind,Result.andThen]
variable {cs:Array M'}
theorem Gv {P:U'} {p:Tmp} {aBz t:Q'} (h:fn.results=#[.cell p aBz]) {tmps:Array M'} {b:Nat} (ht:tmps.getD p I'=.pointer (some ⟨b,0,none⟩)) {fr:Nat × Nat} {d:TypeDesc}
 (hg:w.heap[b]?=some (.cells cs t fr)) (hu:P.underlying aBz=some d) (hd:(match d with| .struct _| .array _ _=>true|_=>false)=true) (hi:(P.info? aBz).map (·.size)=some cs.size):(results fn tmps).run P w=.ok (.agg cs) w:=by
 rw [Yw h,ht]
 simp [asAddr,Result.andThen,run_loadVar_row w b t aBz cs fr d hg hu hd hi]
def NA:Nat->Code->Code
 |0,c=>c
 |n+1,.seq _ b=>NA n b
 |_+1,c=>c
def Pl (f:Func):Code:=match f.body with
 |some c=>c
 |none=>.skip
structure DZ (w0:J') (g0 g p x:Nat) (ty:Q') (zs cs:Array M') (w:J'):Prop where
 box:w.heap[x]?=some (.cells cs ty (0,0))
 res:w.heap[w0.heap.size]?=some (.cells zs ty (0,0))
 rd:∃p',p'<=p/\Rd w g0 g p'
 grown:w0.grownBy w (some g)
 lt:w0.heap.size<x
variable {w0:J'} {g p p' ty:Nat} {zs:Array M'}
theorem DZ.lx (h:DZ w0 g0 g p x ty zs cs w):x<w.heap.size:=(cI h.box)
theorem DZ.ED (h:DZ w0 g0 g p x ty zs cs w) (hg:g<w0.heap.size) (hr:w.grownBy w' (some g)) (hp:∃q,q<=p'/\Rd w' g0 g q):DZ w0 g0 g p' x ty zs cs w':=
 have h1:=h.lt
 have h2:=h.lx
 ⟨(hr.block x h2 (by simp;omega)).trans h.box,(hr.block _ (by omega) (by simp;omega)).trans h.res,hp,h.grown.trans hr,h.lt⟩
theorem DZ.put (h:DZ w0 g0 g p x ty zs cs w) (χ:g0<=g) (hg:g<w0.heap.size) (j:Nat) (v:M'):DZ w0 g0 g p x ty zs (cs.setIfInBounds j v) (w.setCell ⟨x,j,none⟩ v):=by
 have h1:=h.lt
 have h2:=h.lx
 refine ⟨n8 h.box v, ?_, ?_,CC h.grown (by omega) v,h.lt⟩
 ·rw [RowKit.Below.heap_setCell _ _ _ _ (by simp;omega)];exact h.res
 ·obtain ⟨q,hq,hr⟩:=h.rd
  exact ⟨q,hq,hr.kept (xp w x j v) (fun r e=>by injection e with e;subst e;exact ⟨by omega,by omega⟩) hr.lt⟩
theorem DZ.less (h:DZ w0 g0 g p x ty zs cs w) (hp:p<=p'):DZ w0 g0 g p' x ty zs cs w:=
 have ⟨q,h1,h2⟩:=h.rd
 ⟨h.box,h.res,⟨q,D_ h1 hp,h2⟩,h.grown,h.lt⟩
theorem DZ.facts {a b c:M'} (h:DZ w0 g0 g p x ty zs #[a,b,c] w):(w.cell? ⟨x,0,none⟩=some a/\w.cell? ⟨x,1,none⟩=some b/\w.cell? ⟨x,2,none⟩=some c)/\(w.frozen? ⟨x,0,none⟩=false/\w.frozen? ⟨x,1,none⟩=false/\w.frozen? ⟨x,2,none⟩=false):=
 ⟨⟨cV h.box,cV h.box,cV h.box⟩,bX h.box,bX h.box,bX h.box⟩
theorem DZ.KT {a b c:M'} (h:DZ w0 g0 g p x ty #[a,b,c] cs w):(w.cell? ⟨w0.heap.size,0,none⟩=some a/\w.cell? ⟨w0.heap.size,1,none⟩=some b/\w.cell? ⟨w0.heap.size,2,none⟩=some c)/\(w.frozen? ⟨w0.heap.size,0,none⟩=false/\w.frozen? ⟨w0.heap.size,1,none⟩=false/\w.frozen? ⟨w0.heap.size,2,none⟩=false):=
 ⟨⟨cV h.res,cV h.res,cV h.res⟩,bX h.res,bX h.res,bX h.res⟩
theorem DZ.cell (χ:g0<=g) (hg:g<w0.heap.size) (h:w.heap[w0.heap.size]?=some (.cells cs ty (0,0))/\(∃q,q<=p/\Rd w g0 g q)/\w0.grownBy w (some g)) (j:Nat) (v:M'):
 (w.setCell ⟨w0.heap.size,j,none⟩ v).heap[w0.heap.size]?=some (.cells (cs.setIfInBounds j v) ty (0,0))/\(∃q,q<=p/\Rd (w.setCell ⟨w0.heap.size,j,none⟩ v) g0 g q)/\w0.grownBy (w.setCell ⟨w0.heap.size,j,none⟩ v) (some g):=by
 obtain ⟨h1,⟨q,hq,hr⟩,h2⟩:=h
 exact ⟨n8 h1 v,⟨q,hq,hr.kept (xp w _ j v) (fun r e=>by injection e with e;subst e;exact ⟨by omega,by omega⟩) hr.lt⟩,CC h2 (C_ _) v⟩
def CQ (g0 g p:Nat) (w:J') (V:M'->Prop) (e:Ending) (w':J'):Prop:=∃v p',e=.returned v/\V v/\p'<=p/\Rd w' g0 g p'/\w.grownBy w' (some g)
def aBi (v:M'):Prop:=∃a b c:Int,v=.agg #[.int .i64 a,.int .i64 b,.int .i64 c]
def k_ (v:M'):Prop:=∃(k:List UInt8) (a b:Int),v=.agg #[.string ⟨k.toArray⟩,.int .i64 a,.int .i64 b]
variable {X:Nat} {x1 x4 x5 x6 x7 x8 x9 x10 π ξ ν κ θ Z9 Z4 ZM ZJ ZI x21 Yf uP tt ti E' y' x28 x29 x30 x31 x32 x33 x34:M'} {a b:Int}
theorem aAr {g p:Nat} (hp:p<=1000000) (hlt:g<w.heap.size) (χ:g0<=g) {c:Int} (O:DZ w g0 g (p+6) X 28 #[.int .i64 0,.int .i64 0,.int .i64 0] #[.int .i64 a,.int .i64 b,.int .i64 c] w'):(NA 3 (Pl f77)).wp p_ (bodyPost p_ f77 (CQ g0 g (p+6) w aBi)) ⟨#[.pointer (some ⟨g,0,none⟩),x1,.pointer (some ⟨w.heap.size,0,none⟩),.pointer (some ⟨X,0,none⟩),x4,x5,x6,x7,x8,x9,x10,π,ξ,ν,κ,θ,Z9,Z4,ZM,ZJ,ZI,x21,Yf,uP,tt,ti,E',y',x28,x29,x30,x31,x32,x33,x34],[]⟩ w':=by
 obtain ⟨⟨f0,f1,f2⟩,z0,z1,z2⟩:=O.facts
 obtain ⟨⟨r0,r1,r2⟩,y0,y1,y2⟩:=O.KT
 generalize hQ:bodyPost p_ f77 (CQ g0 g (p+6) w aBi)=Q
 simp only [NA,Pl,f77]
 subst hQ
 go_wp2_with fail
 obtain ⟨b1,⟨q,hq,hr⟩,b2⟩:=DZ.cell χ hlt (DZ.cell χ hlt (DZ.cell χ hlt ⟨O.res,O.rd,O.grown⟩ 0 (.int .i64 a)) 1 (.int .i64 b)) 2 (.int .i64 c)
 exact bodyPost_ret (Gv rfl rfl b1 Tryz.underlying28 rfl (by kernel_rfl)) rfl ⟨_,q,rfl,⟨_,_,_,rfl⟩,by omega,hr,b2⟩
theorem aCf {g p:Nat} (hp:p<=1000000) (hlt:g<w.heap.size) (χ:g0<=g) {c:Int} (O:DZ w g0 g (p+3) X 28 #[.int .i64 0,.int .i64 0,.int .i64 0] #[.int .i64 a,.int .i64 b,.int .i64 c] w'):(NA 2 (Pl f77)).wp p_ (bodyPost p_ f77 (CQ g0 g (p+6) w aBi)) ⟨#[.pointer (some ⟨g,0,none⟩),x1,.pointer (some ⟨w.heap.size,0,none⟩),.pointer (some ⟨X,0,none⟩),x4,x5,x6,x7,x8,x9,x10,π,ξ,ν,κ,θ,Z9,Z4,ZM,ZJ,ZI,x21,Yf,uP,tt,ti,E',y',x28,x29,x30,x31,x32,x33,x34],[]⟩ w':=by
 obtain ⟨⟨f0,f1,f2⟩,z0,z1,z2⟩:=O.facts
 obtain ⟨⟨r0,r1,r2⟩,y0,y1,y2⟩:=O.KT
 generalize hQ:bodyPost p_ f77 (CQ g0 g (p+6) w aBi)=Q
 simp only [NA,Pl,f77]
 subst hQ
 refine wp_seq_k fun K hK=> ?_
 have kk:=aa hK
 clear hK
 go_wp2_with fail
 obtain ⟨q,hq,hr⟩:=O.rd
 refine (BX hr (by omega) (by omega)).mono ?_
 rintro e w3 ⟨y,rfl,hy,h3⟩
 have O1:=O.ED (p':=p+4) hlt h3.out.2 ⟨_,by omega,h3.out.1⟩
 obtain ⟨⟨f0,f1,f2⟩,z0,z1,z2⟩:=O1.facts
 have c0:(y:Int)=0\/(y:Int)=1\/(y:Int)=2\/(2<(y:Int)):=by omega
 rcases c0 with c|c|c|c
 ·go_wp2_with fail
  obtain ⟨q2,ς,L8⟩:=O1.rd
  refine (Es (n:=3) [0,7, -1] _ L8 (by omega) rfl rfl (by omega) (by omega)).mono ?_
  rintro e w4 ⟨v,rfl,_,h4⟩
  have O2:=O1.ED (p':=p+5) hlt h4.out.2 ⟨_,by omega,h4.out.1⟩
  obtain ⟨⟨f0,f1,f2⟩,z0,z1,z2⟩:=O2.facts
  go_wp2_with fail
  refine kk.out _ _ ?_
  exact aAr hp hlt χ ((O2.put χ hlt 0 (.int .i64 v)).less (by omega))
 ·go_wp2_with fail
  obtain ⟨q2,ς,L8⟩:=O1.rd
  refine (Es (n:=3) [0,5,9223372036854775807] _ L8 (by omega) rfl rfl (by omega) (by omega)).mono ?_
  rintro e w4 ⟨v,rfl,_,h4⟩
  have O2:=O1.ED (p':=p+5) hlt h4.out.2 ⟨_,by omega,h4.out.1⟩
  obtain ⟨⟨f0,f1,f2⟩,z0,z1,z2⟩:=O2.facts
  go_wp2_with fail
  refine kk.out _ _ ?_
  exact aAr hp hlt χ ((O2.put χ hlt 1 (.int .i64 v)).less (by omega))
 ·go_wp2_with fail
  obtain ⟨q2,ς,L8⟩:=O1.rd
  refine (Es (n:=3) [0,61, -1] _ L8 (by omega) rfl rfl (by omega) (by omega)).mono ?_
  rintro e w4 ⟨v,rfl,_,h4⟩
  have O2:=O1.ED (p':=p+5) hlt h4.out.2 ⟨_,by omega,h4.out.1⟩
  obtain ⟨⟨f0,f1,f2⟩,z0,z1,z2⟩:=O2.facts
  go_wp2_with fail
  refine kk.out _ _ ?_
  exact aAr hp hlt χ ((O2.put χ hlt 2 (.int .i64 v)).less (by omega))
 ·go_wp2_with fail
  refine kk.out _ _ ?_
  exact aAr hp hlt χ (O1.less (by omega))
theorem Yx {g p:Nat} (hR:Rd w g0 g p) (hp:p<=1000000):
 d_ p_ 77 #[.pointer (some ⟨g,0,none⟩)] w (CQ g0 g (p+6) w aBi):=by
 have hlt:=hR.lt
 have χ:=hR.le
 have R0:=hR.alloc (.cells #[.int .i64 0,.int .i64 0,.int .i64 0] 28)
 have k0:=N_ w (.cells #[.int .i64 0,.int .i64 0,.int .i64 0] 28) (some g)
 go_enter func77,ntmps77
 go_wp2_with fail
 rename_i K1 hK1 K0 OY
 have kk:=aa hK1
 clear hK1
 refine (BX R0 (by omega) (by omega)).mono ?_
 rintro e w1 ⟨x,rfl,hx,h1⟩
 go_wp2_with fail
 refine (BX h1.out.1 (by omega) (by omega)).mono ?_
 rintro e w2 ⟨y,rfl,hy,h2⟩
 go_wp2_with fail
 refine (Es (n:=5) [5,3,10,1,60] _ h2.out.1 (by omega) rfl rfl (by omega) (by omega)).mono ?_
 rintro e w3 ⟨v,rfl,_,h3⟩
 have k1:(w.alloc (.cells #[.int .i64 0,.int .i64 0,.int .i64 0] 28)).grownBy w3 (some g):=(h1.out.2.trans h2.out.2).trans h3.out.2
 have O3:DZ w g0 g (p+3) w3.heap.size 28 #[.int .i64 0,.int .i64 0,.int .i64 0] #[.int .i64 (1+x),.int .i64 (1+y),.int .i64 v] (w3.alloc (.cells #[.int .i64 (1+x),.int .i64 (1+y),.int .i64 v] 28)):=by
  have z1:=k1.size
  rw [B_] at z1
  refine ⟨Z' w3 _, ?_,⟨_,C_ _,h3.out.1.alloc _⟩,(k0.trans k1).trans (N_ w3 _ _),by omega⟩
  exact ((N_ w3 _ none).block _ (by omega) (by simp)).trans ((k1.block _ (by rw [B_];omega) (by simp;omega)).trans (Z' w _))
 go_wp2_with fail
 refine kk.out _ _ ?_
 exact aCf hp hlt χ O3
variable {x35 x36 x37 x38 x39 x40 x41 x42 x43 x44 x45 x46 q_ x48 x49 x50 x51 x52 x53 x54 x55:M'}
theorem aAs {g p:Nat} (hp:p<=1000000) (hlt:g<w.heap.size) (χ:g0<=g) {k:List UInt8} (O:DZ w g0 g (p+8) X 55 #[.string ⟨#[]⟩,.int .i64 0,.int .i64 0] #[.string ⟨k.toArray⟩,.int .i64 a,.int .i64 b] w'):(NA 4 (Pl f109)).wp p_ (bodyPost p_ f109 (CQ g0 g (p+8) w k_)) ⟨#[.pointer (some ⟨g,0,none⟩),x1,.pointer (some ⟨w.heap.size,0,none⟩),.pointer (some ⟨X,0,none⟩),x4,x5,x6,x7,x8,x9,x10,π,ξ,ν,κ,θ,Z9,Z4,ZM,ZJ,ZI,x21,Yf,uP,tt,ti,E',y',x28,x29,x30,x31,x32,x33,x34,x35,x36,x37,x38,x39,x40,x41,x42,x43,x44,x45,x46,q_,x48,x49,x50,x51,x52,x53,x54,x55],[]⟩ w':=by
 obtain ⟨⟨f0,f1,f2⟩,z0,z1,z2⟩:=O.facts
 obtain ⟨⟨r0,r1,r2⟩,y0,y1,y2⟩:=O.KT
 generalize hQ:bodyPost p_ f109 (CQ g0 g (p+8) w k_)=Q
 simp only [NA,Pl,f109]
 subst hQ
 go_wp2_with fail
 obtain ⟨b1,⟨q,hq,hr⟩,b2⟩:=DZ.cell χ hlt (DZ.cell χ hlt (DZ.cell χ hlt ⟨O.res,O.rd,O.grown⟩ 0 (.string ⟨k.toArray⟩)) 1 (.int .i64 a)) 2 (.int .i64 b)
 exact bodyPost_ret (Gv rfl rfl b1 Tryz.underlying55 rfl (by kernel_rfl)) rfl ⟨_,q,rfl,⟨_,_,_,rfl⟩,by omega,hr,b2⟩
theorem aAt {g p:Nat} (hp:p<=1000000) (hlt:g<w.heap.size) (χ:g0<=g) {k:List UInt8} (O:DZ w g0 g (p+4) X 55 #[.string ⟨#[]⟩,.int .i64 0,.int .i64 0] #[.string ⟨k.toArray⟩,.int .i64 a,.int .i64 b] w'):(NA 3 (Pl f109)).wp p_ (bodyPost p_ f109 (CQ g0 g (p+8) w k_)) ⟨#[.pointer (some ⟨g,0,none⟩),x1,.pointer (some ⟨w.heap.size,0,none⟩),.pointer (some ⟨X,0,none⟩),x4,x5,x6,x7,x8,x9,x10,π,ξ,ν,κ,θ,Z9,Z4,ZM,ZJ,ZI,x21,Yf,uP,tt,ti,E',y',x28,x29,x30,x31,x32,x33,x34,x35,x36,x37,x38,x39,x40,x41,x42,x43,x44,x45,x46,q_,x48,x49,x50,x51,x52,x53,x54,x55],[]⟩ w':=by
 obtain ⟨⟨f0,f1,f2⟩,z0,z1,z2⟩:=O.facts
 obtain ⟨⟨r0,r1,r2⟩,y0,y1,y2⟩:=O.KT
 generalize hQ:bodyPost p_ f109 (CQ g0 g (p+8) w k_)=Q
 simp only [NA,Pl,f109]
 subst hQ
 refine wp_seq_k fun K hK=> ?_
 have kk:=aa hK
 clear hK
 go_wp2_with fail
 obtain ⟨q,hq,hr⟩:=O.rd
 refine (BX hr (by omega) (by omega)).mono ?_
 rintro e w3 ⟨y,rfl,hy,h3⟩
 have O1:=O.ED (p':=p+5) hlt h3.out.2 ⟨_,by omega,h3.out.1⟩
 obtain ⟨⟨f0,f1,f2⟩,z0,z1,z2⟩:=O1.facts
 have c0:(y:Int)=0\/(y:Int)=1\/(y:Int)=2\/(2<(y:Int)):=by omega
 rcases c0 with c|c|c|c
 ·go_wp2_with fail
  obtain ⟨q2,ς,L8⟩:=O1.rd
  refine (Es (n:=5) [0,100, -1,61,5] _ L8 (by omega) rfl rfl (by omega) (by omega)).mono ?_
  rintro e w4 ⟨v,rfl,_,h4⟩
  have O2:=O1.ED (p':=p+6) hlt h4.out.2 ⟨_,by omega,h4.out.1⟩
  obtain ⟨⟨f0,f1,f2⟩,z0,z1,z2⟩:=O2.facts
  go_wp2_with fail
  refine kk.out _ _ ?_
  exact aAs hp hlt χ ((O2.put χ hlt 1 (.int .i64 v)).less (by omega))
 ·go_wp2_with fail
  obtain ⟨q2,ς,L8⟩:=O1.rd
  refine (Es (n:=3) [1,10, -1] _ L8 (by omega) rfl rfl (by omega) (by omega)).mono ?_
  rintro e w4 ⟨v,rfl,_,h4⟩
  have O2:=O1.ED (p':=p+6) hlt h4.out.2 ⟨_,by omega,h4.out.1⟩
  obtain ⟨⟨f0,f1,f2⟩,z0,z1,z2⟩:=O2.facts
  go_wp2_with fail
  refine kk.out _ _ ?_
  exact aAs hp hlt χ ((O2.put χ hlt 2 (.int .i64 v)).less (by omega))
 ·go_wp2_with fail
  obtain ⟨q2,ς,L8⟩:=O1.rd
  refine (aAg (n:=3) [[],[114,105,110,103,115],[112,117,116]] _ L8 (by omega) rfl rfl (by omega) (by omega)).mono ?_
  rintro e w4 ⟨v,rfl,h4⟩
  have O2:=O1.ED (p':=p+6) hlt h4.out.2 ⟨_,by omega,h4.out.1⟩
  obtain ⟨⟨f0,f1,f2⟩,z0,z1,z2⟩:=O2.facts
  go_wp2_with fail
  refine kk.out _ _ ?_
  exact aAs hp hlt χ ((O2.put χ hlt 0 (.string ⟨v.toArray⟩)).less (by omega))
 ·go_wp2_with fail
  refine kk.out _ _ ?_
  exact aAs hp hlt χ (O1.less (by omega))
theorem aCk {g p:Nat} (hp:p<=1000000) (hlt:g<w.heap.size) (χ:g0<=g) {k:List UInt8} (O:DZ w g0 g (p+1) X 55 #[.string ⟨#[]⟩,.int .i64 0,.int .i64 0] #[.string ⟨k.toArray⟩,.int .i64 a,.int .i64 b] w'):(NA 2 (Pl f109)).wp p_ (bodyPost p_ f109 (CQ g0 g (p+8) w k_)) ⟨#[.pointer (some ⟨g,0,none⟩),x1,.pointer (some ⟨w.heap.size,0,none⟩),.pointer (some ⟨X,0,none⟩),x4,x5,x6,x7,x8,x9,x10,π,ξ,ν,κ,θ,Z9,Z4,ZM,ZJ,ZI,x21,Yf,uP,tt,ti,E',y',x28,x29,x30,x31,x32,x33,x34,x35,x36,x37,x38,x39,x40,x41,x42,x43,x44,x45,x46,q_,x48,x49,x50,x51,x52,x53,x54,x55],[]⟩ w':=by
 obtain ⟨⟨f0,f1,f2⟩,z0,z1,z2⟩:=O.facts
 obtain ⟨⟨r0,r1,r2⟩,y0,y1,y2⟩:=O.KT
 generalize hQ:bodyPost p_ f109 (CQ g0 g (p+8) w k_)=Q
 simp only [NA,Pl,f109]
 subst hQ
 refine wp_seq_k fun K hK=> ?_
 have kk:=aa hK
 clear hK
 by_cases h1:k=[114,105,110,103]
 ·subst h1
  go_wp2_with fail
  obtain ⟨q,hq,hr⟩:=O.rd
  refine (BX hr (by omega) (by omega)).mono ?_
  rintro e w3 ⟨y,rfl,hy,h3⟩
  have O1:=O.ED (p':=p+2) hlt h3.out.2 ⟨_,by omega,h3.out.1⟩
  obtain ⟨⟨f0,f1,f2⟩,z0,z1,z2⟩:=O1.facts
  go_wp2_with fail
  obtain ⟨q,hq,hr⟩:=(O1.put χ hlt 1 (.int .i64 (1+(y:Int)))).rd
  refine (BX hr (by omega) (by omega)).mono ?_
  rintro e w4 ⟨y2,rfl,Qo,h4⟩
  have O2:=(O1.put χ hlt 1 (.int .i64 (1+(y:Int)))).ED (p':=p+3) hlt h4.out.2 ⟨_,by omega,h4.out.1⟩
  obtain ⟨⟨f0,f1,f2⟩,z0,z1,z2⟩:=O2.facts
  go_wp2_with fail
  refine kk.out _ _ ?_
  exact aAt hp hlt χ ((O2.put χ hlt 2 (.int .i64 (y2:Int))).less (by omega))
 by_cases h2:k=[104,97,110,103]
 ·subst h2
  go_wp2_with fail
  obtain ⟨q,hq,hr⟩:=O.rd
  refine (BX hr (by omega) (by omega)).mono ?_
  rintro e w3 ⟨y,rfl,hy,h3⟩
  have O1:=O.ED (p':=p+2) hlt h3.out.2 ⟨_,by omega,h3.out.1⟩
  obtain ⟨⟨f0,f1,f2⟩,z0,z1,z2⟩:=O1.facts
  go_wp2_with fail
  refine kk.out _ _ ?_
  exact aAt hp hlt χ ((O1.put χ hlt 1 (.int .i64 (1+(y:Int)))).less (by omega))
 by_cases h3:k=[119,97,105,116]
 ·subst h3
  go_wp2_with fail
  obtain ⟨q2,ς,L8⟩:=O.rd
  refine (Es (n:=5) [1,2,5,3,60] _ L8 (by omega) rfl rfl (by omega) (by omega)).mono ?_
  rintro e w4 ⟨v,rfl,_,h4⟩
  have O1:=O.ED (p':=p+2) hlt h4.out.2 ⟨_,by omega,h4.out.1⟩
  obtain ⟨⟨f0,f1,f2⟩,z0,z1,z2⟩:=O1.facts
  go_wp2_with fail
  refine kk.out _ _ ?_
  exact aAt hp hlt χ ((O1.put χ hlt 1 (.int .i64 v)).less (by omega))
 have q1:(k==[114,105,110,103])=false:=by simpa using h1
 have q2:(k==[104,97,110,103])=false:=by simpa using h2
 have q3:(k==[119,97,105,116])=false:=by simpa using h3
 go_wp2_with fail
 obtain ⟨q,hq,hr⟩:=O.rd
 refine (BX hr (by omega) (by omega)).mono ?_
 rintro e w3 ⟨y,rfl,hy,h3⟩
 have O1:=O.ED (p':=p+2) hlt h3.out.2 ⟨_,by omega,h3.out.1⟩
 obtain ⟨⟨f0,f1,f2⟩,z0,z1,z2⟩:=O1.facts
 go_wp2_with fail
 refine kk.out _ _ ?_
 exact aAt hp hlt χ ((O1.put χ hlt 1 (.int .i64 (1+(y:Int)))).less (by omega))
theorem aAw {g p:Nat} (hR:Rd w g0 g p) (hp:p<=1000000):
 d_ p_ 109 #[.pointer (some ⟨g,0,none⟩)] w (CQ g0 g (p+8) w k_):=by
 have hlt:=hR.lt
 have χ:=hR.le
 have R0:=hR.alloc (.cells #[.string ⟨#[]⟩,.int .i64 0,.int .i64 0] 55)
 have k0:=N_ w (.cells #[.string ⟨#[]⟩,.int .i64 0,.int .i64 0] 55) (some g)
 have hsz:∀o,w.heap.size+1=(w.alloc o).heap.size:=fun o=>(B_ ..).symm
 go_enter func109,ntmps109
 go_wp2_with fail
 rename_i K1 hK1 K0 OY
 have kk:=aa hK1
 clear hK1
 refine (aAg (n:=8) [[114,105,110,103],[114,105,110,103],[114,105,110,103],[97,110,115,119,101,114],[97,110,115,119,101,114],[104,97,110,103],[119,97,105,116],[114,101,116,117,114,110]] _ R0 (by omega) (hsz _) rfl (by omega) (by omega)).mono ?_
 rintro e w3 ⟨a,rfl,h3⟩
 have O3:DZ w g0 g (p+1) w3.heap.size 55 #[.string ⟨#[]⟩,.int .i64 0,.int .i64 0] #[.string ⟨a.toArray⟩,.int .i64 0,.int .i64 0] (w3.alloc (.cells #[.string ⟨a.toArray⟩,.int .i64 0,.int .i64 0] 55)):=by
  have z1:=h3.out.2.size
  rw [B_] at z1
  refine ⟨Z' w3 _, ?_,⟨_,C_ _,h3.out.1.alloc _⟩,(k0.trans h3.out.2).trans (N_ w3 _ _),by omega⟩
  exact ((N_ w3 _ none).block _ (by omega) (by simp)).trans ((h3.out.2.block _ (by rw [B_];omega) (by simp;omega)).trans (Z' w _))
 go_wp2_with fail
 refine kk.out _ _ ?_
 exact aCk hp hlt χ O3
theorem aBe {SW:J'} {g:Nat} {row:Option Nat} (h:w.grownBy w' (some g)) (k:w'.grownBy SW row) (hr:∀r,row=some r->r=g\/w.heap.size<=r):w.grownBy SW (some g):=
 ⟨k.os.trans h.os,k.tape.trans h.tape,k.output.trans h.output,D_ h.size k.size,fun i hi hne=>(k.block i (E_ hi h.size) (fun e=>by rcases hr i e.symm with h|h;exact hne (by rw [h]);omega)).trans (h.block i hi hne)⟩
def cellsOf (ds:List Dd):List M':=(ds.map Dd.cells).flatten
theorem Zt (ds:List Dd) (d:Dd):cellsOf (ds++[d])=cellsOf ds++d.cells:=by simp [cellsOf]
theorem Ub (w:J') (d:Dd) (t:Q'):∀j u,d.cells[j]?=some u->(w.alloc (.cells d.cells.toArray t)).cell? ((⟨w.heap.size,0,none⟩:z_).add j)=some u:=by
 intro j u hj
 have hb:(w.alloc (.cells d.cells.toArray t)).heap[w.heap.size]?=some (.cells d.cells.toArray t):=Z' _ _
 have hc:∀k,(w.alloc (.cells d.cells.toArray t)).cell? ⟨w.heap.size,k,none⟩=d.cells[k]?:=fun k=>by rw [cV hb];simp
 match j,hj with
 |0,hj=>exact (hc 0).trans hj
 |1,hj=>exact (hc 1).trans hj
 |2,hj=>exact (hc 2).trans hj
 |k+3,hj=>simp [Dd.cells] at hj
theorem aAu (d:Dd):∀u∈d.cells,u.oneCell'=true:=by
 intro u hu
 simp [Dd.cells] at hu
 rcases hu with rfl|rfl|rfl<;>rfl
def aAo (w:J') (g0 g P k:Nat) (v:M') (wr:J'):Prop:=
 ∃(p':Nat) (ds:List Dd),k+ds.length<=16/\p'+20 * k<=P/\Rd wr g0 g p'/\wr.ownsRow w.heap.size 55 3 v ds.length (cellsOf ds)/\w.grownBy wr (some g)
structure C9 (w:J') (g0 g P k x:Nat) (v:M') (ds:List Dd) (d:Dd) (wr:J'):Prop where
 box:wr.heap[x]?=some (.cells d.cells.toArray 55 (0,0))
 len:k+1+ds.length<=16
 rd:∃p',p'+20 * k<=P/\Rd wr g0 g p'
 own:wr.ownsRow w.heap.size 55 3 v ds.length (cellsOf ds)
 grown:w.grownBy wr (some g)
 lx:w.heap.size<=x
 ne:v.ownBlock≠some x
def aBj (g0 g p:Nat) (w:J') (e:Ending) (w':J'):Prop:=
 ∃(v:M') (ds:List Dd) (p':Nat),e=.returned v/\ds.length<=16/\w'.ownsRow w.heap.size 55 3 v ds.length (cellsOf ds)/\p'<=p/\Rd w' g0 g p'/\w.grownBy w' (some g)
variable {wr:J'} {k:Nat} {ds:List Dd} {d:Dd}
theorem C9.facts {g P:Nat} {v:M'} (h:C9 w g0 g P k x v ds d wr):(wr.cell? ⟨x,0,none⟩=some (.string ⟨d.act.toArray⟩)/\wr.cell? ⟨x,1,none⟩=some (.int .i64 d.line)/\wr.cell? ⟨x,2,none⟩=some (.int .i64 d.word))/\(wr.frozen? ⟨x,0,none⟩=false/\wr.frozen? ⟨x,1,none⟩=false/\wr.frozen? ⟨x,2,none⟩=false):=
 ⟨⟨by rw [cV h.box];rfl,by rw [cV h.box];rfl,by rw [cV h.box];rfl⟩,bX h.box,bX h.box,bX h.box⟩
theorem C9.ED {g P:Nat} {v:M'} (h:C9 w g0 g P k x v ds d wr) (hg:g<w.heap.size) (hr:wr.grownBy w' (some g)) (hp:∃q,q+20 * k<=P/\Rd w' g0 g q):C9 w g0 g P k x v ds d w':=
 have h1:=h.lx
 ⟨(hr.block x (cI h.box) (by simp;omega)).trans h.box,h.len,hp,h.own.kept hr (.inr fun e=>by have:=(h.own.lt g e).1;omega),h.grown.trans hr,h.lx,h.ne⟩
theorem C9.alloc {g P:Nat} {v:M'} (h:C9 w g0 g P k x v ds d wr) (o:Obj):C9 w g0 g P k x v ds d (wr.alloc o):=
 have ⟨q,hq,hr⟩:=h.rd
 ⟨((N_ wr o none).block x (cI h.box) (by simp)).trans h.box,h.len,⟨q,hq,hr.alloc o⟩,h.own.alloc o,h.grown.trans (N_ _ _ _),h.lx,h.ne⟩
theorem C9.more {g P P':Nat} {v:M'} (h:C9 w g0 g P k x v ds d wr) (hP:P<=P'):C9 w g0 g P' k x v ds d wr:=
 have ⟨q,hq,hr⟩:=h.rd
 ⟨h.box,h.len,⟨q,by omega,hr⟩,h.own,h.grown,h.lx,h.ne⟩
theorem C9.put {g P:Nat} {v:M'} (h:C9 w g0 g P k x v ds d wr) (χ:g0<=g) (hg:g<w.heap.size) (e:Dd):C9 w g0 g P k x v ds e (((wr.setCell ⟨x,0,none⟩ (.string ⟨e.act.toArray⟩)).setCell ⟨x,1,none⟩ (.int .i64 e.line)).setCell ⟨x,2,none⟩ (.int .i64 e.word)):=by
 have h1:=h.lx
 have key:∀{W:J'} (j:Nat) (u:M'),((∃q,q+20 * k<=P/\Rd W g0 g q)/\W.ownsRow w.heap.size 55 3 v ds.length (cellsOf ds)/\w.grownBy W (some g))->(∃q,q+20 * k<=P/\Rd (W.setCell ⟨x,j,none⟩ u) g0 g q)/\(W.setCell ⟨x,j,none⟩ u).ownsRow w.heap.size 55 3 v ds.length (cellsOf ds)/\w.grownBy (W.setCell ⟨x,j,none⟩ u) (some g):=by
  rintro W j u ⟨⟨q,hq,hr⟩,ho,hb⟩
  exact ⟨⟨q,hq,hr.kept (xp W x j u) (fun r e=>by injection e with e;subst e;exact ⟨by omega,by omega⟩) hr.lt⟩,ho.kept (xp W x j u) (.inr h.ne),CC hb h1 u⟩
 obtain ⟨k1,k2,k3⟩:=key 2 (.int .i64 e.word) (key 1 (.int .i64 e.line) (key 0 (.string ⟨e.act.toArray⟩) ⟨h.rd,h.own,h.grown⟩))
 exact ⟨n8 (n8 (n8 h.box _) _) _,h.len,k1,k2,k3,h1,h.ne⟩
theorem aAj {g p:Nat} (hR:Rd w g0 g p) (hp:p<=100000):
 d_ p_ 78 #[.pointer (some ⟨g,0,none⟩)] w (aBj g0 g (p+342) w):=by
 obtain ⟨i0,hi,tX,rm,uF⟩:=info_parts Qm
 have hlt:=hR.lt
 have χ:=hR.le
 go_enter func78,ntmps78
 go_wp2_with fail
 refine (BX (hR.alloc _) (by omega) (by omega)).mono ?_
 rintro e w1 ⟨k0,rfl,hx,h1⟩
 have vF:k0<=15:=by omega
 have z1:w.heap.size+1<=w1.heap.size:=by have:=h1.out.2.size;rw [B_] at this;exact this
 have hI:f_ (aAo w g0 g (p+342) k0 (.slice (some ⟨w.heap.size,0,none⟩) 0 0) w1):=
  ⟨p+1,[],by simp;omega,by omega,h1.out.1,(Vq w 55 3).kept h1.out.2 (.inr (by simp [Value.ownBlock];omega)),(N_ w _ _).trans h1.out.2⟩
 clear h1 hx
 go_wp2
 go_loopw [3,4] (fun v i wr=>∃k:Nat,i=.int .i64 k/\f_ (aAo w g0 g (p+342) k v wr)) (fun _ i _=>(intOf i).toNat)
 case atStart=>exact ⟨k0,rfl,hI⟩
 case round=>
  obtain ⟨k,rfl,hO⟩:=hrel
  by_cases h0:0<k
  ·have ND:(0:Int)<(k:Int):=by omega
   obtain ⟨wo,rfl⟩:∃y,y=wr:=⟨wr,rfl⟩
   obtain ⟨v,rfl⟩:∃y,y=u3:=⟨u3,rfl⟩
   obtain ⟨p',ds,q1,q2,q4,q5,q6⟩:=hO.out
   go_wp2_with fail
   refine (aAw q4 (by omega)).mono ?_
   rintro e w2 ⟨_,p2,rfl,⟨ka,la,wa,rfl⟩,hp2,DD,Nu⟩
   obtain ⟨d,hd⟩:∃d:Dd,d=⟨ka,la,wa⟩:=⟨_,rfl⟩
   have e1:ka=d.act:=by rw [hd]
   have e2:la=d.line:=by rw [hd]
   have e3:wa=d.word:=by rw [hd]
   subst e1 e2 e3
   have Zg:=q5.lt
   have s2:=Nu.size
   have s6:=q6.size
   have D0:f_ (C9 w g0 g (p+340) (k - 1) w2.heap.size v ds d (w2.alloc (.cells d.cells.toArray 55))):=
    ⟨Z' _ _,by omega,⟨p2,by omega,DD.alloc _⟩,(q5.kept Nu (.inr fun e=>by have:=(q5.lt g e).1;omega)).alloc _,(q6.trans Nu).trans (N_ _ _ _),by omega,fun e=>by have:=(q5.lt _ e).2;omega⟩
   clear hd DD Nu q5 q6 q4 hO hI Zg
   go_wp2_with fail
   rename_i K4 hK4 K3 hK3 K2 Ru K1 hK1 K0 OY
   have L:∀(X:Nat) (π ξ ν κ θ Z9 Z4 ZM ZJ ZI x21 Yf uP tt ti E' y' x28 x29 x30:M') (d:Dd) (w':J'),C9 w g0 g (p+342) (k - 1) X v ds d w'->K2 ⟨#[.pointer (some ⟨g,0,none⟩),I',.slice none 0 0,v,.int .i64 k,.pointer (some ⟨X,0,none⟩),.slice (some ⟨w.heap.size,0,none⟩) 0 0,.pointer (some ⟨g,0,none⟩),.int .i64 k0,.int .i64 k,.bool true,π,ξ,ν,κ,θ,Z9,Z4,ZM,ZJ,ZI,x21,Yf,uP,tt,ti,E',y',x28,x29,x30,I'],[]⟩ w':=by
    intro X π ξ ν κ θ Z9 Z4 ZM ZJ ZI x21 Yf uP tt ti E' y' x28 x29 x30 d w' D
    clear D0
    obtain ⟨⟨f0,f1,f2⟩,y0,y1,y2⟩:=D.facts
    have iw:=D.own.alloc (.cells d.cells.toArray 55)
    have hl:=D.len
    have hs3:=D.grown.size
    apply Ru
    go_wp2_with (at_builtin;refine wpList_append_own_at _ rfl (.tmp 27) (.tmp 29) 30 rfl w.heap.size 55 i0 (.agg #[.string ⟨#[]⟩,.int .i64 0,.int .i64 0]) 3 32 Tryz.underlying30 hi tX rm uF rfl (by decide) _ ds.length _ rfl iw ⟨w'.heap.size,0,none⟩ 1 1 d.cells rfl rfl ?c1 ?c2 ?c3 ?c4 ?c5 ?_)
    case c1=>exact Ub _ _ _
    case c2=>exact aAu d
    case c3=>unfold maxLen;omega
    case c4=>omega
    case c5=>simp;omega
    intro v' w4 aBr aBy _ hob
    have aBx:=iw.lt
    have hI4:f_ (aAo w g0 g (p+342) (k - 1) v' w4):=by
     obtain ⟨p3,hp3,hR3⟩:=D.rd
     have hs3:=D.grown.size
     refine ⟨p3,ds++[d],by simp;omega,by omega,(hR3.alloc _).kept aBy (fun r e=> ?_) (by have:=hR3.lt;simp;omega),by rw [K_,Zt];exact aBr,aBe (D.grown.trans (N_ w' _ _)) aBy fun r e=>.inr (by have:=(aBx r e).1;omega)⟩
     ·have:=(aBx r e).1;omega
    clear aBr aBy hob iw aBx
    go_wp2
    go_roundw
    case rel=>exact ⟨k - 1,by go_num,hI4⟩
    case measure=>simp [intOf];omega
   have kk:=aa L
   clear L Ru
   refine (yj _ d.raw 2 (by omega)).mono ?_
   rintro e w3 ⟨rfl,rfl⟩
   have D1:C9 w g0 g (p+340) (k - 1) w2.heap.size v ds d ((w2.alloc (.cells #[.string ⟨d.act.toArray⟩,.int .i64 d.line,.int .i64 d.word] 55)).alloc (.cells #[.string d.raw.kind,.int .i64 d.raw.who,.int .i64 d.raw.word] 55)):=D0.out.alloc _
   clear D0
   revert D1
   generalize ((w2.alloc (.cells #[.string ⟨d.act.toArray⟩,.int .i64 d.line,.int .i64 d.word] 55)).alloc (.cells #[.string d.raw.kind,.int .i64 d.raw.who,.int .i64 d.raw.word] 55))=w3
   generalize w2.heap.size=X
   generalize bu d.raw 2=b
   intro D1
   obtain ⟨⟨f0,f1,f2⟩,y0,y1,y2⟩:=D1.facts
   cases b
   ·go_wp2_with fail
    obtain ⟨q,hq,hr⟩:=D1.rd
    refine (BX hr (by omega) (by omega)).mono ?_
    rintro e w4 ⟨y,rfl,hy,h4⟩
    have D2:C9 w g0 g (p+341) (k - 1) X v ds d w4:=(D1.more (by omega)).ED hlt h4.out.2 ⟨q+1,by omega,h4.out.1⟩
    obtain ⟨⟨e0,e1,e2⟩,z0,z1,z2⟩:=D2.facts
    by_cases Wi:(0:Int)<(y:Int)
    ·go_wp2_with fail
     obtain ⟨q2,ς,L8⟩:=D2.rd
     refine (BX L8 (by omega) (by omega)).mono ?_
     rintro e w5 ⟨y2,rfl,Qo,h5⟩
     have D3:C9 w g0 g (p+342) (k - 1) X v ds d w5:=(D2.more (by omega)).ED hlt h5.out.2 ⟨q2+1,by omega,h5.out.1⟩
     obtain ⟨⟨e0,e1,e2⟩,z0,z1,z2⟩:=D3.facts
     go_wp2_with fail
     refine kk.out _ _ _ _ _ _ _ _ _ _ _ _ _ _ _ _ _ _ _ _ _ ⟨[114,105,110,103],1+(y2:Int),0⟩ _ ?_
     exact D3.put χ hlt ⟨[114,105,110,103],1+(y2:Int),0⟩
    ·go_wp2_with fail
     exact kk.out _ _ _ _ _ _ _ _ _ _ _ _ _ _ _ _ _ _ _ _ _ _ _ (D2.more (by omega))
   ·go_wp2_with fail
    exact kk.out _ _ _ _ _ _ _ _ _ _ _ _ _ _ _ _ _ _ _ _ _ _ _ (D1.more (by omega))
  ·obtain rfl:k=0:=by omega
   obtain ⟨p',ds,q1,q2,q4,q5,q6⟩:=hO.out
   go_wp2
   go_ret
   exact ⟨_,ds,p',rfl,by omega,q5,by omega,q4,q6⟩
def JJ (g0 g p:Nat) (w:J') (e:Ending) (w':J'):Prop:=
 ∃(a b c:Int) (ta:Option z_) (tc:Nat) (ds:List Dd) (p':Nat),e=.returned (.tuple #[.agg #[.int .i64 a,.int .i64 b,.int .i64 c],.slice ta ds.length tc])/\ds.length<=16/\w'.ownsRow w.heap.size 55 3 (.slice ta ds.length tc) ds.length (cellsOf ds)/\p'<=p/\Rd w' g0 g p'/\w.grownBy w' (some g)
variable {xs:List M'}
theorem IA {v:M'} {n:Nat} (h:w.ownsRow B 55 3 v n xs) (hx:x<B) (u:M'):(w.setCell ⟨x,j,none⟩ u).ownsRow B 55 3 v n xs:=
 h.kept (xp w x j u) (.inr fun e=>by have:=(h.lt x e).1;omega)
variable {x3:M'} {ta:Option z_} {tc:Nat}
theorem aAn {g p:Nat} (hp:p<=1000000) (hlt:g<w.heap.size) (χ:g0<=g) {c:Int} (Gj:ds.length<=16) (O:DZ w g0 g (p+400) X 28 #[.int .i64 0,.int .i64 0,.int .i64 0] #[.int .i64 a,.int .i64 b,.int .i64 c] w') (hX:X<B) (hB:w.heap.size<=B) (ho:w'.ownsRow B 55 3 (.slice ta ds.length tc) ds.length (cellsOf ds)):(NA 4 (Pl f54)).wp p_ (bodyPost p_ f54 (JJ g0 g (p+400) w)) ⟨#[.pointer (some ⟨g,0,none⟩),x1,.pointer (some ⟨w.heap.size,0,none⟩),x3,.pointer (some ⟨X,0,none⟩),.slice ta ds.length tc,x6,x7,x8,x9,x10,π,ξ,ν,κ,θ,Z9,Z4,ZM,ZJ,ZI],[]⟩ w':=by
 obtain ⟨⟨f0,f1,f2⟩,z0,z1,z2⟩:=O.facts
 obtain ⟨⟨r0,r1,r2⟩,y0,y1,y2⟩:=O.KT
 have hoh:=aa ho
 clear ho
 generalize hQ:bodyPost p_ f54 (JJ g0 g (p+400) w)=Q
 simp only [NA,Pl,f54]
 subst hQ
 have hlw:=O.lt
 go_wp2_with fail
 obtain ⟨b1,⟨q,hq,hr⟩,b2⟩:=DZ.cell χ hlt (DZ.cell χ hlt (DZ.cell χ hlt ⟨O.res,O.rd,O.grown⟩ 0 (.int .i64 a)) 1 (.int .i64 b)) 2 (.int .i64 c)
 obtain ⟨s0,s1,s2⟩:_/\_/\_:=⟨cV (o:=0) b1,cV (o:=1) b1,cV (o:=2) b1⟩
 refine bodyPost_ret (v:=.tuple #[.agg #[.int .i64 a,.int .i64 b,.int .i64 c],.slice ta ds.length tc]) (by simp [results,Tryz.results54,go_sem,s0,s1,s2]) rfl ⟨_,_,_,_,_,ds,q,rfl,Gj,gG (IA (IA (IA hoh.out (by omega) _) (by omega) _) (by omega) _) hB,by omega,hr,b2⟩
theorem aCb {g p:Nat} (hp:p<=1000000) (hlt:g<w.heap.size) (χ:g0<=g) {c:Int} (Gj:ds.length<=16) (O:DZ w g0 g (p+380) X 28 #[.int .i64 0,.int .i64 0,.int .i64 0] #[.int .i64 a,.int .i64 b,.int .i64 c] w') (hX:X<B) (hB:w.heap.size<=B) (ho:w'.ownsRow B 55 3 (.slice ta ds.length tc) ds.length (cellsOf ds)):(NA 3 (Pl f54)).wp p_ (bodyPost p_ f54 (JJ g0 g (p+400) w)) ⟨#[.pointer (some ⟨g,0,none⟩),x1,.pointer (some ⟨w.heap.size,0,none⟩),x3,.pointer (some ⟨X,0,none⟩),.slice ta ds.length tc,x6,x7,x8,x9,x10,π,ξ,ν,κ,θ,Z9,Z4,ZM,ZJ,ZI],[]⟩ w':=by
 obtain ⟨⟨f0,f1,f2⟩,z0,z1,z2⟩:=O.facts
 obtain ⟨⟨r0,r1,r2⟩,y0,y1,y2⟩:=O.KT
 have hoh:=aa ho
 clear ho
 generalize hQ:bodyPost p_ f54 (JJ g0 g (p+400) w)=Q
 simp only [NA,Pl,f54]
 subst hQ
 refine wp_seq_k fun K hK=> ?_
 have kk:=aa hK
 clear hK
 by_cases hb:b=1
 ·subst hb
  go_wp2_with fail
  obtain ⟨q,hq,hr⟩:=O.rd
  refine (BX hr (by omega) (by omega)).mono ?_
  rintro e w3 ⟨y,rfl,hy,h3⟩
  have O1:=O.ED (p':=p+381) hlt h3.out.2 ⟨_,by omega,h3.out.1⟩
  have Gd:=aa (hoh.out.kept h3.out.2 (.inr fun e=>by have:=(hoh.out.lt g e).1;omega))
  obtain ⟨⟨f0,f1,f2⟩,z0,z1,z2⟩:=O1.facts
  by_cases Wi:(0:Int)<(y:Int)
  ·go_wp2_with fail
   refine kk.out _ _ ?_
   exact aAn hp hlt χ Gj ((O1.put χ hlt 1 (.int .i64 2)).less (by omega)) hX hB (IA Gd.out hX _)
  ·go_wp2_with fail
   refine kk.out _ _ ?_
   exact aAn hp hlt χ Gj (O1.less (by omega)) hX hB Gd.out
 ·have A8:(b==1)=false:=by simpa using hb
  go_wp2_with fail
  refine kk.out _ _ ?_
  exact aAn hp hlt χ Gj (O.less (by omega)) hX hB hoh.out
theorem T8 {g p:Nat} (hR:Rd w g0 g p) (hp:p<=90000):
 d_ p_ 54 #[.pointer (some ⟨g,0,none⟩)] w (JJ g0 g (p+400) w):=by
 have hlt:=hR.lt
 have χ:=hR.le
 have R0:=hR.alloc (.cells #[.int .i64 0,.int .i64 0,.int .i64 0] 28)
 have k0:=N_ w (.cells #[.int .i64 0,.int .i64 0,.int .i64 0] 28) (some g)
 go_enter func54,ntmps54
 go_wp2_with fail
 rename_i K1 hK1 K0 OY
 have kk:=aa hK1
 clear hK1
 refine (Yx R0 (by omega)).mono ?_
 rintro e w1 ⟨_,p1,rfl,⟨a,b,c,rfl⟩,Iu,EU,BI⟩
 have O1:DZ w g0 g (p+6) w1.heap.size 28 #[.int .i64 0,.int .i64 0,.int .i64 0] #[.int .i64 a,.int .i64 b,.int .i64 c] (w1.alloc (.cells #[.int .i64 a,.int .i64 b,.int .i64 c] 28)):=by
  have z1:=BI.size
  rw [B_] at z1
  refine ⟨Z' w1 _, ?_,⟨_,by omega,EU.alloc _⟩,(k0.trans BI).trans (N_ w1 _ _),by omega⟩
  exact ((N_ w1 _ none).block _ (by omega) (by simp)).trans ((BI.block _ (by rw [B_];omega) (by simp;omega)).trans (Z' w _))
 have hXs:w1.heap.size<(w1.alloc (.cells #[.int .i64 a,.int .i64 b,.int .i64 c] 28)).heap.size:=by rw [B_];omega
 have hWs:w.heap.size<=(w1.alloc (.cells #[.int .i64 a,.int .i64 b,.int .i64 c] 28)).heap.size:=O1.grown.size
 obtain ⟨W,hW⟩:∃W,w1.alloc (.cells #[.int .i64 a,.int .i64 b,.int .i64 c] 28)=W:=⟨_,rfl⟩
 rw [hW] at O1 hXs hWs
 have ij:=aa hW
 clear hW EU BI R0 k0
 obtain ⟨q0,Y1,L0⟩:=O1.rd
 have c78:=aa (aAj L0 (by omega))
 go_wp2_with fail
 refine kk.out _ _ ?_
 refine wp_seq_k fun K hK=> ?_
 have kk2:=aa hK
 clear hK
 go_wp2_with fail
 rw [ij.out]
 refine c78.out.mono ?_
 rintro e w2 ⟨v,ds,p2,rfl,Gj,iw,hp2,DD,Nu⟩
 obtain ⟨ta,tc,hv⟩:=aE iw
 subst hv
 have O2:=O1.ED (p':=p+380) hlt Nu ⟨_,by omega,DD⟩
 go_wp2_with fail
 refine kk2.out _ _ ?_
 exact aCb (by omega) hlt χ Gj O2 hXs hWs iw
def aCe (w:J') (e:Ending) (w':J'):Prop:=
 ∃(a b c:Int) (ta:Option z_) (tc:Nat) (ds:List Dd),e=.returned (.tuple #[.agg #[.int .i64 a,.int .i64 b,.int .i64 c],.slice ta ds.length tc])/\ds.length<=16/\w'.ownsRow w.heap.size 55 3 (.slice ta ds.length tc) ds.length (cellsOf ds)/\g_ w.heap.size w w'
theorem aEt {a:Option z_} {c:Nat} {bs:List Int} (hA:Bg w a bs) (hu:∀b∈bs,PU b) (lJ:bs.length<=c):
 d_ p_ 32 #[.slice a bs.length c] w (aCe w):=by
 have hop:=aa (OW a c bs (w.alloc (.cells #[.int .i64 0,.int .i64 0,.int .i64 0] 28)) (hA.below ((h_ _ w).alloc (C_ _) _) (C_ _)) hu lJ)
 rw [B_] at hop
 go_enter func32,ntmps32
 go_wp2_with fail
 refine hop.out.mono ?_
 rintro e w1 ⟨rfl,EU,eo⟩
 have z1:w.heap.size+2<=w1.heap.size:=by have:=EU.lt;omega
 have b1:w1.heap[w.heap.size]?=some (.cells #[.int .i64 0,.int .i64 0,.int .i64 0] 28 (0,0)):=(eo.block _ (by omega)).trans (Z' w _)
 have B1:g_ w.heap.size w w1:=((h_ _ w).alloc (C_ _) _).trans (eo.mono (by omega))
 clear hop eo
 go_wp2_with fail
 refine (T8 EU (by omega)).mono ?_
 rintro e w2 ⟨x,y,z,ta,tc,ds,p2,rfl,Gj,iw,hp2,DD,Nu⟩
 have b2:w2.heap[w.heap.size]?=some (.cells #[.int .i64 0,.int .i64 0,.int .i64 0] 28 (0,0)):=(Nu.block _ (by omega) (by simp)).trans b1
 have B2:g_ w.heap.size w w2:=B1.grown Nu (by omega) (fun k e=>by injection e with e;omega)
 obtain ⟨e0,e1,e2⟩:w2.cell? ⟨w.heap.size,0,none⟩=some (.int .i64 0)/\w2.cell? ⟨w.heap.size,1,none⟩=some (.int .i64 0)/\w2.cell? ⟨w.heap.size,2,none⟩=some (.int .i64 0):=⟨cV b2,cV b2,cV b2⟩
 have f0:w2.frozen? ⟨w.heap.size,0,none⟩=false:=bX b2
 have f1:w2.frozen? ⟨w.heap.size,1,none⟩=false:=bX b2
 have f2:w2.frozen? ⟨w.heap.size,2,none⟩=false:=bX b2
 have iw:=aa iw
 have b2h:=aa b2
 clear EU DD Nu b1 B1 b2
 go_wp2_with fail
 have b3:=n8 (n8 (n8 b2h.out (o:=0) (.int .i64 x)) (o:=1) (.int .i64 y)) (o:=2) (.int .i64 z)
 obtain ⟨s0,s1,s2⟩:_/\_/\_:=⟨cV (o:=0) b3,cV (o:=1) b3,cV (o:=2) b3⟩
 refine bodyPost_ret (v:=.tuple #[.agg #[.int .i64 x,.int .i64 y,.int .i64 z],.slice ta ds.length tc]) (by simp [results,Tryz.results32,go_sem,s0,s1,s2]) rfl ⟨x,y,z,ta,tc,ds,rfl,Gj,gG (IA (IA (IA iw.out (by omega) _) (by omega) _) (by omega) _) (by omega), ?_⟩
 exact ((B2.setCell (p:=⟨w.heap.size,0,none⟩) (C_ _) _).setCell (p:=⟨w.heap.size,1,none⟩) (C_ _) _).setCell (p:=⟨w.heap.size,2,none⟩) (C_ _) _
end
section
open Go Go.Conc Go.Conc.Lib Go.ConcR Go.ConcR.Gen Go.aC Go.Proofs
open Go.RowKit hiding Hid Below
open Go.ConcN (upd upd_ne upd_same)
variable {w w':J'} {xs:List M'} {B:Nat}
theorem gL.VG {v:M'} {n:Nat} (h:gL w v n xs) (hw:g_ B w w') (hB:w.heap.size<=B):gL w' v n xs:=by
 refine ⟨h.1,fun hl=> ?_⟩
 obtain ⟨g,cap,hv,hc,hcell⟩:=h.2 hl
 refine ⟨g,cap,hv,hc,fun j hj=>(hw.cell ?_).trans (hcell j hj)⟩
 have h0:=hcell j hj
 rw [G_ hj] at h0
 obtain ⟨_,_,_,hb⟩:=zH h0
 exact E_ (fw hb) hB
def ZV (r:Rec):M':=.agg #[.int .i64 r.call,.int .i64 r.line,.int .i64 r.op,.int .i64 r.jy,.int .i64 r.heard,.int .i64 r.wI,.string ⟨r.fin.toArray⟩]
variable {i:Nat}
theorem RP {a:Option z_} {c:Nat} {rs:List Rec} (h:gL w (.slice a rs.length c) rs.length (cj rs)) (hi:i<rs.length):∃g,a=some ⟨g,0,none⟩/\rs.length<=c/\(w.cell? ⟨g,i * 7,none⟩=some (.int .i64 (rs[i]).call)/\w.cell? ⟨g,i * 7+1,none⟩=some (.int .i64 (rs[i]).line)/\w.cell? ⟨g,i * 7+2,none⟩=some (.int .i64 (rs[i]).op)/\w.cell? ⟨g,i * 7+3,none⟩=some (.int .i64 (rs[i]).jy)/\w.cell? ⟨g,i * 7+4,none⟩=some (.int .i64 (rs[i]).heard)/\w.cell? ⟨g,i * 7+5,none⟩=some (.int .i64 (rs[i]).wI)/\w.cell? ⟨g,i * 7+6,none⟩=some (.string ⟨(rs[i]).fin.toArray⟩)):=by
 obtain ⟨g,cap,hv,hc,hx⟩:=nH h hi
 injection hv with h1 _ h3
 subst h3
 exact ⟨g,h1,hc,hx⟩
def se (n:Nat):List Rec:=(List.range n).map fun (i:Nat)=>⟨1+7 * (i:Int),2+7 * (i:Int),3+7 * (i:Int),4+7 * (i:Int),5+7 * (i:Int),6+7 * (i:Int),Ov (7+7 * i)⟩
end
section
open Go Go.Conc Go.Conc.Lib Go.ConcR.Gen Go.aC Go.Proofs
open Go.RowKit hiding Hid Below
structure Et (w0:J') (g0 g p x y:Nat) (ty:Q') (zs cs:Array M') (w:J'):Prop where
 box:w.heap[x]?=some (.cells cs ty (0,0))
 res:w.heap[y]?=some (.cells zs ty (0,0))
 rd:∃p',p'<=p/\Rd w g0 g p'
 grown:w0.grownBy w (some g)
 lx:w0.heap.size<=x
 ly:w0.heap.size<=y
 ne:x≠y
variable {w0 w w':J'} {g0 g p p' x y ty:Nat} {zs cs:Array M'}
def Wu (v:M'):Prop:=∃r:Rec,v=ZV r
variable {B tc:Nat} {ta:Option z_} {ds:List Dd}
theorem aAp (h:w.ownsRow B 55 3 (.slice ta ds.length tc) ds.length (cellsOf ds)):fF w ta (ds.map Dd.raw):=by
 cases ds with
 |nil=>exact .inl rfl
 |cons d0 dr=>
  obtain ⟨g,cap,cur,hv,_,hg,hc,_,hcs,aCg⟩:=h.2.resolve_left (fun e=>by simp at e)
  injection hv with h1 _ _
  subst h1
  refine .inr ⟨g,cur,_,_,rfl,hg,fun k hk=> ?_⟩
  rw [List.length_map] at hk
  have key:∀j,j<3->cur[k * 3+j]?=(((d0::dr)[k]).cells)[j]?:=fun j hj=>by
   have h3:=jr Dd.cells 3 (fun _=>rfl) (d0::dr) k j hk hj
   rw [<-h3,List.flatMap_def,show ((d0::dr).map Dd.cells).flatten=cellsOf (d0::dr) from rfl,<-aCg,List.getElem?_take_of_lt (by omega),Array.getElem?_toList]
  have e0:=key 0 (by omega)
  have e1:=key 1 (by omega)
  have e2:=key 2 (by omega)
  simp only [List.getElem_map]
  exact ⟨e0,e1,e2⟩
def JI (g0 g p:Nat) (w:J') (e:Ending) (w':J'):Prop:=
 ∃(a:Option z_) (n:Nat) (R:List Rec) (p':Nat),e=.returned (.slice a R.length n)/\R.length<=1000/\w'.ownsRow w.heap.size 44 7 (.slice a R.length n) R.length (cj R)/\p'<=p/\Rd w' g0 g p'/\w.grownBy w' (some g)
variable {L O P:Int} {rs:List Raw}
theorem ψ {R:List Rec} (h:R9 L O P rs R):R.length<=1000:=by
 cases ha:da L O P rs with
 |false=>rw [h.1 ha];exact nz _
 |true=>
  obtain ⟨evs,he,_,_,_,_,_,hk⟩:=pF ha
  rw [h.2 ha evs he]
  have:=hk.n1
  omega
def CL (r:Rec):Prop:=(1<=r.call/\r.call<=99)/\(1<=r.line/\r.line<=6)/\(0<=r.op/\r.op<=4)/\(0<=r.jy/\r.jy<=3600)/\
 (r.fin=[111,112,101,110]/\r.wI= -1/\(r.op=0/\r.heard= -1\/r.op≠0/\r.jy<=r.heard/\r.heard<=3600)\/
  r.fin=[100,111,110,101]/\r.op≠0/\r.jy<=r.heard/\r.heard<=r.wI/\r.wI<=3600\/
  (r.fin=[108,101,102,116]\/r.fin=[116,105,114,101,100])/\r.op=0/\r.heard= -1/\r.jy<=r.wI/\r.wI<=3600)
def aBh (r:Rec) (w:J') (e:Ending) (w':J'):Prop:=∃b,e=.returned (.bool b)/\(b=true↔CL r)/\g_ w.heap.size w w'
instance (r:Rec):Decidable (CL r):=by unfold CL;infer_instance
def Hp (r:Rec):Prop:=(r.jy<=r.wI/\r.wI<=3600)/\(r.fin=[100,111,110,101]/\(r.jy<=r.heard/\r.heard<=r.wI)/\0<r.op\/(r.fin=[108,101,102,116]\/r.fin=[116,105,114,101,100])/\r.heard= -1/\r.op=0)
def aBq (r:Rec) (w:J') (e:Ending) (w':J'):Prop:=∃b,e=.returned (.bool b)/\(b=true↔Hp r)/\g_ w.heap.size w w'
def E7 (r:Rec):Int:=if CL r/\r.fin=[100,111,110,101] then r.wI - r.heard else -1
end
section
open Go
def Ho (ck:Int) (r:Rec):Prop:=(0<=r.op/\0<=r.jy/\r.jy<=ck)/\
 (r.fin=eR/\r.wI= -1/\(r.op=0/\r.heard= -1\/r.op≠0/\r.jy<=r.heard/\r.heard<=ck)\/
  r.fin=iy/\r.op≠0/\r.jy<=r.heard/\r.heard<=r.wI/\r.wI<=ck\/
  (r.fin=ie\/r.fin=eT)/\r.op=0/\r.heard= -1/\r.jy<=r.wI/\r.wI<=ck)
def Df (m:Rm):Prop:=0<=m.clock/\∀r∈m.recs,Ho m.clock r
variable {a b:Int}
theorem Ho.later {r:Rec} (h:Ho a r) (KN:a<=b):Ho b r:=by
 obtain ⟨⟨h1,h2,h3⟩,h4⟩:=h
 refine ⟨⟨h1,h2,by omega⟩, ?_⟩
 rcases h4 with ⟨e,k1,k2⟩|⟨e,k1,k2,k3,k4⟩|⟨e,k1,k2,k3,k4⟩
 ·exact .inl ⟨e,k1,k2.imp id fun ⟨x,y,z⟩=>⟨x,y,by omega⟩⟩
 ·exact .inr (.inl ⟨e,k1,k2,k3,by omega⟩)
 ·exact .inr (.inr ⟨e,k1,k2,k3,by omega⟩)
variable {ck:Int}
theorem Ho.isOpen {r:Rec} (h:Ho ck r) (ho:r.fin=eR):r.wI= -1/\(r.op=0/\r.heard= -1\/r.op≠0/\r.jy<=r.heard/\r.heard<=ck):=by
 rcases h.2 with ⟨_,k⟩|⟨e,_⟩|⟨e,_⟩
 ·exact k
 ·rw [ho] at e;exact absurd e (by decide)
 ·rw [ho] at e;exact absurd e (by decide)
variable {i:Nat} {r':Rec}
theorem Ww {rs:List Rec} (h:∀r∈rs,Ho ck r) (hr:Ho ck r'):∀r∈rs.set i r',Ho ck r:=fun r hm=>by
 rcases List.mem_or_eq_of_mem_set hm with h1|h1
 ·exact h r h1
 ·rw [h1];exact hr
theorem WE {rs:List Rec} (h:∀r∈rs,Ho ck r) (hr:Ho ck r'):∀r∈rs++[r'],Ho ck r:=fun r hm=>by
 rcases List.mem_append.1 hm with h1|h1
 ·exact h r h1
 ·rw [List.mem_singleton.1 h1];exact hr
theorem at_mem {rs:List Rec} {r:Rec} (h:rs[i]?=some r):r∈rs:=List.mem_iff_getElem?.2 ⟨i,h⟩
variable {m:Rm}
theorem Kj (h:Df m) {e:Bs} (hi:∀r,m.recs[i]?=some r->Ho m.clock {r with wI:=m.clock,fin:=e}):Df (jJ m i e)/\(jJ m i e).clock=m.clock:=by
 unfold jJ
 cases hr:m.recs[i]? with
 |none=>exact ⟨h,rfl⟩
 |some r=>exact ⟨⟨h.1,Ww h.2 (hi r hr)⟩,rfl⟩
theorem JH {r:Rec} (h:Ho ck r) (ho:r.fin=eR) (h0:r.op=0) {e:Bs} (he:e=ie\/e=eT):Ho ck {r with wI:=ck,fin:=e}:=by
 obtain ⟨k1,k2⟩:=h.isOpen ho
 rcases k2 with ⟨_,k2⟩|⟨k2,_⟩
 ·exact ⟨h.1,.inr (.inr ⟨he,h0,k2,h.1.2.2,Int.le_refl _⟩)⟩
 ·exact absurd h0 k2
variable {P:Int}
theorem aAb {m0:Rm} (hw:∀p∈m0.wait,∀i r,iA m0.recs i r->r.call=p.1->r.op=0):∀(l:List (Int × Int)) (q:Rm × Bs),(∀p∈l,p∈m0.wait)->Df q.1->(∀i r,iA q.1.recs i r->iA m0.recs i r)->Df (l.foldl (fB P) q).1:=by
 intro l
 induction l with
 |nil=>intro q _ h _;exact h
 |cons p l ih=>
  intro q hl h hq
  rw [List.foldl_cons]
  refine ih _ (fun x hx=>hl x (List.mem_cons_of_mem _ hx)) ?_ ?_
  all_goals
   unfold fB
   cases ho:dE q.1.recs p.1 with
   |none=>first|exact h|exact hq
   |some i=>
    obtain ⟨r,hr,hc⟩:=wT ho
    simp only [hr.1]
    by_cases hp:q.1.clock - r.jy>=P
    ·simp only [hp,if_true]
     first
      |exact ⟨(Kj h (fun r' sX=>by rw [hr.1] at sX;cases sX;exact JH (h.2 _ (at_mem hr.1)) hr.2 (hw p (hl p (List.mem_cons_self ..)) i r (hq i r hr) hc) (.inr rfl))).1.1,(Kj h (fun r' sX=>by rw [hr.1] at sX;cases sX;exact JH (h.2 _ (at_mem hr.1)) hr.2 (hw p (hl p (List.mem_cons_self ..)) i r (hq i r hr) hc) (.inr rfl))).1.2⟩
      |(intro j s hs
        unfold jJ at hs
        simp only [hr.1] at hs
        rcases (iA.set hr.1).1 hs with ⟨_,rfl,e⟩|⟨_,e⟩
        ·exact absurd e (show (eT:Bs)≠eR by decide)
        ·exact hq j s e)
    ·simp only [hp,if_false];first|exact h|exact hq
variable {nl no:Nat} {S:Hs} {us:List Od}
theorem aAc {n:Nat} (R:Rel nl no n S us m) (h:Df m) {e:Ev} (he:e.good no):Df (qy nl P m e).1:=by
 cases e with
 |ring c pt=>
  show Df (kS nl m c pt).1
  unfold kS
  split
  ·exact h
  ·split
   ·exact h
   ·exact ⟨h.1,WE h.2 ⟨⟨Int.le_refl _,h.1,Int.le_refl _⟩,.inl ⟨rfl,rfl,.inl ⟨rfl,rfl⟩⟩⟩⟩
 |hang c=>
  show Df (lv m c).1
  unfold lv
  cases ho:dE m.recs c with
  |none=>simp only [];split<;>exact h
  |some i=>
   obtain ⟨r,hr,hc⟩:=wT ho
   have hs:=h.2 _ (at_mem hr.1)
   simp only [hr.1]
   split
   ·rename_i hop
    refine (Kj h fun r' sX=> ?_).1
    rw [hr.1] at sX;cases sX
    obtain ⟨k1,k2⟩:=hs.isOpen hr.2
    rcases k2 with ⟨k2,_⟩|⟨k2,k3,k4⟩
    ·omega
    ·exact ⟨hs.1,.inr (.inl ⟨rfl,k2,k3,k4,Int.le_refl _⟩)⟩
   ·rename_i hop
    refine (Kj h fun r' sX=> ?_).1
    rw [hr.1] at sX;cases sX
    exact JH hs hr.2 (by have:=hs.1.1;omega) (.inl rfl)
 |answer i=>
  show Df (hZ m ((i+1:Nat):Int)).1
  unfold hZ
  split
  ·exact h
  ·split
   ·exact h
   ·split
    ·exact h
    ·rename_i p _ _ k hk
     obtain ⟨r,hr,hc⟩:=wT hk
     simp only [hr.1]
     have hs:=h.2 _ (at_mem hr.1)
     exact ⟨h.1,Ww h.2 ⟨⟨by show (0:Int)<=((i+1:Nat):Int);omega,hs.1.2⟩,.inl ⟨hr.2,(hs.isOpen hr.2).1,.inr ⟨by show ((i+1:Nat):Int)≠0;omega,hs.1.2.2,Int.le_refl _⟩⟩⟩⟩
 |back i=>
  show Df (lD nl m ((i+1:Nat):Int)).1
  unfold lD
  split
  ·exact h
  ·split
   ·exact h
   ·split
    ·exact h
    ·exact ⟨h.1,WE h.2 ⟨⟨by show (0:Int)<=((i+1:Nat):Int);omega,h.1,Int.le_refl _⟩,.inl ⟨rfl,rfl,.inr ⟨by show ((i+1:Nat):Int)≠0;omega,Int.le_refl _,Int.le_refl _⟩⟩⟩⟩
 |wait n'=>
  show Df (mB P m n').1
  unfold mB
  have hn:1<=n':=he.1
  refine aAb (m0:=m) (fun p hp i r hr hc=> ?_) _ _ (fun p hp=>hp) ⟨by show (0:Int)<=m.clock+n';have:=h.1;omega,fun r hr=>(h.2 r hr).later (by show m.clock<=m.clock+n';omega)⟩ (fun i r hr=>hr)
  obtain ⟨j,s,hs,hsc,h0⟩:=R.w1 p hp
  obtain rfl:=R.good.qM i j r s hr hs (hc.trans hsc.symm)
  have:=hr.1.symm.trans hs.1
  cases this
  exact h0
theorem RY {nl no:Nat} {ls:List Nat} {us:List Od} {P:Int} {evs:List Ev} (hd:ls.Nodup) (hl:ls.length=nl) (hu:us.length=no) (h0:∀u∈us,Od.k u=0) (he:∀e∈evs,Ev.good no e):∀k,k<=evs.length->Df (ja nl P (evs.take k))
 |0,_=>by rw [List.take_zero];exact ⟨Int.le_refl _,fun r hr=>by cases hr⟩
 |k+1,hk=>by
  have ih:=RY (P:=P) hd hl hu h0 he k (by omega)
  obtain ⟨R,_⟩:=wO (P:=P) hd hl hu h0 he k (by omega)
  rw [G6 (by omega)]
  exact aAc (P:=P) R ih (he _ (List.getElem_mem (by omega)))
end
end Go.aC.Of
