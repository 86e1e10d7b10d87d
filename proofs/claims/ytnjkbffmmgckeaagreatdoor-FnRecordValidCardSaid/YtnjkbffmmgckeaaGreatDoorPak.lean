/-
  The reference's functions of a room: how room, box and result stand on the way.
-/
import Derived.Test.YtnjkbffmmgckeaaGreatDoorPaa
import Derived.Test.YtnjkbffmmgckeaaGreatDoorPad
import Derived.Test.YtnjkbffmmgckeaaGreatDoorPae
import Derived.Test.YtnjkbffmmgckeaaGreatDoorPaj
set_option linter.all false
set_option maxRecDepth 100000
set_option maxHeartbeats 32000000
open Go renaming undef->I',World->J',Value->M',execOp->V',heap_alloc_new->Z',heap_setCell_other->a_,Calls->d_,Addr->z_
open Go.RowKit renaming Hid->f_,Below->g_
open Go.RowKit.Below renaming refl->h_
open Option renaming getD_some->A_
open Go.World renaming size_alloc->B_,grownBy_alloc->N_
open Nat renaming le_refl->C_,le_trans->D_,lt_of_lt_of_le->E_
open List renaming getElem?_eq_getElem->G_,length_append->K_,mem_cons->R_,map_cons->S_
open Go.Lib renaming itoa->L_
open Option.some renaming inj->M_
open Go.Proofs.Tryz renaming prog->p_
open Array renaming getD_eq_getD_getElem?->r_
open Go.Obj renaming cells->jY
open Go.Value renaming slice->mN
open Go.Proofs.Tryz
namespace Go.aC.Of
section
open Go Go.Conc Go.Conc.Lib Go.ConcR Go.ConcR.Gen Go.aC Go.Proofs
open Go.RowKit hiding Hid
open Go.ConcN (upd upd_ne upd_same)
variable {w:J'} {B sz g:Nat} {xs:List M'}
theorem jF {e n:Nat} {v:M'} (h:w.ownsRow B e sz v n xs) (hg:v.ownBlock=some g):∃c,w.heap[g]?=some (.cells c e (0,0)):=by
 rcases h.2 with ⟨h0,_⟩|⟨g',cap,cur,h1,_,h3,_⟩
 ·rw [h0] at hg;cases hg
 ·rw [h1] at hg
  have:g'=g:=M_ hg
  subst this
  exact ⟨cur,h3⟩
theorem bB {e n:Nat} {v:M'} (h:w.ownsRow B e sz v n xs) {b:Nat} {c:Array M'} {t:TypeId} (hb:w.heap[b]?=some (.cells c t (0,0))) (ht:e≠t):v.ownBlock≠some b:=fun e1=>by
 obtain ⟨c',h2⟩:=jF h e1
 rw [hb] at h2
 simp at h2
 exact ht h2.2.symm
structure gO (w0:J') (r0 b0:M') (B:Nat) (m:Rm) (L O P:Int) (vr vw vb vl:M') (b2 b4:Nat) (w:J'):Prop where
 room:bA B m vr vw vb w
 fr:bg r0 b0 w0 w
 rr:∀g,g<w0.heap.size->vr.ownBlock=some g->r0.ownBlock=some g
 rb:∀g,g<w0.heap.size->vb.ownBlock=some g->b0.ownBlock=some g
 box:w.heap[b2]?=some (.cells (gi L O P m.clock vr vw vb vl) 63 (0,0))
 res:w.heap[b4]?=some (.cells ia 63 (0,0))
 l2:w0.heap.size<=b2
 l4:w0.heap.size<=b4
 ne:b2≠b4
variable {w0 w':J'} {r0 b0:M'} {m:Rm} {L O P:Int} {vr vw vb vl:M'} {b2 b4:Nat}
theorem gO.LX (h:gO w0 r0 b0 B m L O P vr vw vb vl b2 b4 w):b2<w.heap.size:=(cI h.box)
theorem gO.Qf (h:gO w0 r0 b0 B m L O P vr vw vb vl b2 b4 w):b4<w.heap.size:=(cI h.res)
theorem gO.start (R:bA B m vr vw vb w0) (hb:g_ w0.heap.size w0 w) (h2:w.heap[b2]?=some (.cells (gi L O P m.clock vr vw vb vl) 63 (0,0))) (h4:w.heap[b4]?=some (.cells ia 63 (0,0))) (l2:w0.heap.size<=b2) (l4:w0.heap.size<=b4) (ne:b2≠b4):gO w0 vr vb B m L O P vr vw vb vl b2 b4 w:=
 ⟨R.below hb,.bW hb,fun _ _ h=>h,fun _ _ h=>h,h2,h4,l2,l4,ne⟩
theorem gO.below (h:gO w0 r0 b0 B m L O P vr vw vb vl b2 b4 w) (hb:g_ w.heap.size w w'):gO w0 r0 b0 B m L O P vr vw vb vl b2 b4 w':=
 ⟨h.room.below hb,h.fr.trans (.bW hb),h.rr,h.rb,(hb.block _ h.LX).trans h.box,(hb.block _ h.Qf).trans h.res,h.l2,h.l4,h.ne⟩
theorem gO.drew (h:gO w0 r0 b0 B m L O P vr vw vb vl b2 b4 w):gO w0 r0 b0 B m L O P vr vw vb vl b2 b4 w.drew:=h.below (h_ _ _).drew
theorem gO.oB (h:gO w0 r0 b0 B m L O P vr vw vb vl b2 b4 w):(vr.ownBlock≠some b2/\vw.ownBlock≠some b2/\vb.ownBlock≠some b2)/\(vr.ownBlock≠some b4/\vw.ownBlock≠some b4/\vb.ownBlock≠some b4):=
 ⟨⟨bB h.room.recs h.box (by decide),bB h.room.wait h.box (by decide),bB h.room.back h.box (by decide)⟩,bB h.room.recs h.res (by decide),bB h.room.wait h.res (by decide),bB h.room.back h.res (by decide)⟩
variable {ck:Int}
theorem Ji (v:M'):(gi L O P ck vr vw vb vl).setIfInBounds 4 v=gi L O P ck v vw vb vl:=rfl
theorem Jh (v:M'):(gi L O P ck vr vw vb vl).setIfInBounds 5 v=gi L O P ck vr v vb vl:=rfl
theorem Cc (v:M'):(gi L O P ck vr vw vb vl).setIfInBounds 6 v=gi L O P ck vr vw v vl:=rfl
variable {v':M'} {k:Nat}
theorem gO.recs (h:gO w0 r0 b0 B m L O P vr vw vb vl b2 b4 w) {r:Rec} (hk:k=m.recs.length+1) (hg:w.grownBy w' vr.ownBlock) (ho:w'.ownsRow B 44 7 v' k (cj (m.recs++[r]))) (fH:v'.ownBlock=vr.ownBlock\/v'.ownBlock=some w.heap.size):
 gO w0 r0 b0 B {m with recs:=m.recs++[r]} L O P v' vw vb vl b2 b4 (w'.setCell ⟨b2,4,none⟩ v'):=by
 obtain ⟨⟨q1,q2,q3⟩,q4,q5,q6⟩:=h.oB
 have n1:=gF h.room.wait h.room.recs (by decide)
 have n2:=gF h.room.back h.room.recs (by decide)
 have lF:w'.heap[b2]?=some (.cells (gi L O P m.clock vr vw vb vl) 63 (0,0)):=(hg.block _ h.LX (fun e=>q1 e.symm)).trans h.box
 have uI:w'.heap[b4]?=some (.cells ia 63 (0,0)):=(hg.block _ h.Qf (fun e=>q4 e.symm)).trans h.res
 have BH:v'.ownBlock≠some b2:=bB ho lF (by decide)
 have RA:bA B {m with recs:=m.recs++[r]} v' vw vb w':=⟨D_ h.room.big hg.size,by rw [K_];rw [hk] at ho;exact ho,h.room.wait.kept hg n1,h.room.back.kept hg n2,h.room.apart,h.room.iQ⟩
 refine ⟨RA.cell BH q2 q3, ?_, ?_,h.rb, ?_, ?_,h.l2,h.l4,h.ne⟩
 ·refine bg.i7 ⟨hg.os.trans h.fr.os,hg.tape.trans h.fr.tape,hg.output.trans h.fr.output,D_ h.fr.size hg.size,fun g hl h1 h2=>(hg.block g (E_ hl h.fr.size) (fun e=>h1 (h.rr g hl e.symm))).trans (h.fr.block g hl h1 h2)⟩ h.l2
 ·intro g hl e
  rcases fH with x|x
  ·exact h.rr g hl (x▸e)
  ·have:=M_ (x.symm.trans e);have:=h.fr.size;omega
 ·have:=Go.heap_setCell_same w' b2 4 _ 63 v' lF
  rw [Ji] at this;exact this
 ·exact (a_ w' ⟨b2,4,none⟩ b4 v' (fun e=>h.ne e.symm)).trans uI
variable {ws:List (Int × Int)}
theorem gO.waits (h:gO w0 r0 b0 B m L O P vr vw vb vl b2 b4 w) (hb:g_ w.heap.size w w') {u:M'} (ho:w'.ownsRow w.heap.size 114 2 u ws.length (ax ws)) (hu:∃g,u.ownBlock=some g):
 gO w0 r0 b0 B {m with wait:=ws} L O P vr u vb vl b2 b4 (w'.setCell ⟨b2,5,none⟩ u):=by
 have h':=h.below hb
 obtain ⟨⟨q1,q2,q3⟩,q4,q5,q6⟩:=h'.oB
 have BH:u.ownBlock≠some b2:=bB ho h'.box (by decide)
 refine ⟨(h.room.waits hb ho hu).cell q1 BH q3,h'.fr.i7 h.l2,h.rr,h.rb, ?_, ?_,h.l2,h.l4,h.ne⟩
 ·have:=Go.heap_setCell_same w' b2 5 _ 63 u h'.box
  rw [Jh] at this;exact this
 ·exact (a_ w' ⟨b2,5,none⟩ b4 u (fun e=>h.ne e.symm)).trans h'.res
theorem gO.O6 (h:gO w0 r0 b0 B m L O P vr vw vb vl b2 b4 w) (hb:g_ w.heap.size w w') {u:M'} (ho:w'.ownsRow w.heap.size 114 2 u ws.length (ax ws)):
 gO w0 r0 b0 B {m with back:=ws} L O P vr vw u vl b2 b4 (w'.setCell ⟨b2,6,none⟩ u):=by
 have h':=h.below hb
 obtain ⟨⟨q1,q2,q3⟩,q4,q5,q6⟩:=h'.oB
 have BH:u.ownBlock≠some b2:=bB ho h'.box (by decide)
 refine ⟨(h.room.Gx hb ho).cell q1 q2 BH,h'.fr.i7 h.l2,h.rr,fun g hl e=> ?_, ?_, ?_,h.l2,h.l4,h.ne⟩
 ·have:=(ho.lt g e).1;have:=h.fr.size;omega
 ·have:=Go.heap_setCell_same w' b2 6 _ 63 u h'.box
  rw [Cc] at this;exact this
 ·exact (a_ w' ⟨b2,6,none⟩ b4 u (fun e=>h.ne e.symm)).trans h'.res
theorem gO.aBt (h:gO w0 r0 b0 B m L O P vr vw vb vl b2 b4 w) {p:Int × Int} (hk:k=m.back.length+1) (hg:w.grownBy w' vb.ownBlock) (ho:w'.ownsRow B 114 2 v' k (ax (m.back++[p]))) (fH:v'.ownBlock=vb.ownBlock\/v'.ownBlock=some w.heap.size):
 gO w0 r0 b0 B {m with back:=m.back++[p]} L O P vr vw v' vl b2 b4 (w'.setCell ⟨b2,6,none⟩ v'):=by
 obtain ⟨⟨q1,q2,q3⟩,q4,q5,q6⟩:=h.oB
 have n1:vw.ownBlock=none\/vw.ownBlock≠vb.ownBlock:=by
  cases hx:vw.ownBlock with
  |none=>exact .inl rfl
  |some g=>exact .inr fun e=>h.room.apart g hx e.symm
 have n2:=gF h.room.recs h.room.back (by decide)
 have lF:w'.heap[b2]?=some (.cells (gi L O P m.clock vr vw vb vl) 63 (0,0)):=(hg.block _ h.LX (fun e=>q3 e.symm)).trans h.box
 have uI:w'.heap[b4]?=some (.cells ia 63 (0,0)):=(hg.block _ h.Qf (fun e=>q6 e.symm)).trans h.res
 have BH:v'.ownBlock≠some b2:=bB ho lF (by decide)
 have Gp:∀g,vw.ownBlock=some g->v'.ownBlock≠some g:=fun g e e2=>by
  rcases fH with x|x
  ·exact h.room.apart g e (x▸e2)
  ·have:=M_ (x.symm.trans e2);have:=(h.room.wait.lt g e).2;omega
 have RA:bA B {m with back:=m.back++[p]} vr vw v' w':=⟨D_ h.room.big hg.size,h.room.recs.kept hg n2,h.room.wait.kept hg n1,by rw [K_];rw [hk] at ho;exact ho,Gp,h.room.iQ⟩
 refine ⟨RA.cell q1 q2 BH, ?_,h.rr, ?_, ?_, ?_,h.l2,h.l4,h.ne⟩
 ·refine bg.i7 ⟨hg.os.trans h.fr.os,hg.tape.trans h.fr.tape,hg.output.trans h.fr.output,D_ h.fr.size hg.size,fun g hl h1 h2=>(hg.block g (E_ hl h.fr.size) (fun e=>h2 (h.rb g hl e.symm))).trans (h.fr.block g hl h1 h2)⟩ h.l2
 ·intro g hl e
  rcases fH with x|x
  ·exact h.rb g hl (x▸e)
  ·have:=M_ (x.symm.trans e);have:=h.fr.size;omega
 ·have:=Go.heap_setCell_same w' b2 6 _ 63 v' lF
  rw [Cc] at this;exact this
 ·exact (a_ w' ⟨b2,6,none⟩ b4 v' (fun e=>h.ne e.symm)).trans uI
variable {i:Nat}
theorem gO.set (h:gO w0 r0 b0 B m L O P vr vw vb vl b2 b4 w) {cap:Nat} (hv:vr=.slice (some ⟨g,0,none⟩) m.recs.length cap) (hi:i<m.recs.length) (hk:k<7) {v:M'} {r:Rec} (hr:r.cells=(m.recs[i]).cells.set k v):
 gO w0 r0 b0 B {m with recs:=m.recs.set i r} L O P vr vw vb vl b2 b4 (w.setCell ⟨g,i * 7+k,none⟩ v):=by
 obtain ⟨⟨q1,q2,q3⟩,q4,q5,q6⟩:=h.oB
 have hg:vr.ownBlock=some g:=by rw [hv];rfl
 refine ⟨h.room.set hv hi hk hr, ?_,h.rr,h.rb, ?_, ?_,h.l2,h.l4,h.ne⟩
 ·refine ⟨h.fr.os,h.fr.tape,h.fr.output,by rw [World.size_setCell];exact h.fr.size,fun j hj h1 h2=>(a_ w ⟨g,i * 7+k,none⟩ j v (fun e=>h1 (h.rr j hj (by rw [hg,show j=g from e])))).trans (h.fr.block j hj h1 h2)⟩
 ·exact (a_ w ⟨g,i * 7+k,none⟩ b2 v (fun e=>q1 (by rw [hg,show b2=g from e]))).trans h.box
 ·exact (a_ w ⟨g,i * 7+k,none⟩ b4 v (fun e=>q4 (by rw [hg,show b4=g from e]))).trans h.res
def Done (w0:J') (r0 b0:M') (B:Nat) (m:Rm) (L O P:Int) (vl:M') (t:Bs) (e:Ending) (w:J'):Prop:=
 ∃vr vw vb,e=.returned (.tuple #[jD L O P m.clock vr vw vb vl,.string ⟨t.toArray⟩])/\bA B m vr vw vb w/\bg r0 b0 w0 w/\(∀g,g<w0.heap.size->vr.ownBlock=some g->r0.ownBlock=some g)/\(∀g,g<w0.heap.size->vb.ownBlock=some g->b0.ownBlock=some g)
variable {fn:Func} {tm:Array M'}
theorem gO.ends (h:gO w0 r0 b0 B m L O P vr vw vb vl b2 b4 w) {t:Bs} (EJ:fn.results=#[.cell 4 63,.tmp 5]) (h4:tm.getD 4 I'=.pointer (some ⟨b4,0,none⟩)) (h5:tm.getD 5 I'=.string ⟨t.toArray⟩):
 bodyPost p_ fn (Done w0 r0 b0 B m L O P vl t) .ret ⟨tm,[]⟩ (Of.b8 w b4 (.int .i64 L) (.int .i64 O) (.int .i64 P) (.int .i64 m.clock) vr vw vb vl):=by
 obtain ⟨⟨q1,q2,q3⟩,q4,q5,q6⟩:=h.oB
 have hR:=h.room.b8 (v0:=.int .i64 L) (v1:=.int .i64 O) (v2:=.int .i64 P) (v3:=.int .i64 m.clock) (v4:=vr) (v5:=vw) (v6:=vb) (v7:=vl) q4 q5 q6
 have hF:=h.fr.b8 (v0:=.int .i64 L) (v1:=.int .i64 O) (v2:=.int .i64 P) (v3:=.int .i64 m.clock) (v4:=vr) (v5:=vw) (v6:=vb) (v7:=vl) h.l4
 obtain ⟨⟨s0,s1,s2,s3,s4,s5,s6,s7⟩,_⟩:=aG (lB (show w.heap[b4]?=some (jY #[.int .i64 0,.int .i64 0,.int .i64 0,.int .i64 0,.slice none 0 0,.slice none 0 0,.slice none 0 0,.slice none 0 0] 63 (0,0)) from h.res) (.int .i64 L) (.int .i64 O) (.int .i64 P) (.int .i64 m.clock) vr vw vb vl)
 generalize Of.b8 w b4 (.int .i64 L) (.int .i64 O) (.int .i64 P) (.int .i64 m.clock) vr vw vb vl=W at *
 have VC:tm[4]?.getD I'=.pointer (some ⟨b4,0,none⟩):=by rw [<-r_];exact h4
 have VB:tm[5]?.getD I'=.string ⟨t.toArray⟩:=by rw [<-r_];exact h5
 refine bodyPost_ret (v:=.tuple #[jD L O P m.clock vr vw vb vl,.string ⟨t.toArray⟩]) (by simp [results,EJ,go_sem,jD,VC,VB,s0,s1,s2,s3,s4,s5,s6,s7]) rfl ?_
 exact ⟨vr,vw,vb,rfl,hR,hF,h.rr,h.rb⟩
noncomputable def Br:Code:=f82.body.getD .skip
noncomputable def R82:Code:=ai 3 Br
structure Qr where
 u:M'
 g:Nat
structure VX (ld:List Nat) (kc kb ka ks:Nat) (w1:J') (w0:J') (r0 b0:M') (B:Nat) (m:Rm) (L O P:Int) (vw vb vl:M') (b2 b4:Nat) (ar:Option z_) (cr:Nat) (r:Rec) (D:Array Bool) (q:Qr) (w:J'):Prop where
 o1:D.getD kc false=true->∀j∈ld,D.getD j false=true
 o0:D.getD kb false=true->D.getD kc false=true
 o2:D.getD ka false=true->D.getD kb false=true/\D.getD 1 false=true
 o3:D.getD ks false=true->D.getD ka false=true
 a:D.getD kb false=false->w=w1
 b:D.getD kb false=true->D.getD ka false=false->w=w1.alloc (.cells r.cells.toArray 44)/\q.g=w1.heap.size
 c:D.getD ka false=true->D.getD ks false=false->w.ownsRow B 44 7 q.u (m.recs.length+1) (cj (m.recs++[r]))/\(w1.alloc (.cells r.cells.toArray 44)).grownBy w (mN ar m.recs.length cr).ownBlock/\(q.u.ownBlock=(mN ar m.recs.length cr).ownBlock\/q.u.ownBlock=some (w1.heap.size+1))
 d:D.getD ks false=true->(gO w0 r0 b0 B {m with recs:=m.recs++[r]} L O P q.u vw vb vl b2 b4 w)/\∀g,g<w1.heap.size->g≠b2->(mN ar m.recs.length cr).ownBlock≠some g->w.heap[g]?=w1.heap[g]?
 e:D.getD ka false=true->∃gg cap,q.u=.slice (some ⟨gg,0,none⟩) (m.recs.length+1) cap
variable {w1:J'} {ar:Option z_} {cr:Nat} {D D':Array Bool}
theorem VX.same {ld:List Nat} {kc kb ka ks:Nat} {vw:M'} {r:Rec} {q:Qr} (h:VX ld kc kb ka ks w1 w0 r0 b0 B m L O P vw vb vl b2 b4 ar cr r D q w) (qn:∀j,j≠i->D'.getD j false=D.getD j false) (qi:D'.getD i false=true) (hi:i∉[kc,kb,ka,ks]):VX ld kc kb ka ks w1 w0 r0 b0 B m L O P vw vb vl b2 b4 ar cr r D' q w:=by
 have e0:=qn kc (fun e=>hi (by simp [e]))
 have e1:=qn kb (fun e=>hi (by simp [e]))
 have e2:=qn ka (fun e=>hi (by simp [e]))
 have e3:=qn ks (fun e=>hi (by simp [e]))
 have mo:∀j,D.getD j false=true->D'.getD j false=true:=fun j hj=>by
  by_cases e:j=i
  ·subst e;exact qi
  ·rw [qn j e];exact hj
 exact ⟨by rw [e0];exact fun hb j hj=>mo j (h.o1 hb j hj),by rw [e1,e0];exact h.o0,by rw [e2];exact fun ha=>⟨mo _ (h.o2 ha).1,mo _ (h.o2 ha).2⟩,by rw [e3,e2];exact h.o3,by rw [e1];exact h.a,by rw [e1,e2];exact h.b,by rw [e2,e3];exact h.c,by rw [e3];exact h.d,by rw [e2];exact h.e⟩
def zR (b2 b3 gu nf cu:Nat) (m:Rm) (ar:Option z_) (cr:Nat) (r:Rec) (x:Qr):Nat->M'
 |0=>.pointer (some ⟨b2,4,none⟩)
 |1=>.slice ar m.recs.length cr
 |2=>.pointer (some ⟨b3,0,none⟩)
 |3=>.int .i64 r.call
 |4=>.slice (some ⟨gu,0,none⟩) nf cu
 |5=>.pointer (some ⟨gu,0,none⟩)
 |6=>.int .i64 r.line
 |7=>.pointer (some ⟨b2,3,none⟩)
 |8=>.int .i64 m.clock
 |9=>.agg #[.int .i64 r.call,.int .i64 r.line,.int .i64 0,.int .i64 m.clock,.int .i64 (-1),.int .i64 (-1),.string ⟨#[111,112,101,110]⟩]
 |10=>.slice (some ⟨x.g,0,none⟩) 1 1
 |11=>x.u
 |12=>.pointer (some ⟨b2,4,none⟩)
 |_=>I'
variable {gu nf cu:Nat} {z0 z1 z4 z5 z7 z8 z9 dB cZ de dn dm dk dj dA dz dD dC dM dQ dK dP dO dV ey ew eu eK eJ eI eH eQ eN en iu iF iE iD iC iB:M'} {Q:Exit->Act->J'->Prop}
theorem Ti {vw:M'} {r:Rec} {b3:Nat} (hF:gO w0 r0 b0 B m L O P (.slice ar m.recs.length cr) vw vb vl b2 b4 w) (hn:m.recs.length<=1000) (hnf:0<nf) (Gk:nf<=cu) (mj:f_ (r.cells.toArray=#[.int .i64 r.call,.int .i64 r.line,.int .i64 0,.int .i64 m.clock,.int .i64 (-1),.int .i64 (-1),.string ⟨#[111,112,101,110]⟩])) (h3:w.cell? ⟨b3,0,none⟩=some (.int .i64 r.call)) (mi:w.cell? ⟨gu,0,none⟩=some (.int .i64 r.line)) {z12 z20 z21 z22 z23 z24 z25 z26 z28 z31 z37 z40 z46 z49 z51 z53 z59:M'}
 (hQ:∀w' gg cap (TE TC Om TB TA Tz Ty Tx Tw Tv Tu Ol Oj:M'),gO w0 r0 b0 B {m with recs:=m.recs++[r]} L O P (.slice (some ⟨gg,0,none⟩) (m.recs.length+1) cap) vw vb vl b2 b4 w'->(∀g,g<w.heap.size->g≠b2->(mN ar m.recs.length cr).ownBlock≠some g->w'.heap[g]?=w.heap[g]?)->Q .normal ⟨#[z0,z1,.pointer (some ⟨b2,0,none⟩),.pointer (some ⟨b3,0,none⟩),z4,z5,.slice (some ⟨gu,0,none⟩) nf cu,z7,z8,z9,dB,cZ,z12,de,dn,dm,dk,dj,dA,dz,z20,z21,z22,z23,z24,z25,z26,dD,z28,dC,dM,z31,dQ,dK,dP,dO,TE,TC,Om,TB,TA,Tz,Ty,Tx,Tw,Tv,Tu,Ol,Oj,z49,en,z51,iu,z53,iF,iE,iD,iC,iB,z59],[]⟩ w'):
 Code.wp p_ R82 Q ⟨#[z0,z1,.pointer (some ⟨b2,0,none⟩),.pointer (some ⟨b3,0,none⟩),z4,z5,.slice (some ⟨gu,0,none⟩) nf cu,z7,z8,z9,dB,cZ,z12,de,dn,dm,dk,dj,dA,dz,z20,z21,z22,z23,z24,z25,z26,dD,z28,dC,dM,z31,dQ,dK,dP,dO,dV,z37,ey,ew,z40,eu,eK,eJ,eI,eH,z46,eQ,eN,z49,en,z51,iu,z53,iF,iE,iD,iC,iB,z59],[]⟩ w:=by
 have hF:=hF.drew
 have c3:w.drew.cell? ⟨b2,3,none⟩=some (.int .i64 m.clock):=(aG hF.box).1.2.2.2.1
 have c4:w.drew.cell? ⟨b2,4,none⟩=some (.slice ar m.recs.length cr):=(aG hF.box).1.2.2.2.2.1
 have h3:w.drew.cell? ⟨b3,0,none⟩=some (.int .i64 r.call):=h3
 have mi:w.drew.cell? ⟨gu,0,none⟩=some (.int .i64 r.line):=mi
 obtain ⟨w1,cf⟩:∃w1,w.drew=w1:=⟨_,rfl⟩
 have vC:f_ (∀g:Nat,w1.heap[g]?=w.heap[g]?/\w1.heap.size=w.heap.size):=fun g=>by rw [<-cf];exact ⟨rfl,rfl⟩
 rw [cf] at hF c3 c4 h3 mi
 refine wpN 60 fun bs cn oq HI=> ?_
 simp only [R82,ai,Br,f82,A_]
 refine mA (by kernel_rfl) (kP:=⟨I',0⟩) (base:=bs) (by rw [oq];kernel_rfl) (by kernel_rfl) (fun x=>zR b2 b3 gu nf cu m ar cr r x) (VX [3,6,8] 9 10 11 13 w1 w0 r0 b0 B m L O P vw vb vl b2 b4 ar cr r)
  (by
   exact ⟨E5,E5,E5,E5,fun _=>cf,E5,E5,E5,E5⟩) ?_ ?_
 ·intro i o' ho D x w a hD bc hw bH aD K k
  have hlt:i<14:=(cI ho)
  have Gl:=bT oq
  have qi:=qI hD hlt
  have qn:=qN D i
  have aA:=aa k
  clear k
  obtain rfl|rfl|rfl|rfl|rfl|rfl|rfl|rfl|rfl|rfl|rfl|rfl|rfl|rfl:i=0\/i=1\/i=2\/i=3\/i=4\/i=5\/i=6\/i=7\/i=8\/i=9\/i=10\/i=11\/i=12\/i=13:=by omega
  all_goals obtain rfl:=so ho rfl
  ·obtain ⟨v2,w2⟩:=bc.oo (.pointer (some ⟨b2,0,none⟩)) 2
   exact IZ (.pointer (some ⟨b2,4,none⟩))
  ·have d0:=dq aD 0
   obtain ⟨v36,w36⟩:=bc.vv (.pointer (some ⟨b2,4,none⟩)) 36 0 d0
   have c4:w.cell? ⟨b2,4,none⟩=some (.slice ar m.recs.length cr):=by
    have hk:=ff bH fun hx=>(hw.o2 hx).2
    cases hb:D.getD 10 false with
    |false=>rw [hw.a hb];exact c4
    |true=>rw [(hw.b hb hk).1];exact (N_ w1 _ none).cell c4 (by simp)
   exact IZ (.slice ar m.recs.length cr)
  ·obtain ⟨v3,w3⟩:=bc.oo (.pointer (some ⟨b3,0,none⟩)) 3
   exact IZ (.pointer (some ⟨b3,0,none⟩))
  ·have d2:=dq aD 2
   obtain ⟨v38,XX⟩:=bc.vv (.pointer (some ⟨b3,0,none⟩)) 38 2 d2
   have vF:=ff bH fun hx=>hw.o1 (hw.o0 hx) 3 (by decide)
   obtain rfl:=hw.a vF
   exact IZ (.int .i64 r.call)
  ·obtain ⟨v6,w6⟩:=bc.oo (.slice (some ⟨gu,0,none⟩) nf cu) 6
   exact IZ (.slice (some ⟨gu,0,none⟩) nf cu)
  ·have d4:=dq aD 4
   obtain ⟨v40,XW⟩:=bc.vv (.slice (some ⟨gu,0,none⟩) nf cu) 40 4 d4
   exact IZ (.pointer (some ⟨gu,0,none⟩))
  ·have d5:=dq aD 5
   obtain ⟨v41,XV⟩:=bc.vv (.pointer (some ⟨gu,0,none⟩)) 41 5 d5
   have vF:=ff bH fun hx=>hw.o1 (hw.o0 hx) 6 (by decide)
   obtain rfl:=hw.a vF
   exact IZ (.int .i64 r.line)
  ·obtain ⟨v2,w2⟩:=bc.oo (.pointer (some ⟨b2,0,none⟩)) 2
   exact IZ (.pointer (some ⟨b2,3,none⟩))
  ·have d7:=dq aD 7
   obtain ⟨v43,XT⟩:=bc.vv (.pointer (some ⟨b2,3,none⟩)) 43 7 d7
   have vF:=ff bH fun hx=>hw.o1 (hw.o0 hx) 8 (by decide)
   obtain rfl:=hw.a vF
   exact IZ (.int .i64 m.clock)
  ·have d3:=dq aD 3
   have d6:=dq aD 6
   have d8:=dq aD 8
   obtain ⟨v39,w39⟩:=bc.vv (.int .i64 r.call) 39 3 d3
   obtain ⟨v42,XU⟩:=bc.vv (.int .i64 r.line) 42 6 d6
   obtain ⟨v44,XS⟩:=bc.vv (.int .i64 m.clock) 44 8 d8
   clear aD ho
   have e9:=qi
   have ow:=qn 10 (by decide)
   have jZ:=qn 11 (by decide)
   have oL:=qn 13 (by decide)
   have vF:=ff bH fun hx=>hw.o0 hx
   refine bj (v:=.agg #[.int .i64 r.call,.int .i64 r.line,.int .i64 0,.int .i64 m.clock,.int .i64 (-1),.int .i64 (-1),.string ⟨#[111,112,101,110]⟩]) (w':=w) rfl rfl ?_ (aA.out x w (fun _ _=>rfl) ⟨?_,by rw [ow,vF];exact fun h=>(by cases h),by rw [jZ,ow];exact fun h=>⟨(hw.o2 h).1,by rw [qn 1 (by decide)];exact (hw.o2 h).2⟩,by rw [oL,jZ];exact hw.o3,by rw [ow];exact hw.a,by rw [ow,jZ];exact hw.b,by rw [jZ,oL];exact hw.c,by rw [oL];exact hw.d,by rw [jZ];exact hw.e⟩)
   ·clear bc hw aA bH qi qn e9 ow jZ oL vF
    go_simp
   ·intro _ j hj
    simp only [R_,List.not_mem_nil,or_false] at hj
    rcases hj with rfl|rfl|rfl
    ·rw [qn _ (by decide)];exact d3
    ·rw [qn _ (by decide)];exact d6
    ·rw [qn _ (by decide)];exact d8
  ·have d9:=dq aD 9
   obtain ⟨v45,XR⟩:=bc.vv (.agg #[.int .i64 r.call,.int .i64 r.line,.int .i64 0,.int .i64 m.clock,.int .i64 (-1),.int .i64 (-1),.string ⟨#[111,112,101,110]⟩]) 45 9 d9
   clear aD ho
   have ow:=qi
   have jZ:=qn 11 (by decide)
   have oL:=qn 13 (by decide)
   have xE:=ff bH fun hx=>(hw.o2 hx).1
   have CR:=ff xE fun hx=>hw.o3 hx
   obtain rfl:=hw.a bH
   refine bj (v:=.slice (some ⟨w.heap.size,0,none⟩) 1 1) (w':=w.alloc (.cells r.cells.toArray 44)) rfl rfl ?_ ?_
   ·clear bc hw aA bH qi qn ow jZ oL
    rw [mj.out]
    go_simp
   ·refine aA.out ⟨x.u,w.heap.size⟩ _ (fun j hj=>by
     have hne:j≠10:=fun e=>by rw [e,bH] at hj;cases hj
     unfold zR;split<;>first|rfl|exact absurd rfl hne) ⟨by rw [qn 9 (by decide)];exact fun _ j hj=>if e:j=10 then (by subst e;exact qi) else (by rw [qn j e];exact hw.o1 d9 j hj),fun _=>by rw [qn 9 (by decide)];exact d9,by rw [jZ,xE];exact fun h=>(by cases h),by rw [oL,CR];exact fun h=>(by cases h),by rw [ow];exact fun h=>(by cases h),fun _ _=>⟨rfl,rfl⟩,by rw [jZ,xE];exact fun h=>(by cases h),by rw [oL,CR];exact fun h=>(by cases h),by rw [jZ,xE];exact fun h=>(by cases h)⟩
  ·have d1:=dq aD 1
   have d10:=dq aD 10
   obtain ⟨v37,w37⟩:=bc.vv (.slice ar m.recs.length cr) 37 1 d1
   obtain ⟨v46,XQ⟩:=bc.vv (.slice (some ⟨x.g,0,none⟩) 1 1) 46 10 d10
   clear aD ho
   have ow:=qn 10 (by decide)
   have jZ:=qi
   have oL:=qn 13 (by decide)
   have CR:=ff bH fun hx=>hw.o3 hx
   obtain ⟨yc,hg⟩:=hw.b d10 bH
   obtain ⟨i9,A5,nR,nQ,nP⟩:=info_parts EA
   have bR:=hF.room.recs.alloc (.cells r.cells.toArray 44)
   obtain ⟨g,cap,w6,hrun,yI,pZ,iP,mR⟩:=run_append_lies (P:=p_) (w1.alloc (.cells r.cells.toArray 44)) 37 37 B 44 i9 _ 7 64 Tryz.underlying37 A5 nR nQ nP rfl (by decide) (.slice ar m.recs.length cr) m.recs.length _ bR ⟨w1.heap.size,0,none⟩ 1 1 r.cells rfl (fY w1 _ _ rfl) (by intro u hu;simp [Rec.cells] at hu;rcases hu with rfl|rfl|rfl|rfl|rfl|rfl|rfl<;>rfl) (by decide) (by unfold maxLen;omega) (by omega) (D_ hF.room.big (N_ w1 _ none).size) _ rfl
   rw [hg] at v46
   subst yc
   refine bj (v:=.slice (some ⟨g,0,none⟩) (m.recs.length+1) cap) (w':=w6) rfl rfl ?_ ?_
   ·clear bc hw aA bH qi qn ow jZ oL
    simp only [List.getElem_toArray,List.getElem_cons_succ,List.getElem_cons_zero,V',resolve,invoke,builtin,Sem.run_bind,Sem.run_pure,Result.andThen_ok,List.map_toArray,S_,List.map_nil,v37,v46,hrun]
   ·refine aA.out ⟨.slice (some ⟨g,0,none⟩) (m.recs.length+1) cap,x.g⟩ _ (fun j hj=>by
     have hne:j≠11:=fun e=>by rw [e,bH] at hj;cases hj
     unfold zR;split<;>first|rfl|exact absurd rfl hne) ⟨?_,by rw [qn 9 (by decide),ow];exact hw.o0, ?_,by rw [oL,CR];exact fun h=>(by cases h),by rw [ow,d10];exact fun h=>(by cases h),by rw [jZ];exact fun _ h=>(by cases h),fun _ _=>⟨by rw [nG];simpa [cj] using yI,pZ, ?_⟩,by rw [oL,CR];exact fun h=>(by cases h),fun _=>⟨g,cap,rfl⟩⟩
    ·rw [qn 9 (by decide)];intro h j hj
     have:=hw.o1 h j hj
     by_cases e:j=11
     ·subst e;exact qi
     ·rw [qn j e];exact this
    ·intro _;rw [ow];exact ⟨d10,by rw [qn 1 (by decide)];exact d1⟩
    ·rcases iP with h|h
     ·exact .inl h.symm
     ·exact .inr (by rw [h,B_];rfl)
  ·obtain ⟨v2,w2⟩:=bc.oo (.pointer (some ⟨b2,0,none⟩)) 2
   exact IZ (.pointer (some ⟨b2,4,none⟩))
  ·have d12:=dq aD 12
   have d11:=dq aD 11
   obtain ⟨v48,Wb⟩:=bc.vv (.pointer (some ⟨b2,4,none⟩)) 48 12 d12
   obtain ⟨v47,LS⟩:=bc.vv (x.u) 47 11 d11
   clear aD ho
   have ow:=qn 10 (by decide)
   have jZ:=qn 11 (by decide)
   have oL:=qi
   obtain ⟨ho,lH,fH⟩:=hw.c d11 bH
   obtain ⟨gg,cap,hu⟩:=hw.e d11
   have F3:=hF.below ((h_ _ _).alloc (C_ _) (.cells r.cells.toArray 44))
   have F4:=F3.recs (r:=r) rfl lH ho (by rw [B_];exact fH)
   have lF:=(lH.block _ F3.LX (fun e=>F3.oB.1.1 e.symm)).trans F3.box
   have p4:w.cell? ⟨b2,4,none⟩=some (.slice ar m.recs.length cr):=by rw [aB lF];rfl
   have q4:w.frozen? ⟨b2,4,none⟩=false:=bX lF
   have QL:∀g,g<w1.heap.size->g≠b2->(mN ar m.recs.length cr).ownBlock≠some g->(w.setCell ⟨b2,4,none⟩ x.u).heap[g]?=w1.heap[g]?:=fun g h1 h2 h3=>(a_ w ⟨b2,4,none⟩ g x.u h2).trans ((lH.block g (by rw [B_];omega) (fun e=>h3 e.symm)).trans ((N_ w1 _ none).block g h1 (by simp)))
   have QL:=aa QL
   refine gQ (w':=w.setCell ⟨b2,4,none⟩ x.u) rfl rfl ?_ ?_
   ·clear bc hw aA bH qi qn ow jZ oL F3 F4 ho lH fH lF
    rw [hu] at LS
    rw [hu]
    go_simp
   ·refine aA.out x _ (fun _ _=>rfl) ⟨?_,by rw [qn 9 (by decide),ow];exact hw.o0,by rw [jZ,ow];exact fun h=>⟨(hw.o2 h).1,by rw [qn 1 (by decide)];exact (hw.o2 h).2⟩,fun _=>by rw [jZ];exact d11,by rw [ow];exact fun h=>(by rw [(hw.o2 d11).1] at h;cases h),by rw [jZ,d11];exact fun _ h=>(by cases h),by rw [oL];exact fun _ h=>(by cases h),fun _=>⟨F4,QL.out⟩,by rw [jZ];exact hw.e⟩
    rw [qn 9 (by decide)];intro h j hj
    have:=hw.o1 h j hj
    by_cases e:j=13
    ·subst e;exact qi
    ·rw [qn j e];exact this
 ·intro D x w hd hw
  obtain ⟨gg,cap,hu⟩:=hw.e (hd 11 (by decide))
  have EX:=hw.d (hd 13 (by decide))
  obtain ⟨u9,g9⟩:=x
  simp only at hu EX
  subst hu
  have:=hQ w gg cap (.pointer (some ⟨b2,4,none⟩)) (.slice ar m.recs.length cr) (.pointer (some ⟨b3,0,none⟩)) (.int .i64 r.call) (.slice (some ⟨gu,0,none⟩) nf cu) (.pointer (some ⟨gu,0,none⟩)) (.int .i64 r.line) (.pointer (some ⟨b2,3,none⟩)) (.int .i64 m.clock) (.agg #[.int .i64 r.call,.int .i64 r.line,.int .i64 0,.int .i64 m.clock,.int .i64 (-1),.int .i64 (-1),.string ⟨#[111,112,101,110]⟩]) (.slice (some ⟨g9,0,none⟩) 1 1) (.slice (some ⟨gg,0,none⟩) (m.recs.length+1) cap) (.pointer (some ⟨b2,4,none⟩)) EX.1 (fun g h1 h2 h3=>(EX.2 g (by rw [(vC.out g).2];exact h1) h2 h3).trans (vC.out g).1)
  generalize bc:slotsOf _ bs (zR b2 b3 gu nf cu m ar cr r ⟨.slice (some ⟨gg,0,none⟩) (m.recs.length+1) cap,g9⟩)=sl
  have eS:sl=#[z0,z1,.pointer (some ⟨b2,0,none⟩),.pointer (some ⟨b3,0,none⟩),z4,z5,.slice (some ⟨gu,0,none⟩) nf cu,z7,z8,z9,dB,cZ,z12,de,dn,dm,dk,dj,dA,dz,z20,z21,z22,z23,z24,z25,z26,dD,z28,dC,dM,z31,dQ,dK,dP,dO,.pointer (some ⟨b2,4,none⟩),.slice ar m.recs.length cr,.pointer (some ⟨b3,0,none⟩),.int .i64 r.call,.slice (some ⟨gu,0,none⟩) nf cu,.pointer (some ⟨gu,0,none⟩),.int .i64 r.line,.pointer (some ⟨b2,3,none⟩),.int .i64 m.clock,.agg #[.int .i64 r.call,.int .i64 r.line,.int .i64 0,.int .i64 m.clock,.int .i64 (-1),.int .i64 (-1),.string ⟨#[111,112,101,110]⟩],.slice (some ⟨g9,0,none⟩) 1 1,.slice (some ⟨gg,0,none⟩) (m.recs.length+1) cap,.pointer (some ⟨b2,4,none⟩),z49,en,z51,iu,z53,iF,iE,iD,iC,iB,z59]:=by rw [<-bc,<-cn];kernel_rfl
  rw [eS]
  exact this
end
end Go.aC.Of
namespace Go.aC
section
open Go Go.Conc Go.RowKit
variable {P:Program} {ops:Array Oper} {Q:Exit->Act->J'->Prop} {T:Type}
def xQ (ops:Array Oper):Bool:=(List.range ops.size).all fun i=>((ops[i]?).map fun o=>o.after.all fun e=> !Region.binds .any e||decide (e.on<i)).getD false
variable {D:Array Bool}
theorem Dq (hs:D.size=ops.size) (hb:xQ ops=true) (h:Region.ready .any ops D=[]):∀i,i<ops.size->D.getD i false=true:=by
 intro i
 induction i using Nat.strongRecOn with
 |_ i ih=>
  intro hi
  refine Classical.byContradiction fun hn=> ?_
  have hm:i∈Region.ready .any ops D:=by
   unfold Region.ready
   rw [List.mem_filter]
   refine ⟨by simpa using hi, ?_⟩
   have eo:=(List.all_eq_true.1 hb) i (by simpa using hi)
   rw [Array.getElem?_eq_getElem hi] at eo ⊢
   simp only [Option.map_some,A_,Array.all_eq_true,decide_eq_true_eq] at eo
   rw [Bool.and_eq_true]
   refine ⟨?_, ?_⟩
   ·have hl:i<D.size:=hs▸hi
    simp [Array.getD,hl] at hn ⊢
    exact hn
   ·simp only [Option.map_some,A_,Array.all_eq_true]
    intro j hj
    have hlt:=eo j hj
    rcases Bool.or_eq_true _ _ |>.mp hlt with h1|h1
    ·rw [h1];rfl
    ·have h2:=of_decide_eq_true h1
     rw [ih _ h2 (by omega),Bool.or_true]
  rw [h] at hm;cases hm
variable {w:J'}
theorem mz (hm:P.follows .mixedOrders=true) {base:Array M'} {id:Nat} (ho:rT ops base.size=true) (hb:xQ ops=true) (vals:T->Nat->M') (Wd:Array Bool->T->J'->Prop) {kP:T} (h0:Wd (Array.replicate ops.size false) kP w.drew)
 (hstep:∀i o',ops[i]?=some o'->∀D x w a,D.size=ops.size->iz ops base (vals x) D a->Wd D x w->D.getD i false=false->(∀e∈o'.after,Region.binds .any e=true->D.getD e.on false=true)->
  ∀K:Act->J'->Prop,(∀x' w',(∀j,D.getD j false=true->vals x' j=vals x j)->Wd (D.setIfInBounds i true) x' w'->K (a.put o'.dst (vals x' i)) w')->wpOp P ops Q i K a w)
 (A6:∀D x w,(∀i,i<ops.size->D.getD i false=true)->Wd D x w->Q .normal ⟨slotsOf ops base (vals x),[]⟩ w):
 Code.wp P (.region id ops true) Q ⟨base,[]⟩ w:=by
 refine wp_region_any hm ?_
 have key:∀fuel D x w a,D.size=ops.size->iz ops base (vals x) D a->Wd D x w->(∀i,i<ops.size->D.getD i false=true)\/((List.range ops.size).filter (fun i=> !D.getD i true)).length<=fuel->wpAny P .any ops Q fuel D a w:=by
  intro fuel
  induction fuel with
  |zero=>
   intro D x w a hD bc hw hl
   have hd:∀i,i<ops.size->D.getD i false=true:=by
    rcases hl with hl|hl
    ·exact hl
    ·intro i hi
     refine Classical.byContradiction fun hn=> ?_
     have Ge:i∈(List.range ops.size).filter (fun i=> !D.getD i true):=by
      rw [List.mem_filter]
      refine ⟨by simpa using hi, ?_⟩
      have hlt:i<D.size:=hD▸hi
      simp [Array.getD,hlt] at hn ⊢
      exact hn
     cases hx:(List.range ops.size).filter (fun i=> !D.getD i true) with
     |nil=>rw [hx] at Ge;cases Ge
     |cons y ys=>rw [hx] at hl;simp at hl
   refine ⟨?_, ?_⟩
   ·unfold Region.ready
    rw [List.filter_eq_nil_iff]
    intro i hi
    have lE:i<ops.size:=by simpa using hi
    have hlt:i<D.size:=hD▸lE
    have:=hd i lE
    simp [Array.getD,hlt] at this ⊢
    intro h;rw [this] at h;cases h
   ·rw [bc.done hd];exact A6 D x w hd hw
  |succ fuel ih=>
   intro D x w a hD bc hw hl
   refine ⟨fun he=> ?_,fun i hi=> ?_⟩
   ·have hd:=Dq hD hb he
    rw [bc.done hd];exact A6 D x w hd hw
   ·obtain ⟨o',h1,h2,h3,h4⟩:=tj hi
    have Me:i<D.size:=by omega
    have O0:D.getD i false=false:=by simp [Array.getD,Me] at h3 ⊢;exact h3
    refine hstep i o' h1 D x w a hD bc hw O0 h4 _ fun x' w' hv gC=> ?_
    refine ih (D.setIfInBounds i true) x' w' _ (by simpa using hD) (bc.put ho h2 hD h3 h1 hv) gC ?_
    rcases hl with hl|hl
    ·exact absurd (hl i h2) (by rw [O0];simp)
    ·refine .inr ?_
     have Ge:i∈(List.range ops.size).filter (fun i=> !D.getD i true):=by
      rw [List.mem_filter]
      exact ⟨by simpa using h2,by rw [h3];rfl⟩
     have yG:((List.range ops.size).filter fun j=> !(D.setIfInBounds i true).getD j true)=(((List.range ops.size).filter (fun i=> !D.getD i true)).filter fun j=>decide (j≠i)):=by
      rw [List.filter_filter]
      apply List.filter_congr
      intro j hj
      have EL:j<ops.size:=by simpa using hj
      have UI:j<D.size:=by omega
      by_cases e:i=j
      ·subst e;simp [Array.getD,Me]
      ·have e':¬j=i:=fun h=>e h.symm
       simp [Array.getD,UI,e',e]
     have hle:=List.length_filter_lt_length_iff_exists (p:=fun j=>decide (j≠i)) (l:=(List.range ops.size).filter (fun i=> !D.getD i true)) |>.2 ⟨i,Ge,by simp⟩
     rw [<-yG] at hle
     omega
 refine key _ _ _ _ _ (by simp) (oQ ops base (vals kP)) h0 (.inr ?_)
 exact D_ (List.length_filter_le _ _) (by simp)
end
end Go.aC
namespace Go.aC.Of
section
open Go Go.Conc Go.Conc.Lib Go.ConcR Go.ConcR.Gen Go.aC Go.Proofs
open Go.RowKit hiding Hid
open Go.ConcN (upd upd_ne upd_same)
noncomputable def V1:Code:=ai 5 Br
structure Xa (w1:J') (b4:Nat) (L O P ck:Int) (ar aw ab al:Option z_) (nr cr nw cw nb cb bM cl:Nat) (D:Array Bool) (_:Unit) (w:J'):Prop where
 o:D.getD 6 false=true->D.getD 4 false=true/\D.getD 0 false=true
 o3:D.getD 4 false=true->D.getD 3 false=true
 b:D.getD 6 false=false->g_ w1.heap.size w1 w
 c:D.getD 6 false=true->∃w5,g_ w1.heap.size w1 w5/\w=Of.b8 w5 b4 (.int .i64 L) (.int .i64 O) (.int .i64 P) (.int .i64 ck) (.slice ar nr cr) (.slice aw nw cw) (.slice ab nb cb) (.slice al bM cl)
variable {w1 w:J'} {b4 nr cr nw cw nb cb bM cl i:Nat} {L O P ck:Int} {ar aw ab al:Option z_} {D D':Array Bool}
theorem Xa.same {q:Unit} (h:Xa w1 b4 L O P ck ar aw ab al nr cr nw cw nb cb bM cl D q w) (qn:∀j,j≠i->D'.getD j false=D.getD j false) (hi:i∉[0,3,4,6]):Xa w1 b4 L O P ck ar aw ab al nr cr nw cw nb cb bM cl D' q w:=by
 have e0:=qn 0 (fun e=>hi (by simp [<-e]))
 have e3:=qn 3 (fun e=>hi (by simp [<-e]))
 have e4:=qn 4 (fun e=>hi (by simp [<-e]))
 have e6:=qn 6 (fun e=>hi (by simp [<-e]))
 exact ⟨by rw [e6,e4,e0];exact h.o,by rw [e4,e3];exact h.o3,by rw [e6];exact h.b,by rw [e6];exact h.c⟩
def Fx (gu nf cu:Nat) (l:Int) (L O P ck:Int) (ar aw ab al:Option z_) (nr cr nw cw nb cb bM cl:Nat) (_:Unit):Nat->M'
 |0=>.agg #[.int .i64 L,.int .i64 O,.int .i64 P,.int .i64 ck,.slice ar nr cr,.slice aw nw cw,.slice ab nb cb,.slice al bM cl]
 |1=>.slice (some ⟨gu,0,none⟩) nf cu
 |2=>.pointer (some ⟨gu,0,none⟩)
 |3=>.int .i64 l
 |4=>.string ⟨(L_ l).toArray⟩
 |5=>.string ⟨(jj++L_ l).toArray⟩
 |7=>.string ⟨(jj++L_ l).toArray⟩
 |_=>I'
variable {b2 gu nf cu:Nat} {l:Int} {z0 z1 z3 z5 z7 z8 z9 dB cZ de dn dm dk dj dA dz dD dC dM dQ dK dP dO dV ey ew eu eK eJ eI eH eQ eN en iu iF iE iD iC iB:M'} {Q:Exit->Act->J'->Prop}
theorem P3 (lF:w.heap[b2]?=some (.cells #[.int .i64 L,.int .i64 O,.int .i64 P,.int .i64 ck,.slice ar nr cr,.slice aw nw cw,.slice ab nb cb,.slice al bM cl] 63 (0,0))) (FQ:w.heap[b4]?=some (.cells #[.int .i64 0,.int .i64 0,.int .i64 0,.int .i64 0,.slice none 0 0,.slice none 0 0,.slice none 0 0,.slice none 0 0] 63 (0,0))) (uN:gu<w.heap.size) (uK:w.cell? ⟨gu,0,none⟩=some (.int .i64 l)) (Mb:0<=l) (Iv:l<=1000000000) (hnf:0<nf) (Gk:nf<=cu) {z12 z20 z21 z22 z23 z24 z25 z26 z28 z31 z37 z40 z46 z49 z51 z53 z59:M'}
 (hQ:∀w5 (Jr Jq Og Oe Oc Tt:M'),g_ w.heap.size w w5->Q .normal ⟨#[z0,z1,.pointer (some ⟨b2,0,none⟩),z3,.pointer (some ⟨b4,0,none⟩),.string ⟨(jj++L_ l).toArray⟩,.slice (some ⟨gu,0,none⟩) nf cu,z7,z8,z9,dB,cZ,z12,de,dn,dm,dk,dj,dA,dz,z20,z21,z22,z23,z24,z25,z26,dD,z28,dC,dM,z31,dQ,dK,dP,dO,dV,z37,ey,ew,z40,eu,eK,eJ,eI,eH,z46,eQ,eN,z49,en,z51,iu,z53,Jr,Jq,Og,Oe,Oc,Tt],[]⟩ (Of.b8 w5 b4 (.int .i64 L) (.int .i64 O) (.int .i64 P) (.int .i64 ck) (.slice ar nr cr) (.slice aw nw cw) (.slice ab nb cb) (.slice al bM cl))):
 Code.wp p_ V1 Q ⟨#[z0,z1,.pointer (some ⟨b2,0,none⟩),z3,.pointer (some ⟨b4,0,none⟩),z5,.slice (some ⟨gu,0,none⟩) nf cu,z7,z8,z9,dB,cZ,z12,de,dn,dm,dk,dj,dA,dz,z20,z21,z22,z23,z24,z25,z26,dD,z28,dC,dM,z31,dQ,dK,dP,dO,dV,z37,ey,ew,z40,eu,eK,eJ,eI,eH,z46,eQ,eN,z49,en,z51,iu,z53,iF,iE,iD,iC,iB,z59],[]⟩ w:=by
 have OT:(L_ l).length<=21:=Lib.itoa_length_le l (by omega) (by omega)
 obtain ⟨w1,cf⟩:∃w1,w.drew=w1:=⟨_,rfl⟩
 have sD:f_ (∀w5,g_ w1.heap.size w1 w5->g_ w.heap.size w w5):=fun w5 h=>by rw [<-cf] at h;exact (h_ _ _).drew.trans h
 replace lF:w1.heap[b2]?=some (.cells #[.int .i64 L,.int .i64 O,.int .i64 P,.int .i64 ck,.slice ar nr cr,.slice aw nw cw,.slice ab nb cb,.slice al bM cl] 63 (0,0)):=by rw [<-cf];exact lF
 replace FQ:w1.heap[b4]?=some (.cells #[.int .i64 0,.int .i64 0,.int .i64 0,.int .i64 0,.slice none 0 0,.slice none 0 0,.slice none 0 0,.slice none 0 0] 63 (0,0)):=by rw [<-cf];exact FQ
 replace uN:gu<w1.heap.size:=by rw [<-cf];exact uN
 replace uK:w1.cell? ⟨gu,0,none⟩=some (.int .i64 l):=by rw [<-cf];exact uK
 refine wpN 60 fun bs cn oq HI=> ?_
 simp only [V1,ai,Br,f82,A_]
 refine mz (by kernel_rfl) (kP:=()) (base:=bs) (by rw [oq];kernel_rfl) (by kernel_rfl) (fun x=>Fx gu nf cu l L O P ck ar aw ab al nr cr nw cw nb cb bM cl x) (Xa w1 b4 L O P ck ar aw ab al nr cr nw cw nb cb bM cl)
  (by
   exact ⟨E5,E5,fun _=>by rw [cf];exact h_ _ _,E5⟩) ?_ ?_
 ·intro i o' ho D x w a hD bc hw bH aD K k
  have hlt:i<8:=(cI ho)
  have Gl:=bT oq
  have qi:=qI hD hlt
  have qn:=qN D i
  have aA:=aa k
  clear k
  obtain rfl|rfl|rfl|rfl|rfl|rfl|rfl|rfl:i=0\/i=1\/i=2\/i=3\/i=4\/i=5\/i=6\/i=7:=by omega
  all_goals obtain rfl:=so ho rfl
  ·obtain ⟨v2,w2⟩:=bc.oo (.pointer (some ⟨b2,0,none⟩)) 2
   clear aD ho
   have e0:=qi
   have e3:=qn 3 (by decide)
   have e4:=qn 4 (by decide)
   have e6:=qn 6 (by decide)
   have h6:=ff bH fun hx=>(hw.o hx).2
   have gb:=hw.b h6
   obtain ⟨⟨p0,p1,p2,p3,p4,p5,p6,p7⟩,_⟩:=aG ((gb.block b2 (cI lF)).trans lF)
   refine bj (v:=.agg #[.int .i64 L,.int .i64 O,.int .i64 P,.int .i64 ck,.slice ar nr cr,.slice aw nw cw,.slice ab nb cb,.slice al bM cl]) (w':=w) rfl rfl ?_ (aA.out x w (fun _ _=>rfl) ⟨by rw [e6,h6];exact fun h=>(by cases h),by rw [e4,e3];exact hw.o3,by rw [e6];exact hw.b,by rw [e6];exact hw.c⟩)
   clear bc hw aA bH qi qn e0 e3 e4 e6 gb
   go_simp
  ·obtain ⟨v6,w6⟩:=bc.oo (.slice (some ⟨gu,0,none⟩) nf cu) 6
   exact iY rfl (.slice (some ⟨gu,0,none⟩) nf cu) (aA.out x w (fun _ _=>rfl) (hw.same qn (by decide)))
  ·have d1:=dq aD 1
   obtain ⟨v55,XM⟩:=bc.vv (.slice (some ⟨gu,0,none⟩) nf cu) 55 1 d1
   exact iY rfl (.pointer (some ⟨gu,0,none⟩)) (aA.out x w (fun _ _=>rfl) (hw.same qn (by decide)))
  ·have d2:=dq aD 2
   obtain ⟨v56,XL⟩:=bc.vv (.pointer (some ⟨gu,0,none⟩)) 56 2 d2
   clear aD ho
   have e0:=qn 0 (by decide)
   have e3:=qi
   have e4:=qn 4 (by decide)
   have e6:=qn 6 (by decide)
   have h4:=ff bH fun hx=>hw.o3 hx
   have h6:=ff h4 fun hx=>(hw.o hx).1
   have gb:=hw.b h6
   have hl:w.cell? ⟨gu,0,none⟩=some (.int .i64 l):=(gb.cell (p:=⟨gu,0,none⟩) uN).trans uK
   refine bj (v:=.int .i64 l) (w':=w) rfl rfl ?_ (aA.out x w (fun _ _=>rfl) ⟨by rw [e6,h6];exact fun h=>(by cases h),by rw [e4,h4];exact fun h=>(by cases h),by rw [e6];exact hw.b,by rw [e6];exact hw.c⟩)
   clear bc hw aA bH qi qn e0 e3 e4 e6 gb
   go_simp
  ·have d3:=dq aD 3
   obtain ⟨Kx,XK⟩:=bc.vv (.int .i64 l) 57 3 d3
   clear aD ho
   have e0:=qn 0 (by decide)
   have e3:=qn 3 (by decide)
   have e4:=qi
   have e6:=qn 6 (by decide)
   have h6:=ff bH fun hx=>(hw.o hx).1
   have gb:=hw.b h6
   have sY:=lp l w Mb Iv
   unfold wpOp
   simp only [List.getElem?_toArray,List.getElem?_cons_succ,List.getElem?_cons_zero,Region.wanted,if_true,Option.isNone_none]
   left
   unfold Oper.wp
   simp only [V',resolve,invoke,Sem.run_bind,Sem.run_pure,Result.andThen_ok,List.map_toArray,S_,List.map_nil,Kx]
   refine (sY.mono ?_)
   rintro e w5 ⟨rfl,qo⟩
   exact aA.out x w5 (fun _ _=>rfl) ⟨by rw [e6,h6];exact fun h=>(by cases h),fun _=>by rw [e3];exact d3,fun _=>gb.trans (qo.mono gb.size),by rw [e6,h6];exact fun h=>(by cases h)⟩
  ·have d4:=dq aD 4
   obtain ⟨v58,V8⟩:=bc.vv (.string ⟨(L_ l).toArray⟩) 58 4 d4
   clear aD ho
   refine bj (v:=.string ⟨(jj++L_ l).toArray⟩) (w':=w) rfl rfl ?_ (aA.out x w (fun _ _=>rfl) (hw.same qn (by decide)))
   clear bc hw aA bH qi qn
   rw [<-vQ]
   unfold jj
   go_simp
   omega
  ·have d0:=dq aD 0
   have d4:=aD ⟨4,.chain⟩ (by simp) rfl
   obtain ⟨v54,XN⟩:=bc.vv (.agg #[.int .i64 L,.int .i64 O,.int .i64 P,.int .i64 ck,.slice ar nr cr,.slice aw nw cw,.slice ab nb cb,.slice al bM cl]) 54 0 d0
   obtain ⟨v4,w4⟩:=bc.oo (.pointer (some ⟨b4,0,none⟩)) 4
   clear aD ho
   have e0:=qn 0 (by decide)
   have e3:=qn 3 (by decide)
   have e4:=qn 4 (by decide)
   have e6:=qi
   have gb:=hw.b bH
   obtain ⟨⟨p0,p1,p2,p3,p4,p5,p6,p7⟩,q0,q1,q2,q3,q4,q5,q6,q7⟩:=aG ((gb.block b4 (cI FQ)).trans FQ)
   refine gQ (w':=Of.b8 w b4 (.int .i64 L) (.int .i64 O) (.int .i64 P) (.int .i64 ck) (.slice ar nr cr) (.slice aw nw cw) (.slice ab nb cb) (.slice al bM cl)) rfl rfl ?_ (aA.out x _ (fun _ _=>rfl) ⟨fun _=>by rw [e4,e0];exact ⟨d4,d0⟩,by rw [e4,e3];exact hw.o3,by rw [e6];exact fun h=>(by cases h),fun _=>⟨w,gb,rfl⟩⟩)
   clear bc hw aA bH qi qn e0 e3 e4 e6 gb
   unfold Of.b8
   go_simp
  ·have d5:=dq aD 5
   obtain ⟨v59,w59⟩:=bc.vv (.string ⟨(jj++L_ l).toArray⟩) 59 5 d5
   exact iY rfl (.string ⟨(jj++L_ l).toArray⟩) (aA.out x w (fun _ _=>rfl) (hw.same qn (by decide)))
 ·intro D x w hd hw
  obtain ⟨w5,qo,rfl⟩:=hw.c (hd 6 (by decide))
  have:=hQ w5 (.agg #[.int .i64 L,.int .i64 O,.int .i64 P,.int .i64 ck,.slice ar nr cr,.slice aw nw cw,.slice ab nb cb,.slice al bM cl]) (.slice (some ⟨gu,0,none⟩) nf cu) (.pointer (some ⟨gu,0,none⟩)) (.int .i64 l) (.string ⟨(L_ l).toArray⟩) (.string ⟨(jj++L_ l).toArray⟩) (sD.out w5 qo)
  generalize bc:slotsOf _ bs (Fx gu nf cu l L O P ck ar aw ab al nr cr nw cw nb cb bM cl ())=sl
  have eS:sl=#[z0,z1,.pointer (some ⟨b2,0,none⟩),z3,.pointer (some ⟨b4,0,none⟩),.string ⟨(jj++L_ l).toArray⟩,.slice (some ⟨gu,0,none⟩) nf cu,z7,z8,z9,dB,cZ,z12,de,dn,dm,dk,dj,dA,dz,z20,z21,z22,z23,z24,z25,z26,dD,z28,dC,dM,z31,dQ,dK,dP,dO,dV,z37,ey,ew,z40,eu,eK,eJ,eI,eH,z46,eQ,eN,z49,en,z51,iu,z53,.agg #[.int .i64 L,.int .i64 O,.int .i64 P,.int .i64 ck,.slice ar nr cr,.slice aw nw cw,.slice ab nb cb,.slice al bM cl],.slice (some ⟨gu,0,none⟩) nf cu,.pointer (some ⟨gu,0,none⟩),.int .i64 l,.string ⟨(L_ l).toArray⟩,.string ⟨(jj++L_ l).toArray⟩]:=by rw [<-bc,<-cn];kernel_rfl
  rw [eS]
  exact this
variable {B sz:Nat} {xs:List M'}
theorem fV {e n:Nat} {v:M'} (h:w.ownsRow B e sz v n xs) (hs:∃g,v.ownBlock=some g):∃g cap,v=.slice (some ⟨g,0,none⟩) n cap/\n<=cap/\cap<=maxLen:=by
 rcases h.2 with ⟨h0,_⟩|⟨g,cap,cur,h1,_,_,h4,h5,_⟩
 ·obtain ⟨g,hg⟩:=hs;rw [h0] at hg;cases hg
 ·exact ⟨g,cap,h1,h4,h5⟩
theorem lU (m:Rm) (c:Int):im m c=true↔kG m.back c≠ -1:=by
 unfold im kG
 cases h:m.back.findIdx? (fun p=>decide (p.1=c)) with
 |none=>
  rw [List.findIdx?_eq_none_iff] at h
  constructor
  ·intro hx
   obtain ⟨p,hp,e⟩:=List.any_eq_true.1 hx
   rw [h p hp] at e;cases e
  ·intro hx;exact absurd rfl hx
 |some i=>
  obtain ⟨hlt,hp,_⟩:=List.findIdx?_eq_some_iff_getElem.1 h
  constructor
  ·intro _ hx;simp only at hx;omega
  ·intro _;exact List.any_eq_true.2 ⟨m.back[i],List.getElem_mem hlt,hp⟩
theorem zx (ws:List (Int × Int)) (c:Int) (h:kG ws c≠ -1):0<=kG ws c/\kG ws c<ws.length:=by
 unfold kG at h ⊢
 cases hx:ws.findIdx? (fun p=>decide (p.1=c)) with
 |none=>rw [hx] at h;exact absurd rfl h
 |some i=>
  obtain ⟨hlt,_⟩:=List.findIdx?_eq_some_iff_getElem.1 hx
  simp only;omega
variable {rs:List Rec}
theorem pV {c:Int} (h:dE rs c=some i):qA rs c=(i:Nat)/\i<rs.length:=by
 unfold qA
 rw [h]
 obtain ⟨r,h1,_⟩:=wT h
 exact ⟨rfl,(List.getElem?_eq_some_iff.1 h1.1).1⟩
theorem zg {c:Int} (h:dE rs c=none):qA rs c= -1:=by unfold qA;rw [h]
variable {nl:Nat}
theorem HS (h:l∈AD nl rs):1<=l/\l<=(nl:Int):=by
 unfold AD at h
 obtain ⟨i,hi,rfl⟩:=List.mem_map.1 (List.mem_filter.1 h).1
 rw [List.mem_range] at hi
 omega
variable {m:Rm} {pt:Int}
theorem Eb {c:Int} (h1:dE m.recs c=none) (h2:im m c=false) (h3:AD nl m.recs=[]):kS nl m c pt=({m with back:=m.back++[(c,pt)]},KQ):=by
 unfold kS;rw [h1,h2,if_neg (by simp),h3]
theorem Ea {c:Int} {t:List Int} (h1:dE m.recs c=none) (h2:im m c=false) (h3:AD nl m.recs=l::t):kS nl m c pt=({m with recs:=m.recs++[⟨c,l,0,m.clock, -1, -1,eR⟩],wait:=gY m.wait (placeOf m.wait pt) (c,pt)},jj++L_ l):=by
 unfold kS;rw [h1,h2,if_neg (by simp),h3]
variable {vr vb vl:M'}
theorem Cy {vw:M'} (R:bA B m vr vw vb w) (hn:m.recs.length<=100) (L9:m.wait.length<=100) (QO:m.back.length<=100) (rp:nl<=100) (gv:0<=m.clock/\m.clock<=1000000) (mP:∃a n c,vl=.slice a n c) (c pt:Int):
 d_ p_ 82 #[jD (nl:Nat) O P m.clock vr vw vb vl,.agg #[.int .i64 c,.int .i64 pt]] w (Done w vr vb B (kS nl m c pt).1 (nl:Nat) O P vl (kS nl m c pt).2):=by
 obtain ⟨al,bM,cl,rfl⟩:=mP
 obtain ⟨ab,cb,oK⟩:=aE R.back
 subst oK
 obtain ⟨ar,cr,ql⟩:=aE R.recs
 subst ql
 obtain ⟨gw,cw,qG,KC,yN⟩:=fV R.wait R.iQ
 subst qG
 obtain ⟨w1,cf⟩:∃w1,((w.alloc (.cells (gi (nl:Nat) O P m.clock (.slice ar m.recs.length cr) (.slice (some ⟨gw,0,none⟩) m.wait.length cw) (.slice ab m.back.length cb) (.slice al bM cl)) 63)).alloc (.cells #[.int .i64 c,.int .i64 pt] 114)).alloc (.cells ia 63)=w1:=⟨_,rfl⟩
 have lr:f_ (w1.heap.size=w.heap.size+3):=by rw [f_,<-cf,B_,B_,B_]
 have eo:g_ w.heap.size w w1:=by rw [<-cf];exact (((h_ _ _).alloc (C_ _) _).alloc (by rw [B_];omega) _).alloc (by rw [B_,B_];omega) _
 have jx:w1.heap[w.heap.size]?=some (.cells (gi (nl:Nat) O P m.clock (.slice ar m.recs.length cr) (.slice (some ⟨gw,0,none⟩) m.wait.length cw) (.slice ab m.back.length cb) (.slice al bM cl)) 63 (0,0)):=by rw [<-cf];exact br (br (Z' w _))
 have oG:f_ (w1.heap[w.heap.size+1]?=some (.cells #[.int .i64 c,.int .i64 pt] 114 (0,0))):=by
  have:=Z' (w.alloc (.cells (gi (nl:Nat) O P m.clock (.slice ar m.recs.length cr) (.slice (some ⟨gw,0,none⟩) m.wait.length cw) (.slice ab m.back.length cb) (.slice al bM cl)) 63)) (.cells #[.int .i64 c,.int .i64 pt] 114)
  rw [B_] at this
  rw [f_,<-cf];exact br this
 have sH:w1.heap[w.heap.size+1+1]?=some (.cells ia 63 (0,0)):=by
  have:=Z' ((w.alloc (.cells (gi (nl:Nat) O P m.clock (.slice ar m.recs.length cr) (.slice (some ⟨gw,0,none⟩) m.wait.length cw) (.slice ab m.back.length cb) (.slice al bM cl)) 63)).alloc (.cells #[.int .i64 c,.int .i64 pt] 114)) (.cells ia 63)
  rw [B_,B_,cf] at this
  exact this
 have F1:=aa (gO.start R eo jx sH (C_ _) (by omega) (by omega))
 obtain ⟨⟨a0,a1,a2,a3,a4,a5,a6,a7⟩,_⟩:=aG jx
 have jV:f_ (d_ p_ 43 #[.agg #[.int .i64 (nl:Nat),.int .i64 O,.int .i64 P,.int .i64 m.clock,.slice ar m.recs.length cr,.slice (some ⟨gw,0,none⟩) m.wait.length cw,.slice ab m.back.length cb,.slice al bM cl]] w1 fun e w'=>∃u,e=.returned u/\w'.ownsRow w1.heap.size 3 1 u (AD nl m.recs).length ((AD nl m.recs).map (Value.int .i64))/\g_ w1.heap.size w1 w'):=rf F1.out.room.rd.1 F1.out.room.nN.1 (by omega) (by omega)
 obtain ⟨fs,yf⟩:∃fs,AD nl m.recs=fs:=⟨_,rfl⟩
 rw [yf] at jV
 have Kz:fs.length<=1000:=by have:=mV nl m.recs;rw [yf] at this;omega
 have yf:=aa yf
 have Rq:=aa R
 have Nq:=aa eo
 clear R eo jx sH
 unfold gi ia at cf
 unfold jD
 go_enter func82,ntmps82
 go_wp2_with (go_at_call 43;(with_reducible refine jV.out.mono ?_);rintro e w2 ⟨u,rfl,nS,HJ⟩;obtain ⟨au,cu,hu⟩:=aE nS;subst hu;have F2:=aa (F1.out.below HJ);have nS:=aa nS;obtain ⟨⟨e0,e1,e2,e3,e4,e5,e6,e7⟩,f0,f1,f2,f3,f4,f5,f6,f7⟩:=aG F2.out.box;have HP:=aa ((HJ.block _ (by rw [lr.out];omega)).trans oG.out);have g0:w2.cell? ⟨w.heap.size+1,0,none⟩=some (.int .i64 c):=aB HP.out;have g1:w2.cell? ⟨w.heap.size+1,1,none⟩=some (.int .i64 pt):=aB HP.out;clear a0 a1 a2 a3 a4 a5 a6 a7 HJ cf jV)
 have Mi:m.back.length<=1000:=by omega
 obtain ⟨⟨x0,x1,x2,x3,x4,x5,x6,x7⟩,y0,y1,y2,y3,y4,y5,y6,y7⟩:=aG (show w2.heap[w.heap.size+1+1]?=some (jY #[.int .i64 0,.int .i64 0,.int .i64 0,.int .i64 0,.slice none 0 0,.slice none 0 0,.slice none 0 0,.slice none 0 0] 63 (0,0)) from F2.out.res)
 have CX:m.recs.length<=1000:=by omega
 have lA:=nO F2.out.room.rd.1 CX c
 have vO:=xl F2.out.room.rd.2.2 Mi c
 cases hop:dE m.recs c with
 |some i=>
  have hR:kS nl m c pt=(m,tT):=by unfold kS;rw [hop,if_pos (by simp)]
  replace hR:=aa hR
  obtain ⟨Gc,ml⟩:=pV hop
  rw [Gc] at lA
  have vI:(0:Int)<=(i:Int):=by omega
  clear vO hop Gc
  refine lA.mono ?_
  rintro e w5 ⟨rfl,rfl⟩
  go_wp2_with fail
  change bodyPost p_ f82 _ .ret _ (Of.b8 w5 (w.heap.size+1+1) (.int .i64 (nl:Nat)) (.int .i64 O) (.int .i64 P) (.int .i64 m.clock) (.slice ar m.recs.length cr) (.slice (some ⟨gw,0,none⟩) m.wait.length cw) (.slice ab m.back.length cb) (.slice al bM cl))
  rw [hR.out];refine gO.ends F2.out ?_ ?_ ?_<;>rfl
 |none=>
  rw [zg hop] at lA
  by_cases Gh:kG m.back c= -1
  ·have Md:im m c=false:=by
    cases hx:im m c with
    |false=>rfl
    |true=>exact absurd Gh ((lU m c).1 hx)
   rw [Gh] at vO
   cases fs with
   |nil=>
    have hR:=aa (Eb (pt:=pt) hop Md yf.out)
    simp only [List.length_nil] at nS Kz ⊢
    clear hop Md Gh
    refine lA.mono ?_
    rintro e w5 ⟨rfl,rfl⟩
    obtain ⟨i0,qJ,tX,rm,uF⟩:=info_parts pX
    go_wp2_with (first
     |(go_at_call 111;(with_reducible refine vO.mono ?_);rintro e w6 ⟨rfl,rfl⟩)
     |(at_builtin;refine wpList_append_lies _ rfl (.tmp 30) (.tmp 32) 61 rfl B 114 i0 _ 2 16 Tryz.underlying61 qJ tX rm uF rfl (by decide) _ _ _ rfl (F2.out.room.back.alloc _) ⟨_,0,none⟩ 1 1 [.int .i64 c,.int .i64 pt] rfl rfl (fY _ _ _ rfl) ?c1 (by omega) ?c3 ?c4 ?c5 _ rfl ?_))
    case c1=>intro u hu;simp at hu;rcases hu with rfl|rfl<;>rfl
    case c3=>unfold maxLen;omega
    case c4=>omega
    case c5=>have:=F2.out.room.big;rw [B_];omega
    intro gg mW w7 Ga Ns Vl Zi
    have F3:=aa (F2.out.below ((h_ _ _).alloc (C_ _) (.cells #[.int .i64 c,.int .i64 pt] 114)))
    have F4:=aa (F3.out.aBt (p:=(c,pt)) rfl Ns (by rw [gE];exact Ga) (by
     rcases Vl with x|x
     ·exact .inl x.symm
     ·exact .inr (by rw [x,B_];rfl)))
    have uF:(mN ab m.back.length cb).ownBlock≠some w.heap.size/\(mN ab m.back.length cb).ownBlock≠some (w.heap.size+1+1):=⟨F3.out.oB.1.2.2,F3.out.oB.2.2.2⟩
    obtain ⟨⟨p0,p1,p2,p3,p4,p5,p6,p7⟩,r0,r1,r2,r3,r4,r5,r6,r7⟩:=aG ((Ns.block _ F3.out.LX (fun e=>uF.1 e.symm)).trans F3.out.box)
    obtain ⟨⟨s0,s1,s2,s3,s4,s5,s6,s7⟩,v0,v1,v2,v3,v4,v5,v6,v7⟩:=aG (show w7.heap[w.heap.size+1+1]?=some (jY #[.int .i64 0,.int .i64 0,.int .i64 0,.int .i64 0,.slice none 0 0,.slice none 0 0,.slice none 0 0,.slice none 0 0] 63 (0,0)) from ((Ns.block _ F3.out.Qf (fun e=>uF.2 e.symm)).trans F3.out.res))
    clear Ga Ns Vl Zi uF F3 x0 x1 x2 x3 x4 x5 x6 x7 y0 y1 y2 y3 y4 y5 y6 y7 e0 e1 e2 e3 e4 e5 e6 e7 f0 f1 f2 f3 f4 f5 f6 f7
    go_wp2_with fail
    change bodyPost p_ f82 _ .ret _ (Of.b8 _ (w.heap.size+1+1) (.int .i64 (nl:Nat)) (.int .i64 O) (.int .i64 P) (.int .i64 m.clock) (.slice ar m.recs.length cr) (.slice (some ⟨gw,0,none⟩) m.wait.length cw) (.slice (some ⟨gg,0,none⟩) (m.back.length+1) mW) (.slice al bM cl))
    rw [hR.out];refine gO.ends F4.out ?_ ?_ ?_<;>rfl
   |cons l t=>
    have hR:=aa (Ea (pt:=pt) hop Md yf.out)
    have HD:1<=l/\l<=(nl:Int):=HS (rs:=m.recs) (by rw [yf.out];exact List.mem_cons_self)
    obtain ⟨Mb,Iv⟩:=HD
    obtain ⟨gu,aCz,E9,FT,_,hU,Gk,_⟩:=cz nS.out (by simp)
    injection FT with Wm Su YQ
    subst Wm YQ
    have uK:w2.cell? ⟨gu,0,none⟩=some (.int .i64 l):=nS.out.cellAt 0 (by simp)
    have ZY:f_ (E9[0]?=some (.int .i64 l)):=by rw [f_,<-aB hU];exact uK
    have hU:=aa hU
    clear hop Md Gh
    have dJ:0<(l::t).length:=by simp
    generalize (l::t).length=nf at dJ Kz Gk
    clear nS
    refine lA.mono ?_
    rintro e w5 ⟨rfl,rfl⟩
    go_wp2_with (go_at_call 111;(with_reducible refine vO.mono ?_);rintro e w6 ⟨rfl,rfl⟩)
    clear x0 x1 x2 x3 x4 x5 x6 x7 y0 y1 y2 y3 y4 y5 y6 y7
    have Oz:f_ ((mN ar m.recs.length cr).ownBlock≠some (w.heap.size+1)):=bB F2.out.room.recs HP.out (by decide)
    have YE:f_ ((mN ar m.recs.length cr).ownBlock≠some gu):=bB F2.out.room.recs hU.out (by decide)
    have Ky:f_ (gu≠w.heap.size):=fun e=>by
     have h1:=F2.out.box
     rw [<-e,hU.out] at h1
     simp at h1
    clear e0 e1 e2 e3 e4 e5 e6 e7 f0 f1 f2 f3 f4 f5 f6 f7 lA vO oG F1
    refine Ti (r:=⟨c,l,0,m.clock, -1, -1,eR⟩) (b3:=w.heap.size+1) (gu:=gu) (nf:=nf) (cu:=cu) F2.out CX dJ Gk rfl g0 uK fun w8 gg mW TE TC Om TB TA Tz Ty Tx Tw Tv Tu Ol Oj hF4 QL=> ?_
    have F4:=aa hF4
    have Mk:w8.heap[w.heap.size+1]?=some (.cells #[.int .i64 c,.int .i64 pt] 114 (0,0)):=(QL _ (cI HP.out) (by omega) Oz.out).trans HP.out
    have ZW:f_ (w8.heap[gu]?=some (.cells E9 3 (0,0))):=(QL _ (cI hU.out) Ky.out YE.out).trans hU.out
    clear hF4 QL g0 g1 uK hU F2 HP Oz YE
    obtain ⟨⟨p0,p1,p2,p3,p4,p5,p6,p7⟩,r0,r1,r2,r3,r4,r5,r6,r7⟩:=aG F4.out.box
    have g0:w8.cell? ⟨w.heap.size+1,0,none⟩=some (.int .i64 c):=aB Mk
    have g1:w8.cell? ⟨w.heap.size+1,1,none⟩=some (.int .i64 pt):=aB Mk
    have Mk:=aa Mk
    have hq:=aa (AK (y:=(c,pt)) F4.out.room.rd.2.1 F4.out.room.nN.2.1 (by show m.wait.length<=1000;omega) KC yN)
    go_wp2_with (go_at_call 112;(with_reducible refine hq.out.mono ?_);rintro e Fw ⟨u,rfl,nS,Nx⟩;obtain ⟨gq,cq,aEf,Qv,_⟩:=cz nS (Nat.succ_pos _);subst Qv;obtain ⟨⟨k0,k1,k2,k3,k4,k5,k6,k7⟩,j0,j1,j2,j3,j4,j5,j6,j7⟩:=aG (F4.out.below Nx).box)
    have F5:=aa (F4.out.waits (ws:=gY m.wait (placeOf m.wait pt) (c,pt)) Nx (by rw [uA];exact nS) ⟨_,rfl⟩)
    have SE:f_ ((Fw.setCell ⟨w.heap.size,5,none⟩ (.slice (some ⟨gq,0,none⟩) (m.wait.length+1) cq)).heap[gu]?=some (.cells E9 3 (0,0))):=(a_ Fw ⟨w.heap.size,5,none⟩ gu _ Ky.out).trans ((Nx.block gu (cI ZW.out)).trans ZW.out)
    clear nS Nx hq ZW k0 k1 k2 k3 k4 k5 k6 k7 j0 j1 j2 j3 j4 j5 j6 j7 g0 g1 p0 p1 p2 p3 p4 p5 p6 p7 r0 r1 r2 r3 r4 r5 r6 r7 F4 Mk
    generalize Fw.setCell ⟨w.heap.size,5,none⟩ (.slice (some ⟨gq,0,none⟩) (m.wait.length+1) cq)=Ms at *
    obtain ⟨⟨p0,p1,p2,p3,p4,p5,p6,p7⟩,_⟩:=aG F5.out.box
    have UF:Ms.cell? ⟨gu,0,none⟩=some (.int .i64 l):=(aB SE.out).trans ZY.out
    clear p0 p1 p2 p3 p4 p5 p6 p7
    refine P3 (l:=l) (gu:=gu) (nf:=nf) (cu:=cu) (b2:=w.heap.size) (b4:=w.heap.size+1+1) F5.out.box F5.out.res (cI SE.out) UF (by omega) (by omega) dJ Gk fun BD Jr Jq Og Oe Oc Tt CY=> ?_
    have F7:=F5.out.below CY
    clear CY UF SE F5
    generalize jj++L_ l=tx at *
    go_wp2_with fail
    rw [hR.out];refine gO.ends F7 ?_ ?_ ?_
    ·rfl
    ·rfl
    ·rfl
  ·have hR:kS nl m c pt=(m,tT):=by unfold kS;rw [if_pos (by simp [(lU m c).2 Gh])]
   replace hR:=aa hR
   obtain ⟨vI,hlt⟩:=zx _ _ Gh
   generalize kG m.back c=fi at vO vI hlt Gh
   clear hop
   refine lA.mono ?_
   rintro e w5 ⟨rfl,rfl⟩
   go_wp2_with (go_at_call 111;(with_reducible refine vO.mono ?_);rintro e w6 ⟨rfl,rfl⟩)
   change bodyPost p_ f82 _ .ret _ (Of.b8 _ (w.heap.size+1+1) (.int .i64 (nl:Nat)) (.int .i64 O) (.int .i64 P) (.int .i64 m.clock) (.slice ar m.recs.length cr) (.slice (some ⟨gw,0,none⟩) m.wait.length cw) (.slice ab m.back.length cb) (.slice al bM cl))
   rw [hR.out];refine gO.ends F2.out ?_ ?_ ?_<;>rfl
noncomputable def LA:Code:=f83.body.getD .skip
noncomputable def Bq:Code:=f84.body.getD .skip
noncomputable def Pd:Code:=ai 7 LA
structure VW (w1:J') (b4:Nat) (L O P ck:Int) (ar aw ab al:Option z_) (nr cr nw cw nb cb bM cl:Nat) (D:Array Bool) (_:Unit) (w:J'):Prop where
 o:D.getD 5 false=true->D.getD 3 false=true/\D.getD 0 false=true
 o3:D.getD 3 false=true->D.getD 2 false=true
 b:D.getD 5 false=false->g_ w1.heap.size w1 w
 c:D.getD 5 false=true->∃w5,g_ w1.heap.size w1 w5/\w=Of.b8 w5 b4 (.int .i64 L) (.int .i64 O) (.int .i64 P) (.int .i64 ck) (.slice ar nr cr) (.slice aw nw cw) (.slice ab nb cb) (.slice al bM cl)
theorem VW.same {q:Unit} (h:VW w1 b4 L O P ck ar aw ab al nr cr nw cw nb cb bM cl D q w) (qn:∀j,j≠i->D'.getD j false=D.getD j false) (hi:i∉[0,2,3,5]):VW w1 b4 L O P ck ar aw ab al nr cr nw cw nb cb bM cl D' q w:=by
 have e0:=qn 0 (fun e=>hi (by simp [<-e]))
 have e2:=qn 2 (fun e=>hi (by simp [<-e]))
 have e3:=qn 3 (fun e=>hi (by simp [<-e]))
 have e5:=qn 5 (fun e=>hi (by simp [<-e]))
 exact ⟨by rw [e5,e3,e0];exact h.o,by rw [e3,e2];exact h.o3,by rw [e5];exact h.b,by rw [e5];exact h.c⟩
def BS (bx:Nat) (l:Int) (L O P ck:Int) (ar aw ab al:Option z_) (nr cr nw cw nb cb bM cl:Nat) (_:Unit):Nat->M'
 |0=>.agg #[.int .i64 L,.int .i64 O,.int .i64 P,.int .i64 ck,.slice ar nr cr,.slice aw nw cw,.slice ab nb cb,.slice al bM cl]
 |1=>.pointer (some ⟨bx,0,none⟩)
 |2=>.int .i64 l
 |3=>.string ⟨(L_ l).toArray⟩
 |4=>.string ⟨(dL++L_ l).toArray⟩
 |6=>.string ⟨(dL++L_ l).toArray⟩
 |_=>I'
variable {bx:Nat}
theorem MG (lF:w.heap[b2]?=some (.cells #[.int .i64 L,.int .i64 O,.int .i64 P,.int .i64 ck,.slice ar nr cr,.slice aw nw cw,.slice ab nb cb,.slice al bM cl] 63 (0,0))) (FQ:w.heap[b4]?=some (.cells #[.int .i64 0,.int .i64 0,.int .i64 0,.int .i64 0,.slice none 0 0,.slice none 0 0,.slice none 0 0,.slice none 0 0] 63 (0,0))) (uN:bx<w.heap.size) (uK:w.cell? ⟨bx,0,none⟩=some (.int .i64 l)) (Mb:0<=l) (Iv:l<=1000000000) {z12 z20 z21 z22 z23 z24 z25 z26 z28 z31 z37 z40 z46 z49 z51 z53:M'}
 (hQ:∀w5 (Oi Oh Ju Jt Js:M'),g_ w.heap.size w w5->Q .normal ⟨#[z0,z1,.pointer (some ⟨b2,0,none⟩),z3,.pointer (some ⟨b4,0,none⟩),.string ⟨(dL++L_ l).toArray⟩,.pointer (some ⟨bx,0,none⟩),z7,z8,z9,dB,cZ,z12,de,dn,dm,dk,dj,dA,dz,z20,z21,z22,z23,z24,z25,z26,dD,z28,dC,dM,z31,dQ,dK,dP,dO,dV,z37,ey,ew,z40,eu,eK,eJ,eI,eH,z46,eQ,eN,Oi,Oh,Ju,Jt,Js],[]⟩ (Of.b8 w5 b4 (.int .i64 L) (.int .i64 O) (.int .i64 P) (.int .i64 ck) (.slice ar nr cr) (.slice aw nw cw) (.slice ab nb cb) (.slice al bM cl))):
 Code.wp p_ Pd Q ⟨#[z0,z1,.pointer (some ⟨b2,0,none⟩),z3,.pointer (some ⟨b4,0,none⟩),z5,.pointer (some ⟨bx,0,none⟩),z7,z8,z9,dB,cZ,z12,de,dn,dm,dk,dj,dA,dz,z20,z21,z22,z23,z24,z25,z26,dD,z28,dC,dM,z31,dQ,dK,dP,dO,dV,z37,ey,ew,z40,eu,eK,eJ,eI,eH,z46,eQ,eN,z49,en,z51,iu,z53],[]⟩ w:=by
 have OT:(L_ l).length<=21:=Lib.itoa_length_le l (by omega) (by omega)
 obtain ⟨w1,cf⟩:∃w1,w.drew=w1:=⟨_,rfl⟩
 have sD:f_ (∀w5,g_ w1.heap.size w1 w5->g_ w.heap.size w w5):=fun w5 h=>by rw [<-cf] at h;exact (h_ _ _).drew.trans h
 replace lF:w1.heap[b2]?=some (.cells #[.int .i64 L,.int .i64 O,.int .i64 P,.int .i64 ck,.slice ar nr cr,.slice aw nw cw,.slice ab nb cb,.slice al bM cl] 63 (0,0)):=by rw [<-cf];exact lF
 replace FQ:w1.heap[b4]?=some (.cells #[.int .i64 0,.int .i64 0,.int .i64 0,.int .i64 0,.slice none 0 0,.slice none 0 0,.slice none 0 0,.slice none 0 0] 63 (0,0)):=by rw [<-cf];exact FQ
 replace uN:bx<w1.heap.size:=by rw [<-cf];exact uN
 replace uK:w1.cell? ⟨bx,0,none⟩=some (.int .i64 l):=by rw [<-cf];exact uK
 refine wpN 54 fun bs cn oq HI=> ?_
 simp only [Pd,ai,LA,f83,A_]
 refine mz (by kernel_rfl) (kP:=()) (base:=bs) (by rw [oq];kernel_rfl) (by kernel_rfl) (fun x=>BS bx l L O P ck ar aw ab al nr cr nw cw nb cb bM cl x) (VW w1 b4 L O P ck ar aw ab al nr cr nw cw nb cb bM cl)
  (by
   exact ⟨E5,E5,fun _=>by rw [cf];exact h_ _ _,E5⟩) ?_ ?_
 ·intro i o' ho D x w a hD bc hw bH aD K k
  have hlt:i<7:=(cI ho)
  have Gl:=bT oq
  have qi:=qI hD hlt
  have qn:=qN D i
  have aA:=aa k
  clear k
  obtain rfl|rfl|rfl|rfl|rfl|rfl|rfl:i=0\/i=1\/i=2\/i=3\/i=4\/i=5\/i=6:=by omega
  all_goals obtain rfl:=so ho rfl
  ·obtain ⟨v2,w2⟩:=bc.oo (.pointer (some ⟨b2,0,none⟩)) 2
   clear aD ho
   have e0:=qi
   have e2:=qn 2 (by decide)
   have e3:=qn 3 (by decide)
   have e5:=qn 5 (by decide)
   have h5:=ff bH fun hx=>(hw.o hx).2
   have gb:=hw.b h5
   obtain ⟨⟨p0,p1,p2,p3,p4,p5,p6,p7⟩,_⟩:=aG ((gb.block b2 (cI lF)).trans lF)
   refine bj (v:=.agg #[.int .i64 L,.int .i64 O,.int .i64 P,.int .i64 ck,.slice ar nr cr,.slice aw nw cw,.slice ab nb cb,.slice al bM cl]) (w':=w) rfl rfl ?_ (aA.out x w (fun _ _=>rfl) ⟨by rw [e5,h5];exact fun h=>(by cases h),by rw [e3,e2];exact hw.o3,by rw [e5];exact hw.b,by rw [e5];exact hw.c⟩)
   clear bc hw aA bH qi qn e0 e2 e3 e5 gb
   go_simp
  ·obtain ⟨v6,w6⟩:=bc.oo (.pointer (some ⟨bx,0,none⟩)) 6
   exact iY rfl (.pointer (some ⟨bx,0,none⟩)) (aA.out x w (fun _ _=>rfl) (hw.same qn (by decide)))
  ·have d1:=dq aD 1
   obtain ⟨v50,w50⟩:=bc.vv (.pointer (some ⟨bx,0,none⟩)) 50 1 d1
   clear aD ho
   have e0:=qn 0 (by decide)
   have e2:=qi
   have e3:=qn 3 (by decide)
   have e5:=qn 5 (by decide)
   have h3:=ff bH fun hx=>hw.o3 hx
   have h5:=ff h3 fun hx=>(hw.o hx).1
   have gb:=hw.b h5
   have hl:w.cell? ⟨bx,0,none⟩=some (.int .i64 l):=(gb.cell (p:=⟨bx,0,none⟩) uN).trans uK
   refine bj (v:=.int .i64 l) (w':=w) rfl rfl ?_ (aA.out x w (fun _ _=>rfl) ⟨by rw [e5,h5];exact fun h=>(by cases h),by rw [e3,h3];exact fun h=>(by cases h),by rw [e5];exact hw.b,by rw [e5];exact hw.c⟩)
   clear bc hw aA bH qi qn e0 e2 e3 e5 gb
   go_simp
  ·have d2:=dq aD 2
   obtain ⟨v51,XP⟩:=bc.vv (.int .i64 l) 51 2 d2
   clear aD ho
   have e0:=qn 0 (by decide)
   have e2:=qn 2 (by decide)
   have e3:=qi
   have e5:=qn 5 (by decide)
   have h5:=ff bH fun hx=>(hw.o hx).1
   have gb:=hw.b h5
   have sY:=lp l w Mb Iv
   unfold wpOp
   simp only [List.getElem?_toArray,List.getElem?_cons_succ,List.getElem?_cons_zero,Region.wanted,if_true,Option.isNone_none]
   left
   unfold Oper.wp
   simp only [V',resolve,invoke,Sem.run_bind,Sem.run_pure,Result.andThen_ok,List.map_toArray,S_,List.map_nil,v51]
   refine (sY.mono ?_)
   rintro e w5 ⟨rfl,qo⟩
   exact aA.out x w5 (fun _ _=>rfl) ⟨by rw [e5,h5];exact fun h=>(by cases h),fun _=>by rw [e2];exact d2,fun _=>gb.trans (qo.mono gb.size),by rw [e5,h5];exact fun h=>(by cases h)⟩
  ·have d3:=dq aD 3
   obtain ⟨v52,V9⟩:=bc.vv (.string ⟨(L_ l).toArray⟩) 52 3 d3
   clear aD ho
   refine bj (v:=.string ⟨(dL++L_ l).toArray⟩) (w':=w) rfl rfl ?_ (aA.out x w (fun _ _=>rfl) (hw.same qn (by decide)))
   clear bc hw aA bH qi qn
   rw [<-vQ]
   unfold dL
   go_simp
   omega
  ·have d0:=dq aD 0
   have d3:=aD ⟨3,.chain⟩ (by simp) rfl
   obtain ⟨v49,Wa⟩:=bc.vv (.agg #[.int .i64 L,.int .i64 O,.int .i64 P,.int .i64 ck,.slice ar nr cr,.slice aw nw cw,.slice ab nb cb,.slice al bM cl]) 49 0 d0
   obtain ⟨v4,w4⟩:=bc.oo (.pointer (some ⟨b4,0,none⟩)) 4
   clear aD ho
   have e0:=qn 0 (by decide)
   have e2:=qn 2 (by decide)
   have e3:=qn 3 (by decide)
   have e5:=qi
   have gb:=hw.b bH
   obtain ⟨⟨p0,p1,p2,p3,p4,p5,p6,p7⟩,q0,q1,q2,q3,q4,q5,q6,q7⟩:=aG ((gb.block b4 (cI FQ)).trans FQ)
   refine gQ (w':=Of.b8 w b4 (.int .i64 L) (.int .i64 O) (.int .i64 P) (.int .i64 ck) (.slice ar nr cr) (.slice aw nw cw) (.slice ab nb cb) (.slice al bM cl)) rfl rfl ?_ (aA.out x _ (fun _ _=>rfl) ⟨fun _=>by rw [e3,e0];exact ⟨d3,d0⟩,by rw [e3,e2];exact hw.o3,by rw [e5];exact fun h=>(by cases h),fun _=>⟨w,gb,rfl⟩⟩)
   clear bc hw aA bH qi qn e0 e2 e3 e5 gb
   unfold Of.b8
   go_simp
  ·have d4:=dq aD 4
   obtain ⟨v53,XO⟩:=bc.vv (.string ⟨(dL++L_ l).toArray⟩) 53 4 d4
   exact iY rfl (.string ⟨(dL++L_ l).toArray⟩) (aA.out x w (fun _ _=>rfl) (hw.same qn (by decide)))
 ·intro D x w hd hw
  obtain ⟨w5,qo,rfl⟩:=hw.c (hd 5 (by decide))
  have:=hQ w5 (.agg #[.int .i64 L,.int .i64 O,.int .i64 P,.int .i64 ck,.slice ar nr cr,.slice aw nw cw,.slice ab nb cb,.slice al bM cl]) (.pointer (some ⟨bx,0,none⟩)) (.int .i64 l) (.string ⟨(L_ l).toArray⟩) (.string ⟨(dL++L_ l).toArray⟩) (sD.out w5 qo)
  generalize bc:slotsOf _ bs (BS bx l L O P ck ar aw ab al nr cr nw cw nb cb bM cl ())=sl
  have eS:sl=#[z0,z1,.pointer (some ⟨b2,0,none⟩),z3,.pointer (some ⟨b4,0,none⟩),.string ⟨(dL++L_ l).toArray⟩,.pointer (some ⟨bx,0,none⟩),z7,z8,z9,dB,cZ,z12,de,dn,dm,dk,dj,dA,dz,z20,z21,z22,z23,z24,z25,z26,dD,z28,dC,dM,z31,dQ,dK,dP,dO,dV,z37,ey,ew,z40,eu,eK,eJ,eI,eH,z46,eQ,eN,.agg #[.int .i64 L,.int .i64 O,.int .i64 P,.int .i64 ck,.slice ar nr cr,.slice aw nw cw,.slice ab nb cb,.slice al bM cl],.pointer (some ⟨bx,0,none⟩),.int .i64 l,.string ⟨(L_ l).toArray⟩,.string ⟨(dL++L_ l).toArray⟩]:=by rw [<-bc,<-cn];kernel_rfl
  rw [eS]
  exact this
noncomputable def Pb:Code:=ai 6 Bq
def BR (bx:Nat) (l:Int) (L O P ck:Int) (ar aw ab al:Option z_) (nr cr nw cw nb cb bM cl:Nat) (_:Unit):Nat->M'
 |0=>.agg #[.int .i64 L,.int .i64 O,.int .i64 P,.int .i64 ck,.slice ar nr cr,.slice aw nw cw,.slice ab nb cb,.slice al bM cl]
 |1=>.pointer (some ⟨bx,0,none⟩)
 |2=>.int .i64 l
 |3=>.string ⟨(L_ l).toArray⟩
 |4=>.string ⟨(dL++L_ l).toArray⟩
 |6=>.string ⟨(dL++L_ l).toArray⟩
 |_=>I'
theorem MF (lF:w.heap[b2]?=some (.cells #[.int .i64 L,.int .i64 O,.int .i64 P,.int .i64 ck,.slice ar nr cr,.slice aw nw cw,.slice ab nb cb,.slice al bM cl] 63 (0,0))) (FQ:w.heap[b4]?=some (.cells #[.int .i64 0,.int .i64 0,.int .i64 0,.int .i64 0,.slice none 0 0,.slice none 0 0,.slice none 0 0,.slice none 0 0] 63 (0,0))) (uN:bx<w.heap.size) (uK:w.cell? ⟨bx,0,none⟩=some (.int .i64 l)) (Mb:0<=l) (Iv:l<=1000000000) {z6 z12 z20 z21 z22 z23 z24 z25 z26 z28 z31 z37 z40 z46 z49 z51 z53:M'}
 (hQ:∀w5 (Jr Jq Og Oe Oc:M'),g_ w.heap.size w w5->Q .normal ⟨#[z0,z1,.pointer (some ⟨b2,0,none⟩),z3,.pointer (some ⟨b4,0,none⟩),.string ⟨(dL++L_ l).toArray⟩,z6,.pointer (some ⟨bx,0,none⟩),z8,z9,dB,cZ,z12,de,dn,dm,dk,dj,dA,dz,z20,z21,z22,z23,z24,z25,z26,dD,z28,dC,dM,z31,dQ,dK,dP,dO,dV,z37,ey,ew,z40,eu,eK,eJ,eI,eH,z46,eQ,eN,z49,en,z51,iu,z53,Jr,Jq,Og,Oe,Oc],[]⟩ (Of.b8 w5 b4 (.int .i64 L) (.int .i64 O) (.int .i64 P) (.int .i64 ck) (.slice ar nr cr) (.slice aw nw cw) (.slice ab nb cb) (.slice al bM cl))):
 Code.wp p_ Pb Q ⟨#[z0,z1,.pointer (some ⟨b2,0,none⟩),z3,.pointer (some ⟨b4,0,none⟩),z5,z6,.pointer (some ⟨bx,0,none⟩),z8,z9,dB,cZ,z12,de,dn,dm,dk,dj,dA,dz,z20,z21,z22,z23,z24,z25,z26,dD,z28,dC,dM,z31,dQ,dK,dP,dO,dV,z37,ey,ew,z40,eu,eK,eJ,eI,eH,z46,eQ,eN,z49,en,z51,iu,z53,iF,iE,iD,iC,iB],[]⟩ w:=by
 have OT:(L_ l).length<=21:=Lib.itoa_length_le l (by omega) (by omega)
 obtain ⟨w1,cf⟩:∃w1,w.drew=w1:=⟨_,rfl⟩
 have sD:f_ (∀w5,g_ w1.heap.size w1 w5->g_ w.heap.size w w5):=fun w5 h=>by rw [<-cf] at h;exact (h_ _ _).drew.trans h
 replace lF:w1.heap[b2]?=some (.cells #[.int .i64 L,.int .i64 O,.int .i64 P,.int .i64 ck,.slice ar nr cr,.slice aw nw cw,.slice ab nb cb,.slice al bM cl] 63 (0,0)):=by rw [<-cf];exact lF
 replace FQ:w1.heap[b4]?=some (.cells #[.int .i64 0,.int .i64 0,.int .i64 0,.int .i64 0,.slice none 0 0,.slice none 0 0,.slice none 0 0,.slice none 0 0] 63 (0,0)):=by rw [<-cf];exact FQ
 replace uN:bx<w1.heap.size:=by rw [<-cf];exact uN
 replace uK:w1.cell? ⟨bx,0,none⟩=some (.int .i64 l):=by rw [<-cf];exact uK
 refine wpN 59 fun bs cn oq HI=> ?_
 simp only [Pb,ai,Bq,f84,A_]
 refine mz (by kernel_rfl) (kP:=()) (base:=bs) (by rw [oq];kernel_rfl) (by kernel_rfl) (fun x=>BR bx l L O P ck ar aw ab al nr cr nw cw nb cb bM cl x) (VW w1 b4 L O P ck ar aw ab al nr cr nw cw nb cb bM cl)
  (by
   exact ⟨E5,E5,fun _=>by rw [cf];exact h_ _ _,E5⟩) ?_ ?_
 ·intro i o' ho D x w a hD bc hw bH aD K k
  have hlt:i<7:=(cI ho)
  have Gl:=bT oq
  have qi:=qI hD hlt
  have qn:=qN D i
  have aA:=aa k
  clear k
  obtain rfl|rfl|rfl|rfl|rfl|rfl|rfl:i=0\/i=1\/i=2\/i=3\/i=4\/i=5\/i=6:=by omega
  all_goals obtain rfl:=so ho rfl
  ·obtain ⟨v2,w2⟩:=bc.oo (.pointer (some ⟨b2,0,none⟩)) 2
   clear aD ho
   have e0:=qi
   have e2:=qn 2 (by decide)
   have e3:=qn 3 (by decide)
   have e5:=qn 5 (by decide)
   have h5:=ff bH fun hx=>(hw.o hx).2
   have gb:=hw.b h5
   obtain ⟨⟨p0,p1,p2,p3,p4,p5,p6,p7⟩,_⟩:=aG ((gb.block b2 (cI lF)).trans lF)
   refine bj (v:=.agg #[.int .i64 L,.int .i64 O,.int .i64 P,.int .i64 ck,.slice ar nr cr,.slice aw nw cw,.slice ab nb cb,.slice al bM cl]) (w':=w) rfl rfl ?_ (aA.out x w (fun _ _=>rfl) ⟨by rw [e5,h5];exact fun h=>(by cases h),by rw [e3,e2];exact hw.o3,by rw [e5];exact hw.b,by rw [e5];exact hw.c⟩)
   clear bc hw aA bH qi qn e0 e2 e3 e5 gb
   go_simp
  ·obtain ⟨v7,w7⟩:=bc.oo (.pointer (some ⟨bx,0,none⟩)) 7
   exact iY rfl (.pointer (some ⟨bx,0,none⟩)) (aA.out x w (fun _ _=>rfl) (hw.same qn (by decide)))
  ·have d1:=dq aD 1
   obtain ⟨v55,XM⟩:=bc.vv (.pointer (some ⟨bx,0,none⟩)) 55 1 d1
   clear aD ho
   have e0:=qn 0 (by decide)
   have e2:=qi
   have e3:=qn 3 (by decide)
   have e5:=qn 5 (by decide)
   have h3:=ff bH fun hx=>hw.o3 hx
   have h5:=ff h3 fun hx=>(hw.o hx).1
   have gb:=hw.b h5
   have hl:w.cell? ⟨bx,0,none⟩=some (.int .i64 l):=(gb.cell (p:=⟨bx,0,none⟩) uN).trans uK
   refine bj (v:=.int .i64 l) (w':=w) rfl rfl ?_ (aA.out x w (fun _ _=>rfl) ⟨by rw [e5,h5];exact fun h=>(by cases h),by rw [e3,h3];exact fun h=>(by cases h),by rw [e5];exact hw.b,by rw [e5];exact hw.c⟩)
   clear bc hw aA bH qi qn e0 e2 e3 e5 gb
   go_simp
  ·have d2:=dq aD 2
   obtain ⟨v56,XL⟩:=bc.vv (.int .i64 l) 56 2 d2
   clear aD ho
   have e0:=qn 0 (by decide)
   have e2:=qn 2 (by decide)
   have e3:=qi
   have e5:=qn 5 (by decide)
   have h5:=ff bH fun hx=>(hw.o hx).1
   have gb:=hw.b h5
   have sY:=lp l w Mb Iv
   unfold wpOp
   simp only [List.getElem?_toArray,List.getElem?_cons_succ,List.getElem?_cons_zero,Region.wanted,if_true,Option.isNone_none]
   left
   unfold Oper.wp
   simp only [V',resolve,invoke,Sem.run_bind,Sem.run_pure,Result.andThen_ok,List.map_toArray,S_,List.map_nil,v56]
   refine (sY.mono ?_)
   rintro e w5 ⟨rfl,qo⟩
   exact aA.out x w5 (fun _ _=>rfl) ⟨by rw [e5,h5];exact fun h=>(by cases h),fun _=>by rw [e2];exact d2,fun _=>gb.trans (qo.mono gb.size),by rw [e5,h5];exact fun h=>(by cases h)⟩
  ·have d3:=dq aD 3
   obtain ⟨Kx,XK⟩:=bc.vv (.string ⟨(L_ l).toArray⟩) 57 3 d3
   clear aD ho
   refine bj (v:=.string ⟨(dL++L_ l).toArray⟩) (w':=w) rfl rfl ?_ (aA.out x w (fun _ _=>rfl) (hw.same qn (by decide)))
   clear bc hw aA bH qi qn
   rw [<-vQ]
   unfold dL
   go_simp
   omega
  ·have d0:=dq aD 0
   have d3:=aD ⟨3,.chain⟩ (by simp) rfl
   obtain ⟨v54,XN⟩:=bc.vv (.agg #[.int .i64 L,.int .i64 O,.int .i64 P,.int .i64 ck,.slice ar nr cr,.slice aw nw cw,.slice ab nb cb,.slice al bM cl]) 54 0 d0
   obtain ⟨v4,w4⟩:=bc.oo (.pointer (some ⟨b4,0,none⟩)) 4
   clear aD ho
   have e0:=qn 0 (by decide)
   have e2:=qn 2 (by decide)
   have e3:=qn 3 (by decide)
   have e5:=qi
   have gb:=hw.b bH
   obtain ⟨⟨p0,p1,p2,p3,p4,p5,p6,p7⟩,q0,q1,q2,q3,q4,q5,q6,q7⟩:=aG ((gb.block b4 (cI FQ)).trans FQ)
   refine gQ (w':=Of.b8 w b4 (.int .i64 L) (.int .i64 O) (.int .i64 P) (.int .i64 ck) (.slice ar nr cr) (.slice aw nw cw) (.slice ab nb cb) (.slice al bM cl)) rfl rfl ?_ (aA.out x _ (fun _ _=>rfl) ⟨fun _=>by rw [e3,e0];exact ⟨d3,d0⟩,by rw [e3,e2];exact hw.o3,by rw [e5];exact fun h=>(by cases h),fun _=>⟨w,gb,rfl⟩⟩)
   clear bc hw aA bH qi qn e0 e2 e3 e5 gb
   unfold Of.b8
   go_simp
  ·have d4:=dq aD 4
   obtain ⟨v58,V8⟩:=bc.vv (.string ⟨(dL++L_ l).toArray⟩) 58 4 d4
   exact iY rfl (.string ⟨(dL++L_ l).toArray⟩) (aA.out x w (fun _ _=>rfl) (hw.same qn (by decide)))
 ·intro D x w hd hw
  obtain ⟨w5,qo,rfl⟩:=hw.c (hd 5 (by decide))
  have:=hQ w5 (.agg #[.int .i64 L,.int .i64 O,.int .i64 P,.int .i64 ck,.slice ar nr cr,.slice aw nw cw,.slice ab nb cb,.slice al bM cl]) (.pointer (some ⟨bx,0,none⟩)) (.int .i64 l) (.string ⟨(L_ l).toArray⟩) (.string ⟨(dL++L_ l).toArray⟩) (sD.out w5 qo)
  generalize bc:slotsOf _ bs (BR bx l L O P ck ar aw ab al nr cr nw cw nb cb bM cl ())=sl
  have eS:sl=#[z0,z1,.pointer (some ⟨b2,0,none⟩),z3,.pointer (some ⟨b4,0,none⟩),.string ⟨(dL++L_ l).toArray⟩,z6,.pointer (some ⟨bx,0,none⟩),z8,z9,dB,cZ,z12,de,dn,dm,dk,dj,dA,dz,z20,z21,z22,z23,z24,z25,z26,dD,z28,dC,dM,z31,dQ,dK,dP,dO,dV,z37,ey,ew,z40,eu,eK,eJ,eI,eH,z46,eQ,eN,z49,en,z51,iu,z53,.agg #[.int .i64 L,.int .i64 O,.int .i64 P,.int .i64 ck,.slice ar nr cr,.slice aw nw cw,.slice ab nb cb,.slice al bM cl],.pointer (some ⟨bx,0,none⟩),.int .i64 l,.string ⟨(L_ l).toArray⟩,.string ⟨(dL++L_ l).toArray⟩]:=by rw [<-bc,<-cn];kernel_rfl
  rw [eS]
  exact this
noncomputable def R84:Code:=ai 5 Bq
def zQ (b2 bx gu nf cu:Nat) (m:Rm) (ar:Option z_) (cr:Nat) (r:Rec) (op:Int) (x:Qr):Nat->M'
 |0=>.pointer (some ⟨b2,4,none⟩)
 |1=>.slice ar m.recs.length cr
 |2=>.pointer (some ⟨bx,0,none⟩)
 |3=>.int .i64 r.call
 |4=>.slice (some ⟨gu,0,none⟩) nf cu
 |5=>.pointer (some ⟨gu,0,none⟩)
 |6=>.int .i64 r.line
 |7=>.int .i64 op
 |8=>.pointer (some ⟨b2,3,none⟩)
 |9=>.int .i64 m.clock
 |10=>.pointer (some ⟨b2,3,none⟩)
 |11=>.int .i64 m.clock
 |12=>.agg #[.int .i64 r.call,.int .i64 r.line,.int .i64 op,.int .i64 m.clock,.int .i64 m.clock,.int .i64 (-1),.string ⟨#[111,112,101,110]⟩]
 |13=>.slice (some ⟨x.g,0,none⟩) 1 1
 |14=>x.u
 |15=>.pointer (some ⟨b2,4,none⟩)
 |_=>I'
variable {w0:J'} {r0 b0 z4:M'}
theorem Tg {vw:M'} {r:Rec} {op:Int} (hF:gO w0 r0 b0 B m L O P (.slice ar m.recs.length cr) vw vb vl b2 b4 w) (hn:m.recs.length<=1000) (hnf:0<nf) (Gk:nf<=cu) (mj:f_ (r.cells.toArray=#[.int .i64 r.call,.int .i64 r.line,.int .i64 op,.int .i64 m.clock,.int .i64 m.clock,.int .i64 (-1),.string ⟨#[111,112,101,110]⟩])) (h3:w.cell? ⟨bx,0,none⟩=some (.int .i64 r.call)) (mi:w.cell? ⟨gu,0,none⟩=some (.int .i64 r.line)) {z12 z20 z21 z22 z23 z24 z25 z26 z28 z31 z37 z40 z46 z49 z51 z53:M'}
 (hQ:∀w' gg cap (Om TB TA Tz Ty Tx Tw Tv Tu Ol Oj Oi Oh Ju Jt Js:M'),gO w0 r0 b0 B {m with recs:=m.recs++[r]} L O P (.slice (some ⟨gg,0,none⟩) (m.recs.length+1) cap) vw vb vl b2 b4 w'->(∀g,g<w.heap.size->g≠b2->(mN ar m.recs.length cr).ownBlock≠some g->w'.heap[g]?=w.heap[g]?)->Q .normal ⟨#[z0,.int .i64 op,.pointer (some ⟨b2,0,none⟩),z3,z4,z5,.slice (some ⟨gu,0,none⟩) nf cu,.pointer (some ⟨bx,0,none⟩),z8,z9,dB,cZ,z12,de,dn,dm,dk,dj,dA,dz,z20,z21,z22,z23,z24,z25,z26,dD,z28,dC,dM,z31,dQ,dK,dP,dO,dV,z37,Om,TB,TA,Tz,Ty,Tx,Tw,Tv,Tu,Ol,Oj,Oi,Oh,Ju,Jt,Js,iF,iE,iD,iC,iB],[]⟩ w'):
 Code.wp p_ R84 Q ⟨#[z0,.int .i64 op,.pointer (some ⟨b2,0,none⟩),z3,z4,z5,.slice (some ⟨gu,0,none⟩) nf cu,.pointer (some ⟨bx,0,none⟩),z8,z9,dB,cZ,z12,de,dn,dm,dk,dj,dA,dz,z20,z21,z22,z23,z24,z25,z26,dD,z28,dC,dM,z31,dQ,dK,dP,dO,dV,z37,ey,ew,z40,eu,eK,eJ,eI,eH,z46,eQ,eN,z49,en,z51,iu,z53,iF,iE,iD,iC,iB],[]⟩ w:=by
 have hF:=hF.drew
 have c3:w.drew.cell? ⟨b2,3,none⟩=some (.int .i64 m.clock):=(aG hF.box).1.2.2.2.1
 have c4:w.drew.cell? ⟨b2,4,none⟩=some (.slice ar m.recs.length cr):=(aG hF.box).1.2.2.2.2.1
 have h3:w.drew.cell? ⟨bx,0,none⟩=some (.int .i64 r.call):=h3
 have mi:w.drew.cell? ⟨gu,0,none⟩=some (.int .i64 r.line):=mi
 obtain ⟨w1,cf⟩:∃w1,w.drew=w1:=⟨_,rfl⟩
 have vC:f_ (∀g:Nat,w1.heap[g]?=w.heap[g]?/\w1.heap.size=w.heap.size):=fun g=>by rw [<-cf];exact ⟨rfl,rfl⟩
 rw [cf] at hF c3 c4 h3 mi
 refine wpN 59 fun bs cn oq HI=> ?_
 simp only [R84,ai,Bq,f84,A_]
 refine mA (by kernel_rfl) (kP:=⟨I',0⟩) (base:=bs) (by rw [oq];kernel_rfl) (by kernel_rfl) (fun x=>zQ b2 bx gu nf cu m ar cr r op x) (VX [3,6,7,9,11] 12 13 14 16 w1 w0 r0 b0 B m L O P vw vb vl b2 b4 ar cr r)
  (by
   exact ⟨E5,E5,E5,E5,fun _=>cf,E5,E5,E5,E5⟩) ?_ ?_
 ·intro i o' ho D x w a hD bc hw bH aD K k
  have hlt:i<17:=(cI ho)
  have Gl:=bT oq
  have qi:=qI hD hlt
  have qn:=qN D i
  have aA:=aa k
  clear k
  obtain rfl|rfl|rfl|rfl|rfl|rfl|rfl|rfl|rfl|rfl|rfl|rfl|rfl|rfl|rfl|rfl|rfl:i=0\/i=1\/i=2\/i=3\/i=4\/i=5\/i=6\/i=7\/i=8\/i=9\/i=10\/i=11\/i=12\/i=13\/i=14\/i=15\/i=16:=by omega
  all_goals obtain rfl:=so ho rfl
  ·obtain ⟨v2,w2⟩:=bc.oo (.pointer (some ⟨b2,0,none⟩)) 2
   exact IZ (.pointer (some ⟨b2,4,none⟩))
  ·have d0:=dq aD 0
   obtain ⟨v38,XX⟩:=bc.vv (.pointer (some ⟨b2,4,none⟩)) 38 0 d0
   have c4:w.cell? ⟨b2,4,none⟩=some (.slice ar m.recs.length cr):=by
    have hk:=ff bH fun hx=>(hw.o2 hx).2
    cases hb:D.getD 13 false with
    |false=>rw [hw.a hb];exact c4
    |true=>rw [(hw.b hb hk).1];exact (N_ w1 _ none).cell c4 (by simp)
   exact IZ (.slice ar m.recs.length cr)
  ·obtain ⟨v7,w7⟩:=bc.oo (.pointer (some ⟨bx,0,none⟩)) 7
   exact IZ (.pointer (some ⟨bx,0,none⟩))
  ·have d2:=dq aD 2
   obtain ⟨v40,XW⟩:=bc.vv (.pointer (some ⟨bx,0,none⟩)) 40 2 d2
   have vF:=ff bH fun hx=>hw.o1 (hw.o0 hx) 3 (by decide)
   obtain rfl:=hw.a vF
   exact IZ (.int .i64 r.call)
  ·obtain ⟨v6,w6⟩:=bc.oo (.slice (some ⟨gu,0,none⟩) nf cu) 6
   exact IZ (.slice (some ⟨gu,0,none⟩) nf cu)
  ·have d4:=dq aD 4
   obtain ⟨v42,XU⟩:=bc.vv (.slice (some ⟨gu,0,none⟩) nf cu) 42 4 d4
   exact IZ (.pointer (some ⟨gu,0,none⟩))
  ·have d5:=dq aD 5
   obtain ⟨v43,XT⟩:=bc.vv (.pointer (some ⟨gu,0,none⟩)) 43 5 d5
   have vF:=ff bH fun hx=>hw.o1 (hw.o0 hx) 6 (by decide)
   obtain rfl:=hw.a vF
   exact IZ (.int .i64 r.line)
  ·obtain ⟨v1,w1⟩:=bc.oo (.int .i64 op) 1
   exact IZ (.int .i64 op)
  ·obtain ⟨v2,w2⟩:=bc.oo (.pointer (some ⟨b2,0,none⟩)) 2
   exact IZ (.pointer (some ⟨b2,3,none⟩))
  ·have d8:=dq aD 8
   obtain ⟨v46,XQ⟩:=bc.vv (.pointer (some ⟨b2,3,none⟩)) 46 8 d8
   have vF:=ff bH fun hx=>hw.o1 (hw.o0 hx) 9 (by decide)
   obtain rfl:=hw.a vF
   exact IZ (.int .i64 m.clock)
  ·obtain ⟨v2,w2⟩:=bc.oo (.pointer (some ⟨b2,0,none⟩)) 2
   exact IZ (.pointer (some ⟨b2,3,none⟩))
  ·have d10:=dq aD 10
   obtain ⟨v48,Wb⟩:=bc.vv (.pointer (some ⟨b2,3,none⟩)) 48 10 d10
   have vF:=ff bH fun hx=>hw.o1 (hw.o0 hx) 11 (by decide)
   obtain rfl:=hw.a vF
   exact IZ (.int .i64 m.clock)
  ·have d3:=dq aD 3
   have d6:=dq aD 6
   have d7:=dq aD 7
   have d9:=dq aD 9
   have d11:=dq aD 11
   obtain ⟨v41,XV⟩:=bc.vv (.int .i64 r.call) 41 3 d3
   obtain ⟨v44,XS⟩:=bc.vv (.int .i64 r.line) 44 6 d6
   obtain ⟨v45,XR⟩:=bc.vv (.int .i64 op) 45 7 d7
   obtain ⟨v47,LS⟩:=bc.vv (.int .i64 m.clock) 47 9 d9
   obtain ⟨v49,Wa⟩:=bc.vv (.int .i64 m.clock) 49 11 d11
   clear aD ho
   have xR:=qi
   have oL:=qn 13 (by decide)
   have yg:=qn 14 (by decide)
   have Dh:=qn 16 (by decide)
   have vF:=ff bH fun hx=>hw.o0 hx
   refine bj (v:=.agg #[.int .i64 r.call,.int .i64 r.line,.int .i64 op,.int .i64 m.clock,.int .i64 m.clock,.int .i64 (-1),.string ⟨#[111,112,101,110]⟩]) (w':=w) rfl rfl ?_ (aA.out x w (fun _ _=>rfl) ⟨?_,by rw [oL,vF];exact fun h=>(by cases h),by rw [yg,oL];exact fun h=>⟨(hw.o2 h).1,by rw [qn 1 (by decide)];exact (hw.o2 h).2⟩,by rw [Dh,yg];exact hw.o3,by rw [oL];exact hw.a,by rw [oL,yg];exact hw.b,by rw [yg,Dh];exact hw.c,by rw [Dh];exact hw.d,by rw [yg];exact hw.e⟩)
   ·clear bc hw aA bH qi qn xR oL yg Dh vF
    go_simp
   ·intro _ j hj
    simp only [R_,List.not_mem_nil,or_false] at hj
    rcases hj with rfl|rfl|rfl|rfl|rfl
    ·rw [qn _ (by decide)];exact d3
    ·rw [qn _ (by decide)];exact d6
    ·rw [qn _ (by decide)];exact d7
    ·rw [qn _ (by decide)];exact d9
    ·rw [qn _ (by decide)];exact d11
  ·have d12:=dq aD 12
   obtain ⟨v50,w50⟩:=bc.vv (.agg #[.int .i64 r.call,.int .i64 r.line,.int .i64 op,.int .i64 m.clock,.int .i64 m.clock,.int .i64 (-1),.string ⟨#[111,112,101,110]⟩]) 50 12 d12
   clear aD ho
   have oL:=qi
   have yg:=qn 14 (by decide)
   have Dh:=qn 16 (by decide)
   have xE:=ff bH fun hx=>(hw.o2 hx).1
   have CR:=ff xE fun hx=>hw.o3 hx
   obtain rfl:=hw.a bH
   refine bj (v:=.slice (some ⟨w.heap.size,0,none⟩) 1 1) (w':=w.alloc (.cells r.cells.toArray 44)) rfl rfl ?_ ?_
   ·clear bc hw aA bH qi qn oL yg Dh
    rw [mj.out]
    go_simp
   ·refine aA.out ⟨x.u,w.heap.size⟩ _ (fun j hj=>by
     have hne:j≠13:=fun e=>by rw [e,bH] at hj;cases hj
     unfold zQ;split<;>first|rfl|exact absurd rfl hne) ⟨by rw [qn 12 (by decide)];exact fun _ j hj=>if e:j=13 then (by subst e;exact qi) else (by rw [qn j e];exact hw.o1 d12 j hj),fun _=>by rw [qn 12 (by decide)];exact d12,by rw [yg,xE];exact fun h=>(by cases h),by rw [Dh,CR];exact fun h=>(by cases h),by rw [oL];exact fun h=>(by cases h),fun _ _=>⟨rfl,rfl⟩,by rw [yg,xE];exact fun h=>(by cases h),by rw [Dh,CR];exact fun h=>(by cases h),by rw [yg,xE];exact fun h=>(by cases h)⟩
  ·have d1:=dq aD 1
   have d13:=dq aD 13
   obtain ⟨v39,w39⟩:=bc.vv (.slice ar m.recs.length cr) 39 1 d1
   obtain ⟨v51,XP⟩:=bc.vv (.slice (some ⟨x.g,0,none⟩) 1 1) 51 13 d13
   clear aD ho
   have oL:=qn 13 (by decide)
   have yg:=qi
   have Dh:=qn 16 (by decide)
   have CR:=ff bH fun hx=>hw.o3 hx
   obtain ⟨yc,hg⟩:=hw.b d13 bH
   obtain ⟨i9,A5,nR,nQ,nP⟩:=info_parts EA
   have bR:=hF.room.recs.alloc (.cells r.cells.toArray 44)
   obtain ⟨g,cap,w6,hrun,yI,pZ,iP,mR⟩:=run_append_lies (P:=p_) (w1.alloc (.cells r.cells.toArray 44)) 37 37 B 44 i9 _ 7 64 Tryz.underlying37 A5 nR nQ nP rfl (by decide) (.slice ar m.recs.length cr) m.recs.length _ bR ⟨w1.heap.size,0,none⟩ 1 1 r.cells rfl (fY w1 _ _ rfl) (by intro u hu;simp [Rec.cells] at hu;rcases hu with rfl|rfl|rfl|rfl|rfl|rfl|rfl<;>rfl) (by decide) (by unfold maxLen;omega) (by omega) (D_ hF.room.big (N_ w1 _ none).size) _ rfl
   rw [hg] at v51
   subst yc
   refine bj (v:=.slice (some ⟨g,0,none⟩) (m.recs.length+1) cap) (w':=w6) rfl rfl ?_ ?_
   ·clear bc hw aA bH qi qn oL yg Dh
    simp only [List.getElem_toArray,List.getElem_cons_succ,List.getElem_cons_zero,V',resolve,invoke,builtin,Sem.run_bind,Sem.run_pure,Result.andThen_ok,List.map_toArray,S_,List.map_nil,v39,v51,hrun]
   ·refine aA.out ⟨.slice (some ⟨g,0,none⟩) (m.recs.length+1) cap,x.g⟩ _ (fun j hj=>by
     have hne:j≠14:=fun e=>by rw [e,bH] at hj;cases hj
     unfold zQ;split<;>first|rfl|exact absurd rfl hne) ⟨?_,by rw [qn 12 (by decide),oL];exact hw.o0, ?_,by rw [Dh,CR];exact fun h=>(by cases h),by rw [oL,d13];exact fun h=>(by cases h),by rw [yg];exact fun _ h=>(by cases h),fun _ _=>⟨by rw [nG];simpa [cj] using yI,pZ, ?_⟩,by rw [Dh,CR];exact fun h=>(by cases h),fun _=>⟨g,cap,rfl⟩⟩
    ·rw [qn 12 (by decide)];intro h j hj
     have:=hw.o1 h j hj
     by_cases e:j=14
     ·subst e;exact qi
     ·rw [qn j e];exact this
    ·intro _;rw [oL];exact ⟨d13,by rw [qn 1 (by decide)];exact d1⟩
    ·rcases iP with h|h
     ·exact .inl h.symm
     ·exact .inr (by rw [h,B_];rfl)
  ·obtain ⟨v2,w2⟩:=bc.oo (.pointer (some ⟨b2,0,none⟩)) 2
   exact IZ (.pointer (some ⟨b2,4,none⟩))
  ·have d15:=dq aD 15
   have d14:=dq aD 14
   obtain ⟨v53,XO⟩:=bc.vv (.pointer (some ⟨b2,4,none⟩)) 53 15 d15
   obtain ⟨v52,V9⟩:=bc.vv (x.u) 52 14 d14
   clear aD ho
   have oL:=qn 13 (by decide)
   have yg:=qn 14 (by decide)
   have Dh:=qi
   obtain ⟨ho,lH,fH⟩:=hw.c d14 bH
   obtain ⟨gg,cap,hu⟩:=hw.e d14
   have F3:=hF.below ((h_ _ _).alloc (C_ _) (.cells r.cells.toArray 44))
   have F4:=F3.recs (r:=r) rfl lH ho (by rw [B_];exact fH)
   have lF:=(lH.block _ F3.LX (fun e=>F3.oB.1.1 e.symm)).trans F3.box
   have p4:w.cell? ⟨b2,4,none⟩=some (.slice ar m.recs.length cr):=by rw [aB lF];rfl
   have q4:w.frozen? ⟨b2,4,none⟩=false:=bX lF
   have QL:∀g,g<w1.heap.size->g≠b2->(mN ar m.recs.length cr).ownBlock≠some g->(w.setCell ⟨b2,4,none⟩ x.u).heap[g]?=w1.heap[g]?:=fun g h1 h2 h3=>(a_ w ⟨b2,4,none⟩ g x.u h2).trans ((lH.block g (by rw [B_];omega) (fun e=>h3 e.symm)).trans ((N_ w1 _ none).block g h1 (by simp)))
   have QL:=aa QL
   refine gQ (w':=w.setCell ⟨b2,4,none⟩ x.u) rfl rfl ?_ ?_
   ·clear bc hw aA bH qi qn oL yg Dh F3 F4 ho lH fH lF
    rw [hu] at V9
    rw [hu]
    go_simp
   ·refine aA.out x _ (fun _ _=>rfl) ⟨?_,by rw [qn 12 (by decide),oL];exact hw.o0,by rw [yg,oL];exact fun h=>⟨(hw.o2 h).1,by rw [qn 1 (by decide)];exact (hw.o2 h).2⟩,fun _=>by rw [yg];exact d14,by rw [oL];exact fun h=>(by rw [(hw.o2 d14).1] at h;cases h),by rw [yg,d14];exact fun _ h=>(by cases h),by rw [Dh];exact fun _ h=>(by cases h),fun _=>⟨F4,QL.out⟩,by rw [yg];exact hw.e⟩
    rw [qn 12 (by decide)];intro h j hj
    have:=hw.o1 h j hj
    by_cases e:j=16
    ·subst e;exact qi
    ·rw [qn j e];exact this
 ·intro D x w hd hw
  obtain ⟨gg,cap,hu⟩:=hw.e (hd 14 (by decide))
  have EX:=hw.d (hd 16 (by decide))
  obtain ⟨u9,g9⟩:=x
  simp only at hu EX
  subst hu
  have:=hQ w gg cap (.pointer (some ⟨b2,4,none⟩)) (.slice ar m.recs.length cr) (.pointer (some ⟨bx,0,none⟩)) (.int .i64 r.call) (.slice (some ⟨gu,0,none⟩) nf cu) (.pointer (some ⟨gu,0,none⟩)) (.int .i64 r.line) (.int .i64 op) (.pointer (some ⟨b2,3,none⟩)) (.int .i64 m.clock) (.pointer (some ⟨b2,3,none⟩)) (.int .i64 m.clock) (.agg #[.int .i64 r.call,.int .i64 r.line,.int .i64 op,.int .i64 m.clock,.int .i64 m.clock,.int .i64 (-1),.string ⟨#[111,112,101,110]⟩]) (.slice (some ⟨g9,0,none⟩) 1 1) (.slice (some ⟨gg,0,none⟩) (m.recs.length+1) cap) (.pointer (some ⟨b2,4,none⟩)) EX.1 (fun g h1 h2 h3=>(EX.2 g (by rw [(vC.out g).2];exact h1) h2 h3).trans (vC.out g).1)
  generalize bc:slotsOf _ bs (zQ b2 bx gu nf cu m ar cr r op ⟨.slice (some ⟨gg,0,none⟩) (m.recs.length+1) cap,g9⟩)=sl
  have eS:sl=#[z0,.int .i64 op,.pointer (some ⟨b2,0,none⟩),z3,z4,z5,.slice (some ⟨gu,0,none⟩) nf cu,.pointer (some ⟨bx,0,none⟩),z8,z9,dB,cZ,z12,de,dn,dm,dk,dj,dA,dz,z20,z21,z22,z23,z24,z25,z26,dD,z28,dC,dM,z31,dQ,dK,dP,dO,dV,z37,.pointer (some ⟨b2,4,none⟩),.slice ar m.recs.length cr,.pointer (some ⟨bx,0,none⟩),.int .i64 r.call,.slice (some ⟨gu,0,none⟩) nf cu,.pointer (some ⟨gu,0,none⟩),.int .i64 r.line,.int .i64 op,.pointer (some ⟨b2,3,none⟩),.int .i64 m.clock,.pointer (some ⟨b2,3,none⟩),.int .i64 m.clock,.agg #[.int .i64 r.call,.int .i64 r.line,.int .i64 op,.int .i64 m.clock,.int .i64 m.clock,.int .i64 (-1),.string ⟨#[111,112,101,110]⟩],.slice (some ⟨g9,0,none⟩) 1 1,.slice (some ⟨gg,0,none⟩) (m.recs.length+1) cap,.pointer (some ⟨b2,4,none⟩),iF,iE,iD,iC,iB]:=by rw [<-bc,<-cn];kernel_rfl
  rw [eS]
  exact this
theorem yC {vw:M'} (R:bA B m vr vw vb w) (hn:m.recs.length<=100) (L9:m.wait.length<=100) (QO:m.back.length<=100) (gv:0<=m.clock/\m.clock<=1000000) (mP:∃a n c,vl=.slice a n c) (hop:∀p∈m.wait,(1<=p.1/\p.1<=1000000)/\∃i,dE m.recs p.1=some i) (op:Int):
 d_ p_ 83 #[jD L O P m.clock vr vw vb vl,.int .i64 op] w (Done w vr vb B (hZ m op).1 L O P vl (hZ m op).2):=by
 obtain ⟨al,bM,cl,rfl⟩:=mP
 obtain ⟨ab,cb,oK⟩:=aE R.back
 subst oK
 obtain ⟨ar,cr,ql⟩:=aE R.recs
 subst ql
 obtain ⟨gw,cw,qG,KC,yN⟩:=fV R.wait R.iQ
 subst qG
 obtain ⟨w1,cf⟩:∃w1,(w.alloc (.cells (gi L O P m.clock (.slice ar m.recs.length cr) (.slice (some ⟨gw,0,none⟩) m.wait.length cw) (.slice ab m.back.length cb) (.slice al bM cl)) 63)).alloc (.cells ia 63)=w1:=⟨_,rfl⟩
 have lr:f_ (w1.heap.size=w.heap.size+2):=by rw [f_,<-cf,B_,B_]
 have eo:g_ w.heap.size w w1:=by rw [<-cf];exact ((h_ _ _).alloc (C_ _) _).alloc (by rw [B_];omega) _
 have jx:w1.heap[w.heap.size]?=some (.cells (gi L O P m.clock (.slice ar m.recs.length cr) (.slice (some ⟨gw,0,none⟩) m.wait.length cw) (.slice ab m.back.length cb) (.slice al bM cl)) 63 (0,0)):=by rw [<-cf];exact br (Z' w _)
 have sH:w1.heap[w.heap.size+1]?=some (.cells ia 63 (0,0)):=by
  have:=Z' (w.alloc (.cells (gi L O P m.clock (.slice ar m.recs.length cr) (.slice (some ⟨gw,0,none⟩) m.wait.length cw) (.slice ab m.back.length cb) (.slice al bM cl)) 63)) (.cells ia 63)
  rw [B_,cf] at this
  exact this
 have F1:=aa (gO.start R eo jx sH (C_ _) (by omega) (by omega))
 obtain ⟨⟨e0,e1,e2,e3,e4,e5,e6,e7⟩,f0,f1,f2,f3,f4,f5,f6,f7⟩:=aG jx
 obtain ⟨⟨x0,x1,x2,x3,x4,x5,x6,x7⟩,y0,y1,y2,y3,y4,y5,y6,y7⟩:=aG (show w1.heap[w.heap.size+1]?=some (jY #[.int .i64 0,.int .i64 0,.int .i64 0,.int .i64 0,.slice none 0 0,.slice none 0 0,.slice none 0 0,.slice none 0 0] 63 (0,0)) from sH)
 have CX:m.recs.length<=1000:=by omega
 have sQ:=aa (uB F1.out.room.rd.1 CX op)
 clear R eo jx sH
 unfold gi ia at cf
 unfold jD
 by_cases ht:ez m.recs op>0
 ·have hR:f_ (hZ m op=(m,l8)):=by rw [f_];unfold hZ;rw [if_pos ht]
  generalize ez m.recs op=tk at sQ ht
  go_enter func83,ntmps83
  go_wp2_with (go_at_call 114;(with_reducible refine sQ.out.mono ?_);rintro e w2 ⟨rfl,rfl⟩)
  change bodyPost p_ f83 _ .ret _ (Of.b8 _ (w.heap.size+1) (.int .i64 L) (.int .i64 O) (.int .i64 P) (.int .i64 m.clock) (.slice ar m.recs.length cr) (.slice (some ⟨gw,0,none⟩) m.wait.length cw) (.slice ab m.back.length cb) (.slice al bM cl))
  rw [hR.out];refine gO.ends F1.out ?_ ?_ ?_<;>rfl
 have M7:¬0<ez m.recs op:=ht
 have SF:f_ (¬ez m.recs op>0):=ht
 generalize ez m.recs op=tk at sQ ht M7
 rcases (show m.wait=[]\/∃p ws,m.wait=p::ws by cases m.wait with|nil=>exact .inl rfl|cons p ws=>exact .inr ⟨p,ws,rfl⟩) with hw|⟨p,ws,hw⟩
 ·
  have hR:f_ (hZ m op=(m,qB)):=by rw [f_];unfold hZ;rw [if_neg SF.out,hw]
  replace hw:=aa hw
  go_enter func83,ntmps83
  go_wp2_with (go_at_call 114;(with_reducible refine sQ.out.mono ?_);rintro e w2 ⟨rfl,rfl⟩)
  ·change bodyPost p_ f83 _ .ret _ (Of.b8 _ (w.heap.size+1) (.int .i64 L) (.int .i64 O) (.int .i64 P) (.int .i64 m.clock) (.slice ar m.recs.length cr) (.slice (some ⟨gw,0,none⟩) m.wait.length cw) (.slice ab m.back.length cb) (.slice al bM cl))
   rw [hR.out];refine gO.ends F1.out ?_ ?_ ?_<;>rfl
  all_goals
   have oF:((m.wait.length:Int)==0)=true:=by rw [hw.out];rfl
   have aDm:m.wait.length=0:=by rw [hw.out];rfl
   exfalso
   have h9:(true:Bool)=false:=by rw [<-oF];assumption
   cases h9
 ·obtain ⟨⟨Iu,hp2⟩,i,Gc⟩:=hop p (by rw [hw];exact List.mem_cons_self)
  obtain ⟨QZ,ml⟩:=pV Gc
  obtain ⟨gr,VN,ql,Vd,hzz⟩:=nH F1.out.room.rd.1 ml
  injection ql with i1 i2 i3
  subst i1 i3
  have hR:f_ (hZ m op=({m with recs:=m.recs.set i {m.recs[i] with op:=op,heard:=m.clock},wait:=aJ m.wait p.1},dL++L_ p.1)):=by
   rw [f_];unfold hZ;rw [if_neg SF.out]
   split
   ·rename_i h;rw [hw] at h;cases h
   ·rename_i q qs h
    rw [hw] at h;injection h with h1 h2
    subst h1
    rw [Gc];simp only [G_ ml]
  have uK:0<m.wait.length:=by rw [hw];simp
  have UG:(0:Int)<(m.wait.length:Int):=by omega
  have Uh:m.wait[0]?=some p:=by rw [hw];rfl
  obtain ⟨yd,QI⟩:=List.getElem?_eq_some_iff.1 Uh
  obtain ⟨g1,c1,M5,_,k0,k1⟩:=pR F1.out.room.rd.2.1 uK
  injection M5 with i1 i2 i3
  injection i1 with i1
  injection i1 with i1
  subst i1 i3
  rw [QI] at k0 k1
  have k0':w1.cell? ⟨gw,0,none⟩=some (.int .i64 p.1):=k0
  have k1':w1.cell? ⟨gw,1,none⟩=some (.int .i64 p.2):=by simpa using k1
  have EE:=aa hw
  clear hw QI Uh
  have aDx:((m.wait.length:Int)==0)=false:=beq_eq_false_iff_ne.2 (by omega)
  have CP:gr≠w.heap.size:=fun e=>F1.out.oB.1.1 (by rw [e];rfl)
  have aDy:gr≠w.heap.size+1:=fun e=>F1.out.oB.2.1 (by rw [e];rfl)
  have QV:gr<w1.heap.size:=F1.out.room.nN.1 gr rfl
  obtain ⟨w6,sk⟩:∃w6,w1.alloc (.cells #[.int .i64 p.1,.int .i64 p.2] 114)=w6:=⟨_,rfl⟩
  have KF:g_ w1.heap.size w1 w6:=by rw [<-sk];exact (h_ _ _).alloc (C_ _) _
  have F6:=aa (F1.out.below KF)
  have SJ:f_ (w6.heap[w1.heap.size]?=some (.cells #[.int .i64 p.1,.int .i64 p.2] 114 (0,0))):=by rw [f_,<-sk];exact Z' w1 _
  have hgx:gr≠w1.heap.size:=by omega
  have hx6:w6.frozen? ⟨gr,i * 7+2,none⟩=false:=F6.out.room.recs.frozenAt _
  obtain ⟨w7,Ss⟩:∃w7,w6.setCell ⟨gr,i * 7+2,none⟩ (.int .i64 op)=w7:=⟨_,rfl⟩
  have SR:=F6.out.set rfl ml (k:=2) (by decide) (v:=.int .i64 op) (r:={m.recs[i] with op:=op}) rfl
  rw [Ss] at SR
  have TT:w7.frozen? ⟨gr,i * 7+4,none⟩=false:=by have h:=SR.room.recs;simp only [List.length_set] at h;exact h.frozenAt _
  obtain ⟨v6,hy6⟩:∃v,w6.cell? ⟨gr,i * 7+2,none⟩=some v:=⟨_,(F6.out.room.recs.cellAt (i * 7+2) (by omega)).trans (G_ (by rw [Ad];omega))⟩
  have YF:∃v,w7.cell? ⟨gr,i * 7+4,none⟩=some v:=by have h:=SR.room.recs;simp only [List.length_set] at h;exact ⟨_,(h.cellAt (i * 7+4) (by omega)).trans (G_ (by rw [Ad,List.length_set];omega))⟩
  obtain ⟨v7,YF⟩:=YF
  obtain ⟨w8,hw8⟩:∃w8,w7.setCell ⟨gr,i * 7+4,none⟩ (.int .i64 m.clock)=w8:=⟨_,rfl⟩
  have Xg:=SR.set (i:=i) (g:=gr) (cap:=cr) (by simp) (by simpa using ml) (k:=4) (by decide) (v:=.int .i64 m.clock) (r:={m.recs[i] with op:=op,heard:=m.clock}) (by simp [Rec.cells])
  rw [hw8] at Xg
  simp only [List.set_set] at Xg
  have F8:=aa Xg
  have hB7:f_ (w7.heap[w1.heap.size]?=some (.cells #[.int .i64 p.1,.int .i64 p.2] 114 (0,0))):=by rw [f_,<-Ss];exact (a_ w6 ⟨gr,i * 7+2,none⟩ _ _ (Ne.symm hgx)).trans SJ.out
  have Mk:f_ (w8.heap[w1.heap.size]?=some (.cells #[.int .i64 p.1,.int .i64 p.2] 114 (0,0))):=by rw [f_,<-hw8];exact (a_ w7 ⟨gr,i * 7+4,none⟩ _ _ (Ne.symm hgx)).trans hB7.out
  obtain ⟨⟨a0,a1,a2,a3,a4,a5,a6,a7⟩,_⟩:=aG F6.out.box
  obtain ⟨⟨b0,b1,b2,b3,b4,b5,b6,b7⟩,_⟩:=aG SR.box
  obtain ⟨⟨d0,d1,d2,d3,d4,d5,d6,d7⟩,_⟩:=aG F8.out.box
  have g6:w6.cell? ⟨w1.heap.size,0,none⟩=some (.int .i64 p.1):=aB SJ.out
  have g8:w8.cell? ⟨w1.heap.size,0,none⟩=some (.int .i64 p.1):=aB Mk.out
  have lA:=nO F6.out.room.rd.1 CX p.1
  rw [QZ] at lA
  have vI:(0:Int)<=(i:Int):=by omega
  have QY:(i:Int)<(m.recs.length:Int):=by omega
  have lA:=aa lA
  have hx:w.heap.size<w1.heap.size:=by have:=lr.out;omega
  have Fg:f_ (d_ p_ 115 #[.slice (some ⟨gw,0,none⟩) m.wait.length cw,.int .i64 p.1] w8 fun e w'=>∃u,e=.returned u/\w'.ownsRow w8.heap.size 114 2 u (aJ m.wait p.1).length (ax (aJ m.wait p.1))/\g_ w8.heap.size w8 w'/\∃g,u.ownBlock=some g):=jR F8.out.room.rd.2.1 F8.out.room.nN.2.1 (by show m.wait.length<=1000;omega) p.1
  have hl8:f_ (w1.heap.size<w8.heap.size):=(cI Mk.out)
  have Zj:f_ (w.heap.size≠w1.heap.size):=fun h=>by omega
  clear hzz
  have ml:=aa ml
  clear QZ SR Xg KF Gc x0 x1 x2 x3 x4 x5 x6 x7 y0 y1 y2 y3 y4 y5 y6 y7 SJ hB7 QV uK
  go_enter func83,ntmps83
  go_wp2_with (first|(go_at_call 114;(with_reducible refine sQ.out.mono ?_);rintro e w2 ⟨rfl,rfl⟩)|(go_at_call 110;(with_reducible refine lA.out.mono ?_);rintro e w3 ⟨rfl,rfl⟩)|(go_at_call 115;(with_reducible refine Fg.out.mono ?_);rintro e w9 ⟨u,rfl,nS,vJ,hg9⟩;obtain ⟨gq,WA⟩:=hg9;obtain ⟨aq,cq,Qv⟩:=aE nS;subst Qv;obtain ⟨⟨l0,l1,l2,l3,l4,l5,l6,l7⟩,j0,j1,j2,j3,j4,j5,j6,j7⟩:=aG (F8.out.below vJ).box;have nS:=aa nS;have WA:=aa WA;have vJ:=aa vJ))
  have SS:=aa (F8.out.waits vJ.out nS.out ⟨gq,WA.out⟩)
  have RE:f_ ((w9.setCell ⟨w.heap.size,5,none⟩ (.slice aq (aJ m.wait p.1).length cq)).heap[w2.heap.size]?=some (.cells #[.int .i64 p.1,.int .i64 p.2] 114 (0,0))):=(a_ w9 ⟨w.heap.size,5,none⟩ w2.heap.size _ (Ne.symm Zj.out)).trans ((vJ.out.block _ hl8.out).trans Mk.out)
  clear nS vJ WA l0 l1 l2 l3 l4 l5 l6 l7 j0 j1 j2 j3 j4 j5 j6 j7 F8 a0 a1 a2 a3 a4 a5 a6 a7 b0 b1 b2 b3 b4 b5 b6 b7 d0 d1 d2 d3 d4 d5 d6 d7 e0 e1 e2 e3 e4 e5 e6 e7 f0 f1 f2 f3 f4 f5 f6 f7 g6 g8 Mk lA sQ Fg F1 hy6 YF
  generalize w9.setCell ⟨w.heap.size,5,none⟩ (.slice aq (aJ m.wait p.1).length cq)=Ms at *
  refine MG (l:=p.1) (b2:=w.heap.size) (b4:=w.heap.size+1) (bx:=w2.heap.size) SS.out.box SS.out.res (cI RE.out) (aB RE.out) (by omega) (by omega) fun BD Oi Oh Ju Jt Js CY=> ?_
  have F11:=SS.out.below CY
  clear CY RE SS
  generalize dL++L_ p.1=tx at *
  go_wp2_with fail
  rw [hR.out];refine gO.ends F11 ?_ ?_ ?_
  ·rfl
  ·rfl
  ·rfl
variable {w':J'} {m':Rm} {vw qb jA qS:M'}
theorem Jj (v:M') (c:Int) (hv:v=.int .i64 c):(gi L O P ck vr vw vb vl).setIfInBounds 3 v=gi L O P c vr vw vb vl:=by subst hv;rfl
theorem bA.same (h:bA B m vr vw vb w) (h1:m'.recs=m.recs) (h2:m'.wait=m.wait) (h3:m'.back=m.back):bA B m' vr vw vb w:=
 ⟨h.big,by rw [h1];exact h.recs,by rw [h2];exact h.wait,by rw [h3];exact h.back,h.apart,h.iQ⟩
theorem gO.clock (h:gO w0 r0 b0 B m L O P vr vw vb vl b2 b4 w) (c:Int):gO w0 r0 b0 B {m with clock:=c} L O P vr vw vb vl b2 b4 (w.setCell ⟨b2,3,none⟩ (.int .i64 c)):=by
 obtain ⟨⟨q1,q2,q3⟩,q4,q5,q6⟩:=h.oB
 refine ⟨(h.room.cell q1 q2 q3).same rfl rfl rfl,h.fr.i7 h.l2,h.rr,h.rb, ?_, ?_,h.l2,h.l4,h.ne⟩
 ·have:=Go.heap_setCell_same w b2 3 _ 63 (.int .i64 c) h.box
  rw [Jj _ c rfl] at this;exact this
 ·exact (a_ w ⟨b2,3,none⟩ b4 _ (fun e=>h.ne e.symm)).trans h.res
theorem gO.put (h:gO w0 r0 b0 B m L O P vr vw vb vl b2 b4 w) (hF:bg vr (.slice none 0 0) w w') (R:bA B m' vr jA vb w'):
 gO w0 r0 b0 B m' L O P vr jA vb vl b2 b4 (Of.b8 w' b2 (.int .i64 L) (.int .i64 O) (.int .i64 P) (.int .i64 m'.clock) vr jA vb vl):=by
 obtain ⟨⟨q1,q2,q3⟩,q4,q5,q6⟩:=h.oB
 have hn:∀g:Nat,(mN none 0 0).ownBlock≠some g:=fun g e=>by cases e
 have lF:=(hF.block b2 h.LX q1 (hn _)).trans h.box
 have uI:=(hF.block b4 h.Qf q4 (hn _)).trans h.res
 have z2:jA.ownBlock≠some b2:=bB R.wait lF (by decide)
 refine ⟨R.b8 q1 z2 q3,(h.fr.then hF h.rr (fun g _ e=>absurd e (hn g))).b8 h.l2,h.rr,h.rb, ?_, ?_,h.l2,h.l4,h.ne⟩
 ·exact lB (show w'.heap[b2]?=some (jY #[_,_,_,_,_,_,_,_] 63 (0,0)) from lF) _ _ _ _ _ _ _ _
 ·exact (kN (fun e=>h.ne e.symm)).trans uI
variable {fn:Func} {tm:Array M'}
theorem zB {t:Bs} (R:bA B m vr vw vb w) (hF:bg r0 b0 w0 w) (rr:∀g,g<w0.heap.size->vr.ownBlock=some g->r0.ownBlock=some g) (rb:∀g,g<w0.heap.size->vb.ownBlock=some g->b0.ownBlock=some g) (hb:w.heap[b4]?=some (.cells ia 63 (0,0))) (l4:w0.heap.size<=b4)
 (EJ:fn.results=#[.cell 4 63,.tmp 5]) (h4:tm.getD 4 I'=.pointer (some ⟨b4,0,none⟩)) (h5:tm.getD 5 I'=.string ⟨t.toArray⟩):
 bodyPost p_ fn (Done w0 r0 b0 B m L O P vl t) .ret ⟨tm,[]⟩ (Of.b8 w b4 (.int .i64 L) (.int .i64 O) (.int .i64 P) (.int .i64 m.clock) vr vw vb vl):=by
 have q4:vr.ownBlock≠some b4:=bB R.recs hb (by decide)
 have q5:vw.ownBlock≠some b4:=bB R.wait hb (by decide)
 have q6:vb.ownBlock≠some b4:=bB R.back hb (by decide)
 have hR:=R.b8 (v0:=.int .i64 L) (v1:=.int .i64 O) (v2:=.int .i64 P) (v3:=.int .i64 m.clock) (v4:=vr) (v5:=vw) (v6:=vb) (v7:=vl) q4 q5 q6
 have hF:=hF.b8 (v0:=.int .i64 L) (v1:=.int .i64 O) (v2:=.int .i64 P) (v3:=.int .i64 m.clock) (v4:=vr) (v5:=vw) (v6:=vb) (v7:=vl) l4
 obtain ⟨⟨s0,s1,s2,s3,s4,s5,s6,s7⟩,_⟩:=aG (lB (show w.heap[b4]?=some (jY #[.int .i64 0,.int .i64 0,.int .i64 0,.int .i64 0,.slice none 0 0,.slice none 0 0,.slice none 0 0,.slice none 0 0] 63 (0,0)) from hb) (.int .i64 L) (.int .i64 O) (.int .i64 P) (.int .i64 m.clock) vr vw vb vl)
 generalize Of.b8 w b4 (.int .i64 L) (.int .i64 O) (.int .i64 P) (.int .i64 m.clock) vr vw vb vl=W at *
 have VC:tm[4]?.getD I'=.pointer (some ⟨b4,0,none⟩):=by rw [<-r_];exact h4
 have VB:tm[5]?.getD I'=.string ⟨t.toArray⟩:=by rw [<-r_];exact h5
 refine bodyPost_ret (v:=.tuple #[jD L O P m.clock vr vw vb vl,.string ⟨t.toArray⟩]) (by simp [results,EJ,go_sem,jD,VC,VB,s0,s1,s2,s3,s4,s5,s6,s7]) rfl ?_
 exact ⟨vr,vw,vb,rfl,hR,hF,rr,rb⟩
theorem Lj {t:Bs} (gv:m.clock=ck) (R:bA B m vr vw vb w) (hF:bg r0 b0 w0 w) (rr:∀g,g<w0.heap.size->vr.ownBlock=some g->r0.ownBlock=some g) (rb:∀g,g<w0.heap.size->vb.ownBlock=some g->b0.ownBlock=some g) (hb:w.heap[b4]?=some (.cells ia 63 (0,0))) (l4:w0.heap.size<=b4)
 (EJ:fn.results=#[.cell 4 63,.tmp 5]) (h4:tm.getD 4 I'=.pointer (some ⟨b4,0,none⟩)) (h5:tm.getD 5 I'=.string ⟨t.toArray⟩):
 bodyPost p_ fn (Done w0 r0 b0 B m L O P vl t) .ret ⟨tm,[]⟩ (Of.b8 w b4 (.int .i64 L) (.int .i64 O) (.int .i64 P) (.int .i64 ck) vr vw vb vl):=by
 subst gv
 exact zB R hF rr rb hb l4 EJ h4 h5
theorem Cz {vw:M'} (R:bA B m vr vw vb w) (hn:m.recs.length<=100) (L9:m.wait.length<=100) (QO:m.back.length<=100) (mP:∃a n c,vl=.slice a n c) (c:Int):
 d_ p_ 85 #[jD L O P m.clock vr vw vb vl,.int .i64 c] w (Done w vr vb B (lv m c).1 L O P vl (lv m c).2):=by
 obtain ⟨al,bM,cl,rfl⟩:=mP
 obtain ⟨ab,cb,oK⟩:=aE R.back
 subst oK
 obtain ⟨ar,cr,ql⟩:=aE R.recs
 subst ql
 obtain ⟨gw,cw,qG,KC,yN⟩:=fV R.wait R.iQ
 subst qG
 obtain ⟨w1,cf⟩:∃w1,(w.alloc (.cells (gi L O P m.clock (.slice ar m.recs.length cr) (.slice (some ⟨gw,0,none⟩) m.wait.length cw) (.slice ab m.back.length cb) (.slice al bM cl)) 63)).alloc (.cells ia 63)=w1:=⟨_,rfl⟩
 have lr:f_ (w1.heap.size=w.heap.size+2):=by rw [f_,<-cf,B_,B_]
 have eo:g_ w.heap.size w w1:=by rw [<-cf];exact ((h_ _ _).alloc (C_ _) _).alloc (by rw [B_];omega) _
 have jx:w1.heap[w.heap.size]?=some (.cells (gi L O P m.clock (.slice ar m.recs.length cr) (.slice (some ⟨gw,0,none⟩) m.wait.length cw) (.slice ab m.back.length cb) (.slice al bM cl)) 63 (0,0)):=by rw [<-cf];exact br (Z' w _)
 have sH:w1.heap[w.heap.size+1]?=some (.cells ia 63 (0,0)):=by
  have:=Z' (w.alloc (.cells (gi L O P m.clock (.slice ar m.recs.length cr) (.slice (some ⟨gw,0,none⟩) m.wait.length cw) (.slice ab m.back.length cb) (.slice al bM cl)) 63)) (.cells ia 63)
  rw [B_,cf] at this
  exact this
 have F1:=aa (gO.start R eo jx sH (C_ _) (by omega) (by omega))
 obtain ⟨⟨e0,e1,e2,e3,e4,e5,e6,e7⟩,f0,f1,f2,f3,f4,f5,f6,f7⟩:=aG jx
 obtain ⟨⟨x0,x1,x2,x3,x4,x5,x6,x7⟩,y0,y1,y2,y3,y4,y5,y6,y7⟩:=aG (show w1.heap[w.heap.size+1]?=some (jY #[.int .i64 0,.int .i64 0,.int .i64 0,.int .i64 0,.slice none 0 0,.slice none 0 0,.slice none 0 0,.slice none 0 0] 63 (0,0)) from sH)
 have CX:m.recs.length<=1000:=by omega
 have qo:m.wait.length<=1000:=by omega
 have KF:m.back.length<=1000:=by omega
 have lA:=nO F1.out.room.rd.1 CX c
 clear R eo jx sH
 unfold gi ia at cf
 unfold jD
 cases hop:dE m.recs c with
 |some i=>
  obtain ⟨QZ,ml⟩:=pV hop
  rw [QZ] at lA
  obtain ⟨gr,VN,ql,Vd,z0,z1,z2,z3,z4,z5,z6⟩:=nH F1.out.room.rd.1 ml
  injection ql with i1 i2 i3
  subst i1 i3
  have vI:(0:Int)<=(i:Int):=by omega
  have QY:(i:Int)<(m.recs.length:Int):=by omega
  have hE:f_ (∀q:Bs,d_ p_ 116 #[.agg #[.int .i64 L,.int .i64 O,.int .i64 P,.int .i64 m.clock,.slice (some ⟨gr,0,none⟩) m.recs.length cr,.slice (some ⟨gw,0,none⟩) m.wait.length cw,.slice ab m.back.length cb,.slice al bM cl],.int .i64 (i:Nat),.string ⟨q.toArray⟩] w1 fun e w'=>∃jA,e=.returned (jD L O P m.clock (.slice (some ⟨gr,0,none⟩) m.recs.length cr) jA (.slice ab m.back.length cb) (.slice al bM cl))/\bA B (jJ m i q) (.slice (some ⟨gr,0,none⟩) m.recs.length cr) jA (.slice ab m.back.length cb) w'/\bg (.slice (some ⟨gr,0,none⟩) m.recs.length cr) (.slice none 0 0) w1 w'/\(∀g,jA.ownBlock=some g->w1.heap.size<=g)):=fun q=>xm F1.out.room ml CX qo ⟨_,_,_,rfl⟩ q
  have Vf:f_ (∀q:Bs,(jJ m i q).clock=m.clock):=fun q=>by rw [sM ml]
  have vH:f_ (m.recs[i]?=some m.recs[i]):=G_ ml
  clear z0 z1 z3 z4 z5 z6 QZ
  have hop:=aa hop
  generalize m.recs[i]=r at z2 vH
  by_cases iq:r.op>0
  ·have hR:f_ (lv m c=(jJ m i iy,iy)):=by rw [f_];unfold lv;rw [hop.out];simp only;rw [vH.out];simp only;rw [if_pos iq]
   have hp:0<r.op:=iq
   have hE1:f_ (d_ p_ 116 #[.agg #[.int .i64 L,.int .i64 O,.int .i64 P,.int .i64 m.clock,.slice (some ⟨gr,0,none⟩) m.recs.length cr,.slice (some ⟨gw,0,none⟩) m.wait.length cw,.slice ab m.back.length cb,.slice al bM cl],.int .i64 (i:Nat),.string ⟨#[100,111,110,101]⟩] w1 fun e w'=>∃jA,e=.returned (jD L O P m.clock (.slice (some ⟨gr,0,none⟩) m.recs.length cr) jA (.slice ab m.back.length cb) (.slice al bM cl))/\bA B (jJ m i iy) (.slice (some ⟨gr,0,none⟩) m.recs.length cr) jA (.slice ab m.back.length cb) w'/\bg (.slice (some ⟨gr,0,none⟩) m.recs.length cr) (.slice none 0 0) w1 w'/\(∀g,jA.ownBlock=some g->w1.heap.size<=g)):=hE.out iy
   go_enter func85,ntmps85
   go_wp2_with (first|(go_at_call 110;(with_reducible refine lA.mono ?_);rintro e w3 ⟨rfl,rfl⟩)|(go_at_call 116;(with_reducible refine hE1.out.mono ?_);rintro e w2 ⟨N3,rfl,R2,nj,Iv⟩;obtain ⟨ID,IC,rn⟩:=aE R2.wait;subst rn;have uI:=aa ((nj.block _ F1.out.Qf F1.out.oB.2.1 (fun e=>by cases e)).trans F1.out.res);obtain ⟨⟨p0,p1,p2,p3,p4,p5,p6,p7⟩,s0,s1,s2,s3,s4,s5,s6,s7⟩:=aG (show w2.heap[w.heap.size+1]?=some (jY #[.int .i64 0,.int .i64 0,.int .i64 0,.int .i64 0,.slice none 0 0,.slice none 0 0,.slice none 0 0,.slice none 0 0] 63 (0,0)) from uI.out);have DD:=aa R2;have nj:=aa nj;unfold jD;clear R2 Iv))
   change bodyPost p_ f85 _ .ret _ (Of.b8 _ (w.heap.size+1) (.int .i64 L) (.int .i64 O) (.int .i64 P) (.int .i64 m.clock) (.slice (some ⟨gr,0,none⟩) m.recs.length cr) _ (.slice ab m.back.length cb) (.slice al bM cl))
   rw [hR.out]
   refine Lj (Vf.out iy) DD.out (F1.out.fr.then nj.out F1.out.rr (fun g _ e=>by cases e)) F1.out.rr F1.out.rb uI.out (Nat.le_succ _) ?_ ?_ ?_<;>rfl
  ·have hR:f_ (lv m c=(jJ m i ie,ie)):=by rw [f_];unfold lv;rw [hop.out];simp only;rw [vH.out];simp only;rw [if_neg iq]
   have hp:¬0<r.op:=iq
   have hE1:f_ (d_ p_ 116 #[.agg #[.int .i64 L,.int .i64 O,.int .i64 P,.int .i64 m.clock,.slice (some ⟨gr,0,none⟩) m.recs.length cr,.slice (some ⟨gw,0,none⟩) m.wait.length cw,.slice ab m.back.length cb,.slice al bM cl],.int .i64 (i:Nat),.string ⟨#[108,101,102,116]⟩] w1 fun e w'=>∃jA,e=.returned (jD L O P m.clock (.slice (some ⟨gr,0,none⟩) m.recs.length cr) jA (.slice ab m.back.length cb) (.slice al bM cl))/\bA B (jJ m i ie) (.slice (some ⟨gr,0,none⟩) m.recs.length cr) jA (.slice ab m.back.length cb) w'/\bg (.slice (some ⟨gr,0,none⟩) m.recs.length cr) (.slice none 0 0) w1 w'/\(∀g,jA.ownBlock=some g->w1.heap.size<=g)):=hE.out ie
   go_enter func85,ntmps85
   go_wp2_with (first|(go_at_call 110;(with_reducible refine lA.mono ?_);rintro e w3 ⟨rfl,rfl⟩)|(go_at_call 116;(with_reducible refine hE1.out.mono ?_);rintro e w2 ⟨N3,rfl,R2,nj,Iv⟩;obtain ⟨ID,IC,rn⟩:=aE R2.wait;subst rn;have uI:=aa ((nj.block _ F1.out.Qf F1.out.oB.2.1 (fun e=>by cases e)).trans F1.out.res);obtain ⟨⟨p0,p1,p2,p3,p4,p5,p6,p7⟩,s0,s1,s2,s3,s4,s5,s6,s7⟩:=aG (show w2.heap[w.heap.size+1]?=some (jY #[.int .i64 0,.int .i64 0,.int .i64 0,.int .i64 0,.slice none 0 0,.slice none 0 0,.slice none 0 0,.slice none 0 0] 63 (0,0)) from uI.out);have DD:=aa R2;have nj:=aa nj;unfold jD;clear R2 Iv))
   change bodyPost p_ f85 _ .ret _ (Of.b8 _ (w.heap.size+1) (.int .i64 L) (.int .i64 O) (.int .i64 P) (.int .i64 m.clock) (.slice (some ⟨gr,0,none⟩) m.recs.length cr) _ (.slice ab m.back.length cb) (.slice al bM cl))
   rw [hR.out]
   refine Lj (Vf.out ie) DD.out (F1.out.fr.then nj.out F1.out.rr (fun g _ e=>by cases e)) F1.out.rr F1.out.rb uI.out (Nat.le_succ _) ?_ ?_ ?_<;>rfl
 |none=>
  rw [zg hop] at lA
  have vO:=xl F1.out.room.rd.2.2 KF c
  by_cases Gh:kG m.back c= -1
  ·have Md:im m c=false:=by
    cases hx:im m c with
    |false=>rfl
    |true=>exact absurd Gh ((lU m c).1 hx)
   have hR:f_ (lv m c=(m,Da)):=by rw [f_];unfold lv;rw [hop];simp only;rw [if_neg (by simp [Md])]
   rw [Gh] at vO
   clear hop Md Gh
   go_enter func85,ntmps85
   go_wp2_with (first|(go_at_call 110;(with_reducible refine lA.mono ?_);rintro e w3 ⟨rfl,rfl⟩)|(go_at_call 111;(with_reducible refine vO.mono ?_);rintro e w3 ⟨rfl,rfl⟩))
   change bodyPost p_ f85 _ .ret _ (Of.b8 _ (w.heap.size+1) (.int .i64 L) (.int .i64 O) (.int .i64 P) (.int .i64 m.clock) (.slice ar m.recs.length cr) (.slice (some ⟨gw,0,none⟩) m.wait.length cw) (.slice ab m.back.length cb) (.slice al bM cl))
   rw [hR.out];refine gO.ends F1.out ?_ ?_ ?_<;>rfl
  ·have Md:im m c=true:=(lU m c).2 Gh
   have hR:f_ (lv m c=({m with back:=aJ m.back c},JC)):=by rw [f_];unfold lv;rw [hop];simp only;rw [if_pos Md]
   obtain ⟨vI,hlt⟩:=zx _ _ Gh
   have Fg:f_ (d_ p_ 115 #[(.slice ab m.back.length cb),.int .i64 c] w1 fun e w'=>∃u,e=.returned u/\w'.ownsRow w1.heap.size 114 2 u (aJ m.back c).length (ax (aJ m.back c))/\g_ w1.heap.size w1 w'/\∃g,u.ownBlock=some g):=jR F1.out.room.rd.2.2 F1.out.room.nN.2.2 KF c
   generalize kG m.back c=fi at vO vI hlt Gh
   clear hop Md
   go_enter func85,ntmps85
   go_wp2_with (first|(go_at_call 110;(with_reducible refine lA.mono ?_);rintro e w3 ⟨rfl,rfl⟩)|(go_at_call 111;(with_reducible refine vO.mono ?_);rintro e w3 ⟨rfl,rfl⟩)|(go_at_call 115;(with_reducible refine Fg.out.mono ?_);rintro e w9 ⟨u,rfl,nS,vJ,_⟩;obtain ⟨aq,cq,Qv⟩:=aE nS;subst Qv;have F9:=aa (F1.out.below vJ);have SS:=aa (F1.out.O6 vJ nS);obtain ⟨⟨l0,l1,l2,l3,l4,l5,l6,l7⟩,j0,j1,j2,j3,j4,j5,j6,j7⟩:=aG F9.out.box;obtain ⟨⟨p0,p1,p2,p3,p4,p5,p6,p7⟩,s0,s1,s2,s3,s4,s5,s6,s7⟩:=aG (show w9.heap[w.heap.size+1]?=some (jY #[.int .i64 0,.int .i64 0,.int .i64 0,.int .i64 0,.slice none 0 0,.slice none 0 0,.slice none 0 0,.slice none 0 0] 63 (0,0)) from F9.out.res);clear nS vJ))
   change bodyPost p_ f85 _ .ret _ (Of.b8 _ (w.heap.size+1) (.int .i64 L) (.int .i64 O) (.int .i64 P) (.int .i64 m.clock) (.slice ar m.recs.length cr) (.slice (some ⟨gw,0,none⟩) m.wait.length cw) _ (.slice al bM cl))
   rw [hR.out];refine gO.ends SS.out ?_ ?_ ?_<;>rfl
end
end Go.aC.Of
