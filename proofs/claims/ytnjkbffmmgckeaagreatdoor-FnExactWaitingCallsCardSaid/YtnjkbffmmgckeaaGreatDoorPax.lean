/-
  The reference's l6Step.
-/
import Derived.Test.YtnjkbffmmgckeaaGreatDoorPaa
import Derived.Test.YtnjkbffmmgckeaaGreatDoorPag
import Derived.Test.YtnjkbffmmgckeaaGreatDoorPav
import Derived.Test.YtnjkbffmmgckeaaGreatDoorPaw
set_option linter.all false
set_option maxRecDepth 100000
set_option maxHeartbeats 32000000
open Go renaming Value->M',heap_alloc_new->Z',Calls->d_,Addr->z_
open Go.RowKit renaming Hid->f_,Below->g_
open Go.RowKit.Below renaming refl->h_
open Go.World renaming size_alloc->B_,grownBy_alloc->N_
open Nat renaming le_refl->C_
open Array renaming replicate->F_
open Go.Proofs.Tryz renaming prog->p_
open Go.Proofs.Tryz
namespace Go.aC.Of
section
open Go Go.Conc Go.Conc.Lib Go.ConcR Go.ConcR.Gen Go.aC Go.Proofs
open Go.RowKit hiding Hid
open Go.ConcN (upd upd_ne upd_same)
variable {B nl:Nat} {m:Rm} {vr vb vl:M'} {w:World} {O P:Int}
theorem GZ {vw:M'} (R:bA B m vr vw vb w) (mP:∃a n c,vl=.slice a n c) (c pt:Int) {q:Rm × Bs} (hc:∀w',bA B m vr vw vb w'->d_ p_ 82 #[jD (nl:Nat) O P m.clock vr vw vb vl,.agg #[.int .i64 c,.int .i64 pt]] w' (Done w' vr vb B q.1 (nl:Nat) O P vl q.2)):
 d_ p_ 64 #[jD (nl:Nat) O P m.clock vr vw vb vl,.agg #[.string ⟨#[114,105,110,103]⟩,.int .i64 c,.int .i64 pt]] w (Done w vr vb B q.1 (nl:Nat) O P vl q.2):=by
 obtain ⟨al,bM,cl,rfl⟩:=mP
 obtain ⟨ab,cb,oK⟩:=aE R.back
 subst oK
 obtain ⟨ar,cr,ql⟩:=aE R.recs
 subst ql
 obtain ⟨gw,cw,qG,KC,yN⟩:=fV R.wait R.iQ
 subst qG
 obtain ⟨w1,cf⟩:∃w1,((w.alloc (.cells (gi (nl:Nat) O P m.clock (.slice ar m.recs.length cr) (.slice (some ⟨gw,0,none⟩) m.wait.length cw) (.slice ab m.back.length cb) (.slice al bM cl)) 63)).alloc (.cells #[.string ⟨#[114,105,110,103]⟩,.int .i64 c,.int .i64 pt] 55)).alloc (.cells ia 63)=w1:=⟨_,rfl⟩
 have lr:f_ (w1.heap.size=w.heap.size+3):=by rw [f_,<-cf,B_,B_,B_]
 have eo:g_ w.heap.size w w1:=by rw [<-cf];exact (((h_ _ _).alloc (C_ _) _).alloc (by rw [B_];omega) _).alloc (by rw [B_,B_];omega) _
 have jx:w1.heap[w.heap.size]?=some (.cells (gi (nl:Nat) O P m.clock (.slice ar m.recs.length cr) (.slice (some ⟨gw,0,none⟩) m.wait.length cw) (.slice ab m.back.length cb) (.slice al bM cl)) 63 (0,0)):=by rw [<-cf];exact br (br (Z' w _))
 have oG:w1.heap[w.heap.size+1]?=some (.cells #[.string ⟨#[114,105,110,103]⟩,.int .i64 c,.int .i64 pt] 55 (0,0)):=by
  have:=Z' (w.alloc (.cells (gi (nl:Nat) O P m.clock (.slice ar m.recs.length cr) (.slice (some ⟨gw,0,none⟩) m.wait.length cw) (.slice ab m.back.length cb) (.slice al bM cl)) 63)) (.cells #[.string ⟨#[114,105,110,103]⟩,.int .i64 c,.int .i64 pt] 55)
  rw [B_] at this
  rw [<-cf];exact br this
 have sH:f_ (w1.heap[w.heap.size+1+1]?=some (.cells ia 63 (0,0))):=by
  have:=Z' ((w.alloc (.cells (gi (nl:Nat) O P m.clock (.slice ar m.recs.length cr) (.slice (some ⟨gw,0,none⟩) m.wait.length cw) (.slice ab m.back.length cb) (.slice al bM cl)) 63)).alloc (.cells #[.string ⟨#[114,105,110,103]⟩,.int .i64 c,.int .i64 pt] 55)) (.cells ia 63)
  rw [B_,B_,cf] at this
  exact this
 obtain ⟨⟨a0,a1,a2,a3,a4,a5,a6,a7⟩,_⟩:=aG jx
 have g0:w1.cell? ⟨w.heap.size+1,0,none⟩=some (.string ⟨#[114,105,110,103]⟩):=aB oG
 have g1:w1.cell? ⟨w.heap.size+1,1,none⟩=some (.int .i64 c):=aB oG
 have g2:w1.cell? ⟨w.heap.size+1,2,none⟩=some (.int .i64 pt):=aB oG
 have hcc:f_ (d_ p_ 82 #[.agg #[.int .i64 (nl:Nat),.int .i64 O,.int .i64 P,.int .i64 m.clock,.slice ar m.recs.length cr,.slice (some ⟨gw,0,none⟩) m.wait.length cw,.slice ab m.back.length cb,.slice al bM cl],.agg #[.int .i64 c,.int .i64 pt]] w1 (Done w1 (.slice ar m.recs.length cr) (.slice ab m.back.length cb) B q.1 (nl:Nat) O P (.slice al bM cl) q.2)):=hc w1 (R.below eo)
 have fz:=aa R.nN
 have uf:=aa eo
 clear R eo jx oG hc
 unfold gi ia at cf
 unfold jD
 go_enter func64,ntmps64
 go_wp2_with (go_at_call 82;(with_reducible refine hcc.out.mono ?_);rintro e w2 ⟨LU,N3,N4,rfl,R2,nj,pk,po⟩;obtain ⟨W7,WZ,AR⟩:=aE R2.recs;subst AR;obtain ⟨ID,IC,rn⟩:=aE R2.wait;subst rn;obtain ⟨W8,W4,AU⟩:=aE R2.back;subst AU;have uI:=aa ((nj.block _ (by rw [lr.out];omega) (fun e=>by have:=fz.out.1 _ e;omega) (fun e=>by have:=fz.out.2.2 _ e;omega)).trans sH.out);obtain ⟨⟨p0,p1,p2,p3,p4,p5,p6,p7⟩,s0,s1,s2,s3,s4,s5,s6,s7⟩:=aG (show w2.heap[w.heap.size+1+1]?=some (Obj.cells #[.int .i64 0,.int .i64 0,.int .i64 0,.int .i64 0,.slice none 0 0,.slice none 0 0,.slice none 0 0,.slice none 0 0] 63 (0,0)) from uI.out);have DD:=aa R2;have tY:=aa nj;have pk:=aa pk;have po:=aa po;unfold jD;clear R2 nj a0 a1 a2 a3 a4 a5 a6 a7 g0 g1 g2 cf)
 change bodyPost p_ f64 _ .ret _ (Of.b8 _ (w.heap.size+1+1) (.int .i64 (nl:Nat)) (.int .i64 O) (.int .i64 P) (.int .i64 q.1.clock) _ _ _ (.slice al bM cl))
 refine zB DD.out ((bg.bW uf.out).trans tY.out) (fun g hg e=>pk.out g (by rw [lr.out];omega) e) (fun g hg e=>po.out g (by rw [lr.out];omega) e) uI.out (by omega) ?_ ?_ ?_<;>rfl
theorem B5 {vw:M'} (R:bA B m vr vw vb w) (mP:∃a n c,vl=.slice a n c) (c:Int) {q:Rm × Bs} (hc:∀w',bA B m vr vw vb w'->d_ p_ 83 #[jD (nl:Nat) O P m.clock vr vw vb vl,.int .i64 c] w' (Done w' vr vb B q.1 (nl:Nat) O P vl q.2)):
 d_ p_ 64 #[jD (nl:Nat) O P m.clock vr vw vb vl,.agg #[.string ⟨#[97,110,115,119,101,114]⟩,.int .i64 c,.int .i64 0]] w (Done w vr vb B q.1 (nl:Nat) O P vl q.2):=by
 obtain ⟨al,bM,cl,rfl⟩:=mP
 obtain ⟨ab,cb,oK⟩:=aE R.back
 subst oK
 obtain ⟨ar,cr,ql⟩:=aE R.recs
 subst ql
 obtain ⟨gw,cw,qG,KC,yN⟩:=fV R.wait R.iQ
 subst qG
 obtain ⟨w1,cf⟩:∃w1,((w.alloc (.cells (gi (nl:Nat) O P m.clock (.slice ar m.recs.length cr) (.slice (some ⟨gw,0,none⟩) m.wait.length cw) (.slice ab m.back.length cb) (.slice al bM cl)) 63)).alloc (.cells #[.string ⟨#[97,110,115,119,101,114]⟩,.int .i64 c,.int .i64 0] 55)).alloc (.cells ia 63)=w1:=⟨_,rfl⟩
 have lr:f_ (w1.heap.size=w.heap.size+3):=by rw [f_,<-cf,B_,B_,B_]
 have eo:g_ w.heap.size w w1:=by rw [<-cf];exact (((h_ _ _).alloc (C_ _) _).alloc (by rw [B_];omega) _).alloc (by rw [B_,B_];omega) _
 have jx:w1.heap[w.heap.size]?=some (.cells (gi (nl:Nat) O P m.clock (.slice ar m.recs.length cr) (.slice (some ⟨gw,0,none⟩) m.wait.length cw) (.slice ab m.back.length cb) (.slice al bM cl)) 63 (0,0)):=by rw [<-cf];exact br (br (Z' w _))
 have oG:w1.heap[w.heap.size+1]?=some (.cells #[.string ⟨#[97,110,115,119,101,114]⟩,.int .i64 c,.int .i64 0] 55 (0,0)):=by
  have:=Z' (w.alloc (.cells (gi (nl:Nat) O P m.clock (.slice ar m.recs.length cr) (.slice (some ⟨gw,0,none⟩) m.wait.length cw) (.slice ab m.back.length cb) (.slice al bM cl)) 63)) (.cells #[.string ⟨#[97,110,115,119,101,114]⟩,.int .i64 c,.int .i64 0] 55)
  rw [B_] at this
  rw [<-cf];exact br this
 have sH:f_ (w1.heap[w.heap.size+1+1]?=some (.cells ia 63 (0,0))):=by
  have:=Z' ((w.alloc (.cells (gi (nl:Nat) O P m.clock (.slice ar m.recs.length cr) (.slice (some ⟨gw,0,none⟩) m.wait.length cw) (.slice ab m.back.length cb) (.slice al bM cl)) 63)).alloc (.cells #[.string ⟨#[97,110,115,119,101,114]⟩,.int .i64 c,.int .i64 0] 55)) (.cells ia 63)
  rw [B_,B_,cf] at this
  exact this
 obtain ⟨⟨a0,a1,a2,a3,a4,a5,a6,a7⟩,_⟩:=aG jx
 have g0:w1.cell? ⟨w.heap.size+1,0,none⟩=some (.string ⟨#[97,110,115,119,101,114]⟩):=aB oG
 have g1:w1.cell? ⟨w.heap.size+1,1,none⟩=some (.int .i64 c):=aB oG
 have g2:w1.cell? ⟨w.heap.size+1,2,none⟩=some (.int .i64 0):=aB oG
 have hcc:f_ (d_ p_ 83 #[.agg #[.int .i64 (nl:Nat),.int .i64 O,.int .i64 P,.int .i64 m.clock,.slice ar m.recs.length cr,.slice (some ⟨gw,0,none⟩) m.wait.length cw,.slice ab m.back.length cb,.slice al bM cl],.int .i64 c] w1 (Done w1 (.slice ar m.recs.length cr) (.slice ab m.back.length cb) B q.1 (nl:Nat) O P (.slice al bM cl) q.2)):=hc w1 (R.below eo)
 have fz:=aa R.nN
 have uf:=aa eo
 clear R eo jx oG hc
 unfold gi ia at cf
 unfold jD
 go_enter func64,ntmps64
 go_wp2_with (go_at_call 83;(with_reducible refine hcc.out.mono ?_);rintro e w2 ⟨LU,N3,N4,rfl,R2,nj,pk,po⟩;obtain ⟨W7,WZ,AR⟩:=aE R2.recs;subst AR;obtain ⟨ID,IC,rn⟩:=aE R2.wait;subst rn;obtain ⟨W8,W4,AU⟩:=aE R2.back;subst AU;have uI:=aa ((nj.block _ (by rw [lr.out];omega) (fun e=>by have:=fz.out.1 _ e;omega) (fun e=>by have:=fz.out.2.2 _ e;omega)).trans sH.out);obtain ⟨⟨p0,p1,p2,p3,p4,p5,p6,p7⟩,s0,s1,s2,s3,s4,s5,s6,s7⟩:=aG (show w2.heap[w.heap.size+1+1]?=some (Obj.cells #[.int .i64 0,.int .i64 0,.int .i64 0,.int .i64 0,.slice none 0 0,.slice none 0 0,.slice none 0 0,.slice none 0 0] 63 (0,0)) from uI.out);have DD:=aa R2;have tY:=aa nj;have pk:=aa pk;have po:=aa po;unfold jD;clear R2 nj a0 a1 a2 a3 a4 a5 a6 a7 g0 g1 g2 cf)
 change bodyPost p_ f64 _ .ret _ (Of.b8 _ (w.heap.size+1+1) (.int .i64 (nl:Nat)) (.int .i64 O) (.int .i64 P) (.int .i64 q.1.clock) _ _ _ (.slice al bM cl))
 refine zB DD.out ((bg.bW uf.out).trans tY.out) (fun g hg e=>pk.out g (by rw [lr.out];omega) e) (fun g hg e=>po.out g (by rw [lr.out];omega) e) uI.out (by omega) ?_ ?_ ?_<;>rfl
theorem G2 {vw:M'} (R:bA B m vr vw vb w) (mP:∃a n c,vl=.slice a n c) (c:Int) {q:Rm × Bs} (hc:∀w',bA B m vr vw vb w'->d_ p_ 84 #[jD (nl:Nat) O P m.clock vr vw vb vl,.int .i64 c] w' (Done w' vr vb B q.1 (nl:Nat) O P vl q.2)):
 d_ p_ 64 #[jD (nl:Nat) O P m.clock vr vw vb vl,.agg #[.string ⟨#[114,101,116,117,114,110]⟩,.int .i64 c,.int .i64 0]] w (Done w vr vb B q.1 (nl:Nat) O P vl q.2):=by
 obtain ⟨al,bM,cl,rfl⟩:=mP
 obtain ⟨ab,cb,oK⟩:=aE R.back
 subst oK
 obtain ⟨ar,cr,ql⟩:=aE R.recs
 subst ql
 obtain ⟨gw,cw,qG,KC,yN⟩:=fV R.wait R.iQ
 subst qG
 obtain ⟨w1,cf⟩:∃w1,((w.alloc (.cells (gi (nl:Nat) O P m.clock (.slice ar m.recs.length cr) (.slice (some ⟨gw,0,none⟩) m.wait.length cw) (.slice ab m.back.length cb) (.slice al bM cl)) 63)).alloc (.cells #[.string ⟨#[114,101,116,117,114,110]⟩,.int .i64 c,.int .i64 0] 55)).alloc (.cells ia 63)=w1:=⟨_,rfl⟩
 have lr:f_ (w1.heap.size=w.heap.size+3):=by rw [f_,<-cf,B_,B_,B_]
 have eo:g_ w.heap.size w w1:=by rw [<-cf];exact (((h_ _ _).alloc (C_ _) _).alloc (by rw [B_];omega) _).alloc (by rw [B_,B_];omega) _
 have jx:w1.heap[w.heap.size]?=some (.cells (gi (nl:Nat) O P m.clock (.slice ar m.recs.length cr) (.slice (some ⟨gw,0,none⟩) m.wait.length cw) (.slice ab m.back.length cb) (.slice al bM cl)) 63 (0,0)):=by rw [<-cf];exact br (br (Z' w _))
 have oG:w1.heap[w.heap.size+1]?=some (.cells #[.string ⟨#[114,101,116,117,114,110]⟩,.int .i64 c,.int .i64 0] 55 (0,0)):=by
  have:=Z' (w.alloc (.cells (gi (nl:Nat) O P m.clock (.slice ar m.recs.length cr) (.slice (some ⟨gw,0,none⟩) m.wait.length cw) (.slice ab m.back.length cb) (.slice al bM cl)) 63)) (.cells #[.string ⟨#[114,101,116,117,114,110]⟩,.int .i64 c,.int .i64 0] 55)
  rw [B_] at this
  rw [<-cf];exact br this
 have sH:f_ (w1.heap[w.heap.size+1+1]?=some (.cells ia 63 (0,0))):=by
  have:=Z' ((w.alloc (.cells (gi (nl:Nat) O P m.clock (.slice ar m.recs.length cr) (.slice (some ⟨gw,0,none⟩) m.wait.length cw) (.slice ab m.back.length cb) (.slice al bM cl)) 63)).alloc (.cells #[.string ⟨#[114,101,116,117,114,110]⟩,.int .i64 c,.int .i64 0] 55)) (.cells ia 63)
  rw [B_,B_,cf] at this
  exact this
 obtain ⟨⟨a0,a1,a2,a3,a4,a5,a6,a7⟩,_⟩:=aG jx
 have g0:w1.cell? ⟨w.heap.size+1,0,none⟩=some (.string ⟨#[114,101,116,117,114,110]⟩):=aB oG
 have g1:w1.cell? ⟨w.heap.size+1,1,none⟩=some (.int .i64 c):=aB oG
 have g2:w1.cell? ⟨w.heap.size+1,2,none⟩=some (.int .i64 0):=aB oG
 have hcc:f_ (d_ p_ 84 #[.agg #[.int .i64 (nl:Nat),.int .i64 O,.int .i64 P,.int .i64 m.clock,.slice ar m.recs.length cr,.slice (some ⟨gw,0,none⟩) m.wait.length cw,.slice ab m.back.length cb,.slice al bM cl],.int .i64 c] w1 (Done w1 (.slice ar m.recs.length cr) (.slice ab m.back.length cb) B q.1 (nl:Nat) O P (.slice al bM cl) q.2)):=hc w1 (R.below eo)
 have fz:=aa R.nN
 have uf:=aa eo
 clear R eo jx oG hc
 unfold gi ia at cf
 unfold jD
 go_enter func64,ntmps64
 go_wp2_with (go_at_call 84;(with_reducible refine hcc.out.mono ?_);rintro e w2 ⟨LU,N3,N4,rfl,R2,nj,pk,po⟩;obtain ⟨W7,WZ,AR⟩:=aE R2.recs;subst AR;obtain ⟨ID,IC,rn⟩:=aE R2.wait;subst rn;obtain ⟨W8,W4,AU⟩:=aE R2.back;subst AU;have uI:=aa ((nj.block _ (by rw [lr.out];omega) (fun e=>by have:=fz.out.1 _ e;omega) (fun e=>by have:=fz.out.2.2 _ e;omega)).trans sH.out);obtain ⟨⟨p0,p1,p2,p3,p4,p5,p6,p7⟩,s0,s1,s2,s3,s4,s5,s6,s7⟩:=aG (show w2.heap[w.heap.size+1+1]?=some (Obj.cells #[.int .i64 0,.int .i64 0,.int .i64 0,.int .i64 0,.slice none 0 0,.slice none 0 0,.slice none 0 0,.slice none 0 0] 63 (0,0)) from uI.out);have DD:=aa R2;have tY:=aa nj;have pk:=aa pk;have po:=aa po;unfold jD;clear R2 nj a0 a1 a2 a3 a4 a5 a6 a7 g0 g1 g2 cf)
 change bodyPost p_ f64 _ .ret _ (Of.b8 _ (w.heap.size+1+1) (.int .i64 (nl:Nat)) (.int .i64 O) (.int .i64 P) (.int .i64 q.1.clock) _ _ _ (.slice al bM cl))
 refine zB DD.out ((bg.bW uf.out).trans tY.out) (fun g hg e=>pk.out g (by rw [lr.out];omega) e) (fun g hg e=>po.out g (by rw [lr.out];omega) e) uI.out (by omega) ?_ ?_ ?_<;>rfl
theorem G0 {vw:M'} (R:bA B m vr vw vb w) (mP:∃a n c,vl=.slice a n c) (c:Int) {q:Rm × Bs} (hc:∀w',bA B m vr vw vb w'->d_ p_ 85 #[jD (nl:Nat) O P m.clock vr vw vb vl,.int .i64 c] w' (Done w' vr vb B q.1 (nl:Nat) O P vl q.2)):
 d_ p_ 64 #[jD (nl:Nat) O P m.clock vr vw vb vl,.agg #[.string ⟨#[104,97,110,103]⟩,.int .i64 c,.int .i64 0]] w (Done w vr vb B q.1 (nl:Nat) O P vl q.2):=by
 obtain ⟨al,bM,cl,rfl⟩:=mP
 obtain ⟨ab,cb,oK⟩:=aE R.back
 subst oK
 obtain ⟨ar,cr,ql⟩:=aE R.recs
 subst ql
 obtain ⟨gw,cw,qG,KC,yN⟩:=fV R.wait R.iQ
 subst qG
 obtain ⟨w1,cf⟩:∃w1,((w.alloc (.cells (gi (nl:Nat) O P m.clock (.slice ar m.recs.length cr) (.slice (some ⟨gw,0,none⟩) m.wait.length cw) (.slice ab m.back.length cb) (.slice al bM cl)) 63)).alloc (.cells #[.string ⟨#[104,97,110,103]⟩,.int .i64 c,.int .i64 0] 55)).alloc (.cells ia 63)=w1:=⟨_,rfl⟩
 have lr:f_ (w1.heap.size=w.heap.size+3):=by rw [f_,<-cf,B_,B_,B_]
 have eo:g_ w.heap.size w w1:=by rw [<-cf];exact (((h_ _ _).alloc (C_ _) _).alloc (by rw [B_];omega) _).alloc (by rw [B_,B_];omega) _
 have jx:w1.heap[w.heap.size]?=some (.cells (gi (nl:Nat) O P m.clock (.slice ar m.recs.length cr) (.slice (some ⟨gw,0,none⟩) m.wait.length cw) (.slice ab m.back.length cb) (.slice al bM cl)) 63 (0,0)):=by rw [<-cf];exact br (br (Z' w _))
 have oG:w1.heap[w.heap.size+1]?=some (.cells #[.string ⟨#[104,97,110,103]⟩,.int .i64 c,.int .i64 0] 55 (0,0)):=by
  have:=Z' (w.alloc (.cells (gi (nl:Nat) O P m.clock (.slice ar m.recs.length cr) (.slice (some ⟨gw,0,none⟩) m.wait.length cw) (.slice ab m.back.length cb) (.slice al bM cl)) 63)) (.cells #[.string ⟨#[104,97,110,103]⟩,.int .i64 c,.int .i64 0] 55)
  rw [B_] at this
  rw [<-cf];exact br this
 have sH:f_ (w1.heap[w.heap.size+1+1]?=some (.cells ia 63 (0,0))):=by
  have:=Z' ((w.alloc (.cells (gi (nl:Nat) O P m.clock (.slice ar m.recs.length cr) (.slice (some ⟨gw,0,none⟩) m.wait.length cw) (.slice ab m.back.length cb) (.slice al bM cl)) 63)).alloc (.cells #[.string ⟨#[104,97,110,103]⟩,.int .i64 c,.int .i64 0] 55)) (.cells ia 63)
  rw [B_,B_,cf] at this
  exact this
 obtain ⟨⟨a0,a1,a2,a3,a4,a5,a6,a7⟩,_⟩:=aG jx
 have g0:w1.cell? ⟨w.heap.size+1,0,none⟩=some (.string ⟨#[104,97,110,103]⟩):=aB oG
 have g1:w1.cell? ⟨w.heap.size+1,1,none⟩=some (.int .i64 c):=aB oG
 have g2:w1.cell? ⟨w.heap.size+1,2,none⟩=some (.int .i64 0):=aB oG
 have hcc:f_ (d_ p_ 85 #[.agg #[.int .i64 (nl:Nat),.int .i64 O,.int .i64 P,.int .i64 m.clock,.slice ar m.recs.length cr,.slice (some ⟨gw,0,none⟩) m.wait.length cw,.slice ab m.back.length cb,.slice al bM cl],.int .i64 c] w1 (Done w1 (.slice ar m.recs.length cr) (.slice ab m.back.length cb) B q.1 (nl:Nat) O P (.slice al bM cl) q.2)):=hc w1 (R.below eo)
 have fz:=aa R.nN
 have uf:=aa eo
 clear R eo jx oG hc
 unfold gi ia at cf
 unfold jD
 go_enter func64,ntmps64
 go_wp2_with (go_at_call 85;(with_reducible refine hcc.out.mono ?_);rintro e w2 ⟨LU,N3,N4,rfl,R2,nj,pk,po⟩;obtain ⟨W7,WZ,AR⟩:=aE R2.recs;subst AR;obtain ⟨ID,IC,rn⟩:=aE R2.wait;subst rn;obtain ⟨W8,W4,AU⟩:=aE R2.back;subst AU;have uI:=aa ((nj.block _ (by rw [lr.out];omega) (fun e=>by have:=fz.out.1 _ e;omega) (fun e=>by have:=fz.out.2.2 _ e;omega)).trans sH.out);obtain ⟨⟨p0,p1,p2,p3,p4,p5,p6,p7⟩,s0,s1,s2,s3,s4,s5,s6,s7⟩:=aG (show w2.heap[w.heap.size+1+1]?=some (Obj.cells #[.int .i64 0,.int .i64 0,.int .i64 0,.int .i64 0,.slice none 0 0,.slice none 0 0,.slice none 0 0,.slice none 0 0] 63 (0,0)) from uI.out);have DD:=aa R2;have tY:=aa nj;have pk:=aa pk;have po:=aa po;unfold jD;clear R2 nj a0 a1 a2 a3 a4 a5 a6 a7 g0 g1 g2 cf)
 change bodyPost p_ f64 _ .ret _ (Of.b8 _ (w.heap.size+1+1) (.int .i64 (nl:Nat)) (.int .i64 O) (.int .i64 P) (.int .i64 q.1.clock) _ _ _ (.slice al bM cl))
 refine zB DD.out ((bg.bW uf.out).trans tY.out) (fun g hg e=>pk.out g (by rw [lr.out];omega) e) (fun g hg e=>po.out g (by rw [lr.out];omega) e) uI.out (by omega) ?_ ?_ ?_<;>rfl
theorem GY {vw:M'} (R:bA B m vr vw vb w) (mP:∃a n c,vl=.slice a n c) (c:Int) {q:Rm × Bs} (hc:∀w',bA B m vr vw vb w'->d_ p_ 86 #[jD (nl:Nat) O P m.clock vr vw vb vl,.int .i64 c] w' (Done w' vr vb B q.1 (nl:Nat) O P vl q.2)):
 d_ p_ 64 #[jD (nl:Nat) O P m.clock vr vw vb vl,.agg #[.string ⟨#[119,97,105,116]⟩,.int .i64 c,.int .i64 0]] w (Done w vr vb B q.1 (nl:Nat) O P vl q.2):=by
 obtain ⟨al,bM,cl,rfl⟩:=mP
 obtain ⟨ab,cb,oK⟩:=aE R.back
 subst oK
 obtain ⟨ar,cr,ql⟩:=aE R.recs
 subst ql
 obtain ⟨gw,cw,qG,KC,yN⟩:=fV R.wait R.iQ
 subst qG
 obtain ⟨w1,cf⟩:∃w1,((w.alloc (.cells (gi (nl:Nat) O P m.clock (.slice ar m.recs.length cr) (.slice (some ⟨gw,0,none⟩) m.wait.length cw) (.slice ab m.back.length cb) (.slice al bM cl)) 63)).alloc (.cells #[.string ⟨#[119,97,105,116]⟩,.int .i64 c,.int .i64 0] 55)).alloc (.cells ia 63)=w1:=⟨_,rfl⟩
 have lr:f_ (w1.heap.size=w.heap.size+3):=by rw [f_,<-cf,B_,B_,B_]
 have eo:g_ w.heap.size w w1:=by rw [<-cf];exact (((h_ _ _).alloc (C_ _) _).alloc (by rw [B_];omega) _).alloc (by rw [B_,B_];omega) _
 have jx:w1.heap[w.heap.size]?=some (.cells (gi (nl:Nat) O P m.clock (.slice ar m.recs.length cr) (.slice (some ⟨gw,0,none⟩) m.wait.length cw) (.slice ab m.back.length cb) (.slice al bM cl)) 63 (0,0)):=by rw [<-cf];exact br (br (Z' w _))
 have oG:w1.heap[w.heap.size+1]?=some (.cells #[.string ⟨#[119,97,105,116]⟩,.int .i64 c,.int .i64 0] 55 (0,0)):=by
  have:=Z' (w.alloc (.cells (gi (nl:Nat) O P m.clock (.slice ar m.recs.length cr) (.slice (some ⟨gw,0,none⟩) m.wait.length cw) (.slice ab m.back.length cb) (.slice al bM cl)) 63)) (.cells #[.string ⟨#[119,97,105,116]⟩,.int .i64 c,.int .i64 0] 55)
  rw [B_] at this
  rw [<-cf];exact br this
 have sH:f_ (w1.heap[w.heap.size+1+1]?=some (.cells ia 63 (0,0))):=by
  have:=Z' ((w.alloc (.cells (gi (nl:Nat) O P m.clock (.slice ar m.recs.length cr) (.slice (some ⟨gw,0,none⟩) m.wait.length cw) (.slice ab m.back.length cb) (.slice al bM cl)) 63)).alloc (.cells #[.string ⟨#[119,97,105,116]⟩,.int .i64 c,.int .i64 0] 55)) (.cells ia 63)
  rw [B_,B_,cf] at this
  exact this
 obtain ⟨⟨a0,a1,a2,a3,a4,a5,a6,a7⟩,_⟩:=aG jx
 have g0:w1.cell? ⟨w.heap.size+1,0,none⟩=some (.string ⟨#[119,97,105,116]⟩):=aB oG
 have g1:w1.cell? ⟨w.heap.size+1,1,none⟩=some (.int .i64 c):=aB oG
 have g2:w1.cell? ⟨w.heap.size+1,2,none⟩=some (.int .i64 0):=aB oG
 have hcc:f_ (d_ p_ 86 #[.agg #[.int .i64 (nl:Nat),.int .i64 O,.int .i64 P,.int .i64 m.clock,.slice ar m.recs.length cr,.slice (some ⟨gw,0,none⟩) m.wait.length cw,.slice ab m.back.length cb,.slice al bM cl],.int .i64 c] w1 (Done w1 (.slice ar m.recs.length cr) (.slice ab m.back.length cb) B q.1 (nl:Nat) O P (.slice al bM cl) q.2)):=hc w1 (R.below eo)
 have fz:=aa R.nN
 have uf:=aa eo
 clear R eo jx oG hc
 unfold gi ia at cf
 unfold jD
 go_enter func64,ntmps64
 go_wp2_with (go_at_call 86;(with_reducible refine hcc.out.mono ?_);rintro e w2 ⟨LU,N3,N4,rfl,R2,nj,pk,po⟩;obtain ⟨W7,WZ,AR⟩:=aE R2.recs;subst AR;obtain ⟨ID,IC,rn⟩:=aE R2.wait;subst rn;obtain ⟨W8,W4,AU⟩:=aE R2.back;subst AU;have uI:=aa ((nj.block _ (by rw [lr.out];omega) (fun e=>by have:=fz.out.1 _ e;omega) (fun e=>by have:=fz.out.2.2 _ e;omega)).trans sH.out);obtain ⟨⟨p0,p1,p2,p3,p4,p5,p6,p7⟩,s0,s1,s2,s3,s4,s5,s6,s7⟩:=aG (show w2.heap[w.heap.size+1+1]?=some (Obj.cells #[.int .i64 0,.int .i64 0,.int .i64 0,.int .i64 0,.slice none 0 0,.slice none 0 0,.slice none 0 0,.slice none 0 0] 63 (0,0)) from uI.out);have DD:=aa R2;have tY:=aa nj;have pk:=aa pk;have po:=aa po;unfold jD;clear R2 nj a0 a1 a2 a3 a4 a5 a6 a7 g0 g1 g2 cf)
 change bodyPost p_ f64 _ .ret _ (Of.b8 _ (w.heap.size+1+1) (.int .i64 (nl:Nat)) (.int .i64 O) (.int .i64 P) (.int .i64 q.1.clock) _ _ _ (.slice al bM cl))
 refine zB DD.out ((bg.bW uf.out).trans tY.out) (fun g hg e=>pk.out g (by rw [lr.out];omega) e) (fun g hg e=>po.out g (by rw [lr.out];omega) e) uI.out (by omega) ?_ ?_ ?_<;>rfl
structure Xf (nl:Nat) (m:Rm):Prop where
 n1:m.recs.length<=100
 n2:m.wait.length<=100
 n3:m.back.length<=100
 n4:nl<=100
 ck:0<=m.clock/\m.clock<=1000000
 fr:∀(i:Nat) (r:Rec),m.recs[i]?=some r->0<=r.jy/\r.jy<=m.clock
 op:∀p∈m.wait,(1<=p.1/\p.1<=1000000)/\∃i,dE m.recs p.1=some i
 nd:(m.wait.map (·.1)).Nodup
 bk:∀p∈m.back,1<=p.1/\p.1<=1000000
variable {no:Nat}
theorem okM {n:Nat} {S:Hs} {us:List Od} (h:Rel nl no n S us m) (hn:n<=60) (rp:nl<=100):Xf nl m:=by
 have:=h.n1
 have:=h.n2
 have:=h.n4
 have:=h.cl
 refine ⟨by omega,by omega,by omega,rp,⟨by omega,by omega⟩,h.jy,fun p hp=> ?_,h.w0,fun p hp=> ?_⟩
 ·obtain ⟨i,r,h1,h2,h3⟩:=h.w1 p hp
  obtain ⟨_,_,h4⟩:=h.good.G8 i r h1.1
  exact ⟨by omega,i,kX h.good h1 h2⟩
 ·have:=h.b2 p hp;omega
theorem Ex {vw:M'} (R:bA B m vr vw vb w) (cK:Xf nl m) (mP:∃a n c,vl=.slice a n c) (e:Ev) (he:e.good no):
 d_ p_ 64 #[jD (nl:Nat) O P m.clock vr vw vb vl,e.raw.val] w (Done w vr vb B (qy nl P m e).1 (nl:Nat) O P vl (qy nl P m e).2):=by
 cases e with
 |ring c pt=>exact GZ R mP c pt fun w' R'=>Cy R' cK.n1 cK.n2 cK.n3 cK.n4 cK.ck mP c pt
 |answer i=>exact B5 R mP _ fun w' R'=>yC R' cK.n1 cK.n2 cK.n3 cK.ck mP cK.op _
 |back i=>exact G2 R mP _ fun w' R'=>yB R' cK.n1 cK.n2 cK.n3 cK.n4 mP cK.bk _
 |hang c=>exact G0 R mP c fun w' R'=>Cz R' cK.n1 cK.n2 cK.n3 mP c
 |wait n=>
  have hg:0<=n/\n<=1000000:=by have:=he;unfold Ev.good at this;omega
  exact GY R mP n fun w' R'=>Cx R' cK.n1 cK.n2 cK.n3 mP cK.fr cK.op cK.nd n ⟨cK.ck,hg⟩
noncomputable def Bt:Code:=f42.body.getD .skip
noncomputable def R42:Code:=match ai 4 Bt with| .seq _ (.block _ (.loop (.seq _ (.seq (.block _ (.seq c _)) _))))=>c|c=>c
structure Q42 where
 ar:Option z_
 aw:Option z_
 ab:Option z_
 cr:Nat
 cw:Nat
 cb:Nat
 g:Nat
structure GF (w1:World) (B:Nat) (Wc We:M') (m:Rm) (vr vw vb:M') (w:World):Prop where
 room:bA B m vr vw vb w
 fr:bg Wc We w1 w
 rr:∀g,g<w1.heap.size->vr.ownBlock=some g->Wc.ownBlock=some g
 rb:∀g,g<w1.heap.size->vb.ownBlock=some g->We.ownBlock=some g
structure NT (w1:World) (B nl:Nat) (O P:Int) (ar aw ab al:Option z_) (nr cr nw cw nb cb bM cl:Nat) (q:Rm × Bs) (D:Array Bool) (x:Q42) (w:World):Prop where
 o5:D.getD 5 false=true->D.getD 0 false=true/\D.getD 4 false=true
 o6:D.getD 6 false=true->D.getD 5 false=true
 o7:D.getD 7 false=true->D.getD 5 false=true
 Yy:D.getD 10 false=true->D.getD 5 false=true/\D.getD 9 false=true
 a:D.getD 5 false=false->D.getD 9 false=false->w=w1
 b:D.getD 5 false=false->D.getD 9 false=true->w=w1.alloc (.cells ia 63)/\x.g=w1.heap.size
 c:D.getD 5 false=true->D.getD 10 false=false->GF w1 B (.slice ar nr cr) (.slice ab nb cb) q.1 (.slice x.ar q.1.recs.length x.cr) (.slice x.aw q.1.wait.length x.cw) (.slice x.ab q.1.back.length x.cb) w
 c9:D.getD 5 false=true->D.getD 9 false=true->D.getD 10 false=false->w.heap[x.g]?=some (.cells ia 63 (0,0))/\w1.heap.size<=x.g
 d:D.getD 10 false=true->∃w5,GF w1 B (.slice ar nr cr) (.slice ab nb cb) q.1 (.slice x.ar q.1.recs.length x.cr) (.slice x.aw q.1.wait.length x.cw) (.slice x.ab q.1.back.length x.cb) w5/\w5.heap[x.g]?=some (.cells ia 63 (0,0))/\w1.heap.size<=x.g/\w=Of.b8 w5 x.g (.int .i64 (nl:Nat)) (.int .i64 O) (.int .i64 P) (.int .i64 q.1.clock) (.slice x.ar q.1.recs.length x.cr) (.slice x.aw q.1.wait.length x.cw) (.slice x.ab q.1.back.length x.cb) (.slice al bM cl)
variable {w1:World} {ar aw ab al:Option z_} {nr cr nw cw nb cb bM cl i:Nat} {D D':Array Bool}
theorem NT.same {q:Rm × Bs} {x:Q42} (h:NT w1 B nl O P ar aw ab al nr cr nw cw nb cb bM cl q D x w) (qn:∀j,j≠i->D'.getD j false=D.getD j false) (qi:D'.getD i false=true) (hi:i∉[5,9,10]) (h6:i=6->D.getD 5 false=true) (h7:i=7->D.getD 5 false=true):NT w1 B nl O P ar aw ab al nr cr nw cw nb cb bM cl q D' x w:=by
 have e5:=qn 5 (fun e=>hi (by simp [<-e]))
 have e9:=qn 9 (fun e=>hi (by simp [<-e]))
 have ow:=qn 10 (fun e=>hi (by simp [<-e]))
 have mo:∀j,D.getD j false=true->D'.getD j false=true:=fun j hj=>by
  by_cases e:j=i
  ·subst e;exact qi
  ·rw [qn j e];exact hj
 refine ⟨by rw [e5];exact fun h1=>⟨mo _ (h.o5 h1).1,mo _ (h.o5 h1).2⟩, ?_, ?_,by rw [ow,e5,e9];exact h.Yy,by rw [e5,e9];exact h.a,by rw [e5,e9];exact h.b,by rw [e5,ow];exact h.c,by rw [e5,e9,ow];exact h.c9,by rw [ow];exact h.d⟩
 ·rw [e5]
  by_cases e:(6:Nat)=i
  ·exact fun _=>h6 e.symm
  ·rw [qn 6 e];exact h.o6
 ·rw [e5]
  by_cases e:(7:Nat)=i
  ·exact fun _=>h7 e.symm
  ·rw [qn 7 e];exact h.o7
def zS (b6 eb n ec k:Nat) (r:Raw) (nl:Nat) (O P ck:Int) (ar aw ab al:Option z_) (nr cr nw cw nb cb bM cl:Nat) (q:Rm × Bs) (x:Q42):Nat->M'
 |0=>.agg #[.int .i64 (nl:Nat),.int .i64 O,.int .i64 P,.int .i64 ck,.slice ar nr cr,.slice aw nw cw,.slice ab nb cb,.slice al bM cl]
 |1=>.slice (some ⟨eb,0,none⟩) n ec
 |2=>.int .i64 (k:Nat)
 |3=>.pointer (some ⟨eb,k * 3,none⟩)
 |4=>.agg #[.string r.kind,.int .i64 r.who,.int .i64 r.word]
 |5=>.tuple #[.agg #[.int .i64 (nl:Nat),.int .i64 O,.int .i64 P,.int .i64 q.1.clock,.slice x.ar q.1.recs.length x.cr,.slice x.aw q.1.wait.length x.cw,.slice x.ab q.1.back.length x.cb,.slice al bM cl],.string ⟨q.2.toArray⟩]
 |6=>.tuple #[.agg #[.int .i64 (nl:Nat),.int .i64 O,.int .i64 P,.int .i64 q.1.clock,.slice x.ar q.1.recs.length x.cr,.slice x.aw q.1.wait.length x.cw,.slice x.ab q.1.back.length x.cb,.slice al bM cl],.string ⟨q.2.toArray⟩]
 |7=>.agg #[.int .i64 (nl:Nat),.int .i64 O,.int .i64 P,.int .i64 q.1.clock,.slice x.ar q.1.recs.length x.cr,.slice x.aw q.1.wait.length x.cw,.slice x.ab q.1.back.length x.cb,.slice al bM cl]
 |8=>.string ⟨q.2.toArray⟩
 |9=>.pointer (some ⟨x.g,0,none⟩)
 |11=>.string ⟨q.2.toArray⟩
 |_=>undef
variable {eb ec k:Nat} {z0 z3 z4 z5 z9 dB cZ de dn dm dk dj dA dz dD dC dM dQ dK dP dO dV ey ew eu eK eJ eI eH eQ eN en iu iF iE iD iC iB nv nu np nk:M'} {Q:Exit->Act->World->Prop}
theorem Tj {ck:Int} {q:Rm × Bs} {b6 n:Nat} {r:Raw} (hR:bA B m (.slice ar nr cr) (.slice aw nw cw) (.slice ab nb cb) w) (lF:w.heap[b6]?=some (.cells #[.int .i64 (nl:Nat),.int .i64 O,.int .i64 P,.int .i64 ck,.slice ar nr cr,.slice aw nw cw,.slice ab nb cb,.slice al bM cl] 63 (0,0))) (s0:w.cell? ⟨eb,k * 3,none⟩=some (.string r.kind)) (s1:w.cell? ⟨eb,k * 3+1,none⟩=some (.int .i64 r.who)) (s2:w.cell? ⟨eb,k * 3+2,none⟩=some (.int .i64 r.word)) (hkn:k<n) (hn:n<=1000000) (jX:∀w',bA B m (.slice ar nr cr) (.slice aw nw cw) (.slice ab nb cb) w'->d_ p_ 64 #[.agg #[.int .i64 (nl:Nat),.int .i64 O,.int .i64 P,.int .i64 ck,.slice ar nr cr,.slice aw nw cw,.slice ab nb cb,.slice al bM cl],.agg #[.string r.kind,.int .i64 r.who,.int .i64 r.word]] w' (Done w' (.slice ar nr cr) (.slice ab nb cb) B q.1 (nl:Nat) O P (.slice al bM cl) q.2)) {z2 z7 z12 z20 z21 z22 z23 z24 z25 z26 z28 z31 z37 z40 z46 z49 z51 z53 z59:M'}
 (hQ:∀w5 DN DL DT DI DG DJ g5 (Oj Oi Oh Ju Jt Js Ol Jr Jq:M'),GF w B (.slice ar nr cr) (.slice ab nb cb) q.1 (.slice DN q.1.recs.length DI) (.slice DL q.1.wait.length DG) (.slice DT q.1.back.length DJ) w5->w5.heap[g5]?=some (.cells ia 63 (0,0))->w.heap.size<=g5->Q .normal ⟨#[z0,.slice (some ⟨eb,0,none⟩) n ec,z2,z3,z4,z5,.pointer (some ⟨b6,0,none⟩),z7,.int .i64 (k:Nat),.pointer (some ⟨g5,0,none⟩),.string ⟨q.2.toArray⟩,cZ,z12,de,dn,dm,dk,dj,dA,dz,z20,z21,z22,z23,z24,z25,z26,dD,z28,dC,dM,z31,dQ,dK,dP,dO,dV,z37,ey,ew,z40,eu,eK,eJ,eI,eH,z46,Ol,Oj,Oi,Oh,Ju,Jt,Js,Jr,Jq,iD,iC,iB,z59,nv,nu,np,nk],[]⟩ (Of.b8 w5 g5 (.int .i64 (nl:Nat)) (.int .i64 O) (.int .i64 P) (.int .i64 q.1.clock) (.slice DN q.1.recs.length DI) (.slice DL q.1.wait.length DG) (.slice DT q.1.back.length DJ) (.slice al bM cl))):
 Code.wp p_ R42 Q ⟨#[z0,.slice (some ⟨eb,0,none⟩) n ec,z2,z3,z4,z5,.pointer (some ⟨b6,0,none⟩),z7,.int .i64 (k:Nat),z9,dB,cZ,z12,de,dn,dm,dk,dj,dA,dz,z20,z21,z22,z23,z24,z25,z26,dD,z28,dC,dM,z31,dQ,dK,dP,dO,dV,z37,ey,ew,z40,eu,eK,eJ,eI,eH,z46,eQ,eN,z49,en,z51,iu,z53,iF,iE,iD,iC,iB,z59,nv,nu,np,nk],[]⟩ w:=by
 have UH:(k:Int)<(n:Int):=by omega
 replace hR:=aa hR.drew
 replace jX:=aa jX
 obtain ⟨w1,cf⟩:∃w1,w.drew=w1:=⟨_,rfl⟩
 have YI:f_ (w1.heap.size=w.heap.size):=by rw [<-cf];rfl
 have EE:f_ (bg (.slice ar nr cr) (.slice ab nb cb) w w1):=by rw [<-cf];exact bg.drew
 replace s0:w1.cell? ⟨eb,k * 3,none⟩=some (.string r.kind):=by rw [<-cf];exact s0
 replace s1:w1.cell? ⟨eb,k * 3+1,none⟩=some (.int .i64 r.who):=by rw [<-cf];exact s1
 replace s2:w1.cell? ⟨eb,k * 3+2,none⟩=some (.int .i64 r.word):=by rw [<-cf];exact s2
 replace lF:w1.heap[b6]?=some (.cells #[.int .i64 (nl:Nat),.int .i64 O,.int .i64 P,.int .i64 ck,.slice ar nr cr,.slice aw nw cw,.slice ab nb cb,.slice al bM cl] 63 (0,0)):=by rw [<-cf];exact lF
 obtain ⟨⟨r0,r1,r2,r3,r4,r5,r6,r7⟩,_⟩:=aG lF
 rw [cf] at hR
 clear lF
 generalize cn:(#[z0,.slice (some ⟨eb,0,none⟩) n ec,z2,z3,z4,z5,.pointer (some ⟨b6,0,none⟩),z7,.int .i64 (k:Nat),z9,dB,cZ,z12,de,dn,dm,dk,dj,dA,dz,z20,z21,z22,z23,z24,z25,z26,dD,z28,dC,dM,z31,dQ,dK,dP,dO,dV,z37,ey,ew,z40,eu,eK,eJ,eI,eH,z46,eQ,eN,z49,en,z51,iu,z53,iF,iE,iD,iC,iB,z59,nv,nu,np,nk]:Array M')=bs
 have oq:bs.size=64:=by rw [<-cn];rfl
 have HI:∀t,bs.getD t undef=(#[z0,.slice (some ⟨eb,0,none⟩) n ec,z2,z3,z4,z5,.pointer (some ⟨b6,0,none⟩),z7,.int .i64 (k:Nat),z9,dB,cZ,z12,de,dn,dm,dk,dj,dA,dz,z20,z21,z22,z23,z24,z25,z26,dD,z28,dC,dM,z31,dQ,dK,dP,dO,dV,z37,ey,ew,z40,eu,eK,eJ,eI,eH,z46,eQ,eN,z49,en,z51,iu,z53,iF,iE,iD,iC,iB,z59,nv,nu,np,nk]:Array M').getD t undef:=fun t=>by rw [cn]
 simp only [R42,ai,Bt,f42,Option.getD_some]
 refine mz (by kernel_rfl) (kP:=⟨none,none,none,0,0,0,0⟩) (base:=bs) (by rw [oq];kernel_rfl) (by kernel_rfl) (fun x=>zS b6 eb n ec k r nl O P ck ar aw ab al nr cr nw cw nb cb bM cl q x) (NT w1 B nl O P ar aw ab al nr cr nw cw nb cb bM cl q)
  (by
   have hf:∀j,(F_ 12 false).getD j false=false:=fun j=>by simp [Array.getD]
   have hx:∀{j:Nat} {p:Prop},(F_ 12 false).getD j false=true->p:=fun {j p} h=>by rw [hf] at h;cases h
   exact ⟨fun h=>hx h,fun h=>hx h,fun h=>hx h,fun h=>hx h,fun _ _=>cf,fun _ h=>hx h,fun h=>hx h,fun h=>hx h,fun h=>hx h⟩) ?_ ?_
 ·intro i o' ho D x w a hD bc hw bH aD K k
  have hlt:i<12:=(cI ho)
  have Gl:∀t,t<64->t<bs.size:=fun t ht=>by rw [oq];exact ht
  have qi:(D.setIfInBounds i true).getD i false=true:=by rw [bq,if_pos ⟨rfl,by rw [hD];exact hlt⟩]
  have qn:∀j,j≠i->(D.setIfInBounds i true).getD j false=D.getD j false:=fun j hj=>by rw [bq,if_neg fun e=>hj e.1.symm]
  have aA:=aa k
  clear k
  obtain rfl|rfl|rfl|rfl|rfl|rfl|rfl|rfl|rfl|rfl|rfl|rfl:i=0\/i=1\/i=2\/i=3\/i=4\/i=5\/i=6\/i=7\/i=8\/i=9\/i=10\/i=11:=by omega
  ·obtain rfl:=so ho rfl
   obtain ⟨v6,w6⟩:=bc.oo (.pointer (some ⟨b6,0,none⟩)) 6
   clear aD ho
   have h5:D.getD 5 false=false:=by
    cases hx:D.getD 5 false with
    |false=>rfl
    |true=>rw [(hw.o5 hx).1] at bH;cases bH
   have hcell:∀j v,w1.cell? ⟨b6,j,none⟩=some v->w.cell? ⟨b6,j,none⟩=some v:=fun j v hv=>by
    cases hb:D.getD 9 false with
    |false=>rw [hw.a h5 hb];exact hv
    |true=>rw [(hw.b h5 hb).1];exact (N_ w1 _ none).cell hv (by simp)
   replace r0:=hcell _ _ r0
   replace r1:=hcell _ _ r1
   replace r2:=hcell _ _ r2
   replace r3:=hcell _ _ r3
   replace r4:=hcell _ _ r4
   replace r5:=hcell _ _ r5
   replace r6:=hcell _ _ r6
   replace r7:=hcell _ _ r7
   clear hcell h5
   exact iY rfl (.agg #[.int .i64 (nl:Nat),.int .i64 O,.int .i64 P,.int .i64 ck,.slice ar nr cr,.slice aw nw cw,.slice ab nb cb,.slice al bM cl]) (aA.out x w (fun _ _=>rfl) (hw.same qn qi (by decide) (fun e=>absurd e (by decide)) (fun e=>absurd e (by decide))))
  ·obtain rfl:=so ho rfl
   obtain ⟨v1,w1⟩:=bc.oo (.slice (some ⟨eb,0,none⟩) n ec) 1
   clear aD ho
   exact iY rfl (.slice (some ⟨eb,0,none⟩) n ec) (aA.out x w (fun _ _=>rfl) (hw.same qn qi (by decide) (fun e=>absurd e (by decide)) (fun e=>absurd e (by decide))))
  ·obtain rfl:=so ho rfl
   obtain ⟨v8,w8⟩:=bc.oo (.int .i64 (k:Nat)) 8
   clear aD ho
   exact iY rfl (.int .i64 (k:Nat)) (aA.out x w (fun _ _=>rfl) (hw.same qn qi (by decide) (fun e=>absurd e (by decide)) (fun e=>absurd e (by decide))))
  ·obtain rfl:=so ho rfl
   obtain ⟨v49,Wa⟩:=bc.vv (.slice (some ⟨eb,0,none⟩) n ec) 49 1 (dq aD 1)
   obtain ⟨v50,w50⟩:=bc.vv (.int .i64 (k:Nat)) 50 2 (dq aD 2)
   clear aD ho
   exact iY rfl (.pointer (some ⟨eb,k * 3,none⟩)) (aA.out x w (fun _ _=>rfl) (hw.same qn qi (by decide) (fun e=>absurd e (by decide)) (fun e=>absurd e (by decide))))
  ·obtain rfl:=so ho rfl
   obtain ⟨v51,XP⟩:=bc.vv (.pointer (some ⟨eb,k * 3,none⟩)) 51 3 (dq aD 3)
   clear aD ho
   have h5:D.getD 5 false=false:=by
    cases hx:D.getD 5 false with
    |false=>rfl
    |true=>rw [(hw.o5 hx).2] at bH;cases bH
   have hcell:∀j v,w1.cell? ⟨eb,j,none⟩=some v->w.cell? ⟨eb,j,none⟩=some v:=fun j v hv=>by
    cases hb:D.getD 9 false with
    |false=>rw [hw.a h5 hb];exact hv
    |true=>rw [(hw.b h5 hb).1];exact (N_ w1 _ none).cell hv (by simp)
   replace s0:=hcell _ _ s0
   replace s1:=hcell _ _ s1
   replace s2:=hcell _ _ s2
   clear hcell h5
   exact iY rfl (.agg #[.string r.kind,.int .i64 r.who,.int .i64 r.word]) (aA.out x w (fun _ _=>rfl) (hw.same qn qi (by decide) (fun e=>absurd e (by decide)) (fun e=>absurd e (by decide))))
  ·obtain rfl:=so ho rfl
   have d0:=dq aD 0
   have d4:=dq aD 4
   obtain ⟨v48,Wb⟩:=bc.vv (.agg #[.int .i64 (nl:Nat),.int .i64 O,.int .i64 P,.int .i64 ck,.slice ar nr cr,.slice aw nw cw,.slice ab nb cb,.slice al bM cl]) 48 0 d0
   obtain ⟨v52,V9⟩:=bc.vv (.agg #[.string r.kind,.int .i64 r.who,.int .i64 r.word]) 52 4 d4
   clear aD ho
   have e0:=qn 0 (by decide)
   have e4:=qn 4 (by decide)
   have e5:=qi
   have e6:=qn 6 (by decide)
   have e7:=qn 7 (by decide)
   have e9:=qn 9 (by decide)
   have ow:=qn 10 (by decide)
   have O1:D.getD 10 false=false:=by
    cases hx:D.getD 10 false with
    |false=>rfl
    |true=>rw [(hw.Yy hx).1] at bH;cases bH
   have h6:D.getD 6 false=false:=by
    cases hx:D.getD 6 false with
    |false=>rfl
    |true=>rw [hw.o6 hx] at bH;cases bH
   have h7:D.getD 7 false=false:=by
    cases hx:D.getD 7 false with
    |false=>rfl
    |true=>rw [hw.o7 hx] at bH;cases bH
   have ZZ:bA B m (.slice ar nr cr) (.slice aw nw cw) (.slice ab nb cb) w:=by
    cases hb:D.getD 9 false with
    |false=>rw [hw.a bH hb];exact hR.out
    |true=>rw [(hw.b bH hb).1];exact hR.out.alloc _
   have WQ:bg (.slice ar nr cr) (.slice ab nb cb) w1 w:=by
    cases hb:D.getD 9 false with
    |false=>rw [hw.a bH hb];exact bg.refl _ _ _
    |true=>rw [(hw.b bH hb).1];exact bg.alloc _
   have hgz:D.getD 9 false=true->w.heap[x.g]?=some (.cells ia 63 (0,0))/\w1.heap.size<=x.g:=fun hb=>by
    obtain ⟨z1,z2⟩:=hw.b bH hb
    rw [z1,z2];exact ⟨Z' w1 _,C_ _⟩
   have fz:=hR.out.nN
   have sY:=jX.out w ZZ
   have hsz:=WQ.size
   unfold wpOp
   simp only [List.getElem?_toArray,List.getElem?_cons_succ,List.getElem?_cons_zero,Region.wanted,if_true,Option.isNone_none]
   left
   unfold Oper.wp
   simp only [execOp,resolve,invoke,Sem.run_bind,Sem.run_pure,Result.andThen_ok,List.map_toArray,List.map_cons,List.map_nil,v48,v52]
   refine (sY.mono ?_)
   rintro e w5 ⟨vr5,vw5,vb5,rfl,R5,F5,rr5,rb5⟩
   obtain ⟨DN,DI,M5⟩:=aE R5.recs
   subst M5
   obtain ⟨DL,DG,hv2⟩:=aE R5.wait
   subst hv2
   obtain ⟨DT,DJ,hv3⟩:=aE R5.back
   subst hv3
   refine aA.out ⟨DN,DL,DT,DI,DG,DJ,x.g⟩ w5 (fun j hj=>by
    have hne:j≠5:=fun e=>by rw [e,bH] at hj;cases hj
    unfold zS;split<;>first|rfl|exact absurd rfl hne|(rw [h6] at hj;cases hj)|(rw [h7] at hj;cases hj)) ⟨fun _=>by rw [e0,e4];exact ⟨d0,d4⟩,by rw [e6,h6];exact fun h=>(by cases h),by rw [e7,h7];exact fun h=>(by cases h),by rw [ow,O1];exact fun h=>(by cases h),by rw [e5];exact fun h=>(by cases h),by rw [e5];exact fun h=>(by cases h),fun _ _=>⟨R5,WQ.then F5 (fun _ _ h=>h) (fun _ _ h=>h),fun g hg h=>rr5 g (by omega) h,fun g hg h=>rb5 g (by omega) h⟩, ?_,by rw [ow,O1];exact fun h=>(by cases h)⟩
   rw [e9]
   intro _ hb _
   obtain ⟨y1,y2⟩:=hgz hb
   refine ⟨(F5.block _ (cI y1) (fun e=> ?_) (fun e=> ?_)).trans y1,y2⟩
   ·have:=fz.1 _ e;omega
   ·have:=fz.2.2 _ e;omega
  ·obtain rfl:=so ho rfl
   have d5:=dq aD 5
   obtain ⟨v53,XO⟩:=bc.vv (.tuple #[.agg #[.int .i64 (nl:Nat),.int .i64 O,.int .i64 P,.int .i64 q.1.clock,.slice x.ar q.1.recs.length x.cr,.slice x.aw q.1.wait.length x.cw,.slice x.ab q.1.back.length x.cb,.slice al bM cl],.string ⟨q.2.toArray⟩]) 53 5 d5
   clear aD ho
   have h5:=d5
   exact iY rfl (.tuple #[.agg #[.int .i64 (nl:Nat),.int .i64 O,.int .i64 P,.int .i64 q.1.clock,.slice x.ar q.1.recs.length x.cr,.slice x.aw q.1.wait.length x.cw,.slice x.ab q.1.back.length x.cb,.slice al bM cl],.string ⟨q.2.toArray⟩]) (aA.out x w (fun _ _=>rfl) (hw.same qn qi (by decide) (fun e=>h5) (fun e=>absurd e (by decide))))
  ·obtain rfl:=so ho rfl
   have d6:=dq aD 6
   obtain ⟨v47,LS⟩:=bc.vv (.tuple #[.agg #[.int .i64 (nl:Nat),.int .i64 O,.int .i64 P,.int .i64 q.1.clock,.slice x.ar q.1.recs.length x.cr,.slice x.aw q.1.wait.length x.cw,.slice x.ab q.1.back.length x.cb,.slice al bM cl],.string ⟨q.2.toArray⟩]) 47 6 d6
   clear aD ho
   have h5:=hw.o6 d6
   exact iY rfl (.agg #[.int .i64 (nl:Nat),.int .i64 O,.int .i64 P,.int .i64 q.1.clock,.slice x.ar q.1.recs.length x.cr,.slice x.aw q.1.wait.length x.cw,.slice x.ab q.1.back.length x.cb,.slice al bM cl]) (aA.out x w (fun _ _=>rfl) (hw.same qn qi (by decide) (fun e=>absurd e (by decide)) (fun e=>h5)))
  ·obtain rfl:=so ho rfl
   obtain ⟨v47,LS⟩:=bc.vv (.tuple #[.agg #[.int .i64 (nl:Nat),.int .i64 O,.int .i64 P,.int .i64 q.1.clock,.slice x.ar q.1.recs.length x.cr,.slice x.aw q.1.wait.length x.cw,.slice x.ab q.1.back.length x.cb,.slice al bM cl],.string ⟨q.2.toArray⟩]) 47 6 (dq aD 6)
   clear aD ho
   exact iY rfl (.string ⟨q.2.toArray⟩) (aA.out x w (fun _ _=>rfl) (hw.same qn qi (by decide) (fun e=>absurd e (by decide)) (fun e=>absurd e (by decide))))
  ·obtain rfl:=so ho rfl
   clear aD ho
   have e0:=qn 0 (by decide)
   have e4:=qn 4 (by decide)
   have e5:=qn 5 (by decide)
   have e6:=qn 6 (by decide)
   have e7:=qn 7 (by decide)
   have e9:=qi
   have ow:=qn 10 (by decide)
   have O1:D.getD 10 false=false:=by
    cases hx:D.getD 10 false with
    |false=>rfl
    |true=>rw [(hw.Yy hx).2] at bH;cases bH
   refine bj (v:=.pointer (some ⟨w.heap.size,0,none⟩)) (w':=w.alloc (.cells ia 63)) rfl rfl ?_ ?_
   ·clear bc hw aA bH qi qn e0 e4 e5 e6 e7 e9 ow
    unfold ia
    go_simp
   ·refine aA.out ⟨x.ar,x.aw,x.ab,x.cr,x.cw,x.cb,w.heap.size⟩ _ (fun j hj=>by
     have hne:j≠9:=fun e=>by rw [e,bH] at hj;cases hj
     unfold zS;split<;>first|rfl|exact absurd rfl hne) ⟨by rw [e5,e0,e4];exact hw.o5,by rw [e6,e5];exact hw.o6,by rw [e7,e5];exact hw.o7,by rw [ow,O1];exact fun h=>(by cases h),by rw [e9];exact fun _ h=>(by cases h), ?_, ?_, ?_,by rw [ow,O1];exact fun h=>(by cases h)⟩
    ·rw [e5];intro h5 _;rw [hw.a h5 bH];exact ⟨rfl,rfl⟩
    ·rw [e5,ow];intro h5 h0
     have p:=hw.c h5 h0
     exact ⟨p.room.alloc _,p.fr.trans (bg.alloc _),p.rr,p.rb⟩
    ·rw [e5,ow];intro h5 _ h0
     have p:=hw.c h5 h0
     exact ⟨Z' w _,p.fr.size⟩
  ·obtain rfl:=so ho rfl
   have d9:=dq aD 9
   have d7:=dq aD 7
   obtain ⟨v9,w9⟩:=bc.vv (.pointer (some ⟨x.g,0,none⟩)) 9 9 d9
   obtain ⟨v54,XN⟩:=bc.vv (.agg #[.int .i64 (nl:Nat),.int .i64 O,.int .i64 P,.int .i64 q.1.clock,.slice x.ar q.1.recs.length x.cr,.slice x.aw q.1.wait.length x.cw,.slice x.ab q.1.back.length x.cb,.slice al bM cl]) 54 7 d7
   clear aD ho
   have e0:=qn 0 (by decide)
   have e4:=qn 4 (by decide)
   have e5:=qn 5 (by decide)
   have e6:=qn 6 (by decide)
   have e7:=qn 7 (by decide)
   have e9:=qn 9 (by decide)
   have ow:=qi
   have d5:=hw.o7 d7
   have p:=hw.c d5 bH
   obtain ⟨y1,y2⟩:=hw.c9 d5 d9 bH
   obtain ⟨⟨p0,p1,p2,p3,p4,p5,p6,p7⟩,t0,t1,t2,t3,t4,t5,t6,t7⟩:=aG (show w.heap[x.g]?=some (Obj.cells #[.int .i64 0,.int .i64 0,.int .i64 0,.int .i64 0,.slice none 0 0,.slice none 0 0,.slice none 0 0,.slice none 0 0] 63 (0,0)) from y1)
   refine gQ (w':=Of.b8 w x.g (.int .i64 (nl:Nat)) (.int .i64 O) (.int .i64 P) (.int .i64 q.1.clock) (.slice x.ar q.1.recs.length x.cr) (.slice x.aw q.1.wait.length x.cw) (.slice x.ab q.1.back.length x.cb) (.slice al bM cl)) rfl rfl ?_ (aA.out x _ (fun _ _=>rfl) ⟨by rw [e5,e0,e4];exact hw.o5,by rw [e6,e5];exact hw.o6,by rw [e7,e5];exact hw.o7,fun _=>by rw [e5,e9];exact ⟨d5,d9⟩,by rw [e5,d5];exact fun h=>(by cases h),by rw [e5,d5];exact fun h=>(by cases h),by rw [ow];exact fun _ h=>(by cases h),by rw [ow];exact fun _ _ h=>(by cases h),fun _=>⟨w,p,y1,y2,rfl⟩⟩)
   clear bc hw aA bH qi qn e0 e4 e5 e6 e7 e9 ow p y1 y2
   unfold Of.b8
   go_simp
  ·obtain rfl:=so ho rfl
   obtain ⟨v55,XM⟩:=bc.vv (.string ⟨q.2.toArray⟩) 55 8 (dq aD 8)
   clear aD ho
   exact iY rfl (.string ⟨q.2.toArray⟩) (aA.out x w (fun _ _=>rfl) (hw.same qn qi (by decide) (fun e=>absurd e (by decide)) (fun e=>absurd e (by decide))))
 ·intro D x w hd hw
  obtain ⟨w5,hp,hz,hg,rfl⟩:=hw.d (hd 10 (by decide))
  obtain ⟨DN,DL,DT,DI,DG,DJ,g5⟩:=x
  simp only at hp hz hg
  have:=hQ w5 DN DL DT DI DG DJ g5 (.agg #[.int .i64 (nl:Nat),.int .i64 O,.int .i64 P,.int .i64 ck,.slice ar nr cr,.slice aw nw cw,.slice ab nb cb,.slice al bM cl]) (.slice (some ⟨eb,0,none⟩) n ec) (.int .i64 (k:Nat)) (.pointer (some ⟨eb,k * 3,none⟩)) (.agg #[.string r.kind,.int .i64 r.who,.int .i64 r.word]) (.tuple #[.agg #[.int .i64 (nl:Nat),.int .i64 O,.int .i64 P,.int .i64 q.1.clock,.slice DN q.1.recs.length DI,.slice DL q.1.wait.length DG,.slice DT q.1.back.length DJ,.slice al bM cl],.string ⟨q.2.toArray⟩]) (.tuple #[.agg #[.int .i64 (nl:Nat),.int .i64 O,.int .i64 P,.int .i64 q.1.clock,.slice DN q.1.recs.length DI,.slice DL q.1.wait.length DG,.slice DT q.1.back.length DJ,.slice al bM cl],.string ⟨q.2.toArray⟩]) (.agg #[.int .i64 (nl:Nat),.int .i64 O,.int .i64 P,.int .i64 q.1.clock,.slice DN q.1.recs.length DI,.slice DL q.1.wait.length DG,.slice DT q.1.back.length DJ,.slice al bM cl]) (.string ⟨q.2.toArray⟩) ⟨hp.room,EE.out.trans hp.fr,fun g h e=>hp.rr g (by rw [YI.out];exact h) e,fun g h e=>hp.rb g (by rw [YI.out];exact h) e⟩ hz (by rw [<-YI.out];exact hg)
  generalize bc:slotsOf _ bs (zS b6 eb n ec k r nl O P ck ar aw ab al nr cr nw cw nb cb bM cl q ⟨DN,DL,DT,DI,DG,DJ,g5⟩)=sl
  have eS:sl=#[z0,.slice (some ⟨eb,0,none⟩) n ec,z2,z3,z4,z5,.pointer (some ⟨b6,0,none⟩),z7,.int .i64 (k:Nat),.pointer (some ⟨g5,0,none⟩),.string ⟨q.2.toArray⟩,cZ,z12,de,dn,dm,dk,dj,dA,dz,z20,z21,z22,z23,z24,z25,z26,dD,z28,dC,dM,z31,dQ,dK,dP,dO,dV,z37,ey,ew,z40,eu,eK,eJ,eI,eH,z46,.tuple #[.agg #[.int .i64 (nl:Nat),.int .i64 O,.int .i64 P,.int .i64 q.1.clock,.slice DN q.1.recs.length DI,.slice DL q.1.wait.length DG,.slice DT q.1.back.length DJ,.slice al bM cl],.string ⟨q.2.toArray⟩],.agg #[.int .i64 (nl:Nat),.int .i64 O,.int .i64 P,.int .i64 ck,.slice ar nr cr,.slice aw nw cw,.slice ab nb cb,.slice al bM cl],.slice (some ⟨eb,0,none⟩) n ec,.int .i64 (k:Nat),.pointer (some ⟨eb,k * 3,none⟩),.agg #[.string r.kind,.int .i64 r.who,.int .i64 r.word],.tuple #[.agg #[.int .i64 (nl:Nat),.int .i64 O,.int .i64 P,.int .i64 q.1.clock,.slice DN q.1.recs.length DI,.slice DL q.1.wait.length DG,.slice DT q.1.back.length DJ,.slice al bM cl],.string ⟨q.2.toArray⟩],.agg #[.int .i64 (nl:Nat),.int .i64 O,.int .i64 P,.int .i64 q.1.clock,.slice DN q.1.recs.length DI,.slice DL q.1.wait.length DG,.slice DT q.1.back.length DJ,.slice al bM cl],.string ⟨q.2.toArray⟩,iD,iC,iB,z59,nv,nu,np,nk]:=by rw [<-bc,<-cn];kernel_rfl
  rw [eS]
  exact this
noncomputable def V3:Code:=match ai 3 Bt with| .seq _ (.block _ (.loop (.seq _ (.seq (.block _ (.seq c _)) _))))=>c|c=>c
structure Xc (w1:World) (r:Raw) (D:Array Bool) (_:Unit) (w:World):Prop where
 o:D.getD 6 false=true->D.getD 3 false=true/\D.getD 5 false=true
 a:D.getD 6 false=false->w=w1
 b:D.getD 6 false=true->w=w1.alloc (.cells #[.string r.kind,.int .i64 r.who,.int .i64 r.word] 55)
theorem Xc.same {r:Raw} {q:Unit} (h:Xc w1 r D q w) (qn:∀j,j≠i->D'.getD j false=D.getD j false) (qi:D'.getD i false=true) (hi:i∉[6]):Xc w1 r D' q w:=by
 have e6:=qn 6 (fun e=>hi (by simp [<-e]))
 have mo:∀j,D.getD j false=true->D'.getD j false=true:=fun j hj=>by
  by_cases e:j=i
  ·subst e;exact qi
  ·rw [qn j e];exact hj
 exact ⟨by rw [e6];exact fun h1=>⟨mo _ (h.o h1).1,mo _ (h.o h1).2⟩,by rw [e6];exact h.a,by rw [e6];exact h.b⟩
def Fz (eb n ec k b2:Nat) (r:Raw) (O:Int) (bb:Bool) (_:Unit):Nat->M'
 |0=>.slice (some ⟨eb,0,none⟩) n ec
 |1=>.int .i64 (k:Nat)
 |2=>.pointer (some ⟨eb,k * 3,none⟩)
 |3=>.agg #[.string r.kind,.int .i64 r.who,.int .i64 r.word]
 |4=>.pointer (some ⟨b2,1,none⟩)
 |5=>.int .i64 O
 |6=>.bool bb
 |7=>.bool (!bb)
 |_=>undef
theorem P4 {n b2:Nat} {r:Raw} {bb:Bool} (s0:w.cell? ⟨eb,k * 3,none⟩=some (.string r.kind)) (s1:w.cell? ⟨eb,k * 3+1,none⟩=some (.int .i64 r.who)) (s2:w.cell? ⟨eb,k * 3+2,none⟩=some (.int .i64 r.word)) (s3:w.cell? ⟨b2,1,none⟩=some (.int .i64 O)) (hkn:k<n) (hn:n<=1000000) (jX:∀w',d_ p_ 63 #[.agg #[.string r.kind,.int .i64 r.who,.int .i64 r.word],.int .i64 O] w' fun e SW=>e=.returned (.bool bb)/\SW=w'.alloc (.cells #[.string r.kind,.int .i64 r.who,.int .i64 r.word] 55)) {z6 z8 z12 z20 z21 z22 z23 z24 z25 z26 z28 z31 z37 z40 z46 z49 z51 z53 z59:M'}
 (hQ:∀w5 (Sn Sm q34 q35 TE TC Om:M'),g_ w.heap.size w w5->Q .normal ⟨#[z0,.slice (some ⟨eb,0,none⟩) n ec,.pointer (some ⟨b2,0,none⟩),z3,z4,z5,z6,.int .i64 (k:Nat),z8,z9,dB,cZ,z12,de,dn,dm,dk,dj,dA,dz,z20,z21,z22,z23,z24,z25,z26,dD,z28,dC,dM,z31,Sn,Sm,q34,q35,TE,TC,Om,.bool (!bb),z40,eu,eK,eJ,eI,eH,z46,eQ,eN,z49,en,z51,iu,z53,iF,iE,iD,iC,iB,z59,nv,nu,np,nk],[]⟩ w5):
 Code.wp p_ V3 Q ⟨#[z0,.slice (some ⟨eb,0,none⟩) n ec,.pointer (some ⟨b2,0,none⟩),z3,z4,z5,z6,.int .i64 (k:Nat),z8,z9,dB,cZ,z12,de,dn,dm,dk,dj,dA,dz,z20,z21,z22,z23,z24,z25,z26,dD,z28,dC,dM,z31,dQ,dK,dP,dO,dV,z37,ey,ew,z40,eu,eK,eJ,eI,eH,z46,eQ,eN,z49,en,z51,iu,z53,iF,iE,iD,iC,iB,z59,nv,nu,np,nk],[]⟩ w:=by
 have UH:(k:Int)<(n:Int):=by omega
 obtain ⟨w1,cf⟩:∃w1,w.drew=w1:=⟨_,rfl⟩
 have sD:f_ (g_ w.heap.size w (w1.alloc (.cells #[.string r.kind,.int .i64 r.who,.int .i64 r.word] 55))):=by rw [<-cf];exact ((h_ _ _).drew).alloc (C_ _) _
 replace s0:w1.cell? ⟨eb,k * 3,none⟩=some (.string r.kind):=by rw [<-cf];exact s0
 replace s1:w1.cell? ⟨eb,k * 3+1,none⟩=some (.int .i64 r.who):=by rw [<-cf];exact s1
 replace s2:w1.cell? ⟨eb,k * 3+2,none⟩=some (.int .i64 r.word):=by rw [<-cf];exact s2
 replace s3:w1.cell? ⟨b2,1,none⟩=some (.int .i64 O):=by rw [<-cf];exact s3
 generalize cn:(#[z0,.slice (some ⟨eb,0,none⟩) n ec,.pointer (some ⟨b2,0,none⟩),z3,z4,z5,z6,.int .i64 (k:Nat),z8,z9,dB,cZ,z12,de,dn,dm,dk,dj,dA,dz,z20,z21,z22,z23,z24,z25,z26,dD,z28,dC,dM,z31,dQ,dK,dP,dO,dV,z37,ey,ew,z40,eu,eK,eJ,eI,eH,z46,eQ,eN,z49,en,z51,iu,z53,iF,iE,iD,iC,iB,z59,nv,nu,np,nk]:Array M')=bs
 have oq:bs.size=64:=by rw [<-cn];rfl
 have HI:∀t,bs.getD t undef=(#[z0,.slice (some ⟨eb,0,none⟩) n ec,.pointer (some ⟨b2,0,none⟩),z3,z4,z5,z6,.int .i64 (k:Nat),z8,z9,dB,cZ,z12,de,dn,dm,dk,dj,dA,dz,z20,z21,z22,z23,z24,z25,z26,dD,z28,dC,dM,z31,dQ,dK,dP,dO,dV,z37,ey,ew,z40,eu,eK,eJ,eI,eH,z46,eQ,eN,z49,en,z51,iu,z53,iF,iE,iD,iC,iB,z59,nv,nu,np,nk]:Array M').getD t undef:=fun t=>by rw [cn]
 simp only [V3,ai,Bt,f42,Option.getD_some]
 refine mz (by kernel_rfl) (kP:=()) (base:=bs) (by rw [oq];kernel_rfl) (by kernel_rfl) (fun x=>Fz eb n ec k b2 r O bb x) (Xc w1 r)
  (by
   have hf:∀j,(F_ 8 false).getD j false=false:=fun j=>by simp [Array.getD]
   have hx:∀{j:Nat} {p:Prop},(F_ 8 false).getD j false=true->p:=fun {j p} h=>by rw [hf] at h;cases h
   exact ⟨fun h=>hx h,fun _=>cf,fun h=>hx h⟩) ?_ ?_
 ·intro i o' ho D x w a hD bc hw bH aD K k
  have hlt:i<8:=(cI ho)
  have Gl:∀t,t<64->t<bs.size:=fun t ht=>by rw [oq];exact ht
  have qi:(D.setIfInBounds i true).getD i false=true:=by rw [bq,if_pos ⟨rfl,by rw [hD];exact hlt⟩]
  have qn:∀j,j≠i->(D.setIfInBounds i true).getD j false=D.getD j false:=fun j hj=>by rw [bq,if_neg fun e=>hj e.1.symm]
  have aA:=aa k
  clear k
  obtain rfl|rfl|rfl|rfl|rfl|rfl|rfl|rfl:i=0\/i=1\/i=2\/i=3\/i=4\/i=5\/i=6\/i=7:=by omega
  ·obtain rfl:=so ho rfl
   obtain ⟨v1,w1⟩:=bc.oo (.slice (some ⟨eb,0,none⟩) n ec) 1
   clear aD ho
   exact iY rfl (.slice (some ⟨eb,0,none⟩) n ec) (aA.out x w (fun _ _=>rfl) (hw.same qn qi (by decide)))
  ·obtain rfl:=so ho rfl
   obtain ⟨v7,w7⟩:=bc.oo (.int .i64 (k:Nat)) 7
   clear aD ho
   exact iY rfl (.int .i64 (k:Nat)) (aA.out x w (fun _ _=>rfl) (hw.same qn qi (by decide)))
  ·obtain rfl:=so ho rfl
   obtain ⟨v32,w32⟩:=bc.vv (.slice (some ⟨eb,0,none⟩) n ec) 32 0 (dq aD 0)
   obtain ⟨v33,w33⟩:=bc.vv (.int .i64 (k:Nat)) 33 1 (dq aD 1)
   clear aD ho
   exact iY rfl (.pointer (some ⟨eb,k * 3,none⟩)) (aA.out x w (fun _ _=>rfl) (hw.same qn qi (by decide)))
  ·obtain rfl:=so ho rfl
   obtain ⟨v34,w34⟩:=bc.vv (.pointer (some ⟨eb,k * 3,none⟩)) 34 2 (dq aD 2)
   clear aD ho
   have h6:D.getD 6 false=false:=by
    cases hx:D.getD 6 false with
    |false=>rfl
    |true=>rw [(hw.o hx).1] at bH;cases bH
   obtain rfl:=hw.a h6
   exact iY rfl (.agg #[.string r.kind,.int .i64 r.who,.int .i64 r.word]) (aA.out x w (fun _ _=>rfl) (hw.same qn qi (by decide)))
  ·obtain rfl:=so ho rfl
   obtain ⟨v2,w2⟩:=bc.oo (.pointer (some ⟨b2,0,none⟩)) 2
   clear aD ho
   exact iY rfl (.pointer (some ⟨b2,1,none⟩)) (aA.out x w (fun _ _=>rfl) (hw.same qn qi (by decide)))
  ·obtain rfl:=so ho rfl
   obtain ⟨v36,w36⟩:=bc.vv (.pointer (some ⟨b2,1,none⟩)) 36 4 (dq aD 4)
   clear aD ho
   have h6:D.getD 6 false=false:=by
    cases hx:D.getD 6 false with
    |false=>rfl
    |true=>rw [(hw.o hx).2] at bH;cases bH
   obtain rfl:=hw.a h6
   exact iY rfl (.int .i64 O) (aA.out x w (fun _ _=>rfl) (hw.same qn qi (by decide)))
  ·obtain rfl:=so ho rfl
   have d3:=dq aD 3
   have d5:=dq aD 5
   obtain ⟨v35,w35⟩:=bc.vv (.agg #[.string r.kind,.int .i64 r.who,.int .i64 r.word]) 35 3 d3
   obtain ⟨v37,w37⟩:=bc.vv (.int .i64 O) 37 5 d5
   clear aD ho
   have e3:=qn 3 (by decide)
   have e5:=qn 5 (by decide)
   obtain rfl:=hw.a bH
   have sY:=jX w
   unfold wpOp
   simp only [List.getElem?_toArray,List.getElem?_cons_succ,List.getElem?_cons_zero,Region.wanted,if_true,Option.isNone_none]
   left
   unfold Oper.wp
   simp only [execOp,resolve,invoke,Sem.run_bind,Sem.run_pure,Result.andThen_ok,List.map_toArray,List.map_cons,List.map_nil,v35,v37]
   refine (sY.mono ?_)
   rintro e w5 ⟨rfl,rfl⟩
   exact aA.out x _ (fun _ _=>rfl) ⟨fun _=>by rw [e3,e5];exact ⟨d3,d5⟩,by rw [qi];exact fun h=>(by cases h),fun _=>rfl⟩
  ·obtain rfl:=so ho rfl
   obtain ⟨v38,XX⟩:=bc.vv (.bool bb) 38 6 (dq aD 6)
   clear aD ho
   exact iY rfl (.bool (!bb)) (aA.out x w (fun _ _=>rfl) (hw.same qn qi (by decide)))
 ·intro D x w hd hw
  have hww:=hw.b (hd 6 (by decide))
  have:=hQ w (.slice (some ⟨eb,0,none⟩) n ec) (.int .i64 (k:Nat)) (.pointer (some ⟨eb,k * 3,none⟩)) (.agg #[.string r.kind,.int .i64 r.who,.int .i64 r.word]) (.pointer (some ⟨b2,1,none⟩)) (.int .i64 O) (.bool bb) (by rw [hww];exact sD.out)
  generalize bc:slotsOf _ bs (Fz eb n ec k b2 r O bb ())=sl
  have eS:sl=#[z0,.slice (some ⟨eb,0,none⟩) n ec,.pointer (some ⟨b2,0,none⟩),z3,z4,z5,z6,.int .i64 (k:Nat),z8,z9,dB,cZ,z12,de,dn,dm,dk,dj,dA,dz,z20,z21,z22,z23,z24,z25,z26,dD,z28,dC,dM,z31,.slice (some ⟨eb,0,none⟩) n ec,.int .i64 (k:Nat),.pointer (some ⟨eb,k * 3,none⟩),.agg #[.string r.kind,.int .i64 r.who,.int .i64 r.word],.pointer (some ⟨b2,1,none⟩),.int .i64 O,.bool bb,.bool (!bb),z40,eu,eK,eJ,eI,eH,z46,eQ,eN,z49,en,z51,iu,z53,iF,iE,iD,iC,iB,z59,nv,nu,np,nk]:=by rw [<-bc,<-cn];kernel_rfl
  rw [eS]
  exact this
end
end Go.aC.Of
