/-
  The reference's l6Run.
-/
import Derived.Test.YtnjkbffmmgckeaaGreatDoorPaa
import Derived.Test.YtnjkbffmmgckeaaGreatDoorPag
import Derived.Test.YtnjkbffmmgckeaaGreatDoorPax
set_option linter.all false
set_option maxRecDepth 100000
set_option maxHeartbeats 32000000
open Go renaming undef->I',World->J',Value->M',heap_alloc_new->Z',heap_setCell_other->a_
open Go.RowKit renaming Hid->f_,Below->g_
open Go.RowKit.Below renaming refl->h_
open Option renaming getD_some->A_
open Go.World renaming size_alloc->B_,size_setCell->o_
open Nat renaming le_refl->C_,le_trans->D_
open Option.some renaming inj->M_
open Bool renaming and_eq_true->T_
open Go.Proofs.Tryz renaming prog->p_
open Array renaming getD_eq_getD_getElem?->r_
open Go.Proofs.Tryz
namespace Go.aC.Of
section
open Go Go.Conc Go.Conc.Lib Go.ConcR Go.ConcR.Gen Go.aC Go.Proofs
open Go.RowKit hiding Hid
open Go.ConcN (upd upd_ne upd_same)
def Mz:Rm:=⟨[],[],[],0,[]⟩
def da (L O P:Int) (rs:List Raw):Bool:=dw L O P&&decide (rs.length<=60)&&rs.all (fun r=>bu r O)
def Bv (w:J') (L O P:Int) (rs:List Raw) (e:Ending) (w':J'):Prop:=
 ∃(m:Rm) (vr vw vb vl:M'),e=.returned (.tuple #[jD L O P m.clock vr vw vb vl,.bool (da L O P rs)])/\bA w.heap.size m vr vw vb w'/\g_ w.heap.size w w'/\(∃a n c,vl=.slice a n c)/\
  (da L O P rs=false->m=Mz)/\(da L O P rs=true->∀evs,rs=evs.map Ev.raw->m=ja L.toNat P evs)
variable {nl:Nat} {P:Int} {evs:List Ev}
theorem G7 {k:Nat} (hk:k<evs.length):ja nl P (evs.take (k+1))=Ca nl P (ja nl P (evs.take k)) evs[k]:=by
 unfold ja;rw [List.take_succ_eq_append_getElem hk,List.foldl_append];rfl
theorem MJ {a b:Ev} (h:a.raw=b.raw):a=b:=by
 cases a<;>cases b<;>simp [Ev.raw,Ev.kind,Ev.who,Ev.word] at h ⊢<;>first|exact h|omega
theorem rQ {a b:List Ev} (h:a.map Ev.raw=b.map Ev.raw):a=b:=(List.map_inj_right fun _ _=>MJ).1 h
theorem Cj {no:Nat} (he:∀e∈evs,Ev.good no e) (hn:evs.length<=60) (rp:nl<=100) (hno:no<=999) (k:Nat):Xf nl (ja nl P (evs.take k)):=by
 have hl:(evs.take k).length<=60:=by rw [List.length_take];omega
 exact okM (Ag (nl:=nl) (no:=no) (ls:=List.range nl) (us:=List.replicate no ⟨0,0,0⟩) (P:=P) (evs:=evs.take k) List.nodup_range List.length_range List.length_replicate (fun u hu=>by rw [List.eq_of_mem_replicate hu]) (fun e h=>he e (List.mem_of_mem_take h)) hl (by omega) hno).2 hl rp
variable {w:J'} {B:Nat}
theorem kJ {e sz:Nat} (hB:B<=w.heap.size) (hm:0<=maxLen):(w.alloc (.cells #[] e)).ownsRow B e sz (.slice (some ⟨w.heap.size,0,none⟩) 0 0) 0 []:=World.ownsRow_lit w #[] 0 hB (by decide) (by simp)
variable {w':J'} {b:Nat}
theorem iW {n:Nat} {j:Nat} {v:M'} (h:g_ n w w') (hb:n<=b):g_ n w (w'.setCell ⟨b,j,none⟩ v):=
 ⟨h.os,h.tape,h.output,by rw [o_];exact h.size,fun g hg=>(a_ w' ⟨b,j,none⟩ g v (show g≠b by omega)).trans (h.block g hg)⟩
theorem rB {n:Nat} {v0 v1 v2 v3 v4 v5 v6 v7:M'} (h:g_ n w w') (hb:n<=b):g_ n w (Of.b8 w' b v0 v1 v2 v3 v4 v5 v6 v7):=by
 unfold Of.b8
 exact iW (iW (iW (iW (iW (iW (iW (iW h hb) hb) hb) hb) hb) hb) hb) hb
variable {vr vb:M'}
theorem D8 {n B:Nat} {w5:J'} (h:g_ n w w') (k:bg vr vb w' w5) (h1:∀g,vr.ownBlock=some g->n<=g) (h2:∀g,vb.ownBlock=some g->n<=g) (hn:n<=w'.heap.size):g_ n w w5:=
 ⟨k.os.trans h.os,k.tape.trans h.tape,k.output.trans h.output,D_ h.size k.size,fun g hg=>(k.block g (by omega) (fun e=>by have:=h1 g e;omega) (fun e=>by have:=h2 g e;omega)).trans (h.block g hg)⟩
variable {rs:List Raw} {L O:Int}
theorem Bi {fn:Func} {w0:J'} {m:Rm} {vw vl:M'} {b4:Nat} {tm:Array M'} (R:bA w0.heap.size m vr vw vb w) (hF:g_ w0.heap.size w0 w) (hb:w.heap[b4]?=some (.cells ia 63 (0,0))) (l4:w0.heap.size<=b4) (mP:∃a n c,vl=.slice a n c)
 (EJ:fn.results=#[.cell 4 63,.tmp 5]) (h4:tm.getD 4 I'=.pointer (some ⟨b4,0,none⟩)) (h5:tm.getD 5 I'=.bool (da L O P rs)) (k1:da L O P rs=false->m=Mz) (k2:da L O P rs=true->∀evs,rs=evs.map Ev.raw->m=ja L.toNat P evs):
 bodyPost p_ fn (Bv w0 L O P rs) .ret ⟨tm,[]⟩ (Of.b8 w b4 (.int .i64 L) (.int .i64 O) (.int .i64 P) (.int .i64 m.clock) vr vw vb vl):=by
 have q4:vr.ownBlock≠some b4:=bB R.recs hb (by decide)
 have q5:vw.ownBlock≠some b4:=bB R.wait hb (by decide)
 have q6:vb.ownBlock≠some b4:=bB R.back hb (by decide)
 have hR:=R.b8 (v0:=.int .i64 L) (v1:=.int .i64 O) (v2:=.int .i64 P) (v3:=.int .i64 m.clock) (v4:=vr) (v5:=vw) (v6:=vb) (v7:=vl) q4 q5 q6
 have hF2:=rB (v0:=.int .i64 L) (v1:=.int .i64 O) (v2:=.int .i64 P) (v3:=.int .i64 m.clock) (v4:=vr) (v5:=vw) (v6:=vb) (v7:=vl) hF l4
 obtain ⟨⟨s0,s1,s2,s3,s4,s5,s6,s7⟩,_⟩:=aG (lB (show w.heap[b4]?=some (Obj.cells #[.int .i64 0,.int .i64 0,.int .i64 0,.int .i64 0,.slice none 0 0,.slice none 0 0,.slice none 0 0,.slice none 0 0] 63 (0,0)) from hb) (.int .i64 L) (.int .i64 O) (.int .i64 P) (.int .i64 m.clock) vr vw vb vl)
 generalize Of.b8 w b4 (.int .i64 L) (.int .i64 O) (.int .i64 P) (.int .i64 m.clock) vr vw vb vl=W at *
 have VC:tm[4]?.getD I'=.pointer (some ⟨b4,0,none⟩):=by rw [<-r_];exact h4
 have VB:tm[5]?.getD I'=.bool (da L O P rs):=by rw [<-r_];exact h5
 refine bodyPost_ret (v:=.tuple #[jD L O P m.clock vr vw vb vl,.bool (da L O P rs)]) (by simp [results,EJ,go_sem,jD,VC,VB,s0,s1,s2,s3,s4,s5,s6,s7]) rfl ?_
 exact ⟨m,vr,vw,vb,vl,rfl,hR,hF2,mP,k1,k2⟩
structure rD (w:J') (L O P:Int) (b6:Nat) (m:Rm) (vr vw vb vl:M') (kl:Nat) (wr:J'):Prop where
 room:bA w.heap.size m vr vw vb wr
 log:∃xs,wr.ownsRow w.heap.size 9 1 vl kl xs
 below:g_ w.heap.size w wr
 Ml:wr.heap[w.heap.size]?=some (.cells #[.int .i64 L,.int .i64 O,.int .i64 P] 28 (0,0))
 DK:wr.heap[w.heap.size+1]?=some (.cells ia 63 (0,0))
 Fh:wr.heap[b6]?=some (.cells (gi L O P m.clock vr vw vb vl) 63 (0,0))
 TN:w.heap.size+2<=b6
section
variable {wr wr' w5:J'} {b6 g5 kl:Nat} {m m':Rm} {vw vl qb jA qS S0:M'}
theorem fw {g:Nat} {o:Obj} (h:w.heap[g]?=some o):g<w.heap.size:=(cI h)
theorem rD.step (h:rD w L O P b6 m vr vw vb vl kl wr) (hb:g_ wr.heap.size wr wr'):rD w L O P b6 m vr vw vb vl kl wr':=by
 obtain ⟨xs,hx⟩:=h.log
 exact ⟨h.room.below hb,⟨xs,fE hx fun g e=>hb.block g (hx.lt g e).2⟩,h.below.trans (hb.mono h.below.size),(hb.block _ (fw h.Ml)).trans h.Ml,(hb.block _ (fw h.DK)).trans h.DK,(hb.block _ (fw h.Fh)).trans h.Fh,h.TN⟩
theorem rD.took (h:rD w L O P b6 m vr vw vb vl kl wr) (p:GF wr w.heap.size vr vb m' qb jA qS w5) (hz:w5.heap[g5]?=some (.cells ia 63 (0,0))) (hg:wr.heap.size<=g5):
 ((Of.b8 w5 g5 (.int .i64 L) (.int .i64 O) (.int .i64 P) (.int .i64 m'.clock) qb jA qS vl).heap[g5]?=some (.cells (gi L O P m'.clock qb jA qS vl) 63 (0,0))/\
 (Of.b8 w5 g5 (.int .i64 L) (.int .i64 O) (.int .i64 P) (.int .i64 m'.clock) qb jA qS vl).heap[b6]?=some (.cells (gi L O P m.clock vr vw vb vl) 63 (0,0)))/\
 rD w L O P b6 m' qb jA qS vl kl (Of.b8 (Of.b8 w5 g5 (.int .i64 L) (.int .i64 O) (.int .i64 P) (.int .i64 m'.clock) qb jA qS vl) b6 (.int .i64 L) (.int .i64 O) (.int .i64 P) (.int .i64 m'.clock) qb jA qS vl):=by
 obtain ⟨xs,hx⟩:=h.log
 have l6:=fw h.Fh
 have l4:=fw h.DK
 have l2:=fw h.Ml
 have n6:b6≠g5:=by omega
 have v6:w5.heap[b6]?=some (.cells (gi L O P m.clock vr vw vb vl) 63 (0,0)):=(p.fr.block _ l6 (bB h.room.recs h.Fh (by decide)) (bB h.room.back h.Fh (by decide))).trans h.Fh
 have v4:w5.heap[w.heap.size+1]?=some (.cells ia 63 (0,0)):=(p.fr.block _ l4 (bB h.room.recs h.DK (by decide)) (bB h.room.back h.DK (by decide))).trans h.DK
 have v2:w5.heap[w.heap.size]?=some (.cells #[.int .i64 L,.int .i64 O,.int .i64 P] 28 (0,0)):=(p.fr.block _ l2 (bB h.room.recs h.Ml (by decide)) (bB h.room.back h.Ml (by decide))).trans h.Ml
 have x5:w5.ownsRow w.heap.size 9 1 vl kl xs:=fE hx fun g e=>p.fr.block g (hx.lt g e).2 (fun e2=>by
  obtain ⟨c1,z1⟩:=jF hx e
  obtain ⟨c2,z2⟩:=jF h.room.recs e2
  rw [z1] at z2;simp at z2) (fun e2=>by
  obtain ⟨c1,z1⟩:=jF hx e
  obtain ⟨c2,z2⟩:=jF h.room.back e2
  rw [z1] at z2;simp at z2)
 have a6:=fw v6
 refine ⟨⟨?_, ?_⟩, ?_⟩
 ·exact lB (show w5.heap[g5]?=some (Obj.cells #[.int .i64 0,.int .i64 0,.int .i64 0,.int .i64 0,.slice none 0 0,.slice none 0 0,.slice none 0 0,.slice none 0 0] 63 (0,0)) from hz) _ _ _ _ _ _ _ _
 ·exact (kN n6).trans v6
 ·have R1:=p.room.b8 (v0:=.int .i64 L) (v1:=.int .i64 O) (v2:=.int .i64 P) (v3:=.int .i64 m'.clock) (v4:=qb) (v5:=jA) (v6:=qS) (v7:=vl) (bB p.room.recs hz (by decide)) (bB p.room.wait hz (by decide)) (bB p.room.back hz (by decide))
  have R2:=R1.b8 (v0:=.int .i64 L) (v1:=.int .i64 O) (v2:=.int .i64 P) (v3:=.int .i64 m'.clock) (v4:=qb) (v5:=jA) (v6:=qS) (v7:=vl) (bB p.room.recs v6 (by decide)) (bB p.room.wait v6 (by decide)) (bB p.room.back v6 (by decide))
  have hne:∀g,g≠b6->g≠g5->(Of.b8 (Of.b8 w5 g5 (.int .i64 L) (.int .i64 O) (.int .i64 P) (.int .i64 m'.clock) qb jA qS vl) b6 (.int .i64 L) (.int .i64 O) (.int .i64 P) (.int .i64 m'.clock) qb jA qS vl).heap[g]?=w5.heap[g]?:=fun g h1 h2=>(kN h1).trans (kN h2)
  have mR:=h.TN
  have q6:vl.ownBlock≠some b6:=bB hx h.Fh (by decide)
  have q5:vl.ownBlock≠some g5:=bB x5 hz (by decide)
  refine ⟨R2,⟨xs,fE x5 fun g e=>hne g (fun e2=>q6 (e2▸e)) (fun e2=>q5 (e2▸e))⟩, ?_,(hne _ (by omega) (by omega)).trans v2,(hne _ (by omega) (by omega)).trans v4, ?_,h.TN⟩
  ·exact rB (rB (D8 (B:=0) h.below p.fr (fun g e=>(h.room.recs.lt g e).1) (fun g e=>(h.room.back.lt g e).1) h.below.size) (D_ h.below.size hg)) (by omega)
  ·exact lB (show (Of.b8 w5 g5 (.int .i64 L) (.int .i64 O) (.int .i64 P) (.int .i64 m'.clock) qb jA qS vl).heap[b6]?=some (Obj.cells #[_,_,_,_,_,_,_,_] 63 (0,0)) from (kN n6).trans v6) _ _ _ _ _ _ _ _
theorem Jg {ck:Int} (v:M'):(gi L O P ck vr vw vb vl).setIfInBounds 7 v=gi L O P ck vr vw vb v:=rfl
theorem rD.YA (h:rD w L O P b6 m vr vw vb vl kl wr) {o:Obj} (lH:(wr.alloc o).grownBy wr' vl.ownBlock) {Sk:List M'} {k':Nat} (iw:wr'.ownsRow w.heap.size 9 1 S0 k' Sk) (h1:m'.recs=m.recs) (h2:m'.wait=m.wait) (h3:m'.back=m.back) (h4:m'.clock=m.clock):
 rD w L O P b6 m' vr vw vb S0 k' (wr'.setCell ⟨b6,7,none⟩ S0)/\wr'.heap[b6]?=some (.cells (gi L O P m.clock vr vw vb vl) 63 (0,0)):=by
 have H:=h.step ((h_ _ _).alloc (C_ _) o)
 obtain ⟨xs,hx⟩:=H.log
 have z6:=(lH.block _ (fw H.Fh) (fun e=>bB hx H.Fh (by decide) e.symm)).trans H.Fh
 have z4:=(lH.block _ (fw H.DK) (fun e=>bB hx H.DK (by decide) e.symm)).trans H.DK
 have z2:=(lH.block _ (fw H.Ml) (fun e=>bB hx H.Ml (by decide) e.symm)).trans H.Ml
 have RA:bA w.heap.size m vr vw vb wr':=⟨D_ H.room.big lH.size,H.room.recs.kept lH (gF H.room.recs hx (by decide)),H.room.wait.kept lH (gF H.room.wait hx (by decide)),H.room.back.kept lH (gF H.room.back hx (by decide)),H.room.apart,H.room.iQ⟩
 have hB:=H.below.grown lH H.below.size fun g e=>(hx.lt g e).1
 have q6:S0.ownBlock≠some b6:=bB iw z6 (by decide)
 have hl:=h.TN
 refine ⟨⟨(RA.cell (bB RA.recs z6 (by decide)) (bB RA.wait z6 (by decide)) (bB RA.back z6 (by decide))).same h1 h2 h3,⟨Sk,fE iw fun g e=>a_ wr' ⟨b6,7,none⟩ g _ (fun e2=>q6 (by rw [e,show g=b6 from e2]))⟩, ?_, ?_, ?_, ?_,h.TN⟩,z6⟩
 ·exact ⟨hB.os,hB.tape,hB.output,by rw [o_];exact hB.size,fun g hg=>(a_ wr' ⟨b6,7,none⟩ g _ (show g≠b6 by omega)).trans (hB.block g hg)⟩
 ·exact (a_ wr' ⟨b6,7,none⟩ _ _ (show w.heap.size≠b6 by omega)).trans z2
 ·exact (a_ wr' ⟨b6,7,none⟩ _ _ (show w.heap.size+1≠b6 by omega)).trans z4
 ·have:=Go.heap_setCell_same wr' b6 7 _ 63 S0 z6
  rw [Jg] at this
  rw [h4];exact this
variable {ea:Option Addr}
theorem fF.below (h:fF w ea rs) (hb:g_ w.heap.size w wr):fF wr ea rs:=by
 rcases h with h|⟨eb,cs,t,f,h1,h2,h3⟩
 ·exact .inl h
 ·exact .inr ⟨eb,cs,t,f,h1,(hb.block eb (fw h2)).trans h2,h3⟩
end
variable {ea:Option Addr}
theorem Hx {ec:Nat} (bR:fF w ea rs) (hlen:rs.length<=1048576):
 Calls p_ 42 #[.agg #[.int .i64 L,.int .i64 O,.int .i64 P],.slice ea rs.length ec] w (Bv w L O P rs):=by
 obtain ⟨wa,Sr⟩:∃wa,(w.alloc (.cells #[.int .i64 L,.int .i64 O,.int .i64 P] 28)).alloc (.cells ia 63)=wa:=⟨_,rfl⟩
 have YV:f_ (wa.heap.size=w.heap.size+2):=by rw [f_,<-Sr,B_,B_]
 have Ri:g_ w.heap.size w wa:=by rw [<-Sr];exact ((h_ _ _).alloc (C_ _) _).alloc (by rw [B_];omega) _
 have VA:wa.heap[w.heap.size]?=some (.cells #[.int .i64 L,.int .i64 O,.int .i64 P] 28 (0,0)):=by rw [<-Sr];exact br (Z' w _)
 have hA4:wa.heap[w.heap.size+1]?=some (.cells ia 63 (0,0)):=by
  have:=Z' (w.alloc (.cells #[.int .i64 L,.int .i64 O,.int .i64 P] 28)) (.cells ia 63)
  rw [B_,Sr] at this
  exact this
 have hle:w.heap.size<=wa.heap.size:=Ri.size
 obtain ⟨wb,yc⟩:∃wb,((((wa.alloc (.cells #[] 44)).alloc (.cells #[] 114)).alloc (.cells #[] 114)).alloc (.cells #[] 9)).alloc (.cells (gi L O P 0 (.slice (some ⟨wa.heap.size,0,none⟩) 0 0) (.slice (some ⟨wa.heap.size+1,0,none⟩) 0 0) (.slice (some ⟨wa.heap.size+1+1,0,none⟩) 0 0) (.slice (some ⟨wa.heap.size+1+1+1,0,none⟩) 0 0)) 63)=wb:=⟨_,rfl⟩
 have t1:=kJ (w:=wa) (e:=44) (sz:=7) hle (by decide)
 have t2:=kJ (w:=wa.alloc (.cells #[] 44)) (B:=w.heap.size) (e:=114) (sz:=2) (by rw [B_];omega) (by decide)
 have t3:=kJ (w:=(wa.alloc (.cells #[] 44)).alloc (.cells #[] 114)) (B:=w.heap.size) (e:=114) (sz:=2) (by rw [B_,B_];omega) (by decide)
 have t4:=kJ (w:=((wa.alloc (.cells #[] 44)).alloc (.cells #[] 114)).alloc (.cells #[] 114)) (B:=w.heap.size) (e:=9) (sz:=1) (by rw [B_,B_,B_];omega) (by decide)
 rw [B_] at t2
 rw [B_,B_] at t3
 rw [B_,B_,B_] at t4
 have hR:f_ (bA w.heap.size Mz (.slice (some ⟨wa.heap.size,0,none⟩) 0 0) (.slice (some ⟨wa.heap.size+1,0,none⟩) 0 0) (.slice (some ⟨wa.heap.size+1+1,0,none⟩) 0 0) wb):=by
  rw [<-yc]
  refine ⟨by rw [B_,B_,B_,B_,B_];omega,(((t1.alloc _).alloc _).alloc _).alloc _,((t2.alloc _).alloc _).alloc _,(t3.alloc _).alloc _,fun g e1 e2=> ?_,⟨_,rfl⟩⟩
  have h1:wa.heap.size+1=g:=M_ e1
  have h2:wa.heap.size+1+1=g:=M_ e2
  omega
 have Uz:f_ (wb.ownsRow w.heap.size 9 1 (.slice (some ⟨wa.heap.size+1+1+1,0,none⟩) 0 0) 0 []):=by rw [f_,<-yc];exact t4.alloc _
 have uf:f_ (g_ w.heap.size w wb):=by
  rw [f_,<-yc]
  exact ((((Ri.alloc hle _).alloc (by rw [B_];omega) _).alloc (by rw [B_,B_];omega) _).alloc (by rw [B_,B_,B_];omega) _).alloc (by rw [B_,B_,B_,B_];omega) _
 have jx:f_ (wb.heap[w.heap.size]?=some (.cells #[.int .i64 L,.int .i64 O,.int .i64 P] 28 (0,0))):=by rw [f_,<-yc];exact br (br (br (br (br VA))))
 have sH:f_ (wb.heap[w.heap.size+1]?=some (.cells ia 63 (0,0))):=by rw [f_,<-yc];exact br (br (br (br (br hA4))))
 have SJ:f_ (wb.heap[wa.heap.size+1+1+1+1]?=some (.cells (gi L O P 0 (.slice (some ⟨wa.heap.size,0,none⟩) 0 0) (.slice (some ⟨wa.heap.size+1,0,none⟩) 0 0) (.slice (some ⟨wa.heap.size+1+1,0,none⟩) 0 0) (.slice (some ⟨wa.heap.size+1+1+1,0,none⟩) 0 0)) 63 (0,0))):=by
  have:=Z' ((((wa.alloc (.cells #[] 44)).alloc (.cells #[] 114)).alloc (.cells #[] 114)).alloc (.cells #[] 9)) (.cells (gi L O P 0 (.slice (some ⟨wa.heap.size,0,none⟩) 0 0) (.slice (some ⟨wa.heap.size+1,0,none⟩) 0 0) (.slice (some ⟨wa.heap.size+1+1,0,none⟩) 0 0) (.slice (some ⟨wa.heap.size+1+1+1,0,none⟩) 0 0)) 63)
  rw [B_,B_,B_,B_,yc] at this
  exact this
 have g0:wa.cell? ⟨w.heap.size,0,none⟩=some (.int .i64 L):=aB VA
 have g1:wa.cell? ⟨w.heap.size,1,none⟩=some (.int .i64 O):=aB VA
 have g2:wa.cell? ⟨w.heap.size,2,none⟩=some (.int .i64 P):=aB VA
 have k0:wb.cell? ⟨w.heap.size,0,none⟩=some (.int .i64 L):=aB jx.out
 have k1:wb.cell? ⟨w.heap.size,1,none⟩=some (.int .i64 O):=aB jx.out
 have k2:wb.cell? ⟨w.heap.size,2,none⟩=some (.int .i64 P):=aB jx.out
 have AX:=aa (wL wb L O P)
 clear t1 t2 t3 t4 Ri VA hA4
 replace hle:=aa hle
 unfold ia at Sr
 unfold gi at yc
 have OH:=aa bR
 clear bR
 obtain ⟨Po,EW⟩:∃Po:Ending->J'->Prop,f_ (Po=Bv w L O P rs):=⟨_,rfl⟩
 refine Calls.mono (R:=Po) ?_ (fun e w' h=>by rw [EW.out] at h;exact h)
 go_enter func42,ntmps42
 go_wp2_with fail
 refine AX.out.mono ?_
 rintro e wc ⟨rfl,Wl⟩
 have I0:f_ (rD w L O P (wa.heap.size+1+1+1+1) Mz (.slice (some ⟨wa.heap.size,0,none⟩) 0 0) (.slice (some ⟨wa.heap.size+1,0,none⟩) 0 0) (.slice (some ⟨wa.heap.size+1+1,0,none⟩) 0 0) (.slice (some ⟨wa.heap.size+1+1+1,0,none⟩) 0 0) 0 wc):=by
  have h:rD w L O P (wa.heap.size+1+1+1+1) Mz (.slice (some ⟨wa.heap.size,0,none⟩) 0 0) (.slice (some ⟨wa.heap.size+1,0,none⟩) 0 0) (.slice (some ⟨wa.heap.size+1+1,0,none⟩) 0 0) (.slice (some ⟨wa.heap.size+1+1+1,0,none⟩) 0 0) 0 wb:=⟨hR.out,⟨[],Uz.out⟩,uf.out,jx.out,sH.out,SJ.out,by rw [YV.out];omega⟩
  rw [Wl]
  exact h.step ((h_ _ _).alloc (C_ _) _)
 clear Wl Sr yc hR Uz uf jx sH SJ g0 g1 g2 k0 k1 k2 AX
 obtain ⟨⟨e0,e1,e2,e3,e4,e5,e6,e7⟩,_⟩:=aG (show wc.heap[wa.heap.size+1+1+1+1]?=some (Obj.cells #[.int .i64 L,.int .i64 O,.int .i64 P,.int .i64 0,(.slice (some ⟨wa.heap.size,0,none⟩) 0 0),(.slice (some ⟨wa.heap.size+1,0,none⟩) 0 0),(.slice (some ⟨wa.heap.size+1+1,0,none⟩) 0 0),(.slice (some ⟨wa.heap.size+1+1+1,0,none⟩) 0 0)] 63 (0,0)) from I0.out.Fh)
 obtain ⟨⟨x0,x1,x2,x3,x4,x5,x6,x7⟩,y0,y1,y2,y3,y4,y5,y6,y7⟩:=aG (show wc.heap[w.heap.size+1]?=some (Obj.cells #[.int .i64 0,.int .i64 0,.int .i64 0,.int .i64 0,.slice none 0 0,.slice none 0 0,.slice none 0 0,.slice none 0 0] 63 (0,0)) from I0.out.DK)
 cases kE:dw L O P with
 |false=>
  have eU:f_ (da L O P rs=false):=by rw [f_];unfold da;rw [kE];rfl
  go_wp2_with fail
  change bodyPost p_ f42 _ .ret _ (Of.b8 _ (w.heap.size+1) (.int .i64 L) (.int .i64 O) (.int .i64 P) (.int .i64 0) (.slice (some ⟨wa.heap.size,0,none⟩) 0 0) (.slice (some ⟨wa.heap.size+1,0,none⟩) 0 0) (.slice (some ⟨wa.heap.size+1+1,0,none⟩) 0 0) (.slice (some ⟨wa.heap.size+1+1+1,0,none⟩) 0 0))
  rw [EW.out]
  exact Bi (m:=Mz) I0.out.room I0.out.below I0.out.DK (Nat.le_succ _) ⟨_,_,_,rfl⟩ rfl rfl (by rw [eU.out];rfl) (fun _=>rfl) (fun h=>by rw [eU.out] at h;cases h)
 |true=>
  by_cases OZ:rs.length<=60
  ·have RF:¬(60:Int)<(rs.length:Int):=by omega
   have Um:=aa kE
   obtain ⟨⟨Gd,Uo⟩,QK,ho4⟩:(1<=L/\L<=6)/\1<=O/\O<=4:=by
    simp only [dw,T_,decide_eq_true_eq] at kE
    omega
   clear kE
   go_wp2_with fail
   clear e0 e1 e2 e3 e4 e5 e6 e7 x0 x1 x2 x3 x4 x5 x6 x7 y0 y1 y2 y3 y4 y5 y6 y7
   go_loopw [7] (fun i wr=>∃k:Nat,k<=rs.length/\i=.int .i64 k/\f_ (∀j (hj:j<rs.length),j<k->bu rs[j] O=true)/\f_ (rD w L O P (wa.heap.size+1+1+1+1) Mz (.slice (some ⟨wa.heap.size,0,none⟩) 0 0) (.slice (some ⟨wa.heap.size+1,0,none⟩) 0 0) (.slice (some ⟨wa.heap.size+1+1,0,none⟩) 0 0) (.slice (some ⟨wa.heap.size+1+1+1,0,none⟩) 0 0) 0 wr)) (fun i _=>rs.length - (intOf i).toNat)
   case atStart=>exact ⟨0,Nat.zero_le _,rfl,aa (fun j hj h0=>by omega),I0⟩
   case round=>
    clear I0
    obtain ⟨k,hk,rfl,hT,hI⟩:=hrel
    by_cases hlt:k<rs.length
    ·have gJ:(k:Int)<(rs.length:Int):=by omega
     obtain ⟨eb,WY,et,ef,rfl,M4,hcs⟩:=(OH.out.below hI.out.below).resolve_left (fun e=>by rw [e] at hlt;simp at hlt)
     obtain ⟨d1,d2,d3⟩:=hcs k hlt
     have j1:wr.cell? ⟨eb,k * 3,none⟩=some (.string (rs[k]).kind):=(aB M4).trans d1
     have j2:wr.cell? ⟨eb,k * 3+1,none⟩=some (.int .i64 (rs[k]).who):=(aB M4).trans d2
     have j3:wr.cell? ⟨eb,k * 3+2,none⟩=some (.int .i64 (rs[k]).word):=(aB M4).trans d3
     have j4:wr.cell? ⟨w.heap.size,1,none⟩=some (.int .i64 O):=aB hI.out.Ml
     clear d1 d2 d3 hcs M4
     have oF:f_ (bu rs[k] O=false->da L O P rs=false):=fun hv=>by
      unfold da
      rw [List.all_eq_false.2 ⟨rs[k],List.getElem_mem hlt,by rw [hv];simp⟩,Bool.and_false]
     have hgo:f_ (bu rs[k] O=true->∀j (hj:j<rs.length),j<k+1->bu rs[j] O=true):=fun hv j hj hjk=>if e:j=k then by subst e;exact hv else hT.out j hj (by omega)
     generalize rs[k]=r at *
     go_wp2_with fail
     refine P4 (r:=r) (bb:=bu r O) (b2:=w.heap.size) (eb:=eb) (k:=k) (n:=rs.length) (ec:=ec) j1 j2 j3 j4 hlt (by omega) (fun w'=>yj w' r O ⟨QK,ho4⟩) fun w5 Sn Sm q34 q35 TE TC Om qo=> ?_
     have I5:=aa (hI.out.step qo)
     clear j1 j2 j3 j4 qo hI hT
     obtain ⟨⟨e0,e1,e2,e3,e4,e5,e6,e7⟩,_⟩:=aG (show w5.heap[wa.heap.size+1+1+1+1]?=some (Obj.cells #[.int .i64 L,.int .i64 O,.int .i64 P,.int .i64 0,(.slice (some ⟨wa.heap.size,0,none⟩) 0 0),(.slice (some ⟨wa.heap.size+1,0,none⟩) 0 0),(.slice (some ⟨wa.heap.size+1+1,0,none⟩) 0 0),(.slice (some ⟨wa.heap.size+1+1+1,0,none⟩) 0 0)] 63 (0,0)) from I5.out.Fh)
     obtain ⟨⟨x0,x1,x2,x3,x4,x5,x6,x7⟩,y0,y1,y2,y3,y4,y5,y6,y7⟩:=aG (show w5.heap[w.heap.size+1]?=some (Obj.cells #[.int .i64 0,.int .i64 0,.int .i64 0,.int .i64 0,.slice none 0 0,.slice none 0 0,.slice none 0 0,.slice none 0 0] 63 (0,0)) from I5.out.DK)
     cases hv:bu r O with
     |true=>
      have hgo:=aa (hgo.out hv)
      clear oF hv
      go_wp2_with fail
      go_roundw
      case rel=>exact ⟨k+1,by omega,by go_num,hgo,I5⟩
      case measure=>simp [intOf];omega
     |false=>
      have eU:f_ (da L O P rs=false):=oF.out hv
      clear hgo oF hv
      go_wp2_with fail
      change bodyPost p_ f42 _ .ret _ (Of.b8 _ (w.heap.size+1) (.int .i64 L) (.int .i64 O) (.int .i64 P) (.int .i64 0) (.slice (some ⟨wa.heap.size,0,none⟩) 0 0) (.slice (some ⟨wa.heap.size+1,0,none⟩) 0 0) (.slice (some ⟨wa.heap.size+1+1,0,none⟩) 0 0) (.slice (some ⟨wa.heap.size+1+1+1,0,none⟩) 0 0))
      rw [EW.out]
      exact Bi (m:=Mz) I5.out.room I5.out.below I5.out.DK (Nat.le_succ _) ⟨_,_,_,rfl⟩ rfl rfl (by rw [eU.out];rfl) (fun _=>rfl) (fun h=>by rw [eU.out] at h;cases h)
    ·have yK:k=rs.length:=by omega
     subst yK
     have KL:rs.all (fun r=>bu r O)=true:=by
      rw [List.all_eq_true]
      intro x hx
      obtain ⟨j,hj,rfl⟩:=List.getElem_of_mem hx
      exact hT.out j hj hj
     have eU:f_ (da L O P rs=true):=by
      rw [f_];unfold da;rw [Um.out,KL,decide_eq_true OZ];rfl
     obtain ⟨evs,EP,pr⟩:=s8 KL
     clear hT
     go_wp2_with fail
     obtain ⟨nl,rfl⟩:∃nl:Nat,L=(nl:Int):=⟨L.toNat,by omega⟩
     have Nv:evs.length=rs.length:=by rw [EP,List.length_map]
     have Y4:=aa (Cj (nl:=nl) (no:=O.toNat) (P:=P) pr (by omega) (by omega) (by omega))
     have hI0:f_ (∃vr vw vb vl,rD w (nl:Nat) O P (wa.heap.size+1+1+1+1) (ja nl P (evs.take 0)) vr vw vb vl 0 wr):=⟨_,_,_,_,hI.out⟩
     have Q2:=aa pr
     have Q7:=aa EP
     replace Nv:=aa Nv
     clear hI pr EP KL Um
     go_loopw [8] (fun i w2=>∃k:Nat,k<=rs.length/\i=.int .i64 k/\f_ (∃vr vw vb vl,rD w (nl:Nat) O P (wa.heap.size+1+1+1+1) (ja nl P (evs.take k)) vr vw vb vl k w2)) (fun i _=>rs.length - (intOf i).toNat)
     case atStart=>exact ⟨0,Nat.zero_le _,rfl,hI0⟩
     case round=>
      clear hI0
      obtain ⟨k,hk,rfl,hJ⟩:=hrel
      by_cases hlt:k<rs.length
      ·have gJ:(k:Int)<(rs.length:Int):=by omega
       obtain ⟨vr,vw,vb,vl,I⟩:=hJ.out
       have cK:=Y4.out k
       have Wz:k<evs.length:=by rw [Nv.out];exact hlt
       have OL:=aa (G7 (nl:=nl) (P:=P) Wz)
       have vI:=Q2.out _ (List.getElem_mem Wz)
       have QF:rs[k]=(evs[k]).raw:=by
        have h1:rs[k]?=some (evs[k]).raw:=by rw [Q7.out,List.getElem?_map,List.getElem?_eq_getElem Wz];rfl
        exact M_ ((List.getElem?_eq_getElem hlt).symm.trans h1)
       obtain ⟨eb,WY,et,ef,rfl,M4,hcs⟩:=(OH.out.below I.below).resolve_left (fun e=>by rw [e] at hlt;simp at hlt)
       obtain ⟨d1,d2,d3⟩:=hcs k hlt
       rw [QF] at d1 d2 d3
       have j1:wr.cell? ⟨eb,k * 3,none⟩=some (.string (evs[k]).raw.kind):=(aB M4).trans d1
       have j2:wr.cell? ⟨eb,k * 3+1,none⟩=some (.int .i64 (evs[k]).raw.who):=(aB M4).trans d2
       have j3:wr.cell? ⟨eb,k * 3+2,none⟩=some (.int .i64 (evs[k]).raw.word):=(aB M4).trans d3
       clear d1 d2 d3 hcs M4 QF hJ
       generalize ja nl P (evs.take k)=M at *
       generalize evs[k]=e at *
       obtain ⟨q,hq⟩:∃q,qy nl P M e=q:=⟨_,rfl⟩
       obtain ⟨ar,cr,ql⟩:=aE I.room.recs
       subst ql
       obtain ⟨aw,cw,qG⟩:=aE I.room.wait
       subst qG
       obtain ⟨ab,cb,oK⟩:=aE I.room.back
       subst oK
       obtain ⟨xs,hx⟩:=I.log
       obtain ⟨al,cl,mP⟩:=aE hx
       subst mP
       clear hx xs
       have jX:f_ (∀w',bA w.heap.size M (.slice ar M.recs.length cr) (.slice aw M.wait.length cw) (.slice ab M.back.length cb) w'->Calls p_ 64 #[.agg #[.int .i64 (nl:Nat),.int .i64 O,.int .i64 P,.int .i64 M.clock,.slice ar M.recs.length cr,.slice aw M.wait.length cw,.slice ab M.back.length cb,.slice al k cl],.agg #[.string e.raw.kind,.int .i64 e.raw.who,.int .i64 e.raw.word]] w' (Done w' (.slice ar M.recs.length cr) (.slice ab M.back.length cb) w.heap.size q.1 (nl:Nat) O P (.slice al k cl) q.2)):=fun w' R'=>by rw [<-hq];exact Ex R' cK ⟨_,_,_,rfl⟩ e vI
       have hst:f_ (ja nl P (evs.take (k+1))={q.1 with log:=q.1.log++[q.2]}):=by rw [f_,OL.out,<-hq];rfl
       have hI:=aa I
       clear I cK vI hq OL Wz
       go_wp2_with fail
       refine Tj (m:=M) (q:=q) (r:=e.raw) (b6:=wa.heap.size+1+1+1+1) (eb:=eb) (n:=rs.length) (ec:=ec) (k:=k) hI.out.room hI.out.Fh j1 j2 j3 hlt (by omega) jX.out fun w5 DN DL DT DI DG DJ g5 Oj Oi Oh Ju Jt Js Ol Jr Jq PQ hz hg=> ?_
       obtain ⟨⟨τ,KF⟩,I7⟩:=hI.out.took PQ hz hg
       clear PQ hz hg jX j1 j2 j3 hI
       generalize Of.b8 w5 g5 (.int .i64 (nl:Nat)) (.int .i64 O) (.int .i64 P) (.int .i64 q.1.clock) (.slice DN q.1.recs.length DI) (.slice DL q.1.wait.length DG) (.slice DT q.1.back.length DJ) (.slice al k cl)=w6 at *
       obtain ⟨⟨c0,c1,c2,c3,c4,c5,c6,c7⟩,_⟩:=aG τ
       obtain ⟨⟨d0,d1,d2,d3,d4,d5,d6,d7⟩,f0,f1,f2,f3,f4,f5,f6,f7⟩:=aG KF
       obtain ⟨w7,Ss⟩:∃w7,Of.b8 w6 (wa.heap.size+1+1+1+1) (.int .i64 (nl:Nat)) (.int .i64 O) (.int .i64 P) (.int .i64 q.1.clock) (.slice DN q.1.recs.length DI) (.slice DL q.1.wait.length DG) (.slice DT q.1.back.length DJ) (.slice al k cl)=w7:=⟨_,rfl⟩
       rw [Ss] at I7
       unfold Of.b8 at Ss
       obtain ⟨⟨a0,a1,a2,a3,a4,a5,a6,a7⟩,_⟩:=aG I7.Fh
       obtain ⟨xs7,TT⟩:=I7.log
       have TT:=aa TT
       have hI7:=aa I7
       have ub:=aa I7.below.size
       clear I7 τ KF
       obtain ⟨i0,qJ,tX,rm,uF⟩:=info_parts Oy
       go_wp2_with (at_builtin;refine wpList_append_lies _ rfl (.tmp 58) (.tmp 60) 51 rfl w.heap.size 9 i0 _ 1 16 Tryz.underlying51 qJ tX rm uF rfl (by decide) _ _ _ rfl (TT.out.alloc _) ⟨w7.heap.size,0,none⟩ 1 1 [.string ⟨q.2.toArray⟩] rfl rfl (fY w7 _ _ rfl) ?c1 (by omega) ?c3 ?c4 ?c5 _ rfl ?_)
       case c1=>intro u hu;simp at hu;rcases hu with rfl;rfl
       case c3=>unfold maxLen;omega
       case c4=>omega
       case c5=>have:=ub.out;rw [B_];omega
       intro gg mW w9 CM UW ZO Zh
       obtain ⟨I9,vJ⟩:=hI7.out.YA (m':={q.1 with log:=q.1.log++[q.2]}) UW CM rfl rfl rfl rfl
       obtain ⟨⟨l0,l1,l2,l3,l4,l5,l6,l7⟩,m0,m1,m2,m3,m4,m5,m6,m7⟩:=aG vJ
       have hJ:f_ (∃vr vw vb vl,rD w (nl:Nat) O P (wa.heap.size+1+1+1+1) (ja nl P (evs.take (k+1))) vr vw vb vl (k+1) (w9.setCell ⟨wa.heap.size+1+1+1+1,7,none⟩ (.slice (some ⟨gg,0,none⟩) (k+1) mW))):=⟨_,_,_,_,by rw [hst.out];exact I9⟩
       clear I9 vJ CM UW ZO Zh TT hI7 ub a0 a1 a2 a3 a4 a5 a6 a7 c0 c1 c2 c3 c4 c5 c6 c7 d0 d1 d2 d3 d4 d5 d6 d7 f0 f1 f2 f3 f4 f5 f6 f7 Ss
       go_wp2_with fail
       go_roundw
       case rel=>exact ⟨k+1,by omega,by go_num,hJ⟩
       case measure=>simp [intOf];omega
      ·have yK:k=rs.length:=by omega
       obtain ⟨vr,vw,vb,vl,I⟩:=hJ.out
       rw [List.take_of_length_le (by rw [Nv.out];omega)] at I
       have A6:f_ (∀qw,rs=qw.map Ev.raw->ja nl P evs=ja (nl:Int).toNat P qw):=fun qw he=>by rw [rQ (Q7.out.symm.trans he),Int.toNat_natCast]
       clear hJ Q7
       generalize ja nl P evs=M at *
       obtain ⟨ar,cr,ql⟩:=aE I.room.recs
       subst ql
       obtain ⟨aw,cw,qG⟩:=aE I.room.wait
       subst qG
       obtain ⟨ab,cb,oK⟩:=aE I.room.back
       subst oK
       obtain ⟨xs,hx⟩:=I.log
       obtain ⟨al,cl,mP⟩:=aE hx
       subst mP
       clear hx xs
       obtain ⟨⟨e0,e1,e2,e3,e4,e5,e6,e7⟩,_⟩:=aG I.Fh
       obtain ⟨⟨x0,x1,x2,x3,x4,x5,x6,x7⟩,y0,y1,y2,y3,y4,y5,y6,y7⟩:=aG (show wr.heap[w.heap.size+1]?=some (Obj.cells #[.int .i64 0,.int .i64 0,.int .i64 0,.int .i64 0,.slice none 0 0,.slice none 0 0,.slice none 0 0,.slice none 0 0] 63 (0,0)) from I.DK)
       have hI:=aa I
       replace yK:=aa yK
       clear I
       go_wp2_with fail
       change bodyPost p_ f42 _ .ret _ (Of.b8 _ (w.heap.size+1) (.int .i64 (nl:Nat)) (.int .i64 O) (.int .i64 P) (.int .i64 M.clock) (.slice ar M.recs.length cr) (.slice aw M.wait.length cw) (.slice ab M.back.length cb) (.slice al k cl))
       rw [EW.out]
       exact Bi (m:=M) hI.out.room hI.out.below hI.out.DK (Nat.le_succ _) ⟨_,_,_,rfl⟩ rfl rfl (by rw [eU.out];rfl) (fun h=>by rw [eU.out] at h;cases h) (fun _=>A6.out)
  ·have RF:(60:Int)<(rs.length:Int):=by omega
   have eU:f_ (da L O P rs=false):=by rw [f_];unfold da;rw [decide_eq_false OZ,Bool.and_false];rfl
   clear OZ
   go_wp2_with fail
   change bodyPost p_ f42 _ .ret _ (Of.b8 _ (w.heap.size+1) (.int .i64 L) (.int .i64 O) (.int .i64 P) (.int .i64 0) (.slice (some ⟨wa.heap.size,0,none⟩) 0 0) (.slice (some ⟨wa.heap.size+1,0,none⟩) 0 0) (.slice (some ⟨wa.heap.size+1+1,0,none⟩) 0 0) (.slice (some ⟨wa.heap.size+1+1+1,0,none⟩) 0 0))
   rw [EW.out]
   exact Bi (m:=Mz) I0.out.room I0.out.below I0.out.DK (Nat.le_succ _) ⟨_,_,_,rfl⟩ rfl rfl (by rw [eU.out];rfl) (fun _=>rfl) (fun h=>by rw [eU.out] at h;cases h)
theorem pF (h:da L O P rs=true):∃evs:List Ev,rs=evs.map Ev.raw/\(∀e∈evs,e.good O.toNat)/\evs.length<=60/\(1<=L/\L<=6)/\(1<=O/\O<=4)/\(1<=P/\P<=60)/\Xf L.toNat (ja L.toNat P evs):=by
 unfold da at h
 rw [T_,T_] at h
 obtain ⟨⟨h1,h2⟩,h3⟩:=h
 simp only [dw,T_,decide_eq_true_eq] at h1 h2
 obtain ⟨evs,he,hg⟩:=s8 h3
 have hl:evs.length<=60:=by rw [he,List.length_map] at h2;exact h2
 have:=Cj (nl:=L.toNat) (no:=O.toNat) (P:=P) hg hl (by omega) (by omega) evs.length
 rw [List.take_length] at this
 exact ⟨evs,he,hg,hl,by omega,by omega,by omega,this⟩
def qa (L O P:Int) (rs:List Raw) (R:List Int):Prop:=(da L O P rs=false->R=[])/\(da L O P rs=true->∀evs,rs=evs.map Ev.raw->R=bT L.toNat (ja L.toNat P evs).recs)
def Xd (L O P:Int) (rs:List Raw) (R:List Int):Prop:=(da L O P rs=false->R=[])/\(da L O P rs=true->∀evs,rs=evs.map Ev.raw->R=(ja L.toNat P evs).wait.map (·.1))
def R9 (L O P:Int) (rs:List Raw) (R:List Rec):Prop:=(da L O P rs=false->R=[])/\(da L O P rs=true->∀evs,rs=evs.map Ev.raw->R=(ja L.toNat P evs).recs)
theorem Gy {α:Type} {f:List Ev->List α} {R R':List α} (h:(da L O P rs=false->R=[])/\(da L O P rs=true->∀evs,rs=evs.map Ev.raw->R=f evs)) (k:(da L O P rs=false->R'=[])/\(da L O P rs=true->∀evs,rs=evs.map Ev.raw->R'=f evs)):R'=R:=by
 cases ha:da L O P rs with
 |false=>rw [h.1 ha,k.1 ha]
 |true=>
  obtain ⟨evs,he,_⟩:=pF ha
  rw [h.2 ha evs he,k.2 ha evs he]
section
variable {ec:Nat}
theorem zY (bR:fF w ea rs) (hlen:rs.length<=1048576):
 Calls p_ 19 #[.agg #[.int .i64 L,.int .i64 O,.int .i64 P],.slice ea rs.length ec] w fun e w'=>∃u R,e=.returned u/\w'.ownsRow w.heap.size 3 1 u R.length (R.map (Value.int .i64))/\g_ w.heap.size w w'/\Xd L O P rs R:=by
 obtain ⟨w1,cf⟩:∃w1,w.alloc (.cells #[.int .i64 L,.int .i64 O,.int .i64 P] 28)=w1:=⟨_,rfl⟩
 have DF:f_ (g_ w.heap.size w w1):=by rw [f_,<-cf];exact (h_ _ _).alloc (C_ _) _
 have jm:w1.heap[w.heap.size]?=some (.cells #[.int .i64 L,.int .i64 O,.int .i64 P] 28 (0,0)):=by rw [<-cf];exact Z' w _
 have g0:w1.cell? ⟨w.heap.size,0,none⟩=some (.int .i64 L):=aB jm
 have g1:w1.cell? ⟨w.heap.size,1,none⟩=some (.int .i64 O):=aB jm
 have g2:w1.cell? ⟨w.heap.size,2,none⟩=some (.int .i64 P):=aB jm
 have hrun:=aa (Hx (L:=L) (O:=O) (P:=P) (ec:=ec) (bR.below DF.out) hlen)
 clear bR jm
 obtain ⟨Po,EW⟩:∃Po:Ending->J'->Prop,f_ (Po=fun e w'=>∃u R,e=.returned u/\w'.ownsRow w.heap.size 3 1 u R.length (R.map (Value.int .i64))/\g_ w.heap.size w w'/\Xd L O P rs R):=⟨_,rfl⟩
 refine Calls.mono (R:=Po) ?_ (fun e w' h=>by rw [EW.out] at h;exact h)
 obtain ⟨ok,cK⟩:∃ok,da L O P rs=ok:=⟨_,rfl⟩
 have eU:=aa cK
 clear cK
 go_enter func19,ntmps19
 go_wp2_with fail
 refine hrun.out.mono ?_
 rintro e w2 ⟨m,vr,vw,vb,vl,rfl,R,hB,⟨al,bM,cl,rfl⟩,TP,Sp⟩
 obtain ⟨ar,cr,ql⟩:=aE R.recs
 subst ql
 obtain ⟨aw,cw,qG⟩:=aE R.wait
 subst qG
 obtain ⟨ab,cb,oK⟩:=aE R.back
 subst oK
 obtain ⟨w3,CK⟩:∃w3,w2.alloc (.cells #[.int .i64 L,.int .i64 O,.int .i64 P,.int .i64 m.clock,.slice ar m.recs.length cr,.slice aw m.wait.length cw,.slice ab m.back.length cb,.slice al bM cl] 63)=w3:=⟨_,rfl⟩
 have R3:f_ (bA w1.heap.size m (.slice ar m.recs.length cr) (.slice aw m.wait.length cw) (.slice ab m.back.length cb) w3):=(by rw [<-CK];exact R.alloc _)
 have B3:f_ (g_ w.heap.size w w3):=(by rw [f_,<-CK];exact (DF.out.trans (hB.mono DF.out.size)).alloc (D_ DF.out.size hB.size) _)
 obtain ⟨⟨a0,a1,a2,a3,a4,a5,a6,a7⟩,_⟩:=aG (show w3.heap[w2.heap.size]?=some (.cells #[.int .i64 L,.int .i64 O,.int .i64 P,.int .i64 m.clock,.slice ar m.recs.length cr,.slice aw m.wait.length cw,.slice ab m.back.length cb,.slice al bM cl] 63 (0,0)) from (by rw [<-CK];exact Z' w2 _))
 replace TP:=aa TP
 replace Sp:=aa Sp
 unfold jD
 clear R hB g0 g1 g2
 rw [eU.out]
 go_wp2_with fail
 have Ww:m.wait.length<=1000:=by
  cases hx:da L O P rs with
  |false=>rw [TP.out hx];exact Nat.zero_le _
  |true=>
   obtain ⟨evs,uO,_,_,_,_,_,hk⟩:=pF hx
   rw [Sp.out hx evs uO];have:=hk.n2;omega
 refine (JJ R3.out.rd.2.1 R3.out.nN.2.1 Ww).mono ?_
 rintro e w4 ⟨u,rfl,nS,CX⟩
 replace nS:=aa nS
 replace CX:=aa CX
 clear Ww
 go_wp2_with fail
 rw [EW.out]
 refine ⟨_,m.wait.map (·.1),rfl, ?_,B3.out.trans (CX.out.mono B3.out.size),fun h=>by rw [TP.out h];rfl,fun h evs he=>by rw [Sp.out h evs he]⟩
 have:=gG nS.out B3.out.size
 rw [List.length_map,List.map_map];exact this
end
end
end Go.aC.Of
namespace Go.aC
open Go Go.Conc Go.Conc.Lib Go.ConcR Go.ConcR.Gen
section
variable {P:Program} {C:cS} {b o:Nat} {Post:M'->J'->Prop} {Rs:(Nat->Prop)->(Nat->aX)->Nat->Prop} {k:Nat} {wl:J'}
end
end Go.aC
namespace Go.aC.Of
open Go Go.Conc Go.Conc.Lib Go.ConcR Go.ConcR.Gen Go.aC Go.Proofs
open Go.RowKit hiding Hid
open Go.ConcN (upd upd_ne upd_same)
variable {O:Int}
theorem xK (hO:1<=O/\O<=4) {e:Ev} (h:e.good O.toNat):bu e.raw O=true:=by
 have q1:(O<1)=False:=eq_false (by omega)
 have q2:(4<O)=False:=eq_false (by omega)
 cases e with
 |ring c pt=>
  obtain ⟨⟨h1,h2⟩,h3,h4⟩:=h
  have q3:(c<1)=False:=eq_false (by omega)
  simp [bu,Ev.raw,Ev.kind,Ev.who,Ev.word,q1,q2,q3]
  first|exact ⟨decide_eq_true h2,decide_eq_true h3,decide_eq_true h4⟩|exact decide_eq_true h2|exact decide_eq_true (show (i:Int)+1<=O by omega)
 |hang c=>
  obtain ⟨h1,h2⟩:=h
  have q3:(c<1)=False:=eq_false (by omega)
  simp [bu,Ev.raw,Ev.kind,Ev.who,Ev.word,q1,q2,q3]
  first|exact ⟨decide_eq_true h2,decide_eq_true h3,decide_eq_true h4⟩|exact decide_eq_true h2|exact decide_eq_true (show (i:Int)+1<=O by omega)
 |answer i=>
  have h:i<O.toNat:=h
  have q3:((i:Int)+1<1)=False:=eq_false (by omega)
  simp [bu,Ev.raw,Ev.kind,Ev.who,Ev.word,q1,q2,q3]
  first|exact ⟨decide_eq_true h2,decide_eq_true h3,decide_eq_true h4⟩|exact decide_eq_true h2|exact decide_eq_true (show (i:Int)+1<=O by omega)
 |back i=>
  have h:i<O.toNat:=h
  have q3:((i:Int)+1<1)=False:=eq_false (by omega)
  simp [bu,Ev.raw,Ev.kind,Ev.who,Ev.word,q1,q2,q3]
  first|exact ⟨decide_eq_true h2,decide_eq_true h3,decide_eq_true h4⟩|exact decide_eq_true h2|exact decide_eq_true (show (i:Int)+1<=O by omega)
 |wait n=>
  obtain ⟨h1,h2⟩:=h
  have q3:(n<1)=False:=eq_false (by omega)
  simp [bu,Ev.raw,Ev.kind,Ev.who,Ev.word,q1,q2,q3]
  first|exact ⟨decide_eq_true h2,decide_eq_true h3,decide_eq_true h4⟩|exact decide_eq_true h2|exact decide_eq_true (show (i:Int)+1<=O by omega)
section
variable {oa:cS} {b o:Nat} {Post:M'->J'->Prop} {Bd:Nat} {wl:J'} {aI:Frame} {aS:Act} {av:Array Oper} {aN:Nat} {ak:List Nat} {aV:List Item} {cs:List Frame} {fG P:Int} {ea:Option Addr} {ec:Nat} {rs:List Raw}
noncomputable def mq:Code:=f22.body.getD .skip
noncomputable def mr:Code:=f13.body.getD .skip
noncomputable def ε:Code:=f20.body.getD .skip
theorem RP {p q:M'}:Frame.enter p_ 20 #[p,q] .normal=(base 20).at ⟨#[p,q,I',I',I',I',I',I',I',I',I',I',I',I',I',I',I',I',I',I',I',I',I',I',I',I',I',I',I',I',I',I',I',I',I',I'],[]⟩ [.code ε]:=by kernel_rfl
theorem call20 (hL:Lay oa wl) (hlen:rs.length<=1048576) (bR:fF wl ea rs) (sr:qO wl) (SI:Bd<1000000000)
 (hc:∀C' b' o' aK u R,Lay C' aK->SQ wl aK->wl.heap.size<=aK.heap.size->aK.ownsRow wl.heap.size 3 1 u R.length (R.map (Value.int .i64))->Xd fG O P rs R->Can p_ C' b' o' Post 0 (db (Bd+5)) aK (G (aI.at (aS.put ((av[aN]?).bind (·.dst)) (u)) (.inRegion av ak::aV)) cs)):
 Can p_ oa b o Post 0 (db Bd) wl (G (Frame.enter p_ 20 #[.agg #[.int .i64 fG,.int .i64 O,.int .i64 P],.slice ea rs.length ec] .normal) (aI.at aS (.inRegion av (aN::ak)::aV)::cs)):=by
 have hS:=cT Bd
 rw [RP]
 have e1:ε=.seq (ai 0 ε) (.seq (ai 1 ε) (az 2 ε)):=by kernel_rfl
 rw [e1]
 refine hS.s hL ?_
 refine Can.cY pA hS hL (aF (by kernel_rfl) rfl rfl ⟨_,func20⟩) ?_
 intro T d W hW Bh hB
 have ir:=aa hc
 have qK:=aa hL
 have Ki:=aa bR
 have J9:=aa sr
 have k0:f_ (dI wl W):=by rw [hW.out];exact (dI.refl wl).re T d
 clear hc hL bR sr hW
 simp only [ai,ε,f20,A_]
 go_wp2_with fail
 have hB:=hB.out
 subst hB
 intro hcut
 have k1:dI wl (W.alloc (.cells #[.int .i64 fG,.int .i64 O,.int .i64 P] 28)):=k0.out.alloc _
 have x1:(W.alloc (.cells #[.int .i64 fG,.int .i64 O,.int .i64 P] 28)).heap[W.heap.size]?=some (.cells #[.int .i64 fG,.int .i64 O,.int .i64 P] 28 (0,0)):=Z' W _
 generalize W.alloc (.cells #[.int .i64 fG,.int .i64 O,.int .i64 P] 28)=w1 at *
 have nU:Lay oa w1:=⟨hcut,qK.out.no⟩
 generalize W.heap.size=g1 at *
 clear k0 hcut
 refine hS.s nU ?_
 generalize hX:[Item.code (az 2 ε)]=X0
 simp only [ai,ε,f20,A_]
 refine Can.ctl hS nU rfl (fun _=>zb) ?_
 refine Can.op (ok:=il) hS nU rfl rfl (by k_ne) (by kernel_rfl) (fun T d=>⟨.agg #[.int .i64 fG,.int .i64 O,.int .i64 P],w1.re T d, ?_,fun _=>Can.re ?_ T d⟩)
 ·have h0:(w1.re T d).cell? ⟨g1,0,none⟩=some (.int .i64 fG):=by (rw [show (w1.re T d).cell? ⟨g1,0,none⟩=w1.cell? ⟨g1,0,none⟩ from rfl,aB x1];rfl)
  have h1:(w1.re T d).cell? ⟨g1,1,none⟩=some (.int .i64 O):=by (rw [show (w1.re T d).cell? ⟨g1,1,none⟩=w1.cell? ⟨g1,1,none⟩ from rfl,aB x1];rfl)
  have h2:(w1.re T d).cell? ⟨g1,2,none⟩=some (.int .i64 P):=by (rw [show (w1.re T d).cell? ⟨g1,2,none⟩=w1.cell? ⟨g1,2,none⟩ from rfl,aB x1];rfl)
  go_simp
 walk_nrm
 refine Can.op (ok:=il) hS nU rfl rfl (by k_ne) (by kernel_rfl) (fun T d=>⟨.slice ea rs.length ec,w1.re T d, ?_,fun _=>Can.re ?_ T d⟩)
 ·go_simp
 walk_nrm
 refine Can.ctl hS nU rfl (fun _=>bY (vs:=#[.agg #[.int .i64 fG,.int .i64 O,.int .i64 P],.slice ea rs.length ec]) rfl rfl (by k_ne) rfl func45 rfl rfl (by kernel_rfl)) ?_
 have xy:fF w1 ea rs:=Ki.out.keep k1
 have xr:qO w1:=by
  obtain ⟨g,cs',e,f,t1,t2,t3⟩:=J9.out
  exact ⟨g,cs',e,f,t1,k1.blk _ _ t2,t3⟩
 refine FE nU hlen xy xr SI (fun hb aK fJ k=> ?_) (fun evs ls us h1 h2 h3 h4 h5 h6 h7 h8=> ?_)
 ·have eU:f_ (da fG O P rs=false):=hb
  have kk:=aa (k1.trans k)
  clear hb k
  walk_nrm
  refine Can.op (ok:=il) hS fJ rfl rfl (by k_ne) (by kernel_rfl) (fun T d=>⟨.pointer none,aK.re T d, ?_,fun _=>Can.re ?_ T d⟩)
  ·go_simp
  walk_nrm
  refine Can.ctl hS fJ rfl (fun _=>stepG_region_end) ?_
  subst hX
  refine Can.cY pA hS fJ (aF (by kernel_rfl) rfl rfl ⟨_,func20⟩) ?_
  intro T d W hW Bh hB
  have ij:=aa hW
  have qq:=aa fJ
  clear hW fJ nU k1 x1 xy xr
  simp only [az,ε,f20,A_]
  go_wp2_with fail
  have hB:=hB.out
  subst hB
  intro hcut todo
  have hW:=ij.out.out
  subst hW
  refine Can.re ?_ T d
  refine Can.ctl hS qq.out rfl (fun _=>aZ rfl rfl func20 rfl) ?_
  exact Can.mono (ir.out oa b o aK (.slice none 0 0) [] qq.out (fun g cs' e f h=>kk.out.blk _ _ h) kk.out.size (World.ownsRow_nil _ _ _ _) ⟨fun _=>rfl,fun h=>by rw [eU.out] at h;cases h⟩) (db.mono (by omega))
 ·have eU:f_ (da fG O P rs=true):=by
   unfold da
   rw [f_,h2,decide_eq_true (by rw [h1,List.length_map];exact h3),List.all_eq_true.2];rfl
   intro x hx
   rw [h1] at hx
   obtain ⟨e,he,rfl⟩:=List.mem_map.1 hx
   exact xK (by simp only [dw,T_,decide_eq_true_eq] at h2;omega) (h4 e he)
  have AX:(1<=fG/\fG<=6)/\(1<=O/\O<=4):=by
   simp only [dw,T_,decide_eq_true_eq] at h2
   omega
  obtain ⟨Uj,hrel⟩:=Ag (nl:=fG.toNat) (no:=O.toNat) (P:=P) h5 (by omega) (by omega) h8 h4 h3 (by omega) (by omega)
  refine ⟨Uj,fun C' bw A va vt aK fJ hH xq hsz yF=> ?_⟩
  have xI:f_ (∀qw,rs=qw.map Ev.raw->qw=evs):=fun qw he=>rQ (he.symm.trans h1)
  obtain ⟨vw,vb,vr,HV⟩:=hH
  have uh:=cT (Bd+5)
  have M1:f_ ((Bf P ls us evs).wait=(ja fG.toNat P evs).wait):=hrel.wait
  have AQ:(Bf P ls us evs).wait.length<=1000:=by have h9:=hrel.n2;rw [M1.out];omega
  generalize Bf P ls us evs=S at *
  have J4:f_ (SQ wl aK):=fun g cs' e f h=>xq g cs' e f (k1.blk _ _ h)
  have Kd:f_ (wl.heap.size<=aK.heap.size/\wl.heap.size<=A.B):=⟨D_ k1.size yF,by have:=HV.ok.hb;have:=k1.size;omega⟩
  have qq:=aa fJ
  have WN:=aa HV
  clear Uj hrel xq hsz yF HV h1 h2 h3 h4 h5 h6 h7 h8 xy xr k1 x1 AX
  walk_nrm
  refine Can.op (ok:=il) uh qq.out rfl rfl (by k_ne) (by kernel_rfl) (fun T d=>⟨.pointer (some ⟨A.hb,0,none⟩),aK.re T d, ?_,fun _=>Can.re ?_ T d⟩)
  ·go_simp
  walk_nrm
  refine Can.ctl uh qq.out rfl (fun _=>stepG_region_end) ?_
  subst hX
  refine Can.cY pA uh qq.out (aF (by kernel_rfl) rfl rfl ⟨_,func20⟩) ?_
  intro T d W hW Bh hB
  have ij:=aa hW
  clear fJ nU hW
  have HW:=aa (WN.out.heap (w':=W) (by rw [ij.out.out];rfl))
  obtain ⟨_,_,_,_,c7,_⟩:=HW.out.c
  obtain ⟨aw,cw,qG⟩:=aE HW.out.wait
  subst qG
  have CW:=aa HW.out.big
  have cK:=aa HW.out.ok
  obtain ⟨i0,qJ,tX,rm,uF⟩:=info_parts CF
  simp only [az,ε,f20,A_]
  go_wp2_with (at_make;refine wpList_make_own _ rfl _ _ 26 rfl W.heap.size 3 i0 (.int .i64 0) 1 Tryz.underlying26 qJ tX rm .i64 .i64 _ S.wait.length rfl rfl rfl ?b2 ?b3 (C_ _) ?_)
  case b2=>rw [uF];omega
  case b3=>unfold maxLen;omega
  intro w3 mQ VG
  have η:f_ (w3.ownsRow W.heap.size 3 1 (.slice (some ⟨W.heap.size,0,none⟩) 0 S.wait.length) 0 []/\g_ W.heap.size W w3):=⟨mQ,(h_ _ _).grown VG (C_ _) (fun g e=>by cases e)⟩
  have c7a:w3.cell? ⟨A.hb,7,none⟩=some (.slice aw S.wait.length cw):=(World.cell?_of_block (η.out.2.block A.hb (by have:=CW.out;have:=cK.out.hb;omega))).trans c7
  clear mQ VG c7
  go_wp2_with fail
  clear c7a
  go_loopw [25,6] (fun i u wr=>∃k:Nat,k<=S.wait.length/\i=.int .i64 k/\f_ (wr.ownsRow W.heap.size 3 1 u k ((S.wait.take k).map fun p=>Value.int .i64 p.1)/\g_ W.heap.size W wr)) (fun i _ _=>S.wait.length - (intOf i).toNat)
  case atStart=>exact ⟨0,Nat.zero_le _,rfl,η⟩
  case round=>
   clear η
   obtain ⟨k,hk,rfl,hT⟩:=hrel
   by_cases hlt:k<S.wait.length
   ·have gJ:(k:Int)<(S.wait.length:Int):=by omega
    obtain ⟨gq,capq,YL,hcq,y0,y1⟩:=pR (gL.below (Ed HW.out.wait (fun _=>by omega)) (fun g e=>(HW.out.wait.lt g e).2) hT.out.2) hlt
    injection YL with i1 i2 i3
    subst i1 i3
    have h1:f_ ((S.wait.take (k+1)).map (fun p=>Value.int .i64 p.1)=(S.wait.take k).map (fun p=>Value.int .i64 p.1)++[.int .i64 (S.wait[k]).1]):=by rw [f_,List.take_succ_eq_append_getElem hlt,List.map_append];rfl
    obtain ⟨au,cu,hu⟩:=aE hT.out.1
    subst hu
    generalize S.wait[k]=p at y0 y1 h1
    obtain ⟨w4,ψ⟩:∃w4,wr.alloc (.cells #[.int .i64 p.1,.int .i64 p.2] 84)=w4:=⟨_,rfl⟩
    have g4:w4.cell? ⟨wr.heap.size,0,none⟩=some (.int .i64 p.1):=by rw [<-ψ];exact bJ rfl
    have YC:f_ (w4.ownsRow W.heap.size 3 1 (.slice au k cu) k ((S.wait.take k).map fun p=>Value.int .i64 p.1)/\g_ W.heap.size W w4):=by
     rw [<-ψ];exact ⟨hT.out.1.alloc _,hT.out.2.alloc hT.out.2.size _⟩
    have ub:=aa YC.out.2.size
    clear hT
    go_wp2_with (at_builtin;refine wpList_append_lies _ rfl (.tmp 29) (.tmp 32) 26 rfl W.heap.size 3 i0 _ 1 8 Tryz.underlying26 qJ tX rm uF rfl (by decide) _ _ _ rfl (YC.out.1.alloc _) ⟨w4.heap.size,0,none⟩ 1 1 [.int .i64 p.1] rfl rfl (fY w4 _ _ rfl) ?c1 (by omega) ?c3 ?c4 ?c5 _ rfl ?_)
    case c1=>rfl
    case c3=>unfold maxLen;omega
    case c4=>omega
    case c5=>have:=ub.out;omega
    intro gg mW w6 jl kh iP mR
    have EU:f_ (w6.ownsRow W.heap.size 3 1 (.slice (some ⟨gg,0,none⟩) (k+1) mW) (k+1) ((S.wait.take (k+1)).map fun p=>Value.int .i64 p.1)/\g_ W.heap.size W w6):=by
     refine ⟨?_,(YC.out.2.alloc ub.out _).grown kh (by have:=ub.out;rw [B_];omega) fun g e=>(YC.out.1.lt g e).1⟩
     rw [h1.out];simpa using jl
    clear jl kh iP mR YC g4 y0 y1 ψ
    go_wp2_with fail
    go_roundw
    case rel=>exact ⟨k+1,by omega,by go_num,EU⟩
    case measure=>simp [intOf];omega
   ·have yK:k=S.wait.length:=by omega
    have lI:f_ (Xd fG O P rs (S.wait.map (·.1))):=⟨fun h=>(by rw [eU.out] at h;cases h),fun _ qw he=>by rw [xI.out qw he,M1.out]⟩
    have ZV:=hT.out
    rw [List.take_of_length_le (by omega)] at ZV
    have RY:wr.ownsRow W.heap.size 3 1 u6 (S.wait.map (·.1)).length ((S.wait.map (·.1)).map (Value.int .i64)):=by
     rw [List.length_map,List.map_map,<-yK];exact ZV.1
    have hTb:=aa ZV.2
    replace RY:=aa RY
    replace yK:=aa yK
    clear ZV hT
    go_wp2_with fail
    have hB:=hB.out
    subst hB
    intro hcut todo
    have du:Lay C' wr:=⟨hcut,qq.out.no⟩
    have ζ:W.heap=aK.heap:=by rw [ij.out.out];rfl
    refine Can.ctl uh du rfl (fun _=>aZ rfl rfl func20 rfl) ?_
    refine ir.out C' bw 0 wr _ (S.wait.map (·.1)) du (fun g cs' e f h=> ?_) (D_ (by rw [ζ];exact Kd.out.1) hTb.out.size) (gG RY.out (by rw [ζ];exact Kd.out.1)) lI.out
    have h1:=J4.out g cs' e f h
    rw [<-ζ] at h1
    exact (hTb.out.block g (fw h1)).trans h1
end
end Go.aC.Of
