/-
  The reference's l6Run.
-/
import Derived.StillTailTactics
import Derived.Deep.RegionWith
import Derived.Lib.Hide
import Derived.Laws.Rows
import Derived.BigQuiet
import Derived.Deep.QuietTactic
import Derived.Maps.AppendAt
import Derived.Lib.QuietBelow
import Derived.Test.YtnjkbffmmgckeaaGreatDoorPaa
import Derived.Test.YtnjkbffmmgckeaaGreatDoorPad
import Derived.Test.YtnjkbffmmgckeaaGreatDoorPal
set_option linter.all false
set_option maxRecDepth 100000
set_option maxHeartbeats 32000000
open Go renaming undef->I',World->J',Value->M',TypeId->Q',Program->U',Frame->Y',heap_alloc_new->Z',heap_setCell_other->a_,Calls->d_,Addr->z_
open Go.RowKit renaming Hid->f_,Below->g_
open Go.RowKit.Below renaming refl->h_
open Option renaming getD_some->A_
open Go.World renaming size_alloc->B_,grownBy_alloc->N_,size_setCell->o_
open Nat renaming le_refl->C_,le_trans->D_,lt_of_lt_of_le->E_,zero_le->nz
open List renaming getElem?_eq_getElem->G_,length_take->Q_
open Option.some renaming inj->M_
open Bool renaming and_eq_true->T_
open Go.Proofs.Tryz renaming prog->p_
open Array renaming getD_eq_getD_getElem?->r_
open Go.Obj renaming cells->jY
open Go.Proofs.Tryz
namespace Go.aC.Of
section
open Go Go.Conc Go.Conc.Lib Go.ConcR Go.ConcR.Gen Go.aC Go.Proofs
open Go.RowKit hiding Hid
open Go.ConcN (upd upd_ne upd_same)
def Mz:Rm:=⟨[],[],[],0,[]⟩
def da (L O P:Int) (rs:List Raw):Bool:=dw L O P&&decide (rs.length<=60)&&rs.all (fun r=>bu r O)
def Bv (w:J') (L O P:Int) (rs:List Raw) (e:Ending) (w':J'):Prop:=
 ∃(m:Rm) (vr vw vb vl:M'),e=.returned (.tuple #[jD L O P m.clock vr vw vb vl,.bool (da L O P rs)])/\bA w.heap.size m vr vw vb w'/\g_ w.heap.size w w'/\(∃a n c,vl=.slice a n c)/\
  (da L O P rs=false->m=Mz)/\(da L O P rs=true->∀evs,rs=evs.map Ev.raw->m=ja L.toNat P evs)
variable {nl k:Nat} {P:Int} {evs:List Ev}
theorem G7 (hk:k<evs.length):ja nl P (evs.take (k+1))=Ca nl P (ja nl P (evs.take k)) evs[k]:=by
 unfold ja;rw [List.take_succ_eq_append_getElem hk,List.foldl_append];rfl
theorem MJ {a b:Ev} (h:a.raw=b.raw):a=b:=by
 cases a<;>cases b<;>simp [Ev.raw,Ev.kind,Ev.who,Ev.word] at h ⊢<;>first|exact h|omega
theorem rQ {a b:List Ev} (h:a.map Ev.raw=b.map Ev.raw):a=b:=(List.map_inj_right fun _ _=>MJ).1 h
theorem Cj {no:Nat} (he:∀e∈evs,Ev.good no e) (hn:evs.length<=60) (rp:nl<=100) (hno:no<=999) (k:Nat):Xf nl (ja nl P (evs.take k)):=by
 have hl:(evs.take k).length<=60:=by rw [Q_];omega
 exact okM (Ag (nl:=nl) (no:=no) (ls:=List.range nl) (us:=List.replicate no ⟨0,0,0⟩) (P:=P) (evs:=evs.take k) List.nodup_range List.length_range List.length_replicate (fun u hu=>by rw [List.eq_of_mem_replicate hu]) (fun e h=>he e (List.mem_of_mem_take h)) hl (by omega) hno).2 hl rp
variable {w:J'} {B:Nat}
theorem kJ {e sz:Nat} (hB:B<=w.heap.size) (hm:0<=maxLen):(w.alloc (.cells #[] e)).ownsRow B e sz (.slice (some ⟨w.heap.size,0,none⟩) 0 0) 0 []:=World.ownsRow_lit w #[] 0 hB (by decide) (by simp)
variable {w':J'} {j:Nat}
theorem iW {n:Nat} {b:Nat} {v:M'} (h:g_ n w w') (hb:n<=b):g_ n w (w'.setCell ⟨b,j,none⟩ v):=
 ⟨h.os,h.tape,h.output,by rw [o_];exact h.size,fun g hg=>(a_ w' ⟨b,j,none⟩ g v (show g≠b by omega)).trans (h.block g hg)⟩
theorem rB {n:Nat} {b:Nat} {v0 v1 v2 v3 v4 v5 v6 v7:M'} (h:g_ n w w') (hb:n<=b):g_ n w (Of.b8 w' b v0 v1 v2 v3 v4 v5 v6 v7):=by
 unfold Of.b8
 exact iW (iW (iW (iW (iW (iW (iW (iW h hb) hb) hb) hb) hb) hb) hb) hb
variable {vr vb:M'}
theorem D8 {n B:Nat} {w5:J'} (h:g_ n w w') (k:bg vr vb w' w5) (h1:∀g,vr.ownBlock=some g->n<=g) (h2:∀g,vb.ownBlock=some g->n<=g) (hn:n<=w'.heap.size):g_ n w w5:=
 ⟨k.os.trans h.os,k.tape.trans h.tape,k.output.trans h.output,D_ h.size k.size,fun g hg=>(k.block g (by omega) (fun e=>by have:=h1 g e;omega) (fun e=>by have:=h2 g e;omega)).trans (h.block g hg)⟩
variable {fn:Func} {rs:List Raw} {L O:Int}
theorem Bi {w0:J'} {m:Rm} {vw vl:M'} {b4:Nat} {tm:Array M'} (R:bA w0.heap.size m vr vw vb w) (hF:g_ w0.heap.size w0 w) (hb:w.heap[b4]?=some (.cells ia 63 (0,0))) (l4:w0.heap.size<=b4) (mP:∃a n c,vl=.slice a n c)
 (EJ:fn.results=#[.cell 4 63,.tmp 5]) (h4:tm.getD 4 I'=.pointer (some ⟨b4,0,none⟩)) (h5:tm.getD 5 I'=.bool (da L O P rs)) (k1:da L O P rs=false->m=Mz) (k2:da L O P rs=true->∀evs,rs=evs.map Ev.raw->m=ja L.toNat P evs):
 bodyPost p_ fn (Bv w0 L O P rs) .ret ⟨tm,[]⟩ (Of.b8 w b4 (.int .i64 L) (.int .i64 O) (.int .i64 P) (.int .i64 m.clock) vr vw vb vl):=by
 have q4:vr.ownBlock≠some b4:=bB R.recs hb (by decide)
 have q5:vw.ownBlock≠some b4:=bB R.wait hb (by decide)
 have q6:vb.ownBlock≠some b4:=bB R.back hb (by decide)
 have hR:=R.b8 (v0:=.int .i64 L) (v1:=.int .i64 O) (v2:=.int .i64 P) (v3:=.int .i64 m.clock) (v4:=vr) (v5:=vw) (v6:=vb) (v7:=vl) q4 q5 q6
 have hF2:=rB (v0:=.int .i64 L) (v1:=.int .i64 O) (v2:=.int .i64 P) (v3:=.int .i64 m.clock) (v4:=vr) (v5:=vw) (v6:=vb) (v7:=vl) hF l4
 obtain ⟨⟨s0,s1,s2,s3,s4,s5,s6,s7⟩,_⟩:=aG (lB (show w.heap[b4]?=some (jY #[.int .i64 0,.int .i64 0,.int .i64 0,.int .i64 0,.slice none 0 0,.slice none 0 0,.slice none 0 0,.slice none 0 0] 63 (0,0)) from hb) (.int .i64 L) (.int .i64 O) (.int .i64 P) (.int .i64 m.clock) vr vw vb vl)
 generalize Of.b8 w b4 (.int .i64 L) (.int .i64 O) (.int .i64 P) (.int .i64 m.clock) vr vw vb vl=W at *
 have VC:tm[4]?.getD I'=.pointer (some ⟨b4,0,none⟩):=by rw [<-r_];exact h4
 have VB:tm[5]?.getD I'=.bool (da L O P rs):=by rw [<-r_];exact h5
 refine bodyPost_ret (v:=.tuple #[jD L O P m.clock vr vw vb vl,.bool (da L O P rs)]) (by simp [results,EJ,go_sem,jD,VC,VB,s0,s1,s2,s3,s4,s5,s6,s7]) rfl ?_
 exact ⟨m,vr,vw,vb,vl,rfl,hR,hF2,mP,k1,k2⟩
structure rD (w:J') (L O P:Int) (b6:Nat) (m:Rm) (vr vw vb vl:M') (kl:Nat) (wr:J'):Prop where
 room:bA w.heap.size m vr vw vb wr
 log:∃xs,wr.ownsRow w.heap.size 9 1 vl kl xs
 below:g_ w.heap.size w wr
 Ml:wr.heap[w.heap.size]?=some (.cells #[.int .i64 L,.int .i64 O,.int .i64 P] 28 (0,0))
 DK:wr.heap[w.heap.size+1]?=some (.cells ia 63 (0,0))
 Fh:wr.heap[b6]?=some (.cells (gi L O P m.clock vr vw vb vl) 63 (0,0))
 TN:w.heap.size+2<=b6
variable {wr wr' w5:J'} {b6 g5 kl:Nat} {m m':Rm} {vw vl qb jA qS S0:M'}
variable {g:Nat}
theorem fw {o:Obj} (h:w.heap[g]?=some o):g<w.heap.size:=(cI h)
theorem rD.step (h:rD w L O P b6 m vr vw vb vl kl wr) (hb:g_ wr.heap.size wr wr'):rD w L O P b6 m vr vw vb vl kl wr':=by
 obtain ⟨xs,hx⟩:=h.log
 exact ⟨h.room.below hb,⟨xs,fE hx fun g e=>hb.block g (hx.lt g e).2⟩,h.below.trans (hb.mono h.below.size),(hb.block _ (fw h.Ml)).trans h.Ml,(hb.block _ (fw h.DK)).trans h.DK,(hb.block _ (fw h.Fh)).trans h.Fh,h.TN⟩
theorem rD.took (h:rD w L O P b6 m vr vw vb vl kl wr) (p:GF wr w.heap.size vr vb m' qb jA qS w5) (hz:w5.heap[g5]?=some (.cells ia 63 (0,0))) (hg:wr.heap.size<=g5):
 ((Of.b8 w5 g5 (.int .i64 L) (.int .i64 O) (.int .i64 P) (.int .i64 m'.clock) qb jA qS vl).heap[g5]?=some (.cells (gi L O P m'.clock qb jA qS vl) 63 (0,0))/\
 (Of.b8 w5 g5 (.int .i64 L) (.int .i64 O) (.int .i64 P) (.int .i64 m'.clock) qb jA qS vl).heap[b6]?=some (.cells (gi L O P m.clock vr vw vb vl) 63 (0,0)))/\
 rD w L O P b6 m' qb jA qS vl kl (Of.b8 (Of.b8 w5 g5 (.int .i64 L) (.int .i64 O) (.int .i64 P) (.int .i64 m'.clock) qb jA qS vl) b6 (.int .i64 L) (.int .i64 O) (.int .i64 P) (.int .i64 m'.clock) qb jA qS vl):=by
 obtain ⟨xs,hx⟩:=h.log
 have l6:=fw h.Fh
 have l4:=fw h.DK
 have l2:=fw h.Ml
 have n6:b6≠g5:=by omega
 have v6:w5.heap[b6]?=some (.cells (gi L O P m.clock vr vw vb vl) 63 (0,0)):=(p.fr.block _ l6 (bB h.room.recs h.Fh (by decide)) (bB h.room.back h.Fh (by decide))).trans h.Fh
 have v4:w5.heap[w.heap.size+1]?=some (.cells ia 63 (0,0)):=(p.fr.block _ l4 (bB h.room.recs h.DK (by decide)) (bB h.room.back h.DK (by decide))).trans h.DK
 have v2:w5.heap[w.heap.size]?=some (.cells #[.int .i64 L,.int .i64 O,.int .i64 P] 28 (0,0)):=(p.fr.block _ l2 (bB h.room.recs h.Ml (by decide)) (bB h.room.back h.Ml (by decide))).trans h.Ml
 have x5:w5.ownsRow w.heap.size 9 1 vl kl xs:=fE hx fun g e=>p.fr.block g (hx.lt g e).2 (fun e2=>by
  obtain ⟨c1,z1⟩:=jF hx e
  obtain ⟨c2,z2⟩:=jF h.room.recs e2
  rw [z1] at z2;simp at z2) (fun e2=>by
  obtain ⟨c1,z1⟩:=jF hx e
  obtain ⟨c2,z2⟩:=jF h.room.back e2
  rw [z1] at z2;simp at z2)
 have a6:=fw v6
 refine ⟨⟨?_, ?_⟩, ?_⟩
 ·exact lB (show w5.heap[g5]?=some (jY #[.int .i64 0,.int .i64 0,.int .i64 0,.int .i64 0,.slice none 0 0,.slice none 0 0,.slice none 0 0,.slice none 0 0] 63 (0,0)) from hz) _ _ _ _ _ _ _ _
 ·exact (kN n6).trans v6
 ·have R1:=p.room.b8 (v0:=.int .i64 L) (v1:=.int .i64 O) (v2:=.int .i64 P) (v3:=.int .i64 m'.clock) (v4:=qb) (v5:=jA) (v6:=qS) (v7:=vl) (bB p.room.recs hz (by decide)) (bB p.room.wait hz (by decide)) (bB p.room.back hz (by decide))
  have R2:=R1.b8 (v0:=.int .i64 L) (v1:=.int .i64 O) (v2:=.int .i64 P) (v3:=.int .i64 m'.clock) (v4:=qb) (v5:=jA) (v6:=qS) (v7:=vl) (bB p.room.recs v6 (by decide)) (bB p.room.wait v6 (by decide)) (bB p.room.back v6 (by decide))
  have hne:∀g,g≠b6->g≠g5->(Of.b8 (Of.b8 w5 g5 (.int .i64 L) (.int .i64 O) (.int .i64 P) (.int .i64 m'.clock) qb jA qS vl) b6 (.int .i64 L) (.int .i64 O) (.int .i64 P) (.int .i64 m'.clock) qb jA qS vl).heap[g]?=w5.heap[g]?:=fun g h1 h2=>(kN h1).trans (kN h2)
  have mR:=h.TN
  have q6:vl.ownBlock≠some b6:=bB hx h.Fh (by decide)
  have q5:vl.ownBlock≠some g5:=bB x5 hz (by decide)
  refine ⟨R2,⟨xs,fE x5 fun g e=>hne g (fun e2=>q6 (e2▸e)) (fun e2=>q5 (e2▸e))⟩, ?_,(hne _ (by omega) (by omega)).trans v2,(hne _ (by omega) (by omega)).trans v4, ?_,h.TN⟩
  ·exact rB (rB (D8 (B:=0) h.below p.fr (fun g e=>(h.room.recs.lt g e).1) (fun g e=>(h.room.back.lt g e).1) h.below.size) (D_ h.below.size hg)) (by omega)
  ·exact lB (show (Of.b8 w5 g5 (.int .i64 L) (.int .i64 O) (.int .i64 P) (.int .i64 m'.clock) qb jA qS vl).heap[b6]?=some (jY #[_,_,_,_,_,_,_,_] 63 (0,0)) from (kN n6).trans v6) _ _ _ _ _ _ _ _
theorem Jg {ck:Int} (v:M'):(gi L O P ck vr vw vb vl).setIfInBounds 7 v=gi L O P ck vr vw vb v:=rfl
theorem rD.YA (h:rD w L O P b6 m vr vw vb vl kl wr) {o:Obj} (lH:(wr.alloc o).grownBy wr' vl.ownBlock) {Sk:List M'} {k':Nat} (iw:wr'.ownsRow w.heap.size 9 1 S0 k' Sk) (h1:m'.recs=m.recs) (h2:m'.wait=m.wait) (h3:m'.back=m.back) (h4:m'.clock=m.clock):
 rD w L O P b6 m' vr vw vb S0 k' (wr'.setCell ⟨b6,7,none⟩ S0)/\wr'.heap[b6]?=some (.cells (gi L O P m.clock vr vw vb vl) 63 (0,0)):=by
 have H:=h.step ((h_ _ _).alloc (C_ _) o)
 obtain ⟨xs,hx⟩:=H.log
 have z6:=(lH.block _ (fw H.Fh) (fun e=>bB hx H.Fh (by decide) e.symm)).trans H.Fh
 have z4:=(lH.block _ (fw H.DK) (fun e=>bB hx H.DK (by decide) e.symm)).trans H.DK
 have z2:=(lH.block _ (fw H.Ml) (fun e=>bB hx H.Ml (by decide) e.symm)).trans H.Ml
 have RA:bA w.heap.size m vr vw vb wr':=⟨D_ H.room.big lH.size,H.room.recs.kept lH (gF H.room.recs hx (by decide)),H.room.wait.kept lH (gF H.room.wait hx (by decide)),H.room.back.kept lH (gF H.room.back hx (by decide)),H.room.apart,H.room.iQ⟩
 have hB:=H.below.grown lH H.below.size fun g e=>(hx.lt g e).1
 have q6:S0.ownBlock≠some b6:=bB iw z6 (by decide)
 have hl:=h.TN
 refine ⟨⟨(RA.cell (bB RA.recs z6 (by decide)) (bB RA.wait z6 (by decide)) (bB RA.back z6 (by decide))).same h1 h2 h3,⟨Sk,fE iw fun g e=>a_ wr' ⟨b6,7,none⟩ g _ (fun e2=>q6 (by rw [e,show g=b6 from e2]))⟩, ?_, ?_, ?_, ?_,h.TN⟩,z6⟩
 ·exact ⟨hB.os,hB.tape,hB.output,by rw [o_];exact hB.size,fun g hg=>(a_ wr' ⟨b6,7,none⟩ g _ (show g≠b6 by omega)).trans (hB.block g hg)⟩
 ·exact (a_ wr' ⟨b6,7,none⟩ _ _ (show w.heap.size≠b6 by omega)).trans z2
 ·exact (a_ wr' ⟨b6,7,none⟩ _ _ (show w.heap.size+1≠b6 by omega)).trans z4
 ·have:=Go.heap_setCell_same wr' b6 7 _ 63 S0 z6
  rw [Jg] at this
  rw [h4];exact this
variable {ea:Option z_}
theorem fF.below (h:fF w ea rs) (hb:g_ w.heap.size w wr):fF wr ea rs:=by
 rcases h with h|⟨eb,cs,t,f,h1,h2,h3⟩
 ·exact .inl h
 ·exact .inr ⟨eb,cs,t,f,h1,(hb.block eb (fw h2)).trans h2,h3⟩
theorem Hx {ec:Nat} (bR:fF w ea rs) (hlen:rs.length<=1048576):
 d_ p_ 42 #[.agg #[.int .i64 L,.int .i64 O,.int .i64 P],.slice ea rs.length ec] w (Bv w L O P rs):=by
 obtain ⟨wa,Sr⟩:∃wa,(w.alloc (.cells #[.int .i64 L,.int .i64 O,.int .i64 P] 28)).alloc (.cells ia 63)=wa:=⟨_,rfl⟩
 have YV:f_ (wa.heap.size=w.heap.size+2):=by rw [f_,<-Sr,B_,B_]
 have Ri:g_ w.heap.size w wa:=by rw [<-Sr];exact ((h_ _ _).alloc (C_ _) _).alloc (by rw [B_];omega) _
 have VA:wa.heap[w.heap.size]?=some (.cells #[.int .i64 L,.int .i64 O,.int .i64 P] 28 (0,0)):=by rw [<-Sr];exact br (Z' w _)
 have hA4:wa.heap[w.heap.size+1]?=some (.cells ia 63 (0,0)):=by
  have:=Z' (w.alloc (.cells #[.int .i64 L,.int .i64 O,.int .i64 P] 28)) (.cells ia 63)
  rw [B_,Sr] at this
  exact this
 have hle:w.heap.size<=wa.heap.size:=Ri.size
 obtain ⟨wb,yc⟩:∃wb,((((wa.alloc (.cells #[] 44)).alloc (.cells #[] 114)).alloc (.cells #[] 114)).alloc (.cells #[] 9)).alloc (.cells (gi L O P 0 (.slice (some ⟨wa.heap.size,0,none⟩) 0 0) (.slice (some ⟨wa.heap.size+1,0,none⟩) 0 0) (.slice (some ⟨wa.heap.size+1+1,0,none⟩) 0 0) (.slice (some ⟨wa.heap.size+1+1+1,0,none⟩) 0 0)) 63)=wb:=⟨_,rfl⟩
 have t1:=kJ (w:=wa) (e:=44) (sz:=7) hle (by decide)
 have t2:=kJ (w:=wa.alloc (.cells #[] 44)) (B:=w.heap.size) (e:=114) (sz:=2) (by rw [B_];omega) (by decide)
 have t3:=kJ (w:=(wa.alloc (.cells #[] 44)).alloc (.cells #[] 114)) (B:=w.heap.size) (e:=114) (sz:=2) (by rw [B_,B_];omega) (by decide)
 have t4:=kJ (w:=((wa.alloc (.cells #[] 44)).alloc (.cells #[] 114)).alloc (.cells #[] 114)) (B:=w.heap.size) (e:=9) (sz:=1) (by rw [B_,B_,B_];omega) (by decide)
 rw [B_] at t2
 rw [B_,B_] at t3
 rw [B_,B_,B_] at t4
 have hR:f_ (bA w.heap.size Mz (.slice (some ⟨wa.heap.size,0,none⟩) 0 0) (.slice (some ⟨wa.heap.size+1,0,none⟩) 0 0) (.slice (some ⟨wa.heap.size+1+1,0,none⟩) 0 0) wb):=by
  rw [<-yc]
  refine ⟨by rw [B_,B_,B_,B_,B_];omega,(((t1.alloc _).alloc _).alloc _).alloc _,((t2.alloc _).alloc _).alloc _,(t3.alloc _).alloc _,fun g e1 e2=> ?_,⟨_,rfl⟩⟩
  have h1:wa.heap.size+1=g:=M_ e1
  have h2:wa.heap.size+1+1=g:=M_ e2
  omega
 have Uz:f_ (wb.ownsRow w.heap.size 9 1 (.slice (some ⟨wa.heap.size+1+1+1,0,none⟩) 0 0) 0 []):=by rw [f_,<-yc];exact t4.alloc _
 have uf:f_ (g_ w.heap.size w wb):=by
  rw [f_,<-yc]
  exact ((((Ri.alloc hle _).alloc (by rw [B_];omega) _).alloc (by rw [B_,B_];omega) _).alloc (by rw [B_,B_,B_];omega) _).alloc (by rw [B_,B_,B_,B_];omega) _
 have jx:f_ (wb.heap[w.heap.size]?=some (.cells #[.int .i64 L,.int .i64 O,.int .i64 P] 28 (0,0))):=by rw [f_,<-yc];exact br (br (br (br (br VA))))
 have sH:f_ (wb.heap[w.heap.size+1]?=some (.cells ia 63 (0,0))):=by rw [f_,<-yc];exact br (br (br (br (br hA4))))
 have SJ:f_ (wb.heap[wa.heap.size+1+1+1+1]?=some (.cells (gi L O P 0 (.slice (some ⟨wa.heap.size,0,none⟩) 0 0) (.slice (some ⟨wa.heap.size+1,0,none⟩) 0 0) (.slice (some ⟨wa.heap.size+1+1,0,none⟩) 0 0) (.slice (some ⟨wa.heap.size+1+1+1,0,none⟩) 0 0)) 63 (0,0))):=by
  have:=Z' ((((wa.alloc (.cells #[] 44)).alloc (.cells #[] 114)).alloc (.cells #[] 114)).alloc (.cells #[] 9)) (.cells (gi L O P 0 (.slice (some ⟨wa.heap.size,0,none⟩) 0 0) (.slice (some ⟨wa.heap.size+1,0,none⟩) 0 0) (.slice (some ⟨wa.heap.size+1+1,0,none⟩) 0 0) (.slice (some ⟨wa.heap.size+1+1+1,0,none⟩) 0 0)) 63)
  rw [B_,B_,B_,B_,yc] at this
  exact this
 have g0:wa.cell? ⟨w.heap.size,0,none⟩=some (.int .i64 L):=aB VA
 have g1:wa.cell? ⟨w.heap.size,1,none⟩=some (.int .i64 O):=aB VA
 have g2:wa.cell? ⟨w.heap.size,2,none⟩=some (.int .i64 P):=aB VA
 have k0:wb.cell? ⟨w.heap.size,0,none⟩=some (.int .i64 L):=aB jx.out
 have k1:wb.cell? ⟨w.heap.size,1,none⟩=some (.int .i64 O):=aB jx.out
 have k2:wb.cell? ⟨w.heap.size,2,none⟩=some (.int .i64 P):=aB jx.out
 have AX:=aa (wL wb L O P)
 clear t1 t2 t3 t4 Ri VA hA4
 replace hle:=aa hle
 unfold ia at Sr
 unfold gi at yc
 have OH:=aa bR
 clear bR
 obtain ⟨Po,EW⟩:∃Po:Ending->J'->Prop,f_ (Po=Bv w L O P rs):=⟨_,rfl⟩
 refine Calls.mono (R:=Po) ?_ (fun e w' h=>by rw [EW.out] at h;exact h)
 go_enter func42,ntmps42
 go_wp2_with fail
 refine AX.out.mono ?_
 rintro e wc ⟨rfl,Wl⟩
 have I0:f_ (rD w L O P (wa.heap.size+1+1+1+1) Mz (.slice (some ⟨wa.heap.size,0,none⟩) 0 0) (.slice (some ⟨wa.heap.size+1,0,none⟩) 0 0) (.slice (some ⟨wa.heap.size+1+1,0,none⟩) 0 0) (.slice (some ⟨wa.heap.size+1+1+1,0,none⟩) 0 0) 0 wc):=by
  have h:rD w L O P (wa.heap.size+1+1+1+1) Mz (.slice (some ⟨wa.heap.size,0,none⟩) 0 0) (.slice (some ⟨wa.heap.size+1,0,none⟩) 0 0) (.slice (some ⟨wa.heap.size+1+1,0,none⟩) 0 0) (.slice (some ⟨wa.heap.size+1+1+1,0,none⟩) 0 0) 0 wb:=⟨hR.out,⟨[],Uz.out⟩,uf.out,jx.out,sH.out,SJ.out,by rw [YV.out];omega⟩
  rw [Wl]
  exact h.step ((h_ _ _).alloc (C_ _) _)
 clear Wl Sr yc hR Uz uf jx sH SJ g0 g1 g2 k0 k1 k2 AX
 obtain ⟨⟨e0,e1,e2,e3,e4,e5,e6,e7⟩,_⟩:=aG (show wc.heap[wa.heap.size+1+1+1+1]?=some (jY #[.int .i64 L,.int .i64 O,.int .i64 P,.int .i64 0,(.slice (some ⟨wa.heap.size,0,none⟩) 0 0),(.slice (some ⟨wa.heap.size+1,0,none⟩) 0 0),(.slice (some ⟨wa.heap.size+1+1,0,none⟩) 0 0),(.slice (some ⟨wa.heap.size+1+1+1,0,none⟩) 0 0)] 63 (0,0)) from I0.out.Fh)
 obtain ⟨⟨x0,x1,x2,x3,x4,x5,x6,x7⟩,y0,y1,y2,y3,y4,y5,y6,y7⟩:=aG (show wc.heap[w.heap.size+1]?=some (jY #[.int .i64 0,.int .i64 0,.int .i64 0,.int .i64 0,.slice none 0 0,.slice none 0 0,.slice none 0 0,.slice none 0 0] 63 (0,0)) from I0.out.DK)
 cases kE:dw L O P with
 |false=>
  have eU:f_ (da L O P rs=false):=by rw [f_];unfold da;rw [kE];rfl
  go_wp2_with fail
  change bodyPost p_ f42 _ .ret _ (Of.b8 _ (w.heap.size+1) (.int .i64 L) (.int .i64 O) (.int .i64 P) (.int .i64 0) (.slice (some ⟨wa.heap.size,0,none⟩) 0 0) (.slice (some ⟨wa.heap.size+1,0,none⟩) 0 0) (.slice (some ⟨wa.heap.size+1+1,0,none⟩) 0 0) (.slice (some ⟨wa.heap.size+1+1+1,0,none⟩) 0 0))
  rw [EW.out]
  exact Bi (m:=Mz) I0.out.room I0.out.below I0.out.DK (Nat.le_succ _) ⟨_,_,_,rfl⟩ rfl rfl (by rw [eU.out];rfl) (fun _=>rfl) (fun h=>by rw [eU.out] at h;cases h)
 |true=>
  by_cases OZ:rs.length<=60
  ·have RF:¬(60:Int)<(rs.length:Int):=by omega
   have Um:=aa kE
   obtain ⟨⟨Gd,Uo⟩,QK,ho4⟩:(1<=L/\L<=6)/\1<=O/\O<=4:=by
    simp only [dw,T_,decide_eq_true_eq] at kE
    omega
   clear kE
   go_wp2_with fail
   clear e0 e1 e2 e3 e4 e5 e6 e7 x0 x1 x2 x3 x4 x5 x6 x7 y0 y1 y2 y3 y4 y5 y6 y7
   go_loopw [7] (fun i wr=>∃k:Nat,k<=rs.length/\i=.int .i64 k/\f_ (∀j (hj:j<rs.length),j<k->bu rs[j] O=true)/\f_ (rD w L O P (wa.heap.size+1+1+1+1) Mz (.slice (some ⟨wa.heap.size,0,none⟩) 0 0) (.slice (some ⟨wa.heap.size+1,0,none⟩) 0 0) (.slice (some ⟨wa.heap.size+1+1,0,none⟩) 0 0) (.slice (some ⟨wa.heap.size+1+1+1,0,none⟩) 0 0) 0 wr)) (fun i _=>rs.length - (intOf i).toNat)
   case atStart=>exact ⟨0,nz _,rfl,aa (fun j hj h0=>by omega),I0⟩
   case round=>
    clear I0
    obtain ⟨k,hk,rfl,hT,hI⟩:=hrel
    by_cases hlt:k<rs.length
    ·have gJ:(k:Int)<(rs.length:Int):=by omega
     obtain ⟨eb,WY,et,ef,rfl,M4,hcs⟩:=(OH.out.below hI.out.below).resolve_left (fun e=>by rw [e] at hlt;simp at hlt)
     obtain ⟨d1,d2,d3⟩:=hcs k hlt
     have j1:wr.cell? ⟨eb,k * 3,none⟩=some (.string (rs[k]).kind):=(aB M4).trans d1
     have j2:wr.cell? ⟨eb,k * 3+1,none⟩=some (.int .i64 (rs[k]).who):=(aB M4).trans d2
     have j3:wr.cell? ⟨eb,k * 3+2,none⟩=some (.int .i64 (rs[k]).word):=(aB M4).trans d3
     have j4:wr.cell? ⟨w.heap.size,1,none⟩=some (.int .i64 O):=aB hI.out.Ml
     clear d1 d2 d3 hcs M4
     have oF:f_ (bu rs[k] O=false->da L O P rs=false):=fun hv=>by
      unfold da
      rw [List.all_eq_false.2 ⟨rs[k],List.getElem_mem hlt,by rw [hv];simp⟩,Bool.and_false]
     have hgo:f_ (bu rs[k] O=true->∀j (hj:j<rs.length),j<k+1->bu rs[j] O=true):=fun hv j hj hjk=>if e:j=k then by subst e;exact hv else hT.out j hj (by omega)
     generalize rs[k]=r at *
     go_wp2_with fail
     refine P4 (r:=r) (bb:=bu r O) (b2:=w.heap.size) (eb:=eb) (k:=k) (n:=rs.length) (ec:=ec) j1 j2 j3 j4 hlt (by omega) (fun w'=>yj w' r O ⟨QK,ho4⟩) fun w5 Sn Sm q34 q35 TE TC Om qo=> ?_
     have I5:=aa (hI.out.step qo)
     clear j1 j2 j3 j4 qo hI hT
     obtain ⟨⟨e0,e1,e2,e3,e4,e5,e6,e7⟩,_⟩:=aG (show w5.heap[wa.heap.size+1+1+1+1]?=some (jY #[.int .i64 L,.int .i64 O,.int .i64 P,.int .i64 0,(.slice (some ⟨wa.heap.size,0,none⟩) 0 0),(.slice (some ⟨wa.heap.size+1,0,none⟩) 0 0),(.slice (some ⟨wa.heap.size+1+1,0,none⟩) 0 0),(.slice (some ⟨wa.heap.size+1+1+1,0,none⟩) 0 0)] 63 (0,0)) from I5.out.Fh)
     obtain ⟨⟨x0,x1,x2,x3,x4,x5,x6,x7⟩,y0,y1,y2,y3,y4,y5,y6,y7⟩:=aG (show w5.heap[w.heap.size+1]?=some (jY #[.int .i64 0,.int .i64 0,.int .i64 0,.int .i64 0,.slice none 0 0,.slice none 0 0,.slice none 0 0,.slice none 0 0] 63 (0,0)) from I5.out.DK)
     cases hv:bu r O with
     |true=>
      have hgo:=aa (hgo.out hv)
      clear oF hv
      go_wp2_with fail
      go_roundw
      case rel=>exact ⟨k+1,by omega,by go_num,hgo,I5⟩
      case measure=>simp [intOf];omega
     |false=>
      have eU:f_ (da L O P rs=false):=oF.out hv
      clear hgo oF hv
      go_wp2_with fail
      change bodyPost p_ f42 _ .ret _ (Of.b8 _ (w.heap.size+1) (.int .i64 L) (.int .i64 O) (.int .i64 P) (.int .i64 0) (.slice (some ⟨wa.heap.size,0,none⟩) 0 0) (.slice (some ⟨wa.heap.size+1,0,none⟩) 0 0) (.slice (some ⟨wa.heap.size+1+1,0,none⟩) 0 0) (.slice (some ⟨wa.heap.size+1+1+1,0,none⟩) 0 0))
      rw [EW.out]
      exact Bi (m:=Mz) I5.out.room I5.out.below I5.out.DK (Nat.le_succ _) ⟨_,_,_,rfl⟩ rfl rfl (by rw [eU.out];rfl) (fun _=>rfl) (fun h=>by rw [eU.out] at h;cases h)
    ·have yK:k=rs.length:=by omega
     subst yK
     have KL:rs.all (fun r=>bu r O)=true:=by
      rw [List.all_eq_true]
      intro x hx
      obtain ⟨j,hj,rfl⟩:=List.getElem_of_mem hx
      exact hT.out j hj hj
     have eU:f_ (da L O P rs=true):=by
      rw [f_];unfold da;rw [Um.out,KL,decide_eq_true OZ];rfl
     obtain ⟨evs,EP,pr⟩:=s8 KL
     clear hT
     go_wp2_with fail
     obtain ⟨nl,rfl⟩:∃nl:Nat,L=(nl:Int):=⟨L.toNat,by omega⟩
     have Nv:evs.length=rs.length:=by rw [EP,List.length_map]
     have Y4:=aa (Cj (nl:=nl) (no:=O.toNat) (P:=P) pr (by omega) (by omega) (by omega))
     have hI0:f_ (∃vr vw vb vl,rD w (nl:Nat) O P (wa.heap.size+1+1+1+1) (ja nl P (evs.take 0)) vr vw vb vl 0 wr):=⟨_,_,_,_,hI.out⟩
     have Q2:=aa pr
     have Q7:=aa EP
     replace Nv:=aa Nv
     clear hI pr EP KL Um
     go_loopw [8] (fun i w2=>∃k:Nat,k<=rs.length/\i=.int .i64 k/\f_ (∃vr vw vb vl,rD w (nl:Nat) O P (wa.heap.size+1+1+1+1) (ja nl P (evs.take k)) vr vw vb vl k w2)) (fun i _=>rs.length - (intOf i).toNat)
     case atStart=>exact ⟨0,nz _,rfl,hI0⟩
     case round=>
      clear hI0
      obtain ⟨k,hk,rfl,hJ⟩:=hrel
      by_cases hlt:k<rs.length
      ·have gJ:(k:Int)<(rs.length:Int):=by omega
       obtain ⟨vr,vw,vb,vl,I⟩:=hJ.out
       have cK:=Y4.out k
       have Wz:k<evs.length:=by rw [Nv.out];exact hlt
       have OL:=aa (G7 (nl:=nl) (P:=P) Wz)
       have vI:=Q2.out _ (List.getElem_mem Wz)
       have QF:rs[k]=(evs[k]).raw:=by
        have h1:rs[k]?=some (evs[k]).raw:=by rw [Q7.out,List.getElem?_map,G_ Wz];rfl
        exact M_ ((G_ hlt).symm.trans h1)
       obtain ⟨eb,WY,et,ef,rfl,M4,hcs⟩:=(OH.out.below I.below).resolve_left (fun e=>by rw [e] at hlt;simp at hlt)
       obtain ⟨d1,d2,d3⟩:=hcs k hlt
       rw [QF] at d1 d2 d3
       have j1:wr.cell? ⟨eb,k * 3,none⟩=some (.string (evs[k]).raw.kind):=(aB M4).trans d1
       have j2:wr.cell? ⟨eb,k * 3+1,none⟩=some (.int .i64 (evs[k]).raw.who):=(aB M4).trans d2
       have j3:wr.cell? ⟨eb,k * 3+2,none⟩=some (.int .i64 (evs[k]).raw.word):=(aB M4).trans d3
       clear d1 d2 d3 hcs M4 QF hJ
       generalize ja nl P (evs.take k)=M at *
       generalize evs[k]=e at *
       obtain ⟨q,hq⟩:∃q,qy nl P M e=q:=⟨_,rfl⟩
       obtain ⟨ar,cr,ql⟩:=aE I.room.recs
       subst ql
       obtain ⟨aw,cw,qG⟩:=aE I.room.wait
       subst qG
       obtain ⟨ab,cb,oK⟩:=aE I.room.back
       subst oK
       obtain ⟨xs,hx⟩:=I.log
       obtain ⟨al,cl,mP⟩:=aE hx
       subst mP
       clear hx xs
       have jX:f_ (∀w',bA w.heap.size M (.slice ar M.recs.length cr) (.slice aw M.wait.length cw) (.slice ab M.back.length cb) w'->d_ p_ 64 #[.agg #[.int .i64 (nl:Nat),.int .i64 O,.int .i64 P,.int .i64 M.clock,.slice ar M.recs.length cr,.slice aw M.wait.length cw,.slice ab M.back.length cb,.slice al k cl],.agg #[.string e.raw.kind,.int .i64 e.raw.who,.int .i64 e.raw.word]] w' (Done w' (.slice ar M.recs.length cr) (.slice ab M.back.length cb) w.heap.size q.1 (nl:Nat) O P (.slice al k cl) q.2)):=fun w' R'=>by rw [<-hq];exact Ex R' cK ⟨_,_,_,rfl⟩ e vI
       have hst:f_ (ja nl P (evs.take (k+1))={q.1 with log:=q.1.log++[q.2]}):=by rw [f_,OL.out,<-hq];rfl
       have hI:=aa I
       clear I cK vI hq OL Wz
       go_wp2_with fail
       refine Tj (m:=M) (q:=q) (r:=e.raw) (b6:=wa.heap.size+1+1+1+1) (eb:=eb) (n:=rs.length) (ec:=ec) (k:=k) hI.out.room hI.out.Fh j1 j2 j3 hlt (by omega) jX.out fun w5 DN DL DT DI DG DJ g5 Oj Oi Oh Ju Jt Js Ol Jr Jq PQ hz hg=> ?_
       obtain ⟨⟨τ,KF⟩,I7⟩:=hI.out.took PQ hz hg
       clear PQ hz hg jX j1 j2 j3 hI
       generalize Of.b8 w5 g5 (.int .i64 (nl:Nat)) (.int .i64 O) (.int .i64 P) (.int .i64 q.1.clock) (.slice DN q.1.recs.length DI) (.slice DL q.1.wait.length DG) (.slice DT q.1.back.length DJ) (.slice al k cl)=w6 at *
       obtain ⟨⟨c0,c1,c2,c3,c4,c5,c6,c7⟩,_⟩:=aG τ
       obtain ⟨⟨d0,d1,d2,d3,d4,d5,d6,d7⟩,f0,f1,f2,f3,f4,f5,f6,f7⟩:=aG KF
       obtain ⟨w7,Ss⟩:∃w7,Of.b8 w6 (wa.heap.size+1+1+1+1) (.int .i64 (nl:Nat)) (.int .i64 O) (.int .i64 P) (.int .i64 q.1.clock) (.slice DN q.1.recs.length DI) (.slice DL q.1.wait.length DG) (.slice DT q.1.back.length DJ) (.slice al k cl)=w7:=⟨_,rfl⟩
       rw [Ss] at I7
       unfold Of.b8 at Ss
       obtain ⟨⟨a0,a1,a2,a3,a4,a5,a6,a7⟩,_⟩:=aG I7.Fh
       obtain ⟨xs7,TT⟩:=I7.log
       have TT:=aa TT
       have hI7:=aa I7
       have ub:=aa I7.below.size
       clear I7 τ KF
       obtain ⟨i0,qJ,tX,rm,uF⟩:=info_parts Oy
       go_wp2_with (at_builtin;refine wpList_append_lies _ rfl (.tmp 58) (.tmp 60) 51 rfl w.heap.size 9 i0 _ 1 16 Tryz.underlying51 qJ tX rm uF rfl (by decide) _ _ _ rfl (TT.out.alloc _) ⟨w7.heap.size,0,none⟩ 1 1 [.string ⟨q.2.toArray⟩] rfl rfl (fY w7 _ _ rfl) ?c1 (by omega) ?c3 ?c4 ?c5 _ rfl ?_)
       case c1=>intro u hu;simp at hu;rcases hu with rfl;rfl
       case c3=>unfold maxLen;omega
       case c4=>omega
       case c5=>have:=ub.out;rw [B_];omega
       intro gg mW w9 CM UW ZO Zh
       obtain ⟨I9,vJ⟩:=hI7.out.YA (m':={q.1 with log:=q.1.log++[q.2]}) UW CM rfl rfl rfl rfl
       obtain ⟨⟨l0,l1,l2,l3,l4,l5,l6,l7⟩,m0,m1,m2,m3,m4,m5,m6,m7⟩:=aG vJ
       have hJ:f_ (∃vr vw vb vl,rD w (nl:Nat) O P (wa.heap.size+1+1+1+1) (ja nl P (evs.take (k+1))) vr vw vb vl (k+1) (w9.setCell ⟨wa.heap.size+1+1+1+1,7,none⟩ (.slice (some ⟨gg,0,none⟩) (k+1) mW))):=⟨_,_,_,_,by rw [hst.out];exact I9⟩
       clear I9 vJ CM UW ZO Zh TT hI7 ub a0 a1 a2 a3 a4 a5 a6 a7 c0 c1 c2 c3 c4 c5 c6 c7 d0 d1 d2 d3 d4 d5 d6 d7 f0 f1 f2 f3 f4 f5 f6 f7 Ss
       go_wp2_with fail
       go_roundw
       case rel=>exact ⟨k+1,by omega,by go_num,hJ⟩
       case measure=>simp [intOf];omega
      ·have yK:k=rs.length:=by omega
       obtain ⟨vr,vw,vb,vl,I⟩:=hJ.out
       rw [List.take_of_length_le (by rw [Nv.out];omega)] at I
       have A6:f_ (∀qw,rs=qw.map Ev.raw->ja nl P evs=ja (nl:Int).toNat P qw):=fun qw he=>by rw [rQ (Q7.out.symm.trans he),Int.toNat_natCast]
       clear hJ Q7
       generalize ja nl P evs=M at *
       obtain ⟨ar,cr,ql⟩:=aE I.room.recs
       subst ql
       obtain ⟨aw,cw,qG⟩:=aE I.room.wait
       subst qG
       obtain ⟨ab,cb,oK⟩:=aE I.room.back
       subst oK
       obtain ⟨xs,hx⟩:=I.log
       obtain ⟨al,cl,mP⟩:=aE hx
       subst mP
       clear hx xs
       obtain ⟨⟨e0,e1,e2,e3,e4,e5,e6,e7⟩,_⟩:=aG I.Fh
       obtain ⟨⟨x0,x1,x2,x3,x4,x5,x6,x7⟩,y0,y1,y2,y3,y4,y5,y6,y7⟩:=aG (show wr.heap[w.heap.size+1]?=some (jY #[.int .i64 0,.int .i64 0,.int .i64 0,.int .i64 0,.slice none 0 0,.slice none 0 0,.slice none 0 0,.slice none 0 0] 63 (0,0)) from I.DK)
       have hI:=aa I
       replace yK:=aa yK
       clear I
       go_wp2_with fail
       change bodyPost p_ f42 _ .ret _ (Of.b8 _ (w.heap.size+1) (.int .i64 (nl:Nat)) (.int .i64 O) (.int .i64 P) (.int .i64 M.clock) (.slice ar M.recs.length cr) (.slice aw M.wait.length cw) (.slice ab M.back.length cb) (.slice al k cl))
       rw [EW.out]
       exact Bi (m:=M) hI.out.room hI.out.below hI.out.DK (Nat.le_succ _) ⟨_,_,_,rfl⟩ rfl rfl (by rw [eU.out];rfl) (fun h=>by rw [eU.out] at h;cases h) (fun _=>A6.out)
  ·have RF:(60:Int)<(rs.length:Int):=by omega
   have eU:f_ (da L O P rs=false):=by rw [f_];unfold da;rw [decide_eq_false OZ,Bool.and_false];rfl
   clear OZ
   go_wp2_with fail
   change bodyPost p_ f42 _ .ret _ (Of.b8 _ (w.heap.size+1) (.int .i64 L) (.int .i64 O) (.int .i64 P) (.int .i64 0) (.slice (some ⟨wa.heap.size,0,none⟩) 0 0) (.slice (some ⟨wa.heap.size+1,0,none⟩) 0 0) (.slice (some ⟨wa.heap.size+1+1,0,none⟩) 0 0) (.slice (some ⟨wa.heap.size+1+1+1,0,none⟩) 0 0))
   rw [EW.out]
   exact Bi (m:=Mz) I0.out.room I0.out.below I0.out.DK (Nat.le_succ _) ⟨_,_,_,rfl⟩ rfl rfl (by rw [eU.out];rfl) (fun _=>rfl) (fun h=>by rw [eU.out] at h;cases h)
theorem pF (h:da L O P rs=true):∃evs:List Ev,rs=evs.map Ev.raw/\(∀e∈evs,e.good O.toNat)/\evs.length<=60/\(1<=L/\L<=6)/\(1<=O/\O<=4)/\(1<=P/\P<=60)/\Xf L.toNat (ja L.toNat P evs):=by
 unfold da at h
 rw [T_,T_] at h
 obtain ⟨⟨h1,h2⟩,h3⟩:=h
 simp only [dw,T_,decide_eq_true_eq] at h1 h2
 obtain ⟨evs,he,hg⟩:=s8 h3
 have hl:evs.length<=60:=by rw [he,List.length_map] at h2;exact h2
 have:=Cj (nl:=L.toNat) (no:=O.toNat) (P:=P) hg hl (by omega) (by omega) evs.length
 rw [List.take_length] at this
 exact ⟨evs,he,hg,hl,by omega,by omega,by omega,this⟩
def qa (L O P:Int) (rs:List Raw) (R:List Int):Prop:=(da L O P rs=false->R=[])/\(da L O P rs=true->∀evs,rs=evs.map Ev.raw->R=AD L.toNat (ja L.toNat P evs).recs)
def Xd (L O P:Int) (rs:List Raw) (R:List Int):Prop:=(da L O P rs=false->R=[])/\(da L O P rs=true->∀evs,rs=evs.map Ev.raw->R=(ja L.toNat P evs).wait.map (·.1))
def R9 (L O P:Int) (rs:List Raw) (R:List Rec):Prop:=(da L O P rs=false->R=[])/\(da L O P rs=true->∀evs,rs=evs.map Ev.raw->R=(ja L.toNat P evs).recs)
variable {ec:Nat}
theorem NL (bR:fF w ea rs) (hlen:rs.length<=1048576):
 d_ p_ 21 #[.agg #[.int .i64 L,.int .i64 O,.int .i64 P],.slice ea rs.length ec] w fun e w'=>∃u R,e=.returned (.tuple #[u,.bool (da L O P rs)])/\w'.ownsRow w.heap.size 44 7 u R.length (cj R)/\g_ w.heap.size w w'/\R9 L O P rs R:=by
 obtain ⟨w1,cf⟩:∃w1,w.alloc (.cells #[.int .i64 L,.int .i64 O,.int .i64 P] 28)=w1:=⟨_,rfl⟩
 have DF:f_ (g_ w.heap.size w w1):=by rw [f_,<-cf];exact (h_ _ _).alloc (C_ _) _
 have jm:w1.heap[w.heap.size]?=some (.cells #[.int .i64 L,.int .i64 O,.int .i64 P] 28 (0,0)):=by rw [<-cf];exact Z' w _
 have g0:w1.cell? ⟨w.heap.size,0,none⟩=some (.int .i64 L):=aB jm
 have g1:w1.cell? ⟨w.heap.size,1,none⟩=some (.int .i64 O):=aB jm
 have g2:w1.cell? ⟨w.heap.size,2,none⟩=some (.int .i64 P):=aB jm
 have hrun:=aa (Hx (L:=L) (O:=O) (P:=P) (ec:=ec) (bR.below DF.out) hlen)
 clear bR jm
 obtain ⟨Po,EW⟩:∃Po:Ending->J'->Prop,f_ (Po=fun e w'=>∃u R,e=.returned (.tuple #[u,.bool (da L O P rs)])/\w'.ownsRow w.heap.size 44 7 u R.length (cj R)/\g_ w.heap.size w w'/\R9 L O P rs R):=⟨_,rfl⟩
 refine Calls.mono (R:=Po) ?_ (fun e w' h=>by rw [EW.out] at h;exact h)
 obtain ⟨ok,cK⟩:∃ok,da L O P rs=ok:=⟨_,rfl⟩
 have eU:=aa cK
 clear cK
 go_enter func21,ntmps21
 go_wp2_with fail
 refine hrun.out.mono ?_
 rintro e w2 ⟨m,vr,vw,vb,vl,rfl,R,hB,⟨al,bM,cl,rfl⟩,TP,Sp⟩
 obtain ⟨ar,cr,ql⟩:=aE R.recs
 subst ql
 obtain ⟨aw,cw,qG⟩:=aE R.wait
 subst qG
 obtain ⟨ab,cb,oK⟩:=aE R.back
 subst oK
 obtain ⟨w3,CK⟩:∃w3,w2.alloc (.cells #[.int .i64 L,.int .i64 O,.int .i64 P,.int .i64 m.clock,.slice ar m.recs.length cr,.slice aw m.wait.length cw,.slice ab m.back.length cb,.slice al bM cl] 63)=w3:=⟨_,rfl⟩
 have R3:f_ (bA w1.heap.size m (.slice ar m.recs.length cr) (.slice aw m.wait.length cw) (.slice ab m.back.length cb) w3):=(by rw [<-CK];exact R.alloc _)
 have B3:f_ (g_ w.heap.size w w3):=(by rw [f_,<-CK];exact (DF.out.trans (hB.mono DF.out.size)).alloc (D_ DF.out.size hB.size) _)
 obtain ⟨⟨a0,a1,a2,a3,a4,a5,a6,a7⟩,_⟩:=aG (show w3.heap[w2.heap.size]?=some (.cells #[.int .i64 L,.int .i64 O,.int .i64 P,.int .i64 m.clock,.slice ar m.recs.length cr,.slice aw m.wait.length cw,.slice ab m.back.length cb,.slice al bM cl] 63 (0,0)) from (by rw [<-CK];exact Z' w2 _))
 replace TP:=aa TP
 replace Sp:=aa Sp
 unfold jD
 clear R hB g0 g1 g2
 rw [eU.out]
 go_wp2_with fail
 rw [EW.out,<-eU.out]
 exact ⟨_,m.recs,rfl,gG R3.out.recs DF.out.size,B3.out,fun h=>by rw [TP.out h];rfl,fun h evs he=>by rw [Sp.out h evs he]⟩
end
end Go.aC.Of
namespace Go.aC
open Go Go.Conc Go.Conc.Lib Go.ConcR Go.ConcR.Gen
section
variable {P:U'} {C:cS} {b o:Nat} {Post:M'->J'->Prop} {Rs:(Nat->Prop)->(Nat->aX)->Nat->Prop} {k:Nat} {wl:J'}
variable {fn:Func}
theorem Can.YC (hS:jK Rs) (hL:Lay C wl) {aI c:Y'} {a:Act} {todo:List Item} {cs:List Y'} {v:M'} (hn:aI.kind=.normal) (hd:a.defers=[]) (hf:P.funcs[aI.fn]?=some fn) (hr:∀T d,(results fn a.tmps).run P (wl.re T d)=.ok v (wl.re T d)) (h:Can P C b o Post k Rs wl (G (c.finish v) cs)):
 Can P C b o Post k Rs wl (G {aI.at a todo with mode:=.returning} (c::cs)):=by
 refine Can.sem (s:=results fn a.tmps) (fn:=aI.fn) (nx:=fun v=>G (c.finish v) cs) hS hL rfl (iH fn a.tmps) (fun w v w' hv=> ?_) (fun T d=>⟨v,wl.re T d,hr T d,fun _=>h.re T d⟩)
 have pk:(results fn a.tmps).runT P w #[]=(.ok v w',(results fn a.tmps).events P w #[]):=by
  have:=Sem.runT_fst P (results fn a.tmps) w #[]
  rw [hv] at this
  show _=(_,((results fn a.tmps).runT P w #[]).2)
  rw [<-this]
 simp only [stepG,G,Frame.at,unwind,hd,hf]
 rw [pk]
 simp [doReturn,hn,GStep.after]
end
end Go.aC
namespace Go.aC.Of
open Go Go.Conc Go.Conc.Lib Go.ConcR Go.ConcR.Gen Go.aC Go.Proofs
open Go.RowKit hiding Hid
open Go.ConcN (upd upd_ne upd_same)
variable {O:Int}
theorem xK (hO:1<=O/\O<=4) {e:Ev} (h:e.good O.toNat):bu e.raw O=true:=by
 have q1:(O<1)=False:=eq_false (by omega)
 have q2:(4<O)=False:=eq_false (by omega)
 cases e with
 |ring c pt=>
  obtain ⟨⟨h1,h2⟩,h3,h4⟩:=h
  have q3:(c<1)=False:=eq_false (by omega)
  simp [bu,Ev.raw,Ev.kind,Ev.who,Ev.word,q1,q2,q3]
  first|exact ⟨decide_eq_true h2,decide_eq_true h3,decide_eq_true h4⟩|exact decide_eq_true h2|exact decide_eq_true (show (i:Int)+1<=O by omega)
 |hang c=>
  obtain ⟨h1,h2⟩:=h
  have q3:(c<1)=False:=eq_false (by omega)
  simp [bu,Ev.raw,Ev.kind,Ev.who,Ev.word,q1,q2,q3]
  first|exact ⟨decide_eq_true h2,decide_eq_true h3,decide_eq_true h4⟩|exact decide_eq_true h2|exact decide_eq_true (show (i:Int)+1<=O by omega)
 |answer i=>
  have h:i<O.toNat:=h
  have q3:((i:Int)+1<1)=False:=eq_false (by omega)
  simp [bu,Ev.raw,Ev.kind,Ev.who,Ev.word,q1,q2,q3]
  first|exact ⟨decide_eq_true h2,decide_eq_true h3,decide_eq_true h4⟩|exact decide_eq_true h2|exact decide_eq_true (show (i:Int)+1<=O by omega)
 |back i=>
  have h:i<O.toNat:=h
  have q3:((i:Int)+1<1)=False:=eq_false (by omega)
  simp [bu,Ev.raw,Ev.kind,Ev.who,Ev.word,q1,q2,q3]
  first|exact ⟨decide_eq_true h2,decide_eq_true h3,decide_eq_true h4⟩|exact decide_eq_true h2|exact decide_eq_true (show (i:Int)+1<=O by omega)
 |wait n=>
  obtain ⟨h1,h2⟩:=h
  have q3:(n<1)=False:=eq_false (by omega)
  simp [bu,Ev.raw,Ev.kind,Ev.who,Ev.word,q1,q2,q3]
  first|exact ⟨decide_eq_true h2,decide_eq_true h3,decide_eq_true h4⟩|exact decide_eq_true h2|exact decide_eq_true (show (i:Int)+1<=O by omega)
section
variable {oa:cS} {b o:Nat} {Post:M'->J'->Prop} {Bd:Nat} {wl:J'} {aI:Y'} {aS:Act} {av:Array Oper} {aN:Nat} {ak:List Nat} {aV:List Item} {cs:List Y'} {fG P:Int} {ea:Option z_} {ec:Nat} {rs:List Raw}
noncomputable def mq:Code:=f22.body.getD .skip
theorem ζ {p q:M'}:Frame.enter p_ 22 #[p,q] .normal=(base 22).at ⟨#[p,q,I',I',I',I',I',I',I',I',I',I',I',I',I',I'],[]⟩ [.code mq]:=by kernel_rfl
theorem call22 (hL:Lay oa wl) (hlen:rs.length<=1048576) (bR:fF wl ea rs) (sr:qO wl) (SI:Bd<1000000000)
 (hc:∀C' b' o' aK u R,Lay C' aK->SQ wl aK->wl.heap.size<=aK.heap.size->aK.ownsRow wl.heap.size 44 7 u R.length (cj R)->R9 fG O P rs R->Can p_ C' b' o' Post 0 (db (Bd+5)) aK (G (aI.at (aS.put ((av[aN]?).bind (·.dst)) (.tuple #[u,.bool (da fG O P rs)])) (.inRegion av ak::aV)) cs)):
 Can p_ oa b o Post 0 (db Bd) wl (G (Frame.enter p_ 22 #[.agg #[.int .i64 fG,.int .i64 O,.int .i64 P],.slice ea rs.length ec] .normal) (aI.at aS (.inRegion av (aN::ak)::aV)::cs)):=by
 have hS:=cT Bd
 rw [ζ]
 have e1:mq=.seq (ai 0 mq) (.seq (ai 1 mq) (az 2 mq)):=by kernel_rfl
 rw [e1]
 refine hS.s hL ?_
 refine Can.cY pA hS hL (aF (by kernel_rfl) rfl rfl ⟨_,func22⟩) ?_
 intro T d W hW Bh hB
 have ir:=aa hc
 have qK:=aa hL
 have Ki:=aa bR
 have J9:=aa sr
 have k0:f_ (dI wl W):=by rw [hW.out];exact (dI.refl wl).re T d
 clear hc hL bR sr hW
 simp only [ai,mq,f22,A_]
 go_wp2_with fail
 have hB:=hB.out
 subst hB
 intro hcut
 have k1:dI wl (W.alloc (.cells #[.int .i64 fG,.int .i64 O,.int .i64 P] 28)):=k0.out.alloc _
 have x1:(W.alloc (.cells #[.int .i64 fG,.int .i64 O,.int .i64 P] 28)).heap[W.heap.size]?=some (.cells #[.int .i64 fG,.int .i64 O,.int .i64 P] 28 (0,0)):=Z' W _
 generalize W.alloc (.cells #[.int .i64 fG,.int .i64 O,.int .i64 P] 28)=w1 at *
 have nU:Lay oa w1:=⟨hcut,qK.out.no⟩
 generalize W.heap.size=g1 at *
 clear k0 hcut
 refine hS.s nU ?_
 generalize hX:[Item.code (az 2 mq)]=X0
 simp only [ai,mq,f22,A_]
 refine Can.ctl hS nU rfl (fun _=>zb) ?_
 refine Can.op (ok:=il) hS nU rfl rfl (by k_ne) (by kernel_rfl) (fun T d=>⟨.agg #[.int .i64 fG,.int .i64 O,.int .i64 P],w1.re T d, ?_,fun _=>Can.re ?_ T d⟩)
 ·have h0:(w1.re T d).cell? ⟨g1,0,none⟩=some (.int .i64 fG):=by (rw [show (w1.re T d).cell? ⟨g1,0,none⟩=w1.cell? ⟨g1,0,none⟩ from rfl,aB x1];rfl)
  have h1:(w1.re T d).cell? ⟨g1,1,none⟩=some (.int .i64 O):=by (rw [show (w1.re T d).cell? ⟨g1,1,none⟩=w1.cell? ⟨g1,1,none⟩ from rfl,aB x1];rfl)
  have h2:(w1.re T d).cell? ⟨g1,2,none⟩=some (.int .i64 P):=by (rw [show (w1.re T d).cell? ⟨g1,2,none⟩=w1.cell? ⟨g1,2,none⟩ from rfl,aB x1];rfl)
  go_simp
 walk_nrm
 refine Can.op (ok:=il) hS nU rfl rfl (by k_ne) (by kernel_rfl) (fun T d=>⟨.slice ea rs.length ec,w1.re T d, ?_,fun _=>Can.re ?_ T d⟩)
 ·go_simp
 walk_nrm
 refine Can.ctl hS nU rfl (fun _=>bY (vs:=#[.agg #[.int .i64 fG,.int .i64 O,.int .i64 P],.slice ea rs.length ec]) rfl rfl (by k_ne) rfl func45 rfl rfl (by kernel_rfl)) ?_
 have xy:fF w1 ea rs:=Ki.out.keep k1
 have xr:qO w1:=by
  obtain ⟨g,cs',e,f,t1,t2,t3⟩:=J9.out
  exact ⟨g,cs',e,f,t1,k1.blk _ _ t2,t3⟩
 refine FE nU hlen xy xr SI (fun hb aK fJ k=> ?_) (fun evs ls us h1 h2 h3 h4 h5 h6 h7 h8=> ?_)
 ·have eU:f_ (da fG O P rs=false):=hb
  have kk:=aa (k1.trans k)
  clear hb k
  walk_nrm
  refine Can.op (ok:=il) hS fJ rfl rfl (by k_ne) (by kernel_rfl) (fun T d=>⟨.pointer none,aK.re T d, ?_,fun _=>Can.re ?_ T d⟩)
  ·go_simp
  walk_nrm
  refine Can.ctl hS fJ rfl (fun _=>stepG_region_end) ?_
  subst hX
  refine Can.cY pA hS fJ (aF (by kernel_rfl) rfl rfl ⟨_,func22⟩) ?_
  intro T d W hW Bh hB
  have ij:=aa hW
  have qq:=aa fJ
  clear hW fJ nU k1 x1 xy xr
  simp only [az,mq,f22,A_]
  go_wp2_with fail
  have hB:=hB.out
  subst hB
  intro hcut todo
  have hW:=ij.out.out
  subst hW
  refine Can.re ?_ T d
  refine Can.YC (v:=.tuple #[.slice none 0 0,.bool false]) hS qq.out rfl rfl func22 (fun T d=> ?_) ?_
  ·simp [results,Tryz.results22,go_sem]
  ·rw [Frame.finish_at]
   have h:=ir.out oa b o aK (.slice none 0 0) [] qq.out (fun g cs' e f h=>kk.out.blk _ _ h) kk.out.size (World.ownsRow_nil _ _ _ _) ⟨fun _=>rfl,fun h=>by rw [eU.out] at h;cases h⟩
   rw [eU.out] at h
   exact Can.mono h (db.mono (by omega))
 ·have eU:f_ (da fG O P rs=true):=by
   unfold da
   rw [f_,h2,decide_eq_true (by rw [h1,List.length_map];exact h3),List.all_eq_true.2];rfl
   intro x hx
   rw [h1] at hx
   obtain ⟨e,he,rfl⟩:=List.mem_map.1 hx
   exact xK (by simp only [dw,T_,decide_eq_true_eq] at h2;omega) (h4 e he)
  have AX:(1<=fG/\fG<=6)/\(1<=O/\O<=4):=by
   simp only [dw,T_,decide_eq_true_eq] at h2
   omega
  obtain ⟨Uj,hrel⟩:=Ag (nl:=fG.toNat) (no:=O.toNat) (P:=P) h5 (by omega) (by omega) h8 h4 h3 (by omega) (by omega)
  refine ⟨Uj,fun C' bw A va vt aK fJ hH xq hsz yF=> ?_⟩
  have xI:f_ (∀qw,rs=qw.map Ev.raw->qw=evs):=fun qw he=>rQ (he.symm.trans h1)
  obtain ⟨vw,vb,vr,HV⟩:=hH
  have uh:=cT (Bd+5)
  have pk:f_ ((Bf P ls us evs).recs=(ja fG.toNat P evs).recs):=hrel.recs
  generalize Bf P ls us evs=S at *
  have J4:f_ (SQ wl aK):=fun g cs' e f h=>xq g cs' e f (k1.blk _ _ h)
  have Kd:f_ (wl.heap.size<=aK.heap.size/\wl.heap.size<=A.B):=⟨D_ k1.size yF,by have:=HV.ok.hb;have:=k1.size;omega⟩
  have qq:=aa fJ
  have WN:=aa HV
  clear Uj hrel xq hsz yF HV h1 h2 h3 h4 h5 h6 h7 h8 xy xr k1 x1 AX
  walk_nrm
  refine Can.op (ok:=il) uh qq.out rfl rfl (by k_ne) (by kernel_rfl) (fun T d=>⟨.pointer (some ⟨A.hb,0,none⟩),aK.re T d, ?_,fun _=>Can.re ?_ T d⟩)
  ·go_simp
  walk_nrm
  refine Can.ctl uh qq.out rfl (fun _=>stepG_region_end) ?_
  subst hX
  refine Can.cY pA uh qq.out (aF (by kernel_rfl) rfl rfl ⟨_,func22⟩) ?_
  intro T d W hW Bh hB
  have ij:=aa hW
  clear fJ nU hW
  have HW:=aa (WN.out.heap (w':=W) (by rw [ij.out.out];rfl))
  obtain ⟨_,_,_,_,_,_,c9,_⟩:=HW.out.c
  obtain ⟨ar,cr,ql⟩:=aE HW.out.recs
  subst ql
  simp only [az,mq,f22,A_]
  go_wp2_with fail
  have hB:=hB.out
  subst hB
  intro hcut todo
  have hW:=ij.out.out
  subst hW
  refine Can.re ?_ T d
  refine Can.YC (v:=.tuple #[.slice ar S.recs.length cr,.bool true]) uh qq.out rfl rfl func22 (fun T d=> ?_) ?_
  ·simp [results,Tryz.results22,go_sem]
  ·rw [Frame.finish_at]
   have h:=ir.out C' bw 0 aK (.slice ar S.recs.length cr) S.recs qq.out J4.out Kd.out.1 (gG WN.out.recs Kd.out.2) ⟨fun h=>(by rw [eU.out] at h;cases h),fun _ qw he=>by rw [xI.out qw he,pk.out]⟩
   rw [eU.out] at h
   exact h
noncomputable def mr:Code:=f13.body.getD .skip
noncomputable def ε:Code:=f20.body.getD .skip
end
end Go.aC.Of
namespace Go.aC.Of
section
open Go Go.Conc Go.aC Go.Proofs
open Go.RowKit hiding Hid Below
open Go.ConcN (upd upd_ne upd_same)
variable {a b:Int}
theorem vV {k:IntKind} (h:a=b):Ending.returned (.int k a)=Ending.returned (.int k b):=by rw [h]
variable {w:J'}
theorem n8 {b o:Nat} {c:Array M'} {t:Q'} {f:Nat × Nat} (h:w.heap[b]?=some (.cells c t f)) (v:M'):(w.setCell ⟨b,o,none⟩ v).heap[b]?=some (.cells (c.setIfInBounds o v) t f):=by
 simp only [World.setCell,Array.getElem?_modify]
 simp [h]
structure Dd where
 act:List UInt8
 line:Int
 word:Int
def Dd.v0 (d:Dd):M':=.string ⟨d.act.toArray⟩
def Dd.cells (d:Dd):List M':=[.string ⟨d.act.toArray⟩,.int .i64 d.line,.int .i64 d.word]
def qL (d:Dd):M':=.agg #[.string ⟨d.act.toArray⟩,.int .i64 d.line,.int .i64 d.word]
def cR (w:J') (a:Option z_) (ds:List Dd):Prop:=
 ds=[]\/∃b off,a=some ⟨b,off,none⟩/\b<w.heap.size/\∀i (h:i<ds.length),w.cell? ⟨b,off+i * 3,none⟩=some (.string ⟨ds[i].act.toArray⟩)/\w.cell? ⟨b,off+i * 3+1,none⟩=some (.int .i64 ds[i].line)/\w.cell? ⟨b,off+i * 3+2,none⟩=some (.int .i64 ds[i].word)
def BZ (ds:List Dd) (k:Nat):Nat:=ds.length+((ds.take k).map (·.act.length)).sum
def zn (left n:Nat):Int:=if n<=left then ((left - n:Nat):Int) else -1
def sO (d:Dd):Nat->M'
 |0=>.string ⟨d.act.toArray⟩
 |1=>.int .i64 d.line
 |_=>.int .i64 d.word
def yU:Dd:=⟨[],0,0⟩
def fM (ds:List Dd) (k:Nat):Array M':=Array.ofFn (n:=ds.length * 3) fun j=>sO (if j.val / 3<k then ds.getD (j.val / 3) yU else yU) (j.val % 3)
theorem Qm:(Tryz.prog.info? 55).map (fun i=>(i.zero,i.size,i.bytes))=some (some (.agg #[.string ⟨#[]⟩,.int .i64 0,.int .i64 0]),3,32):=by kernel_rfl
def Ov (k:Nat):List UInt8:=109::Lib.decDigits k
def Ay (v:Nat) (l:List UInt8):List UInt8:=if v=0 then l else ox v l
def zm (n:Nat):List Dd:=(List.range n).map fun (i:Nat)=>⟨Ov (1+3 * i),2+3 * (i:Int),3+3 * (i:Int)⟩
def eW (w:J') (a:Option z_) (zs:List Int):Prop:=
 zs=[]\/∃b off,a=some ⟨b,off,none⟩/\b<w.heap.size/\∀i,i<zs.length->w.cell? ⟨b,off+i,none⟩=some (.int .i64 (zs.getD i 0))
def marks (n:Nat):List Int:=(List.range n).map fun (i:Nat)=>(1+i:Int)
end
section
open Go Go.Conc Go.Conc.Lib Go.ConcR Go.ConcR.Gen Go.aC Go.Proofs
open Go.RowKit hiding Hid Below
open Go.ConcN (upd upd_ne upd_same)
def JM:List FuncId:=[9,10,11,12,14,15,16,17,18,19,21,41,42,43,44,46,47,48,52,62,63,64,82,83,84,85,86,110,111,112,113,114,115,116]
def MO (f:FuncId):Bool:=JM.contains f
def Dd.raw (d:Dd):Raw:=⟨⟨d.act.toArray⟩,d.line,d.word⟩
structure cG (x:Option Nat) (w w':J'):Prop where
 size:w.heap.size<=w'.heap.size
 blk:∀(g:Nat) (cs:Array M') (e:Q') (f:Nat × Nat),x≠some g->w.heap[g]?=some (jY cs e f)->w'.heap[g]?=some (jY cs e f)
variable {x:Option Nat} {w w' lZ:J'}
theorem cG.bW (h:g_ w.heap.size w w'):cG none w w':=⟨h.size,fun g _ _ _ _ hg=>(h.block g (fw hg)).trans hg⟩
theorem cG.JD (h:SQ w w') (hs:w.heap.size<=w'.heap.size):cG none w w':=⟨hs,fun g cs e f _ hg=>h g cs e f hg⟩
theorem cG.of_heap (h:w'.heap=w.heap):cG none w w':=⟨by rw [h];exact C_ _,fun g _ _ _ _ hg=>by rw [h];exact hg⟩
theorem cG.trans (h:cG none w w') (k:cG none w' lZ):cG none w lZ:=⟨D_ h.size k.size,fun g cs e f hx hg=>k.blk g cs e f hx (h.blk g cs e f hx hg)⟩
theorem zH {a:z_} {v:M'} (h:w.cell? a=some v):∃cs e f,w.heap[a.block]?=some (jY cs e f):=by
 unfold World.cell? at h
 split at h
 ·exact ⟨_,_,_,by assumption⟩
 ·cases h
theorem cG.cell (h:cG x w w') {a:z_} (hx:x≠some a.block) {v:M'} (ha:w.cell? a=some v):w'.cell? a=some v:=by
 obtain ⟨cs,e,f,hb⟩:=zH ha
 exact (World.cell?_of_block ((h.blk _ cs e f hx hb).trans hb.symm)).trans ha
structure ju (B kb:Nat) (L O P:Int) (ta:Option z_) (ds:List Dd) (w:J'):Prop where
 box:w.heap[kb]?=some (.cells #[.int .i64 L,.int .i64 O,.int .i64 P] 23 (0,0))
 kb:kb<B
 ev:cR w ta ds
 K8:ds≠[]->∀b off,ta=some ⟨b,off,none⟩->b<B
 tab:∃g cs e f,g<B/\Tryz.prog.globalNamed "internal/strconv.uint64pow10" =some g/\w.heap[g]?=some (jY cs e f)/\cs=(Lib.pow10Tab.map fun z=>Value.int .u64 z).toArray
end
section
open Go Go.Conc Go.Conc.Lib Go.ConcR.Gen Go.aC Go.Proofs
open Go.RowKit hiding Hid Below
variable {w:J'}
theorem aCi {P:U'} {f:FuncId} {args:Array M'} {Q:Ending->J'->Prop} (h:d_ P f args w Q):f_ (d_ P f args w Q):=h
theorem Vq (w:J') (e:Q') (n:Nat):(w.alloc (.cells #[] e)).ownsRow w.heap.size e n (.slice (some ⟨w.heap.size,0,none⟩) 0 0) 0 []:=
 ⟨by simp,.inr ⟨w.heap.size,0,#[],rfl,C_ _,Z' _ _,C_ _,nz _,by simp,by simp⟩⟩
structure U6 (w:J') (g:Nat) (ws:List (List UInt8)):Prop where
 lt:g<w.heap.size
 at':∀k (h:k<ws.length),w.cell? ⟨g,k,none⟩=some (.string ⟨ws[k].toArray⟩)
variable {w':J'} {g:Nat} {ws:List (List UInt8)}
theorem U6.block (h:U6 w g ws) (hg:w'.heap[g]?=w.heap[g]?):U6 w' g ws:=by
 have hl:=(Array.getElem?_eq_some_iff.1 (hg.trans (Array.getElem?_eq_getElem h.lt))).1
 refine ⟨hl,fun k hk=> ?_⟩
 rw [<-h.at' k hk]
 unfold World.cell?
 simp only [hg]
def Bg (w:J') (a:Option z_) (bs:List Int):Prop:=
 bs=[]\/∃b off,a=some ⟨b,off,none⟩/\b<w.heap.size/\∀i,i<bs.length->w.cell? ⟨b,off+i,none⟩=some (.int .u8 (bs.getD i 0))
variable {zs:List Int} {B:Nat}
theorem Bg.below {a:Option z_} (h:Bg w a zs) (hw:g_ B w w') (hB:w.heap.size<=B):Bg w' a zs:=by
 rcases h with rfl|⟨b,off,rfl,hb,hc⟩
 ·exact .inl rfl
 ·exact .inr ⟨b,off,rfl,E_ hb hw.size,fun i hi=>(hw.cell (by show b<B;omega)).trans (hc i hi)⟩
def PU (n:Int):Prop:=0<=n/\n<=255
theorem xp (W:J') (b o:Nat) (v:M'):W.grownBy (W.setCell ⟨b,o,none⟩ v) (some b):=
 ⟨rfl,rfl,rfl,(by rw [o_];exact C_ _),fun k _ hk=>RowKit.Below.heap_setCell _ _ _ k (fun e=>hk (by rw [e]))⟩
theorem OG (a b:Nat) (ha:a<9223372036854775808) (hb:b<9223372036854775808):
 bits .xor .i64 (a:Int) (b:Int)=((a ^^^ b:Nat):Int):=by
 have hx:a ^^^ b<2 ^ 63:=Nat.xor_lt_two_pow (by omega) (by omega)
 have h1:(BitVec.ofInt 64 (a:Int)).toNat=a:=by
  rw [BitVec.ofInt_natCast,BitVec.toNat_ofNat];exact Nat.mod_eq_of_lt (by omega)
 have h2:(BitVec.ofInt 64 (b:Int)).toNat=b:=by
  rw [BitVec.ofInt_natCast,BitVec.toNat_ofNat];exact Nat.mod_eq_of_lt (by omega)
 show IntKind.i64.wrap ((BitVec.ofInt 64 (a:Int) ^^^ BitVec.ofInt 64 (b:Int)).toNat:Int)=_
 rw [BitVec.toNat_xor,h1,h2]
 simp only [IntKind.wrap,IntKind.bits,IntKind.signed]
 simp
 omega
theorem aAh {v:Int} (h0:0<=v) (h1:v<9223372036854775808):0<=bits .xor .i64 v (v / 64):=by
 obtain ⟨n,rfl⟩:=Int.eq_ofNat_of_zero_le h0
 rw [show ((n:Int) / 64)=((n / 64:Nat):Int) by simp,OG n (n / 64) (by omega) (by omega)]
 omega
theorem Vx {r:Option Nat} (h:w.grownBy w' r) (n:Nat):w.grownBy (w'.drewN n) r:=⟨h.os,h.tape,h.output,h.size,h.block⟩
structure Rd (w:J') (g0 g:Nat) (p:Nat):Prop where
 ex:∃(bs:List Int) (a:Option z_) (c:Nat),w.heap[g]?=some (.cells #[.slice a bs.length c,.int .i64 p] 119 (0,0))/\bs.length<=2000/\(∀b∈bs,PU b)/\
  (bs=[]\/∃b off,a=some ⟨b,off,none⟩/\b<g0/\∀i,i<bs.length->w.cell? ⟨b,off+i,none⟩=some (.int .u8 (bs.getD i 0)))
 le:g0<=g
theorem TX (g0 g p:Nat) (n:Int) (w:J') (hR:Rd w g0 g p) (hp:p<=1000000000) (hn:n<=1000000000):
 d_ p_ 75 #[.pointer (some ⟨g,0,none⟩),.int .i64 n] w fun e w'=>∃x:Int,e=.returned (.int .i64 x)/\0<=x/\(x<n\/x=0)/\Rd w' g0 g (p+1)/\w.grownBy w' (some g):=by
 obtain ⟨⟨bs,a,c,hg,lW,hu8,hby⟩,hle⟩:=hR
 have c0:w.cell? ⟨g,0,none⟩=some (.slice a bs.length c):=by rw [aB hg];rfl
 have c1:w.cell? ⟨g,1,none⟩=some (.int .i64 p):=by rw [aB hg];rfl
 have f1:w.frozen? ⟨g,1,none⟩=false:=bX hg
 have hs:=n8 hg (o:=1) (.int .i64 (p+1))
 have xv:(w.setCell ⟨g,1,none⟩ (.int .i64 (p+1))).heap[g]?=some (.cells #[.slice a bs.length c,.int .i64 ((p+1:Nat):Int)] 119 (0,0)):=by rw [hs];simp
 have lH:=xp w g 1 (.int .i64 (p+1))
 have hR':Rd (w.setCell ⟨g,1,none⟩ (.int .i64 (p+1))) g0 g (p+1):=⟨⟨bs,a,c,xv,lW,hu8,by
  rcases hby with h|⟨b,off,rfl,hb,hc⟩
  ·exact .inl h
  ·refine .inr ⟨b,off,rfl,hb,fun i hi=> ?_⟩
   rw [<-hc i hi]
   unfold World.cell?
   rw [RowKit.Below.heap_setCell _ _ _ b (by simp;omega)]⟩,hle⟩
 by_cases h1:n<1
 ·have HQ:decide (n<1)=true:=by simpa using h1
  go_enter func75,ntmps75
  go_wp2
  go_ret
  exact ⟨0,rfl,Int.le_refl _,.inr rfl,hR',lH⟩
 ·have HQ:decide (n<1)=false:=by simpa using h1
  by_cases h0:bs.length=0
  ·have ND:((bs.length:Int)==0)=true:=by simpa using h0
   go_enter func75,ntmps75
   go_wp2
   go_ret
   exact ⟨0,rfl,Int.le_refl _,.inr rfl,hR',lH⟩
  ·have ND:((bs.length:Int)==0)=false:=beq_eq_false_iff_ne.2 (by omega)
   rcases hby with rfl|⟨b,off,rfl,hb,hc⟩
   ·simp at h0
   have hcell:∀i,i<bs.length->∃x:Int,PU x/\(w.setCell ⟨g,1,none⟩ (.int .i64 (p+1))).cell? ⟨b,off+i,none⟩=some (.int .u8 x):=fun i hi=>by
    refine ⟨bs.getD i 0, ?_, ?_⟩
    ·have:bs.getD i 0=bs[i]:=by simp [List.getD,hi]
     rw [this];exact hu8 _ (by simp)
    ·rw [<-hc i hi]
     unfold World.cell?
     rw [RowKit.Below.heap_setCell _ _ _ b (by simp;omega)]
   by_cases hlt:p<bs.length
   ·obtain ⟨x,hx,hcx⟩:=hcell p hlt
    clear hcell hc hs hg hu8
    obtain ⟨AP,M0⟩:=hx
    go_enter func75,ntmps75
    go_wp2
    go_ret
    exact ⟨x % n,rfl,Int.emod_nonneg _ (by omega),.inl (Int.emod_lt_of_pos _ (by omega)),hR',lH⟩
   ·have vI:¬(p:Int)<(bs.length:Int):=by omega
    obtain ⟨q1,hq1⟩:∃q,q=p % bs.length:=⟨_,rfl⟩
    obtain ⟨q2,ς⟩:∃q,q=(p * 7+3) % bs.length:=⟨_,rfl⟩
    obtain ⟨q3,hq3⟩:∃q,q=p / bs.length:=⟨_,rfl⟩
    have l1:q1<bs.length:=hq1▸Nat.mod_lt _ (by omega)
    have l2:q2<bs.length:=ς▸Nat.mod_lt _ (by omega)
    have l3:q3<=p:=hq3▸Nat.div_le_self _ _
    have e1:(p:Int) % (bs.length:Int)=(q1:Int):=by rw [hq1];rfl
    have e2:((p:Int) * 7+3) % (bs.length:Int)=(q2:Int):=by rw [ς];rfl
    have e3:(p:Int) / (bs.length:Int)=(q3:Int):=by rw [hq3];rfl
    obtain ⟨x,hx,hcx⟩:=hcell q1 l1
    obtain ⟨y,hy,hcy⟩:=hcell q2 l2
    clear hcell hc hs hg hu8 hq1 ς hq3
    obtain ⟨AP,M0⟩:=hx
    obtain ⟨hy1,Qo⟩:=hy
    go_enter func75,ntmps75
    go_wp2
    go_quiet (fail)
    go_wp2
    go_ret
    have hm:=aAh (v:=x * 131+y * 1117+p * 29+q3 * 53) (by omega) (by omega)
    obtain ⟨bb,a,c,z1,z2,z3,z4⟩:=hR'.ex
    exact ⟨_,rfl,Int.tmod_nonneg _ hm,.inl (Int.tmod_lt_of_pos _ (by omega)),⟨⟨bb,a,c,z1,z2,z3,z4⟩,hle⟩,Vx lH _⟩
variable {gl:Nat}
theorem aAl (h:∀(i:Nat) (hi:i<zs.length),w.cell? ⟨gl,i,none⟩=some (.int .i64 zs[i])) (hl:gl<w.heap.size) (hne:gl≠g) (hg:w.grownBy w' (some g)):∀(i:Nat) (hi:i<zs.length),w'.cell? ⟨gl,i,none⟩=some (.int .i64 zs[i]):=fun i hi=>by
 rw [<-h i hi]
 unfold World.cell?
 rw [hg.block gl hl (by intro e;injection e with e;exact hne e)]
theorem aBp (g0 g p gl c:Nat) (zs:List Int) (w:J') (hR:Rd w g0 g p) (hp:p<=1000000000) (hne:gl≠g) (hl:gl<w.heap.size) (hz:zs≠[]) (uF:zs.length<=1000) (hc:∀(i:Nat) (hi:i<zs.length),w.cell? ⟨gl,i,none⟩=some (.int .i64 zs[i])):
 d_ p_ 107 #[.pointer (some ⟨g,0,none⟩),.slice (some ⟨gl,0,none⟩) zs.length c] w fun e w'=>∃x:Int,e=.returned (.int .i64 x)/\x∈zs/\Rd w' g0 g (p+1)/\w.grownBy w' (some g):=by
 have iq:0<zs.length:=by cases zs with|nil=>exact absurd rfl hz|cons _ _=>simp
 have hk:=aCi (TX g0 g p zs.length w hR hp (by omega))
 have hc':=fun w' h=>aAl (w':=w') hc hl hne h
 go_enter func107,ntmps107
 go_wp2_with fail
 refine hk.out.mono ?_
 rintro e w1 ⟨x,rfl,YH,AP,EU,BI⟩
 obtain ⟨n,rfl⟩:=Int.eq_ofNat_of_zero_le YH
 have hlt:n<zs.length:=by omega
 have hcell:=hc' w1 BI n hlt
 clear hc hc' hk
 go_wp2
 go_ret
 exact ⟨_,rfl,by simp,EU,BI⟩
theorem U6.kept (h:U6 w gl ws) (hne:gl≠g) (hg:w.grownBy w' (some g)):U6 w' gl ws:=
 h.block (hg.block gl h.lt (by intro e;injection e with e;exact hne e))
theorem aBw (g0 g p gl c:Nat) (ws:List (List UInt8)) (w:J') (hR:Rd w g0 g p) (hp:p<=1000000000) (hne:gl≠g) (hz:ws≠[]) (uF:ws.length<=1000) (hT:U6 w gl ws):
 d_ p_ 108 #[.pointer (some ⟨g,0,none⟩),.slice (some ⟨gl,0,none⟩) ws.length c] w fun e w'=>∃x:List UInt8,e=.returned (.string ⟨x.toArray⟩)/\x∈ws/\Rd w' g0 g (p+1)/\w.grownBy w' (some g):=by
 have iq:0<ws.length:=by cases ws with|nil=>exact absurd rfl hz|cons _ _=>simp
 have hk:=aCi (TX g0 g p ws.length w hR hp (by omega))
 go_enter func108,ntmps108
 go_wp2_with fail
 refine hk.out.mono ?_
 rintro e w1 ⟨x,rfl,YH,AP,EU,BI⟩
 obtain ⟨n,rfl⟩:=Int.eq_ofNat_of_zero_le YH
 have hlt:n<ws.length:=by omega
 have hcell:=(hT.kept hne BI).at' n hlt
 clear hT hk
 go_wp2
 go_ret
 exact ⟨ws[n],rfl,by simp,EU,BI⟩
theorem OW (a:Option z_) (c:Nat) (bs:List Int) (w:J') (hA:Bg w a bs) (hu:∀b∈bs,PU b) (lJ:bs.length<=c):
 d_ p_ 51 #[.slice a bs.length c] w fun e w'=>e=.returned (.pointer (some ⟨w.heap.size,0,none⟩))/\Rd w' w.heap.size w.heap.size 0/\g_ w.heap.size w w':=by
 by_cases hn:2000<bs.length
 ·have bH:(2000:Int)<(bs.length:Int):=by omega
  go_enter func51,ntmps51
  go_wp2
  go_ret
  refine ⟨rfl,⟨⟨bs.take 2000,a,c, ?_,by simp;omega,fun b hb=>hu b (List.mem_of_mem_take hb), ?_⟩,C_ _⟩,(h_ _ _).alloc (C_ _) _⟩
  ·rw [Q_,show min 2000 bs.length=2000 by omega];exact Z' _ _
  ·rcases hA with h|⟨b,off,rfl,hb,hc⟩
   ·rw [h] at hn;simp at hn
   ·refine .inr ⟨b,off,rfl,hb,fun i hi=> ?_⟩
    rw [show (bs.take 2000).getD i 0=bs.getD i 0 by rw [Q_] at hi;simp only [List.getD];rw [List.getElem?_take_of_lt (by omega)],<-hc i (by simp at hi;omega)]
    exact ((h_ _ w).alloc (C_ _) _).cell (by show b<_;omega)
 ·have bH:¬(2000:Int)<(bs.length:Int):=by omega
  go_enter func51,ntmps51
  go_wp2
  go_ret
  refine ⟨rfl,⟨⟨bs,a,c,Z' _ _,by omega,hu, ?_⟩,C_ _⟩,(h_ _ _).alloc (C_ _) _⟩
  rcases hA with h|⟨b,off,rfl,hb,hc⟩
  ·exact .inl h
  ·refine .inr ⟨b,off,rfl,hb,fun i hi=> ?_⟩
   rw [<-hc i hi]
   exact ((h_ _ w).alloc (C_ _) _).cell (by show b<_;omega)
variable {g0:Nat}
theorem Rd.kept {p:Nat} {row:Option Nat} (h:Rd w g0 g p) (hg:w.grownBy w' row) (hr:∀r,row=some r->g0<=r/\r≠g) (hl:g<w.heap.size):Rd w' g0 g p:=by
 obtain ⟨⟨bs,a,c,h1,h2,h3,h4⟩,hle⟩:=h
 refine ⟨⟨bs,a,c,(hg.block g hl (fun e=>(hr g e.symm).2 rfl)).trans h1,h2,h3, ?_⟩,hle⟩
 rcases h4 with h4|⟨b,off,rfl,hb,hc⟩
 ·exact .inl h4
 ·refine .inr ⟨b,off,rfl,hb,fun i hi=> ?_⟩
  rw [<-hc i hi]
  unfold World.cell?
  rw [hg.block b (by omega) (fun e=>by have:=(hr b e.symm).1;omega)]
theorem Rd.lt {p:Nat} (h:Rd w g0 g p):g<w.heap.size:=by
 obtain ⟨⟨bs,a,c,h1,_⟩,_⟩:=h
 exact (cI h1)
variable {x j:Nat}
theorem CC {r:Option Nat} (h:w.grownBy w' r) (hx:w.heap.size<=x) (v:M'):w.grownBy (w'.setCell ⟨x,j,none⟩ v) r:=
 ⟨h.os,h.tape,h.output,by rw [o_];exact h.size,fun k hk hne=>(RowKit.Below.heap_setCell _ _ _ k (by simp;omega)).trans (h.block k hk hne)⟩
theorem U2 (w:J') (o:Obj):(w.alloc o).heap[w.heap.size]?=some o:=Z' _ _
def Reads (w:J') (x:Nat) (vs:List M'):Prop:=∀j,j<vs.length->w.cell? ⟨x,j,none⟩=vs[j]?/\w.frozen? ⟨x,j,none⟩=false
theorem Rd.alloc {p:Nat} (h:Rd w g0 g p) (o:Obj):Rd (w.alloc o) g0 g p:=h.kept (N_ w o none) (fun r e=>by cases e) h.lt
def aCd (w:J') (g0 g p:Nat) (w':J'):Prop:=Rd w' g0 g (p+1)/\w.grownBy w' (some g)
theorem Es {p n:Nat} (zs:List Int) (t:Q') (hR:Rd w g0 g p) (hp:p<=1000000000) (Mg:gl=w.heap.size) (hn:zs.length=n) (hz:0<n) (uF:n<=1000):
 d_ p_ 107 #[.pointer (some ⟨g,0,none⟩),.slice (some ⟨gl,0,none⟩) n n] (w.alloc (.cells (zs.map (Value.int .i64)).toArray t)) fun e w'=>∃x:Int,e=.returned (.int .i64 x)/\x∈zs/\f_ (aCd w g0 g p w'):=by
 subst Mg hn
 have hlt:=hR.lt
 refine (aBp g0 g p w.heap.size _ zs _ (hR.alloc _) hp (by omega) (by simp) (fun e=>by simp [e] at hz) uF (fun i hi=> ?_)).mono fun e w' ⟨x,h1,h2,h3,h4⟩=>⟨x,h1,h2,h3,(N_ w _ _).trans h4⟩
 rw [aB (U2 w _)];simp [hi]
theorem aAg {p n:Nat} (ws:List (List UInt8)) (t:Q') (hR:Rd w g0 g p) (hp:p<=1000000000) (Mg:gl=w.heap.size) (hn:ws.length=n) (hz:0<n) (uF:n<=1000):
 d_ p_ 108 #[.pointer (some ⟨g,0,none⟩),.slice (some ⟨gl,0,none⟩) n n] (w.alloc (.cells (ws.map fun s=>Value.string ⟨s.toArray⟩).toArray t)) fun e w'=>∃x:List UInt8,e=.returned (.string ⟨x.toArray⟩)/\f_ (aCd w g0 g p w'):=by
 subst Mg hn
 have hlt:=hR.lt
 refine (aBw g0 g p w.heap.size _ ws _ (hR.alloc _) hp (by omega) (fun e=>by simp [e] at hz) uF ⟨by simp,fun i hi=> ?_⟩).mono fun e w' ⟨x,h1,_,h3,h4⟩=>⟨x,h1,h3,(N_ w _ _).trans h4⟩
 rw [aB (U2 w _)];simp [hi]
theorem BX {p:Nat} {n:Int} (hR:Rd w g0 g p) (hp:p<=1000000000) (hn:n<=1000000000):
 d_ p_ 75 #[.pointer (some ⟨g,0,none⟩),.int .i64 n] w fun e w'=>∃x:Nat,e=.returned (.int .i64 x)/\(((x:Nat):Int)<n\/x=0)/\f_ (aCd w g0 g p w'):=
 (TX g0 g p n w hR hp hn).mono fun e w' ⟨x,h1,h2,h3,h4,h5⟩=>by
  obtain ⟨m,rfl⟩:=Int.eq_ofNat_of_zero_le h2
  exact ⟨m,h1,h3.imp id (fun h=>by omega),h4,h5⟩
variable {fn:Func}
theorem Yw {p:Tmp} {ty:Q'} (h:fn.results=#[.cell p ty]) (tmps:Array M') (P:U') (w:J'):
 (results fn tmps).run P w=((asAddr (tmps.getD p I')).run P w).andThen fun a w₁=>(loadVar ty a).run P w₁:=by
 simp only [results,h]
 simp [Sem.run_bind,Result.andThen]
variable {cs:Array M'}
theorem Gv {P:U'} {p:Tmp} {aEk t:Q'} (h:fn.results=#[.cell p aEk]) {tmps:Array M'} {b:Nat} (ht:tmps.getD p I'=.pointer (some ⟨b,0,none⟩)) {fr:Nat × Nat} {d:TypeDesc}
 (hg:w.heap[b]?=some (.cells cs t fr)) (hu:P.underlying aEk=some d) (hd:(match d with| .struct _| .array _ _=>true|_=>false)=true) (hi:(P.info? aEk).map (·.size)=some cs.size):(results fn tmps).run P w=.ok (.agg cs) w:=by
 rw [Yw h,ht]
 simp [asAddr,Result.andThen,run_loadVar_row w b t aEk cs fr d hg hu hd hi]
def NA:Nat->Code->Code
 |0,c=>c
 |n+1,.seq _ b=>NA n b
 |_+1,c=>c
def Pl (f:Func):Code:=match f.body with
 |some c=>c
 |none=>.skip
structure DZ (w0:J') (g0 g p x:Nat) (ty:Q') (zs cs:Array M') (w:J'):Prop where
 box:w.heap[x]?=some (.cells cs ty (0,0))
 res:w.heap[w0.heap.size]?=some (.cells zs ty (0,0))
 rd:∃p',p'<=p/\Rd w g0 g p'
 grown:w0.grownBy w (some g)
 lt:w0.heap.size<x
variable {w0:J'} {p p' ty:Nat} {zs:Array M'}
theorem DZ.lx (h:DZ w0 g0 g p x ty zs cs w):x<w.heap.size:=(cI h.box)
theorem DZ.ED (h:DZ w0 g0 g p x ty zs cs w) (hg:g<w0.heap.size) (hr:w.grownBy w' (some g)) (hp:∃q,q<=p'/\Rd w' g0 g q):DZ w0 g0 g p' x ty zs cs w':=
 have h1:=h.lt
 have h2:=h.lx
 ⟨(hr.block x h2 (by simp;omega)).trans h.box,(hr.block _ (by omega) (by simp;omega)).trans h.res,hp,h.grown.trans hr,h.lt⟩
theorem DZ.put (h:DZ w0 g0 g p x ty zs cs w) (χ:g0<=g) (hg:g<w0.heap.size) (j:Nat) (v:M'):DZ w0 g0 g p x ty zs (cs.setIfInBounds j v) (w.setCell ⟨x,j,none⟩ v):=by
 have h1:=h.lt
 have h2:=h.lx
 refine ⟨n8 h.box v, ?_, ?_,CC h.grown (by omega) v,h.lt⟩
 ·rw [RowKit.Below.heap_setCell _ _ _ _ (by simp;omega)];exact h.res
 ·obtain ⟨q,hq,hr⟩:=h.rd
  exact ⟨q,hq,hr.kept (xp w x j v) (fun r e=>by injection e with e;subst e;exact ⟨by omega,by omega⟩) hr.lt⟩
theorem DZ.less (h:DZ w0 g0 g p x ty zs cs w) (hp:p<=p'):DZ w0 g0 g p' x ty zs cs w:=
 have ⟨q,h1,h2⟩:=h.rd
 ⟨h.box,h.res,⟨q,D_ h1 hp,h2⟩,h.grown,h.lt⟩
theorem DZ.facts {a b c:M'} (h:DZ w0 g0 g p x ty zs #[a,b,c] w):(w.cell? ⟨x,0,none⟩=some a/\w.cell? ⟨x,1,none⟩=some b/\w.cell? ⟨x,2,none⟩=some c)/\(w.frozen? ⟨x,0,none⟩=false/\w.frozen? ⟨x,1,none⟩=false/\w.frozen? ⟨x,2,none⟩=false):=
 ⟨⟨aB h.box,aB h.box,aB h.box⟩,bX h.box,bX h.box,bX h.box⟩
theorem DZ.KT {a b c:M'} (h:DZ w0 g0 g p x ty #[a,b,c] cs w):(w.cell? ⟨w0.heap.size,0,none⟩=some a/\w.cell? ⟨w0.heap.size,1,none⟩=some b/\w.cell? ⟨w0.heap.size,2,none⟩=some c)/\(w.frozen? ⟨w0.heap.size,0,none⟩=false/\w.frozen? ⟨w0.heap.size,1,none⟩=false/\w.frozen? ⟨w0.heap.size,2,none⟩=false):=
 ⟨⟨aB h.res,aB h.res,aB h.res⟩,bX h.res,bX h.res,bX h.res⟩
theorem DZ.cell (χ:g0<=g) (hg:g<w0.heap.size) (h:w.heap[w0.heap.size]?=some (.cells cs ty (0,0))/\(∃q,q<=p/\Rd w g0 g q)/\w0.grownBy w (some g)) (j:Nat) (v:M'):
 (w.setCell ⟨w0.heap.size,j,none⟩ v).heap[w0.heap.size]?=some (.cells (cs.setIfInBounds j v) ty (0,0))/\(∃q,q<=p/\Rd (w.setCell ⟨w0.heap.size,j,none⟩ v) g0 g q)/\w0.grownBy (w.setCell ⟨w0.heap.size,j,none⟩ v) (some g):=by
 obtain ⟨h1,⟨q,hq,hr⟩,h2⟩:=h
 exact ⟨n8 h1 v,⟨q,hq,hr.kept (xp w _ j v) (fun r e=>by injection e with e;subst e;exact ⟨by omega,by omega⟩) hr.lt⟩,CC h2 (C_ _) v⟩
def CQ (g0 g p:Nat) (w:J') (V:M'->Prop) (e:Ending) (w':J'):Prop:=∃v p',e=.returned v/\V v/\p'<=p/\Rd w' g0 g p'/\w.grownBy w' (some g)
def aBi (v:M'):Prop:=∃a b c:Int,v=.agg #[.int .i64 a,.int .i64 b,.int .i64 c]
def k_ (v:M'):Prop:=∃(k:List UInt8) (a b:Int),v=.agg #[.string ⟨k.toArray⟩,.int .i64 a,.int .i64 b]
variable {X:Nat} {x1 x4 x5 x6 x7 x8 x9 x10 π ξ ν κ θ Z9 Z4 ZM ZJ ZI x21 Yf uP tt ti E' y' x28 x29 x30 x31 x32 x33 x34:M'} {a b:Int}
theorem aAr {p:Nat} (hp:p<=1000000) (hlt:g<w.heap.size) (χ:g0<=g) {c:Int} (O:DZ w g0 g (p+6) X 28 #[.int .i64 0,.int .i64 0,.int .i64 0] #[.int .i64 a,.int .i64 b,.int .i64 c] w'):(NA 3 (Pl f77)).wp p_ (bodyPost p_ f77 (CQ g0 g (p+6) w aBi)) ⟨#[.pointer (some ⟨g,0,none⟩),x1,.pointer (some ⟨w.heap.size,0,none⟩),.pointer (some ⟨X,0,none⟩),x4,x5,x6,x7,x8,x9,x10,π,ξ,ν,κ,θ,Z9,Z4,ZM,ZJ,ZI,x21,Yf,uP,tt,ti,E',y',x28,x29,x30,x31,x32,x33,x34],[]⟩ w':=by
 obtain ⟨⟨f0,f1,f2⟩,z0,z1,z2⟩:=O.facts
 obtain ⟨⟨r0,r1,r2⟩,y0,y1,y2⟩:=O.KT
 generalize hQ:bodyPost p_ f77 (CQ g0 g (p+6) w aBi)=Q
 simp only [NA,Pl,f77]
 subst hQ
 go_wp2_with fail
 obtain ⟨b1,⟨q,hq,hr⟩,b2⟩:=DZ.cell χ hlt (DZ.cell χ hlt (DZ.cell χ hlt ⟨O.res,O.rd,O.grown⟩ 0 (.int .i64 a)) 1 (.int .i64 b)) 2 (.int .i64 c)
 exact bodyPost_ret (Gv rfl rfl b1 Tryz.underlying28 rfl (by kernel_rfl)) rfl ⟨_,q,rfl,⟨_,_,_,rfl⟩,by omega,hr,b2⟩
theorem aCf {p:Nat} (hp:p<=1000000) (hlt:g<w.heap.size) (χ:g0<=g) {c:Int} (O:DZ w g0 g (p+3) X 28 #[.int .i64 0,.int .i64 0,.int .i64 0] #[.int .i64 a,.int .i64 b,.int .i64 c] w'):(NA 2 (Pl f77)).wp p_ (bodyPost p_ f77 (CQ g0 g (p+6) w aBi)) ⟨#[.pointer (some ⟨g,0,none⟩),x1,.pointer (some ⟨w.heap.size,0,none⟩),.pointer (some ⟨X,0,none⟩),x4,x5,x6,x7,x8,x9,x10,π,ξ,ν,κ,θ,Z9,Z4,ZM,ZJ,ZI,x21,Yf,uP,tt,ti,E',y',x28,x29,x30,x31,x32,x33,x34],[]⟩ w':=by
 obtain ⟨⟨f0,f1,f2⟩,z0,z1,z2⟩:=O.facts
 obtain ⟨⟨r0,r1,r2⟩,y0,y1,y2⟩:=O.KT
 generalize hQ:bodyPost p_ f77 (CQ g0 g (p+6) w aBi)=Q
 simp only [NA,Pl,f77]
 subst hQ
 refine wp_seq_k fun K hK=> ?_
 have kk:=aa hK
 clear hK
 go_wp2_with fail
 obtain ⟨q,hq,hr⟩:=O.rd
 refine (BX hr (by omega) (by omega)).mono ?_
 rintro e w3 ⟨y,rfl,hy,h3⟩
 have O1:=O.ED (p':=p+4) hlt h3.out.2 ⟨_,by omega,h3.out.1⟩
 obtain ⟨⟨f0,f1,f2⟩,z0,z1,z2⟩:=O1.facts
 have c0:(y:Int)=0\/(y:Int)=1\/(y:Int)=2\/(2<(y:Int)):=by omega
 rcases c0 with c|c|c|c
 ·go_wp2_with fail
  obtain ⟨q2,ς,L8⟩:=O1.rd
  refine (Es (n:=3) [0,7, -1] _ L8 (by omega) rfl rfl (by omega) (by omega)).mono ?_
  rintro e w4 ⟨v,rfl,_,h4⟩
  have O2:=O1.ED (p':=p+5) hlt h4.out.2 ⟨_,by omega,h4.out.1⟩
  obtain ⟨⟨f0,f1,f2⟩,z0,z1,z2⟩:=O2.facts
  go_wp2_with fail
  refine kk.out _ _ ?_
  exact aAr hp hlt χ ((O2.put χ hlt 0 (.int .i64 v)).less (by omega))
 ·go_wp2_with fail
  obtain ⟨q2,ς,L8⟩:=O1.rd
  refine (Es (n:=3) [0,5,9223372036854775807] _ L8 (by omega) rfl rfl (by omega) (by omega)).mono ?_
  rintro e w4 ⟨v,rfl,_,h4⟩
  have O2:=O1.ED (p':=p+5) hlt h4.out.2 ⟨_,by omega,h4.out.1⟩
  obtain ⟨⟨f0,f1,f2⟩,z0,z1,z2⟩:=O2.facts
  go_wp2_with fail
  refine kk.out _ _ ?_
  exact aAr hp hlt χ ((O2.put χ hlt 1 (.int .i64 v)).less (by omega))
 ·go_wp2_with fail
  obtain ⟨q2,ς,L8⟩:=O1.rd
  refine (Es (n:=3) [0,61, -1] _ L8 (by omega) rfl rfl (by omega) (by omega)).mono ?_
  rintro e w4 ⟨v,rfl,_,h4⟩
  have O2:=O1.ED (p':=p+5) hlt h4.out.2 ⟨_,by omega,h4.out.1⟩
  obtain ⟨⟨f0,f1,f2⟩,z0,z1,z2⟩:=O2.facts
  go_wp2_with fail
  refine kk.out _ _ ?_
  exact aAr hp hlt χ ((O2.put χ hlt 2 (.int .i64 v)).less (by omega))
 ·go_wp2_with fail
  refine kk.out _ _ ?_
  exact aAr hp hlt χ (O1.less (by omega))
theorem Yx {p:Nat} (hR:Rd w g0 g p) (hp:p<=1000000):
 d_ p_ 77 #[.pointer (some ⟨g,0,none⟩)] w (CQ g0 g (p+6) w aBi):=by
 have hlt:=hR.lt
 have χ:=hR.le
 have R0:=hR.alloc (.cells #[.int .i64 0,.int .i64 0,.int .i64 0] 28)
 have k0:=N_ w (.cells #[.int .i64 0,.int .i64 0,.int .i64 0] 28) (some g)
 go_enter func77,ntmps77
 go_wp2_with fail
 rename_i K1 hK1 K0 OY
 have kk:=aa hK1
 clear hK1
 refine (BX R0 (by omega) (by omega)).mono ?_
 rintro e w1 ⟨x,rfl,hx,h1⟩
 go_wp2_with fail
 refine (BX h1.out.1 (by omega) (by omega)).mono ?_
 rintro e w2 ⟨y,rfl,hy,h2⟩
 go_wp2_with fail
 refine (Es (n:=5) [5,3,10,1,60] _ h2.out.1 (by omega) rfl rfl (by omega) (by omega)).mono ?_
 rintro e w3 ⟨v,rfl,_,h3⟩
 have k1:(w.alloc (.cells #[.int .i64 0,.int .i64 0,.int .i64 0] 28)).grownBy w3 (some g):=(h1.out.2.trans h2.out.2).trans h3.out.2
 have O3:DZ w g0 g (p+3) w3.heap.size 28 #[.int .i64 0,.int .i64 0,.int .i64 0] #[.int .i64 (1+x),.int .i64 (1+y),.int .i64 v] (w3.alloc (.cells #[.int .i64 (1+x),.int .i64 (1+y),.int .i64 v] 28)):=by
  have z1:=k1.size
  rw [B_] at z1
  refine ⟨Z' w3 _, ?_,⟨_,C_ _,h3.out.1.alloc _⟩,(k0.trans k1).trans (N_ w3 _ _),by omega⟩
  exact ((N_ w3 _ none).block _ (by omega) (by simp)).trans ((k1.block _ (by rw [B_];omega) (by simp;omega)).trans (Z' w _))
 go_wp2_with fail
 refine kk.out _ _ ?_
 exact aCf hp hlt χ O3
variable {x35 x36 x37 x38 x39 x40 x41 x42 x43 x44 x45 x46 q_ x48 x49 x50 x51 x52 x53 x54 x55:M'}
theorem aAs {p:Nat} (hp:p<=1000000) (hlt:g<w.heap.size) (χ:g0<=g) {k:List UInt8} (O:DZ w g0 g (p+8) X 55 #[.string ⟨#[]⟩,.int .i64 0,.int .i64 0] #[.string ⟨k.toArray⟩,.int .i64 a,.int .i64 b] w'):(NA 4 (Pl f109)).wp p_ (bodyPost p_ f109 (CQ g0 g (p+8) w k_)) ⟨#[.pointer (some ⟨g,0,none⟩),x1,.pointer (some ⟨w.heap.size,0,none⟩),.pointer (some ⟨X,0,none⟩),x4,x5,x6,x7,x8,x9,x10,π,ξ,ν,κ,θ,Z9,Z4,ZM,ZJ,ZI,x21,Yf,uP,tt,ti,E',y',x28,x29,x30,x31,x32,x33,x34,x35,x36,x37,x38,x39,x40,x41,x42,x43,x44,x45,x46,q_,x48,x49,x50,x51,x52,x53,x54,x55],[]⟩ w':=by
 obtain ⟨⟨f0,f1,f2⟩,z0,z1,z2⟩:=O.facts
 obtain ⟨⟨r0,r1,r2⟩,y0,y1,y2⟩:=O.KT
 generalize hQ:bodyPost p_ f109 (CQ g0 g (p+8) w k_)=Q
 simp only [NA,Pl,f109]
 subst hQ
 go_wp2_with fail
 obtain ⟨b1,⟨q,hq,hr⟩,b2⟩:=DZ.cell χ hlt (DZ.cell χ hlt (DZ.cell χ hlt ⟨O.res,O.rd,O.grown⟩ 0 (.string ⟨k.toArray⟩)) 1 (.int .i64 a)) 2 (.int .i64 b)
 exact bodyPost_ret (Gv rfl rfl b1 Tryz.underlying55 rfl (by kernel_rfl)) rfl ⟨_,q,rfl,⟨_,_,_,rfl⟩,by omega,hr,b2⟩
theorem aAt {p:Nat} (hp:p<=1000000) (hlt:g<w.heap.size) (χ:g0<=g) {k:List UInt8} (O:DZ w g0 g (p+4) X 55 #[.string ⟨#[]⟩,.int .i64 0,.int .i64 0] #[.string ⟨k.toArray⟩,.int .i64 a,.int .i64 b] w'):(NA 3 (Pl f109)).wp p_ (bodyPost p_ f109 (CQ g0 g (p+8) w k_)) ⟨#[.pointer (some ⟨g,0,none⟩),x1,.pointer (some ⟨w.heap.size,0,none⟩),.pointer (some ⟨X,0,none⟩),x4,x5,x6,x7,x8,x9,x10,π,ξ,ν,κ,θ,Z9,Z4,ZM,ZJ,ZI,x21,Yf,uP,tt,ti,E',y',x28,x29,x30,x31,x32,x33,x34,x35,x36,x37,x38,x39,x40,x41,x42,x43,x44,x45,x46,q_,x48,x49,x50,x51,x52,x53,x54,x55],[]⟩ w':=by
 obtain ⟨⟨f0,f1,f2⟩,z0,z1,z2⟩:=O.facts
 obtain ⟨⟨r0,r1,r2⟩,y0,y1,y2⟩:=O.KT
 generalize hQ:bodyPost p_ f109 (CQ g0 g (p+8) w k_)=Q
 simp only [NA,Pl,f109]
 subst hQ
 refine wp_seq_k fun K hK=> ?_
 have kk:=aa hK
 clear hK
 go_wp2_with fail
 obtain ⟨q,hq,hr⟩:=O.rd
 refine (BX hr (by omega) (by omega)).mono ?_
 rintro e w3 ⟨y,rfl,hy,h3⟩
 have O1:=O.ED (p':=p+5) hlt h3.out.2 ⟨_,by omega,h3.out.1⟩
 obtain ⟨⟨f0,f1,f2⟩,z0,z1,z2⟩:=O1.facts
 have c0:(y:Int)=0\/(y:Int)=1\/(y:Int)=2\/(2<(y:Int)):=by omega
 rcases c0 with c|c|c|c
 ·go_wp2_with fail
  obtain ⟨q2,ς,L8⟩:=O1.rd
  refine (Es (n:=5) [0,100, -1,61,5] _ L8 (by omega) rfl rfl (by omega) (by omega)).mono ?_
  rintro e w4 ⟨v,rfl,_,h4⟩
  have O2:=O1.ED (p':=p+6) hlt h4.out.2 ⟨_,by omega,h4.out.1⟩
  obtain ⟨⟨f0,f1,f2⟩,z0,z1,z2⟩:=O2.facts
  go_wp2_with fail
  refine kk.out _ _ ?_
  exact aAs hp hlt χ ((O2.put χ hlt 1 (.int .i64 v)).less (by omega))
 ·go_wp2_with fail
  obtain ⟨q2,ς,L8⟩:=O1.rd
  refine (Es (n:=3) [1,10, -1] _ L8 (by omega) rfl rfl (by omega) (by omega)).mono ?_
  rintro e w4 ⟨v,rfl,_,h4⟩
  have O2:=O1.ED (p':=p+6) hlt h4.out.2 ⟨_,by omega,h4.out.1⟩
  obtain ⟨⟨f0,f1,f2⟩,z0,z1,z2⟩:=O2.facts
  go_wp2_with fail
  refine kk.out _ _ ?_
  exact aAs hp hlt χ ((O2.put χ hlt 2 (.int .i64 v)).less (by omega))
 ·go_wp2_with fail
  obtain ⟨q2,ς,L8⟩:=O1.rd
  refine (aAg (n:=3) [[],[114,105,110,103,115],[112,117,116]] _ L8 (by omega) rfl rfl (by omega) (by omega)).mono ?_
  rintro e w4 ⟨v,rfl,h4⟩
  have O2:=O1.ED (p':=p+6) hlt h4.out.2 ⟨_,by omega,h4.out.1⟩
  obtain ⟨⟨f0,f1,f2⟩,z0,z1,z2⟩:=O2.facts
  go_wp2_with fail
  refine kk.out _ _ ?_
  exact aAs hp hlt χ ((O2.put χ hlt 0 (.string ⟨v.toArray⟩)).less (by omega))
 ·go_wp2_with fail
  refine kk.out _ _ ?_
  exact aAs hp hlt χ (O1.less (by omega))
theorem aCk {p:Nat} (hp:p<=1000000) (hlt:g<w.heap.size) (χ:g0<=g) {k:List UInt8} (O:DZ w g0 g (p+1) X 55 #[.string ⟨#[]⟩,.int .i64 0,.int .i64 0] #[.string ⟨k.toArray⟩,.int .i64 a,.int .i64 b] w'):(NA 2 (Pl f109)).wp p_ (bodyPost p_ f109 (CQ g0 g (p+8) w k_)) ⟨#[.pointer (some ⟨g,0,none⟩),x1,.pointer (some ⟨w.heap.size,0,none⟩),.pointer (some ⟨X,0,none⟩),x4,x5,x6,x7,x8,x9,x10,π,ξ,ν,κ,θ,Z9,Z4,ZM,ZJ,ZI,x21,Yf,uP,tt,ti,E',y',x28,x29,x30,x31,x32,x33,x34,x35,x36,x37,x38,x39,x40,x41,x42,x43,x44,x45,x46,q_,x48,x49,x50,x51,x52,x53,x54,x55],[]⟩ w':=by
 obtain ⟨⟨f0,f1,f2⟩,z0,z1,z2⟩:=O.facts
 obtain ⟨⟨r0,r1,r2⟩,y0,y1,y2⟩:=O.KT
 generalize hQ:bodyPost p_ f109 (CQ g0 g (p+8) w k_)=Q
 simp only [NA,Pl,f109]
 subst hQ
 refine wp_seq_k fun K hK=> ?_
 have kk:=aa hK
 clear hK
 by_cases h1:k=[114,105,110,103]
 ·subst h1
  go_wp2_with fail
  obtain ⟨q,hq,hr⟩:=O.rd
  refine (BX hr (by omega) (by omega)).mono ?_
  rintro e w3 ⟨y,rfl,hy,h3⟩
  have O1:=O.ED (p':=p+2) hlt h3.out.2 ⟨_,by omega,h3.out.1⟩
  obtain ⟨⟨f0,f1,f2⟩,z0,z1,z2⟩:=O1.facts
  go_wp2_with fail
  obtain ⟨q,hq,hr⟩:=(O1.put χ hlt 1 (.int .i64 (1+(y:Int)))).rd
  refine (BX hr (by omega) (by omega)).mono ?_
  rintro e w4 ⟨y2,rfl,Qo,h4⟩
  have O2:=(O1.put χ hlt 1 (.int .i64 (1+(y:Int)))).ED (p':=p+3) hlt h4.out.2 ⟨_,by omega,h4.out.1⟩
  obtain ⟨⟨f0,f1,f2⟩,z0,z1,z2⟩:=O2.facts
  go_wp2_with fail
  refine kk.out _ _ ?_
  exact aAt hp hlt χ ((O2.put χ hlt 2 (.int .i64 (y2:Int))).less (by omega))
 by_cases h2:k=[104,97,110,103]
 ·subst h2
  go_wp2_with fail
  obtain ⟨q,hq,hr⟩:=O.rd
  refine (BX hr (by omega) (by omega)).mono ?_
  rintro e w3 ⟨y,rfl,hy,h3⟩
  have O1:=O.ED (p':=p+2) hlt h3.out.2 ⟨_,by omega,h3.out.1⟩
  obtain ⟨⟨f0,f1,f2⟩,z0,z1,z2⟩:=O1.facts
  go_wp2_with fail
  refine kk.out _ _ ?_
  exact aAt hp hlt χ ((O1.put χ hlt 1 (.int .i64 (1+(y:Int)))).less (by omega))
 by_cases h3:k=[119,97,105,116]
 ·subst h3
  go_wp2_with fail
  obtain ⟨q2,ς,L8⟩:=O.rd
  refine (Es (n:=5) [1,2,5,3,60] _ L8 (by omega) rfl rfl (by omega) (by omega)).mono ?_
  rintro e w4 ⟨v,rfl,_,h4⟩
  have O1:=O.ED (p':=p+2) hlt h4.out.2 ⟨_,by omega,h4.out.1⟩
  obtain ⟨⟨f0,f1,f2⟩,z0,z1,z2⟩:=O1.facts
  go_wp2_with fail
  refine kk.out _ _ ?_
  exact aAt hp hlt χ ((O1.put χ hlt 1 (.int .i64 v)).less (by omega))
 have q1:(k==[114,105,110,103])=false:=by simpa using h1
 have q2:(k==[104,97,110,103])=false:=by simpa using h2
 have q3:(k==[119,97,105,116])=false:=by simpa using h3
 go_wp2_with fail
 obtain ⟨q,hq,hr⟩:=O.rd
 refine (BX hr (by omega) (by omega)).mono ?_
 rintro e w3 ⟨y,rfl,hy,h3⟩
 have O1:=O.ED (p':=p+2) hlt h3.out.2 ⟨_,by omega,h3.out.1⟩
 obtain ⟨⟨f0,f1,f2⟩,z0,z1,z2⟩:=O1.facts
 go_wp2_with fail
 refine kk.out _ _ ?_
 exact aAt hp hlt χ ((O1.put χ hlt 1 (.int .i64 (1+(y:Int)))).less (by omega))
theorem aAw {p:Nat} (hR:Rd w g0 g p) (hp:p<=1000000):
 d_ p_ 109 #[.pointer (some ⟨g,0,none⟩)] w (CQ g0 g (p+8) w k_):=by
 have hlt:=hR.lt
 have χ:=hR.le
 have R0:=hR.alloc (.cells #[.string ⟨#[]⟩,.int .i64 0,.int .i64 0] 55)
 have k0:=N_ w (.cells #[.string ⟨#[]⟩,.int .i64 0,.int .i64 0] 55) (some g)
 have hsz:∀o,w.heap.size+1=(w.alloc o).heap.size:=fun o=>(B_ ..).symm
 go_enter func109,ntmps109
 go_wp2_with fail
 rename_i K1 hK1 K0 OY
 have kk:=aa hK1
 clear hK1
 refine (aAg (n:=8) [[114,105,110,103],[114,105,110,103],[114,105,110,103],[97,110,115,119,101,114],[97,110,115,119,101,114],[104,97,110,103],[119,97,105,116],[114,101,116,117,114,110]] _ R0 (by omega) (hsz _) rfl (by omega) (by omega)).mono ?_
 rintro e w3 ⟨a,rfl,h3⟩
 have O3:DZ w g0 g (p+1) w3.heap.size 55 #[.string ⟨#[]⟩,.int .i64 0,.int .i64 0] #[.string ⟨a.toArray⟩,.int .i64 0,.int .i64 0] (w3.alloc (.cells #[.string ⟨a.toArray⟩,.int .i64 0,.int .i64 0] 55)):=by
  have z1:=h3.out.2.size
  rw [B_] at z1
  refine ⟨Z' w3 _, ?_,⟨_,C_ _,h3.out.1.alloc _⟩,(k0.trans h3.out.2).trans (N_ w3 _ _),by omega⟩
  exact ((N_ w3 _ none).block _ (by omega) (by simp)).trans ((h3.out.2.block _ (by rw [B_];omega) (by simp;omega)).trans (Z' w _))
 go_wp2_with fail
 refine kk.out _ _ ?_
 exact aCk hp hlt χ O3
theorem aBe {SW:J'} {row:Option Nat} (h:w.grownBy w' (some g)) (k:w'.grownBy SW row) (hr:∀r,row=some r->r=g\/w.heap.size<=r):w.grownBy SW (some g):=
 ⟨k.os.trans h.os,k.tape.trans h.tape,k.output.trans h.output,D_ h.size k.size,fun i hi hne=>(k.block i (E_ hi h.size) (fun e=>by rcases hr i e.symm with h|h;exact hne (by rw [h]);omega)).trans (h.block i hi hne)⟩
def cellsOf (ds:List Dd):List M':=(ds.map Dd.cells).flatten
theorem Zt (ds:List Dd) (d:Dd):cellsOf (ds++[d])=cellsOf ds++d.cells:=by simp [cellsOf]
theorem Ub (w:J') (d:Dd) (t:Q'):∀j u,d.cells[j]?=some u->(w.alloc (.cells d.cells.toArray t)).cell? ((⟨w.heap.size,0,none⟩:z_).add j)=some u:=by
 intro j u hj
 have hb:(w.alloc (.cells d.cells.toArray t)).heap[w.heap.size]?=some (.cells d.cells.toArray t):=Z' _ _
 have hc:∀k,(w.alloc (.cells d.cells.toArray t)).cell? ⟨w.heap.size,k,none⟩=d.cells[k]?:=fun k=>by rw [aB hb];simp
 match j,hj with
 |0,hj=>exact (hc 0).trans hj
 |1,hj=>exact (hc 1).trans hj
 |2,hj=>exact (hc 2).trans hj
 |k+3,hj=>simp [Dd.cells] at hj
theorem aAu (d:Dd):∀u∈d.cells,u.oneCell'=true:=by
 intro u hu
 simp [Dd.cells] at hu
 rcases hu with rfl|rfl|rfl<;>rfl
def aAo (w:J') (g0 g P k:Nat) (v:M') (wr:J'):Prop:=
 ∃(p':Nat) (ds:List Dd),k+ds.length<=16/\p'+20 * k<=P/\Rd wr g0 g p'/\wr.ownsRow w.heap.size 55 3 v ds.length (cellsOf ds)/\w.grownBy wr (some g)
structure C9 (w:J') (g0 g P k x:Nat) (v:M') (ds:List Dd) (d:Dd) (wr:J'):Prop where
 box:wr.heap[x]?=some (.cells d.cells.toArray 55 (0,0))
 len:k+1+ds.length<=16
 rd:∃p',p'+20 * k<=P/\Rd wr g0 g p'
 own:wr.ownsRow w.heap.size 55 3 v ds.length (cellsOf ds)
 grown:w.grownBy wr (some g)
 lx:w.heap.size<=x
 ne:v.ownBlock≠some x
def aBj (g0 g p:Nat) (w:J') (e:Ending) (w':J'):Prop:=
 ∃(v:M') (ds:List Dd) (p':Nat),e=.returned v/\ds.length<=16/\w'.ownsRow w.heap.size 55 3 v ds.length (cellsOf ds)/\p'<=p/\Rd w' g0 g p'/\w.grownBy w' (some g)
variable {wr:J'} {k:Nat} {ds:List Dd} {d:Dd}
theorem C9.facts {P:Nat} {v:M'} (h:C9 w g0 g P k x v ds d wr):(wr.cell? ⟨x,0,none⟩=some (.string ⟨d.act.toArray⟩)/\wr.cell? ⟨x,1,none⟩=some (.int .i64 d.line)/\wr.cell? ⟨x,2,none⟩=some (.int .i64 d.word))/\(wr.frozen? ⟨x,0,none⟩=false/\wr.frozen? ⟨x,1,none⟩=false/\wr.frozen? ⟨x,2,none⟩=false):=
 ⟨⟨by rw [aB h.box];rfl,by rw [aB h.box];rfl,by rw [aB h.box];rfl⟩,bX h.box,bX h.box,bX h.box⟩
theorem C9.ED {P:Nat} {v:M'} (h:C9 w g0 g P k x v ds d wr) (hg:g<w.heap.size) (hr:wr.grownBy w' (some g)) (hp:∃q,q+20 * k<=P/\Rd w' g0 g q):C9 w g0 g P k x v ds d w':=
 have h1:=h.lx
 ⟨(hr.block x (cI h.box) (by simp;omega)).trans h.box,h.len,hp,h.own.kept hr (.inr fun e=>by have:=(h.own.lt g e).1;omega),h.grown.trans hr,h.lx,h.ne⟩
theorem C9.alloc {P:Nat} {v:M'} (h:C9 w g0 g P k x v ds d wr) (o:Obj):C9 w g0 g P k x v ds d (wr.alloc o):=
 have ⟨q,hq,hr⟩:=h.rd
 ⟨((N_ wr o none).block x (cI h.box) (by simp)).trans h.box,h.len,⟨q,hq,hr.alloc o⟩,h.own.alloc o,h.grown.trans (N_ _ _ _),h.lx,h.ne⟩
theorem C9.more {P P':Nat} {v:M'} (h:C9 w g0 g P k x v ds d wr) (hP:P<=P'):C9 w g0 g P' k x v ds d wr:=
 have ⟨q,hq,hr⟩:=h.rd
 ⟨h.box,h.len,⟨q,by omega,hr⟩,h.own,h.grown,h.lx,h.ne⟩
theorem C9.put {P:Nat} {v:M'} (h:C9 w g0 g P k x v ds d wr) (χ:g0<=g) (hg:g<w.heap.size) (e:Dd):C9 w g0 g P k x v ds e (((wr.setCell ⟨x,0,none⟩ (.string ⟨e.act.toArray⟩)).setCell ⟨x,1,none⟩ (.int .i64 e.line)).setCell ⟨x,2,none⟩ (.int .i64 e.word)):=by
 have h1:=h.lx
 have key:∀{W:J'} (j:Nat) (u:M'),((∃q,q+20 * k<=P/\Rd W g0 g q)/\W.ownsRow w.heap.size 55 3 v ds.length (cellsOf ds)/\w.grownBy W (some g))->(∃q,q+20 * k<=P/\Rd (W.setCell ⟨x,j,none⟩ u) g0 g q)/\(W.setCell ⟨x,j,none⟩ u).ownsRow w.heap.size 55 3 v ds.length (cellsOf ds)/\w.grownBy (W.setCell ⟨x,j,none⟩ u) (some g):=by
  rintro W j u ⟨⟨q,hq,hr⟩,ho,hb⟩
  exact ⟨⟨q,hq,hr.kept (xp W x j u) (fun r e=>by injection e with e;subst e;exact ⟨by omega,by omega⟩) hr.lt⟩,ho.kept (xp W x j u) (.inr h.ne),CC hb h1 u⟩
 obtain ⟨k1,k2,k3⟩:=key 2 (.int .i64 e.word) (key 1 (.int .i64 e.line) (key 0 (.string ⟨e.act.toArray⟩) ⟨h.rd,h.own,h.grown⟩))
 exact ⟨n8 (n8 (n8 h.box _) _) _,h.len,k1,k2,k3,h1,h.ne⟩
theorem aAj {p:Nat} (hR:Rd w g0 g p) (hp:p<=100000):
 d_ p_ 78 #[.pointer (some ⟨g,0,none⟩)] w (aBj g0 g (p+342) w):=by
 obtain ⟨i0,hi,tX,rm,uF⟩:=info_parts Qm
 have hlt:=hR.lt
 have χ:=hR.le
 go_enter func78,ntmps78
 go_wp2_with fail
 refine (BX (hR.alloc _) (by omega) (by omega)).mono ?_
 rintro e w1 ⟨k0,rfl,hx,h1⟩
 have vF:k0<=15:=by omega
 have z1:w.heap.size+1<=w1.heap.size:=by have:=h1.out.2.size;rw [B_] at this;exact this
 have hI:f_ (aAo w g0 g (p+342) k0 (.slice (some ⟨w.heap.size,0,none⟩) 0 0) w1):=
  ⟨p+1,[],by simp;omega,by omega,h1.out.1,(Vq w 55 3).kept h1.out.2 (.inr (by simp [Value.ownBlock];omega)),(N_ w _ _).trans h1.out.2⟩
 clear h1 hx
 go_wp2
 go_loopw [3,4] (fun v i wr=>∃k:Nat,i=.int .i64 k/\f_ (aAo w g0 g (p+342) k v wr)) (fun _ i _=>(intOf i).toNat)
 case atStart=>exact ⟨k0,rfl,hI⟩
 case round=>
  obtain ⟨k,rfl,hO⟩:=hrel
  by_cases h0:0<k
  ·have ND:(0:Int)<(k:Int):=by omega
   obtain ⟨wo,rfl⟩:∃y,y=wr:=⟨wr,rfl⟩
   obtain ⟨v,rfl⟩:∃y,y=u3:=⟨u3,rfl⟩
   obtain ⟨p',ds,q1,q2,q4,q5,q6⟩:=hO.out
   go_wp2_with fail
   refine (aAw q4 (by omega)).mono ?_
   rintro e w2 ⟨_,p2,rfl,⟨ka,la,wa,rfl⟩,hp2,DD,Nu⟩
   obtain ⟨d,hd⟩:∃d:Dd,d=⟨ka,la,wa⟩:=⟨_,rfl⟩
   have e1:ka=d.act:=by rw [hd]
   have e2:la=d.line:=by rw [hd]
   have e3:wa=d.word:=by rw [hd]
   subst e1 e2 e3
   have Zg:=q5.lt
   have s2:=Nu.size
   have s6:=q6.size
   have D0:f_ (C9 w g0 g (p+340) (k - 1) w2.heap.size v ds d (w2.alloc (.cells d.cells.toArray 55))):=
    ⟨Z' _ _,by omega,⟨p2,by omega,DD.alloc _⟩,(q5.kept Nu (.inr fun e=>by have:=(q5.lt g e).1;omega)).alloc _,(q6.trans Nu).trans (N_ _ _ _),by omega,fun e=>by have:=(q5.lt _ e).2;omega⟩
   clear hd DD Nu q5 q6 q4 hO hI Zg
   go_wp2_with fail
   rename_i K4 hK4 K3 hK3 K2 Ru K1 hK1 K0 OY
   have L:∀(X:Nat) (π ξ ν κ θ Z9 Z4 ZM ZJ ZI x21 Yf uP tt ti E' y' x28 x29 x30:M') (d:Dd) (w':J'),C9 w g0 g (p+342) (k - 1) X v ds d w'->K2 ⟨#[.pointer (some ⟨g,0,none⟩),I',.slice none 0 0,v,.int .i64 k,.pointer (some ⟨X,0,none⟩),.slice (some ⟨w.heap.size,0,none⟩) 0 0,.pointer (some ⟨g,0,none⟩),.int .i64 k0,.int .i64 k,.bool true,π,ξ,ν,κ,θ,Z9,Z4,ZM,ZJ,ZI,x21,Yf,uP,tt,ti,E',y',x28,x29,x30,I'],[]⟩ w':=by
    intro X π ξ ν κ θ Z9 Z4 ZM ZJ ZI x21 Yf uP tt ti E' y' x28 x29 x30 d w' D
    clear D0
    obtain ⟨⟨f0,f1,f2⟩,y0,y1,y2⟩:=D.facts
    have iw:=D.own.alloc (.cells d.cells.toArray 55)
    have hl:=D.len
    have hs3:=D.grown.size
    apply Ru
    go_wp2_with (at_builtin;refine wpList_append_own_at _ rfl (.tmp 27) (.tmp 29) 30 rfl w.heap.size 55 i0 (.agg #[.string ⟨#[]⟩,.int .i64 0,.int .i64 0]) 3 32 Tryz.underlying30 hi tX rm uF rfl (by decide) _ ds.length _ rfl iw ⟨w'.heap.size,0,none⟩ 1 1 d.cells rfl rfl ?c1 ?c2 ?c3 ?c4 ?c5 ?_)
    case c1=>exact Ub _ _ _
    case c2=>exact aAu d
    case c3=>unfold maxLen;omega
    case c4=>omega
    case c5=>simp;omega
    intro v' w4 aBr aBy _ hob
    have aBx:=iw.lt
    have hI4:f_ (aAo w g0 g (p+342) (k - 1) v' w4):=by
     obtain ⟨p3,hp3,hR3⟩:=D.rd
     have hs3:=D.grown.size
     refine ⟨p3,ds++[d],by simp;omega,by omega,(hR3.alloc _).kept aBy (fun r e=> ?_) (by have:=hR3.lt;simp;omega),by rw [List.length_append,Zt];exact aBr,aBe (D.grown.trans (N_ w' _ _)) aBy fun r e=>.inr (by have:=(aBx r e).1;omega)⟩
     ·have:=(aBx r e).1;omega
    clear aBr aBy hob iw aBx
    go_wp2
    go_roundw
    case rel=>exact ⟨k - 1,by go_num,hI4⟩
    case measure=>simp [intOf];omega
   have kk:=aa L
   clear L Ru
   refine (yj _ d.raw 2 (by omega)).mono ?_
   rintro e w3 ⟨rfl,rfl⟩
   have D1:C9 w g0 g (p+340) (k - 1) w2.heap.size v ds d ((w2.alloc (.cells #[.string ⟨d.act.toArray⟩,.int .i64 d.line,.int .i64 d.word] 55)).alloc (.cells #[.string d.raw.kind,.int .i64 d.raw.who,.int .i64 d.raw.word] 55)):=D0.out.alloc _
   clear D0
   revert D1
   generalize ((w2.alloc (.cells #[.string ⟨d.act.toArray⟩,.int .i64 d.line,.int .i64 d.word] 55)).alloc (.cells #[.string d.raw.kind,.int .i64 d.raw.who,.int .i64 d.raw.word] 55))=w3
   generalize w2.heap.size=X
   generalize bu d.raw 2=b
   intro D1
   obtain ⟨⟨f0,f1,f2⟩,y0,y1,y2⟩:=D1.facts
   cases b
   ·go_wp2_with fail
    obtain ⟨q,hq,hr⟩:=D1.rd
    refine (BX hr (by omega) (by omega)).mono ?_
    rintro e w4 ⟨y,rfl,hy,h4⟩
    have D2:C9 w g0 g (p+341) (k - 1) X v ds d w4:=(D1.more (by omega)).ED hlt h4.out.2 ⟨q+1,by omega,h4.out.1⟩
    obtain ⟨⟨e0,e1,e2⟩,z0,z1,z2⟩:=D2.facts
    by_cases Wi:(0:Int)<(y:Int)
    ·go_wp2_with fail
     obtain ⟨q2,ς,L8⟩:=D2.rd
     refine (BX L8 (by omega) (by omega)).mono ?_
     rintro e w5 ⟨y2,rfl,Qo,h5⟩
     have D3:C9 w g0 g (p+342) (k - 1) X v ds d w5:=(D2.more (by omega)).ED hlt h5.out.2 ⟨q2+1,by omega,h5.out.1⟩
     obtain ⟨⟨e0,e1,e2⟩,z0,z1,z2⟩:=D3.facts
     go_wp2_with fail
     refine kk.out _ _ _ _ _ _ _ _ _ _ _ _ _ _ _ _ _ _ _ _ _ ⟨[114,105,110,103],1+(y2:Int),0⟩ _ ?_
     exact D3.put χ hlt ⟨[114,105,110,103],1+(y2:Int),0⟩
    ·go_wp2_with fail
     exact kk.out _ _ _ _ _ _ _ _ _ _ _ _ _ _ _ _ _ _ _ _ _ _ _ (D2.more (by omega))
   ·go_wp2_with fail
    exact kk.out _ _ _ _ _ _ _ _ _ _ _ _ _ _ _ _ _ _ _ _ _ _ _ (D1.more (by omega))
  ·obtain rfl:k=0:=by omega
   obtain ⟨p',ds,q1,q2,q4,q5,q6⟩:=hO.out
   go_wp2
   go_ret
   exact ⟨_,ds,p',rfl,by omega,q5,by omega,q4,q6⟩
def JJ (g0 g p:Nat) (w:J') (e:Ending) (w':J'):Prop:=
 ∃(a b c:Int) (ta:Option z_) (tc:Nat) (ds:List Dd) (p':Nat),e=.returned (.tuple #[.agg #[.int .i64 a,.int .i64 b,.int .i64 c],.slice ta ds.length tc])/\ds.length<=16/\w'.ownsRow w.heap.size 55 3 (.slice ta ds.length tc) ds.length (cellsOf ds)/\p'<=p/\Rd w' g0 g p'/\w.grownBy w' (some g)
variable {xs:List M'}
theorem IA {v:M'} {n:Nat} (h:w.ownsRow B 55 3 v n xs) (hx:x<B) (u:M'):(w.setCell ⟨x,j,none⟩ u).ownsRow B 55 3 v n xs:=
 h.kept (xp w x j u) (.inr fun e=>by have:=(h.lt x e).1;omega)
variable {x3:M'} {ta:Option z_} {tc:Nat}
theorem aAn {p:Nat} (hp:p<=1000000) (hlt:g<w.heap.size) (χ:g0<=g) {c:Int} (Gj:ds.length<=16) (O:DZ w g0 g (p+400) X 28 #[.int .i64 0,.int .i64 0,.int .i64 0] #[.int .i64 a,.int .i64 b,.int .i64 c] w') (hX:X<B) (hB:w.heap.size<=B) (ho:w'.ownsRow B 55 3 (.slice ta ds.length tc) ds.length (cellsOf ds)):(NA 4 (Pl f54)).wp p_ (bodyPost p_ f54 (JJ g0 g (p+400) w)) ⟨#[.pointer (some ⟨g,0,none⟩),x1,.pointer (some ⟨w.heap.size,0,none⟩),x3,.pointer (some ⟨X,0,none⟩),.slice ta ds.length tc,x6,x7,x8,x9,x10,π,ξ,ν,κ,θ,Z9,Z4,ZM,ZJ,ZI],[]⟩ w':=by
 obtain ⟨⟨f0,f1,f2⟩,z0,z1,z2⟩:=O.facts
 obtain ⟨⟨r0,r1,r2⟩,y0,y1,y2⟩:=O.KT
 have hoh:=aa ho
 clear ho
 generalize hQ:bodyPost p_ f54 (JJ g0 g (p+400) w)=Q
 simp only [NA,Pl,f54]
 subst hQ
 have hlw:=O.lt
 go_wp2_with fail
 obtain ⟨b1,⟨q,hq,hr⟩,b2⟩:=DZ.cell χ hlt (DZ.cell χ hlt (DZ.cell χ hlt ⟨O.res,O.rd,O.grown⟩ 0 (.int .i64 a)) 1 (.int .i64 b)) 2 (.int .i64 c)
 obtain ⟨s0,s1,s2⟩:_/\_/\_:=⟨aB (o:=0) b1,aB (o:=1) b1,aB (o:=2) b1⟩
 refine bodyPost_ret (v:=.tuple #[.agg #[.int .i64 a,.int .i64 b,.int .i64 c],.slice ta ds.length tc]) (by simp [results,Tryz.results54,go_sem,s0,s1,s2]) rfl ⟨_,_,_,_,_,ds,q,rfl,Gj,gG (IA (IA (IA hoh.out (by omega) _) (by omega) _) (by omega) _) hB,by omega,hr,b2⟩
theorem aCb {p:Nat} (hp:p<=1000000) (hlt:g<w.heap.size) (χ:g0<=g) {c:Int} (Gj:ds.length<=16) (O:DZ w g0 g (p+380) X 28 #[.int .i64 0,.int .i64 0,.int .i64 0] #[.int .i64 a,.int .i64 b,.int .i64 c] w') (hX:X<B) (hB:w.heap.size<=B) (ho:w'.ownsRow B 55 3 (.slice ta ds.length tc) ds.length (cellsOf ds)):(NA 3 (Pl f54)).wp p_ (bodyPost p_ f54 (JJ g0 g (p+400) w)) ⟨#[.pointer (some ⟨g,0,none⟩),x1,.pointer (some ⟨w.heap.size,0,none⟩),x3,.pointer (some ⟨X,0,none⟩),.slice ta ds.length tc,x6,x7,x8,x9,x10,π,ξ,ν,κ,θ,Z9,Z4,ZM,ZJ,ZI],[]⟩ w':=by
 obtain ⟨⟨f0,f1,f2⟩,z0,z1,z2⟩:=O.facts
 obtain ⟨⟨r0,r1,r2⟩,y0,y1,y2⟩:=O.KT
 have hoh:=aa ho
 clear ho
 generalize hQ:bodyPost p_ f54 (JJ g0 g (p+400) w)=Q
 simp only [NA,Pl,f54]
 subst hQ
 refine wp_seq_k fun K hK=> ?_
 have kk:=aa hK
 clear hK
 by_cases hb:b=1
 ·subst hb
  go_wp2_with fail
  obtain ⟨q,hq,hr⟩:=O.rd
  refine (BX hr (by omega) (by omega)).mono ?_
  rintro e w3 ⟨y,rfl,hy,h3⟩
  have O1:=O.ED (p':=p+381) hlt h3.out.2 ⟨_,by omega,h3.out.1⟩
  have Gd:=aa (hoh.out.kept h3.out.2 (.inr fun e=>by have:=(hoh.out.lt g e).1;omega))
  obtain ⟨⟨f0,f1,f2⟩,z0,z1,z2⟩:=O1.facts
  by_cases Wi:(0:Int)<(y:Int)
  ·go_wp2_with fail
   refine kk.out _ _ ?_
   exact aAn hp hlt χ Gj ((O1.put χ hlt 1 (.int .i64 2)).less (by omega)) hX hB (IA Gd.out hX _)
  ·go_wp2_with fail
   refine kk.out _ _ ?_
   exact aAn hp hlt χ Gj (O1.less (by omega)) hX hB Gd.out
 ·have A8:(b==1)=false:=by simpa using hb
  go_wp2_with fail
  refine kk.out _ _ ?_
  exact aAn hp hlt χ Gj (O.less (by omega)) hX hB hoh.out
theorem T8 {p:Nat} (hR:Rd w g0 g p) (hp:p<=90000):
 d_ p_ 54 #[.pointer (some ⟨g,0,none⟩)] w (JJ g0 g (p+400) w):=by
 have hlt:=hR.lt
 have χ:=hR.le
 have R0:=hR.alloc (.cells #[.int .i64 0,.int .i64 0,.int .i64 0] 28)
 have k0:=N_ w (.cells #[.int .i64 0,.int .i64 0,.int .i64 0] 28) (some g)
 go_enter func54,ntmps54
 go_wp2_with fail
 rename_i K1 hK1 K0 OY
 have kk:=aa hK1
 clear hK1
 refine (Yx R0 (by omega)).mono ?_
 rintro e w1 ⟨_,p1,rfl,⟨a,b,c,rfl⟩,Iu,EU,BI⟩
 have O1:DZ w g0 g (p+6) w1.heap.size 28 #[.int .i64 0,.int .i64 0,.int .i64 0] #[.int .i64 a,.int .i64 b,.int .i64 c] (w1.alloc (.cells #[.int .i64 a,.int .i64 b,.int .i64 c] 28)):=by
  have z1:=BI.size
  rw [B_] at z1
  refine ⟨Z' w1 _, ?_,⟨_,by omega,EU.alloc _⟩,(k0.trans BI).trans (N_ w1 _ _),by omega⟩
  exact ((N_ w1 _ none).block _ (by omega) (by simp)).trans ((BI.block _ (by rw [B_];omega) (by simp;omega)).trans (Z' w _))
 have hXs:w1.heap.size<(w1.alloc (.cells #[.int .i64 a,.int .i64 b,.int .i64 c] 28)).heap.size:=by rw [B_];omega
 have hWs:w.heap.size<=(w1.alloc (.cells #[.int .i64 a,.int .i64 b,.int .i64 c] 28)).heap.size:=O1.grown.size
 obtain ⟨W,hW⟩:∃W,w1.alloc (.cells #[.int .i64 a,.int .i64 b,.int .i64 c] 28)=W:=⟨_,rfl⟩
 rw [hW] at O1 hXs hWs
 have ij:=aa hW
 clear hW EU BI R0 k0
 obtain ⟨q0,Y1,L0⟩:=O1.rd
 have c78:=aa (aAj L0 (by omega))
 go_wp2_with fail
 refine kk.out _ _ ?_
 refine wp_seq_k fun K hK=> ?_
 have kk2:=aa hK
 clear hK
 go_wp2_with fail
 rw [ij.out]
 refine c78.out.mono ?_
 rintro e w2 ⟨v,ds,p2,rfl,Gj,iw,hp2,DD,Nu⟩
 obtain ⟨ta,tc,hv⟩:=aE iw
 subst hv
 have O2:=O1.ED (p':=p+380) hlt Nu ⟨_,by omega,DD⟩
 go_wp2_with fail
 refine kk2.out _ _ ?_
 exact aCb (by omega) hlt χ Gj O2 hXs hWs iw
def aCe (w:J') (e:Ending) (w':J'):Prop:=
 ∃(a b c:Int) (ta:Option z_) (tc:Nat) (ds:List Dd),e=.returned (.tuple #[.agg #[.int .i64 a,.int .i64 b,.int .i64 c],.slice ta ds.length tc])/\ds.length<=16/\w'.ownsRow w.heap.size 55 3 (.slice ta ds.length tc) ds.length (cellsOf ds)/\g_ w.heap.size w w'
theorem aBf {a:Option z_} {c:Nat} {bs:List Int} (hA:Bg w a bs) (hu:∀b∈bs,PU b) (lJ:bs.length<=c):
 d_ p_ 31 #[.slice a bs.length c] w (aCe w):=by
 have hop:=aa (OW a c bs (w.alloc (.cells #[.int .i64 0,.int .i64 0,.int .i64 0] 28)) (hA.below ((h_ _ w).alloc (C_ _) _) (C_ _)) hu lJ)
 rw [B_] at hop
 go_enter func31,ntmps31
 go_wp2_with fail
 refine hop.out.mono ?_
 rintro e w1 ⟨rfl,EU,eo⟩
 have z1:w.heap.size+2<=w1.heap.size:=by have:=EU.lt;omega
 have b1:w1.heap[w.heap.size]?=some (.cells #[.int .i64 0,.int .i64 0,.int .i64 0] 28 (0,0)):=(eo.block _ (by omega)).trans (Z' w _)
 have B1:g_ w.heap.size w w1:=((h_ _ w).alloc (C_ _) _).trans (eo.mono (by omega))
 clear hop eo
 go_wp2_with fail
 refine (T8 EU (by omega)).mono ?_
 rintro e w2 ⟨x,y,z,ta,tc,ds,p2,rfl,Gj,iw,hp2,DD,Nu⟩
 have b2:w2.heap[w.heap.size]?=some (.cells #[.int .i64 0,.int .i64 0,.int .i64 0] 28 (0,0)):=(Nu.block _ (by omega) (by simp)).trans b1
 have B2:g_ w.heap.size w w2:=B1.grown Nu (by omega) (fun k e=>by injection e with e;omega)
 obtain ⟨e0,e1,e2⟩:w2.cell? ⟨w.heap.size,0,none⟩=some (.int .i64 0)/\w2.cell? ⟨w.heap.size,1,none⟩=some (.int .i64 0)/\w2.cell? ⟨w.heap.size,2,none⟩=some (.int .i64 0):=⟨aB b2,aB b2,aB b2⟩
 have f0:w2.frozen? ⟨w.heap.size,0,none⟩=false:=bX b2
 have f1:w2.frozen? ⟨w.heap.size,1,none⟩=false:=bX b2
 have f2:w2.frozen? ⟨w.heap.size,2,none⟩=false:=bX b2
 have iw:=aa iw
 have b2h:=aa b2
 clear EU DD Nu b1 B1 b2
 go_wp2_with fail
 have b3:=n8 (n8 (n8 b2h.out (o:=0) (.int .i64 x)) (o:=1) (.int .i64 y)) (o:=2) (.int .i64 z)
 obtain ⟨s0,s1,s2⟩:_/\_/\_:=⟨aB (o:=0) b3,aB (o:=1) b3,aB (o:=2) b3⟩
 refine bodyPost_ret (v:=.tuple #[.agg #[.int .i64 x,.int .i64 y,.int .i64 z],.slice ta ds.length tc]) (by simp [results,Tryz.results31,go_sem,s0,s1,s2]) rfl ⟨x,y,z,ta,tc,ds,rfl,Gj,gG (IA (IA (IA iw.out (by omega) _) (by omega) _) (by omega) _) (by omega), ?_⟩
 exact ((B2.setCell (p:=⟨w.heap.size,0,none⟩) (C_ _) _).setCell (p:=⟨w.heap.size,1,none⟩) (C_ _) _).setCell (p:=⟨w.heap.size,2,none⟩) (C_ _) _
end
section
open Go Go.Conc Go.Conc.Lib Go.ConcR Go.ConcR.Gen Go.aC Go.Proofs
open Go.RowKit hiding Hid Below
open Go.ConcN (upd upd_ne upd_same)
variable {w w':J'} {xs:List M'} {B:Nat}
theorem gL.VG {v:M'} {n:Nat} (h:gL w v n xs) (hw:g_ B w w') (hB:w.heap.size<=B):gL w' v n xs:=by
 refine ⟨h.1,fun hl=> ?_⟩
 obtain ⟨g,cap,hv,hc,hcell⟩:=h.2 hl
 refine ⟨g,cap,hv,hc,fun j hj=>(hw.cell ?_).trans (hcell j hj)⟩
 have h0:=hcell j hj
 rw [G_ hj] at h0
 obtain ⟨_,_,_,hb⟩:=zH h0
 exact E_ (fw hb) hB
def ZV (r:Rec):M':=.agg #[.int .i64 r.call,.int .i64 r.line,.int .i64 r.op,.int .i64 r.jy,.int .i64 r.heard,.int .i64 r.wI,.string ⟨r.fin.toArray⟩]
theorem RP {a:Option z_} {c:Nat} {rs:List Rec} (h:gL w (.slice a rs.length c) rs.length (cj rs)) {i:Nat} (hi:i<rs.length):∃g,a=some ⟨g,0,none⟩/\rs.length<=c/\(w.cell? ⟨g,i * 7,none⟩=some (.int .i64 (rs[i]).call)/\w.cell? ⟨g,i * 7+1,none⟩=some (.int .i64 (rs[i]).line)/\w.cell? ⟨g,i * 7+2,none⟩=some (.int .i64 (rs[i]).op)/\w.cell? ⟨g,i * 7+3,none⟩=some (.int .i64 (rs[i]).jy)/\w.cell? ⟨g,i * 7+4,none⟩=some (.int .i64 (rs[i]).heard)/\w.cell? ⟨g,i * 7+5,none⟩=some (.int .i64 (rs[i]).wI)/\w.cell? ⟨g,i * 7+6,none⟩=some (.string ⟨(rs[i]).fin.toArray⟩)):=by
 obtain ⟨g,cap,hv,hc,hx⟩:=nH h hi
 injection hv with h1 _ h3
 subst h3
 exact ⟨g,h1,hc,hx⟩
def se (n:Nat):List Rec:=(List.range n).map fun (i:Nat)=>⟨1+7 * (i:Int),2+7 * (i:Int),3+7 * (i:Int),4+7 * (i:Int),5+7 * (i:Int),6+7 * (i:Int),Ov (7+7 * i)⟩
end
section
open Go Go.Conc Go.Conc.Lib Go.ConcR.Gen Go.aC Go.Proofs
open Go.RowKit hiding Hid Below
structure Et (w0:J') (g0 g p x y:Nat) (ty:Q') (zs cs:Array M') (w:J'):Prop where
 box:w.heap[x]?=some (.cells cs ty (0,0))
 res:w.heap[y]?=some (.cells zs ty (0,0))
 rd:∃p',p'<=p/\Rd w g0 g p'
 grown:w0.grownBy w (some g)
 lx:w0.heap.size<=x
 ly:w0.heap.size<=y
 ne:x≠y
variable {w0 w w':J'} {g0 g p p' x y ty:Nat} {zs cs:Array M'}
theorem Et.ED (h:Et w0 g0 g p x y ty zs cs w) (hg:g<w0.heap.size) (hr:w.grownBy w' (some g)) (hp:∃q,q<=p'/\Rd w' g0 g q):Et w0 g0 g p' x y ty zs cs w':=
 have h1:=h.lx
 have h2:=h.ly
 ⟨(hr.block x (fw h.box) (by simp;omega)).trans h.box,(hr.block _ (fw h.res) (by simp;omega)).trans h.res,hp,h.grown.trans hr,h.lx,h.ly,h.ne⟩
theorem Et.aAy (h:∃q,q<=p/\Rd w g0 g q) (hx:w0.heap.size<=x) (χ:g0<=g) (hg:g<w0.heap.size) (j:Nat) (v:M'):∃q,q<=p/\Rd (w.setCell ⟨x,j,none⟩ v) g0 g q:=by
 obtain ⟨q,hq,hr⟩:=h
 exact ⟨q,hq,hr.kept (xp w x j v) (fun r e=>by injection e with e;subst e;exact ⟨by omega,by omega⟩) hr.lt⟩
theorem Et.put (h:Et w0 g0 g p x y ty zs cs w) (χ:g0<=g) (hg:g<w0.heap.size) (j:Nat) (v:M'):Et w0 g0 g p x y ty zs (cs.setIfInBounds j v) (w.setCell ⟨x,j,none⟩ v):=by
 refine ⟨n8 h.box v, ?_,aAy h.rd h.lx χ hg j v,CC h.grown h.lx v,h.lx,h.ly,h.ne⟩
 rw [RowKit.Below.heap_setCell _ _ _ _ (by simpa using h.ne.symm)];exact h.res
theorem Et.aAf (h:Et w0 g0 g p x y ty zs cs w) (χ:g0<=g) (hg:g<w0.heap.size) (j:Nat) (v:M'):Et w0 g0 g p x y ty (zs.setIfInBounds j v) cs (w.setCell ⟨y,j,none⟩ v):=by
 refine ⟨?_,n8 h.res v,aAy h.rd h.ly χ hg j v,CC h.grown h.ly v,h.lx,h.ly,h.ne⟩
 rw [RowKit.Below.heap_setCell _ _ _ _ (by simpa using h.ne)];exact h.box
theorem Et.less (h:Et w0 g0 g p x y ty zs cs w) (hp:p<=p'):Et w0 g0 g p' x y ty zs cs w:=
 have ⟨q,h1,h2⟩:=h.rd
 ⟨h.box,h.res,⟨q,D_ h1 hp,h2⟩,h.grown,h.lx,h.ly,h.ne⟩
theorem AB {a0 a1 a2 a3 a4 a5 a6:M'} (h:w.heap[x]?=some (.cells #[a0,a1,a2,a3,a4,a5,a6] ty (0,0))):(w.cell? ⟨x,0,none⟩=some a0/\w.cell? ⟨x,1,none⟩=some a1/\w.cell? ⟨x,2,none⟩=some a2/\w.cell? ⟨x,3,none⟩=some a3/\w.cell? ⟨x,4,none⟩=some a4/\w.cell? ⟨x,5,none⟩=some a5/\w.cell? ⟨x,6,none⟩=some a6)/\(w.frozen? ⟨x,0,none⟩=false/\w.frozen? ⟨x,1,none⟩=false/\w.frozen? ⟨x,2,none⟩=false/\w.frozen? ⟨x,3,none⟩=false/\w.frozen? ⟨x,4,none⟩=false/\w.frozen? ⟨x,5,none⟩=false/\w.frozen? ⟨x,6,none⟩=false):=
 ⟨⟨aB h,aB h,aB h,aB h,aB h,aB h,aB h⟩,bX h,bX h,bX h,bX h,bX h,bX h,bX h⟩
def Wu (v:M'):Prop:=∃r:Rec,v=ZV r
variable {X Y:Nat} {x1 x2 x5 x6 x7 x8 x9 x10 π ξ ν κ θ Z9 Z4 ZM ZJ ZI x21 Yf uP tt ti E' y' x28 x29 x30 x31 x32 x33 x34 x35 x36 x37 x38 x39 x40 x41 x42 x43 x44 x45 x46 q_:M'} {l f h:Int}
theorem Uu {p:Nat} (hp:p<=1000000) (hlt:g<w.heap.size) (χ:g0<=g) {c o t:Int} {k:List UInt8} (O:Et w g0 g (p+4) X Y 44 #[.int .i64 0,.int .i64 0,.int .i64 0,.int .i64 0,.int .i64 0,.int .i64 0,.string ⟨#[]⟩] #[.int .i64 c,.int .i64 l,.int .i64 o,.int .i64 f,.int .i64 h,.int .i64 t,.string ⟨k.toArray⟩] w'):(NA 2 (Pl f76)).wp p_ (bodyPost p_ f76 (CQ g0 g (p+4) w Wu)) ⟨#[.pointer (some ⟨g,0,none⟩),x1,x2,.pointer (some ⟨X,0,none⟩),.pointer (some ⟨Y,0,none⟩),x5,x6,x7,x8,x9,x10,π,ξ,ν,κ,θ,Z9,Z4,ZM,ZJ,ZI,x21,Yf,uP,tt,ti,E',y',x28,x29,x30,x31,x32,x33,x34,x35,x36,x37,x38,x39,x40,x41,x42,x43,x44,x45,x46,q_],[]⟩ w':=by
 obtain ⟨⟨f0,f1,f2,f3,f4,f5,f6⟩,z0,z1,z2,z3,z4,z5,z6⟩:=AB O.box
 obtain ⟨⟨r0,r1,r2,r3,r4,r5,r6⟩,y0,y1,y2,y3,y4,y5,y6⟩:=AB O.res
 generalize hQ:bodyPost p_ f76 (CQ g0 g (p+4) w Wu)=Q
 simp only [NA,Pl,f76]
 subst hQ
 have hOh:=aa O
 clear O
 go_wp2_with fail
 have O:=hOh.out
 have O7:=(((((((O.aAf χ hlt 0 (.int .i64 c)).aAf χ hlt 1 (.int .i64 l)).aAf χ hlt 2 (.int .i64 o)).aAf χ hlt 3 (.int .i64 f)).aAf χ hlt 4 (.int .i64 h)).aAf χ hlt 5 (.int .i64 t)).aAf χ hlt 6 (.string ⟨k.toArray⟩))
 obtain ⟨q,hq,hr⟩:=O7.rd
 exact bodyPost_ret (Gv rfl rfl O7.res Tryz.underlying44 rfl (by kernel_rfl)) rfl ⟨_,q,rfl,⟨⟨c,l,o,f,h,t,k⟩,rfl⟩,by omega,hr,O7.grown⟩
theorem aCl {p:Nat} (hp:p<=1000000) (hlt:g<w.heap.size) (χ:g0<=g) {c o t:Int} {k:List UInt8} (O:Et w g0 g (p+1) X Y 44 #[.int .i64 0,.int .i64 0,.int .i64 0,.int .i64 0,.int .i64 0,.int .i64 0,.string ⟨#[]⟩] #[.int .i64 c,.int .i64 l,.int .i64 o,.int .i64 f,.int .i64 h,.int .i64 t,.string ⟨k.toArray⟩] w'):(NA 1 (Pl f76)).wp p_ (bodyPost p_ f76 (CQ g0 g (p+4) w Wu)) ⟨#[.pointer (some ⟨g,0,none⟩),x1,x2,.pointer (some ⟨X,0,none⟩),.pointer (some ⟨Y,0,none⟩),x5,x6,x7,x8,x9,x10,π,ξ,ν,κ,θ,Z9,Z4,ZM,ZJ,ZI,x21,Yf,uP,tt,ti,E',y',x28,x29,x30,x31,x32,x33,x34,x35,x36,x37,x38,x39,x40,x41,x42,x43,x44,x45,x46,q_],[]⟩ w':=by
 obtain ⟨⟨f0,f1,f2,f3,f4,f5,f6⟩,z0,z1,z2,z3,z4,z5,z6⟩:=AB O.box
 obtain ⟨⟨r0,r1,r2,r3,r4,r5,r6⟩,y0,y1,y2,y3,y4,y5,y6⟩:=AB O.res
 generalize hQ:bodyPost p_ f76 (CQ g0 g (p+4) w Wu)=Q
 simp only [NA,Pl,f76]
 subst hQ
 refine wp_seq_k fun K hK=> ?_
 have kk:=aa hK
 clear hK
 go_wp2_with fail
 obtain ⟨q,hq,hr⟩:=O.rd
 refine (BX hr (by omega) (by omega)).mono ?_
 rintro e w3 ⟨y,rfl,hy,h3⟩
 have O1:=O.ED (p':=p+2) hlt h3.out.2 ⟨_,by omega,h3.out.1⟩
 obtain ⟨⟨f0,f1,f2,f3,f4,f5,f6⟩,z0,z1,z2,z3,z4,z5,z6⟩:=AB O1.box
 have c0:(y:Int)=0\/(y:Int)=1\/(y:Int)=2\/(y:Int)=3\/(y:Int)=4\/(y:Int)=5\/(5<(y:Int)):=by omega
 rcases c0 with c|c|c|c|c|c|c
 ·go_wp2_with fail
  obtain ⟨q2,ς,L8⟩:=O1.rd
  refine (Es (n:=3) [0,100, -1] _ L8 (by omega) rfl rfl (by omega) (by omega)).mono ?_
  rintro e w4 ⟨v,rfl,_,h4⟩
  have O2:=O1.ED (p':=p+3) hlt h4.out.2 ⟨_,by omega,h4.out.1⟩
  obtain ⟨⟨f0,f1,f2,f3,f4,f5,f6⟩,z0,z1,z2,z3,z4,z5,z6⟩:=AB O2.box
  go_wp2_with fail
  refine kk.out _ _ ?_
  exact Uu hp hlt χ ((O2.put χ hlt 0 (.int .i64 v)).less (by omega))
 ·go_wp2_with fail
  obtain ⟨q2,ς,L8⟩:=O1.rd
  refine (Es (n:=2) [0,7] _ L8 (by omega) rfl rfl (by omega) (by omega)).mono ?_
  rintro e w4 ⟨v,rfl,_,h4⟩
  have O2:=O1.ED (p':=p+3) hlt h4.out.2 ⟨_,by omega,h4.out.1⟩
  obtain ⟨⟨f0,f1,f2,f3,f4,f5,f6⟩,z0,z1,z2,z3,z4,z5,z6⟩:=AB O2.box
  go_wp2_with fail
  refine kk.out _ _ ?_
  exact Uu hp hlt χ ((O2.put χ hlt 1 (.int .i64 v)).less (by omega))
 ·go_wp2_with fail
  obtain ⟨q2,ς,L8⟩:=O1.rd
  refine (Es (n:=4) [-1,5,1,0] _ L8 (by omega) rfl rfl (by omega) (by omega)).mono ?_
  rintro e w4 ⟨v,rfl,_,h4⟩
  have O2:=O1.ED (p':=p+3) hlt h4.out.2 ⟨_,by omega,h4.out.1⟩
  obtain ⟨⟨f0,f1,f2,f3,f4,f5,f6⟩,z0,z1,z2,z3,z4,z5,z6⟩:=AB O2.box
  go_wp2_with fail
  refine kk.out _ _ ?_
  exact Uu hp hlt χ ((O2.put χ hlt 2 (.int .i64 v)).less (by omega))
 ·go_wp2_with fail
  obtain ⟨q2,ς,L8⟩:=O1.rd
  refine (Es (n:=3) [-1,3601,9223372036854775807] _ L8 (by omega) rfl rfl (by omega) (by omega)).mono ?_
  rintro e w4 ⟨v,rfl,_,h4⟩
  have O2:=O1.ED (p':=p+3) hlt h4.out.2 ⟨_,by omega,h4.out.1⟩
  obtain ⟨⟨f0,f1,f2,f3,f4,f5,f6⟩,z0,z1,z2,z3,z4,z5,z6⟩:=AB O2.box
  go_wp2_with fail
  refine kk.out _ _ ?_
  exact Uu hp hlt χ ((O2.put χ hlt 3 (.int .i64 v)).less (by omega))
 ·go_wp2_with fail
  obtain ⟨q2,ς,L8⟩:=O1.rd
  refine (Es (n:=4) [-2,3601,0, -1] _ L8 (by omega) rfl rfl (by omega) (by omega)).mono ?_
  rintro e w4 ⟨v,rfl,_,h4⟩
  have O2:=O1.ED (p':=p+3) hlt h4.out.2 ⟨_,by omega,h4.out.1⟩
  obtain ⟨⟨f0,f1,f2,f3,f4,f5,f6⟩,z0,z1,z2,z3,z4,z5,z6⟩:=AB O2.box
  go_wp2_with fail
  refine kk.out _ _ ?_
  exact Uu hp hlt χ ((O2.put χ hlt 4 (.int .i64 v)).less (by omega))
 ·go_wp2_with fail
  obtain ⟨q2,ς,L8⟩:=O1.rd
  refine (Es (n:=4) [-2,3601,0, -1] _ L8 (by omega) rfl rfl (by omega) (by omega)).mono ?_
  rintro e w4 ⟨v,rfl,_,h4⟩
  have O2:=O1.ED (p':=p+3) hlt h4.out.2 ⟨_,by omega,h4.out.1⟩
  obtain ⟨⟨f0,f1,f2,f3,f4,f5,f6⟩,z0,z1,z2,z3,z4,z5,z6⟩:=AB O2.box
  go_wp2_with fail
  refine kk.out _ _ ?_
  exact Uu hp hlt χ ((O2.put χ hlt 5 (.int .i64 v)).less (by omega))
 ·go_wp2_with fail
  obtain ⟨q2,ς,L8⟩:=O1.rd
  refine (aAg (n:=4) [[],[111,112,101,110],[100,111,110,101],[116,105,114,101,100]] _ L8 (by omega) rfl rfl (by omega) (by omega)).mono ?_
  rintro e w4 ⟨v,rfl,h4⟩
  have O2:=O1.ED (p':=p+3) hlt h4.out.2 ⟨_,by omega,h4.out.1⟩
  obtain ⟨⟨f0,f1,f2,f3,f4,f5,f6⟩,z0,z1,z2,z3,z4,z5,z6⟩:=AB O2.box
  go_wp2_with fail
  refine kk.out _ _ ?_
  exact Uu hp hlt χ ((O2.put χ hlt 6 (.string ⟨v.toArray⟩)).less (by omega))
theorem WH {p:Nat} (r:Rec) (hR:Rd w g0 g p) (hp:p<=1000000):
 d_ p_ 76 #[.pointer (some ⟨g,0,none⟩),ZV r] w (CQ g0 g (p+4) w Wu):=by
 obtain ⟨c,l,o,f,h,t,k⟩:=r
 simp only [ZV]
 have hlt:=hR.lt
 have χ:=hR.le
 have O:Et w g0 g (p+1) w.heap.size (w.heap.size+1) 44 #[.int .i64 0,.int .i64 0,.int .i64 0,.int .i64 0,.int .i64 0,.int .i64 0,.string ⟨#[]⟩] #[.int .i64 c,.int .i64 l,.int .i64 o,.int .i64 f,.int .i64 h,.int .i64 t,.string ⟨k.toArray⟩] ((w.alloc (.cells #[.int .i64 c,.int .i64 l,.int .i64 o,.int .i64 f,.int .i64 h,.int .i64 t,.string ⟨k.toArray⟩] 44)).alloc (.cells #[.int .i64 0,.int .i64 0,.int .i64 0,.int .i64 0,.int .i64 0,.int .i64 0,.string ⟨#[]⟩] 44)):=by
  have k1:=Z' (w.alloc (.cells #[.int .i64 c,.int .i64 l,.int .i64 o,.int .i64 f,.int .i64 h,.int .i64 t,.string ⟨k.toArray⟩] 44)) (.cells #[.int .i64 0,.int .i64 0,.int .i64 0,.int .i64 0,.int .i64 0,.int .i64 0,.string ⟨#[]⟩] 44)
  rw [B_] at k1
  exact ⟨br (Z' w _),k1,⟨p,by omega,(hR.alloc _).alloc _⟩,(N_ w _ _).trans (N_ _ _ _),C_ _,by omega,by omega⟩
 have hO:=aa O
 clear O
 go_enter func76,ntmps76
 refine wp_seq_k fun K hK=> ?_
 have kk:=aa hK
 clear hK
 go_wp2_with fail
 refine kk.out _ _ ?_
 exact aCl hp hlt χ hO.out
end
end Go.aC.Of
