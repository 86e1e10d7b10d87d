/-
  The laws' helpers on events and numbers.
-/
import Derived.StillTailTactics
import Derived.Deep.RegionWith
import Derived.Lib.Hide
import Derived.Laws.Rows
import Derived.Test.YtnjkbffmmgckeaaGreatDoorPaa
import Derived.Test.YtnjkbffmmgckeaaGreatDoorPag
import Derived.Test.YtnjkbffmmgckeaaGreatDoorPay
set_option linter.all false
set_option maxRecDepth 100000
set_option maxHeartbeats 32000000
open Go renaming World->J',Value->M',Calls->d_,Addr->z_
open Go.RowKit renaming Hid->f_,Below->g_
open Go.RowKit.Below renaming refl->h_
open Nat renaming le_refl->C_,le_trans->D_,lt_of_lt_of_le->E_
open Array renaming getElem?_eq_getElem->H_,size_setIfInBounds->X_,getElem?_setIfInBounds->Y_
open Go.Proofs.Tryz renaming prog->p_
open Go.Proofs.Tryz
namespace Go.aC.Of
section
open Go Go.Conc Go.aC Go.Proofs
open Go.RowKit hiding Hid Below
open Go.ConcN (upd upd_ne upd_same)
theorem E5 {u:Nat} (hu:u<=9223372036854775807):(Lib.decDigits u).length<=21:=by
 have h2:=Lib.itoa_length_le (u:Int) (by omega) (by omega)
 unfold Lib.itoa at h2
 rw [if_neg (by omega)] at h2
 simpa using h2
variable {B:Nat} {w:J'}
theorem Vp {wr:J'} (hb:g_ B w wr) (n:Nat):g_ B w (wr.drewN n):=⟨hb.os,hb.tape,hb.output,hb.size,hb.block⟩
theorem NR (l:List UInt8):(⟨l.toArray⟩:ByteArray).size=l.length:=by simp [ByteArray.size]
theorem MB {a b:ByteArray} (h:a=b):Ending.returned (.string a)=Ending.returned (.string b):=by rw [h]
theorem Mt {a b:ByteArray} (h:a=b):Value.string a=Value.string b:=by rw [h]
theorem vV {k:IntKind} {a b:Int} (h:a=b):Ending.returned (.int k a)=Ending.returned (.int k b):=by rw [h]
variable {b:Nat}
theorem n8 {o:Nat} {c:Array M'} {t:TypeId} {f:Nat × Nat} (h:w.heap[b]?=some (.cells c t f)) (v:M'):(w.setCell ⟨b,o,none⟩ v).heap[b]?=some (.cells (c.setIfInBounds o v) t f):=by
 simp only [World.setCell,Array.getElem?_modify]
 simp [h]
structure Dd where
 act:List UInt8
 line:Int
 word:Int
def Dd.v0 (d:Dd):M':=.string ⟨d.act.toArray⟩
def Dd.cells (d:Dd):List M':=[.string ⟨d.act.toArray⟩,.int .i64 d.line,.int .i64 d.word]
def qL (d:Dd):M':=.agg #[.string ⟨d.act.toArray⟩,.int .i64 d.line,.int .i64 d.word]
theorem D2 (d:Dd) (left:Nat) (w:J') (hl:left<=1048576) (hd:d.act.length<=9223372036854775807):
 d_ p_ 41 #[qL d,.int .i64 left] w fun e w'=>e=.returned (.int .i64 (if d.act.length<=left then ((left - d.act.length:Nat):Int) else -1))/\g_ w.heap.size w w':=by
 have hs:=NR d.act
 obtain ⟨act,line,word⟩:=d
 simp only at hs hd
 simp only [qL]
 generalize hn:act.length=n at *
 have U8:(n:Int)<=9223372036854775807:=by omega
 have Mb:(left:Int)<=1048576:=by omega
 by_cases h:n<=left
 ·have h1:decide ((left:Int) - (n:Int)<0)=false:=by simp;omega
  rw [if_pos h]
  go_enter func41,ntmps41
  go_wp2
  go_ret
  exact ⟨vV (by omega),(h_ _ _).alloc (C_ _) _⟩
 ·have h1:decide ((left:Int) - (n:Int)<0)=true:=by simp;omega
  rw [if_neg h]
  go_enter func41,ntmps41
  go_wp2
  go_ret
  exact ⟨rfl,(h_ _ _).alloc (C_ _) _⟩
def cR (w:J') (a:Option z_) (ds:List Dd):Prop:=
 ds=[]\/∃b off,a=some ⟨b,off,none⟩/\b<w.heap.size/\∀i (h:i<ds.length),w.cell? ⟨b,off+i * 3,none⟩=some (.string ⟨ds[i].act.toArray⟩)/\w.cell? ⟨b,off+i * 3+1,none⟩=some (.int .i64 ds[i].line)/\w.cell? ⟨b,off+i * 3+2,none⟩=some (.int .i64 ds[i].word)
variable {a:Option z_} {ds:List Dd} {i:Nat}
theorem cR.at (h:cR w a ds) (hi:i<ds.length):∃b off,a=some ⟨b,off,none⟩/\b<w.heap.size/\w.cell? ⟨b,off+i * 3,none⟩=some (.string ⟨ds[i].act.toArray⟩)/\w.cell? ⟨b,off+i * 3+1,none⟩=some (.int .i64 ds[i].line)/\w.cell? ⟨b,off+i * 3+2,none⟩=some (.int .i64 ds[i].word):=by
 rcases h with rfl|⟨b,off,rfl,hb,hc⟩
 ·simp at hi
 ·exact ⟨b,off,rfl,hb,hc i hi⟩
variable {w':J'}
theorem cR.below (h:cR w a ds) (hw:g_ B w w') (hB:w.heap.size<=B):cR w' a ds:=by
 rcases h with rfl|⟨b,off,rfl,hb,hc⟩
 ·exact .inl rfl
 ·exact .inr ⟨b,off,rfl,E_ hb hw.size,fun i hi=>⟨(hw.cell (by show b<B;omega)).trans (hc i hi).1,(hw.cell (by show b<B;omega)).trans (hc i hi).2.1,(hw.cell (by show b<B;omega)).trans (hc i hi).2.2⟩⟩
def BZ (ds:List Dd) (k:Nat):Nat:=ds.length+((ds.take k).map (·.act.length)).sum
theorem IZ (ds:List Dd) (k:Nat) (h:k<ds.length):BZ ds (k+1)=BZ ds k+ds[k].act.length:=by
 unfold BZ;rw [List.take_succ_eq_append_getElem h,List.map_append,List.sum_append]
 simp only [List.map_cons,List.map_nil,List.sum_cons,List.sum_nil]
 omega
theorem PU (ds:List Dd) (k:Nat):BZ ds k<=BZ ds ds.length:=by
 unfold BZ
 have:((ds.take k).map (·.act.length)).sum<=(ds.map (·.act.length)).sum:=by
  have e:(ds.map (·.act.length)).sum=(((ds.take k)++(ds.drop k)).map (·.act.length)).sum:=by rw [List.take_append_drop]
  rw [e,List.map_append,List.sum_append]
  omega
 rw [List.take_length]
 omega
def zn (left n:Nat):Int:=if n<=left then ((left - n:Nat):Int) else -1
theorem BX (a:Option z_) (c:Nat) (ds:List Dd) (left:Nat) (w:J') (hl:left<=1048576) (hn:ds.length<=9223372036854775807) (hd:∀d∈ds,d.act.length<=9223372036854775807) (hA:cR w a ds):
 d_ p_ 9 #[.slice a ds.length c,.int .i64 left] w fun e w'=>e=.returned (.int .i64 (zn left (BZ ds ds.length)))/\g_ w.heap.size w w':=by
 have Mb:(left:Int)<=1048576:=by omega
 have CP:(ds.length:Int)<=9223372036854775807:=by omega
 by_cases h0:ds.length<=left
 ·have h1:decide ((left:Int) - (ds.length:Int)<0)=false:=by simp;omega
  have L9:(ds.length:Int)<=(left:Int):=by omega
  go_enter func9,ntmps9
  go_wp2
  go_loopw [1,5] (fun l i wr=>∃k:Nat,k<=ds.length/\i=.int .i64 k/\BZ ds k<=left/\l=.int .i64 ((left - BZ ds k:Nat):Int)/\g_ w.heap.size w wr) (fun _ i _=>ds.length - (intOf i).toNat)
  case atStart=>exact ⟨0,Nat.zero_le _,rfl,by simp [BZ,h0],by simp [BZ];omega,h_ _ _⟩
  case round=>
   obtain ⟨k,hk,rfl,hsz,rfl,hb⟩:=hrel
   by_cases hlt:k<ds.length
   ·obtain ⟨b,off,rfl,ub,KE,BK,BJ⟩:=(hA.below hb (C_ _)).at hlt
    have gJ:(k:Int)<(ds.length:Int):=by omega
    have hsd:=Lib.hid (fun w=>D2 ds[k] (left - BZ ds k) w (by omega) (hd _ (by simp)))
    have hss:=IZ ds k hlt
    by_cases U2:ds[k].act.length<=left - BZ ds k
    ·have iq:decide (((left - BZ ds k - ds[k].act.length:Nat):Int)<0)=false:=by simp
     go_wp2_with (go_at_call 41;refine (hsd.out _).mono ?_;rintro e w1 ⟨he,HJ⟩;rw [if_pos U2] at he;subst he)
     go_roundw
     case rel=>exact ⟨k+1,by omega,by go_num,by omega,by go_num,hb.trans (HJ.mono hb.size)⟩
     case measure=>simp [intOf];omega
    ·have hle:=PU ds (k+1)
     go_wp2_with (go_at_call 41;refine (hsd.out _).mono ?_;rintro e w1 ⟨he,HJ⟩;rw [if_neg U2] at he;subst he)
     go_ret
     exact ⟨vV (by unfold zn;rw [if_neg (by omega)]),hb.trans (HJ.mono hb.size)⟩
   ·obtain rfl:k=ds.length:=by omega
    go_wp2
    go_ret
    exact ⟨vV (by unfold zn;rw [if_pos hsz]),hb⟩
 ·have h1:decide ((left:Int) - (ds.length:Int)<0)=true:=by simp;omega
  go_enter func9,ntmps9
  go_wp2
  go_ret
  exact ⟨vV (by unfold zn;rw [if_neg (by unfold BZ;omega)]),h_ _ _⟩
def sO (d:Dd):Nat->M'
 |0=>.string ⟨d.act.toArray⟩
 |1=>.int .i64 d.line
 |_=>.int .i64 d.word
def yU:Dd:=⟨[],0,0⟩
def fM (ds:List Dd) (k:Nat):Array M':=Array.ofFn (n:=ds.length * 3) fun j=>sO (if j.val / 3<k then ds.getD (j.val / 3) yU else yU) (j.val % 3)
theorem jY (ds:List Dd) (k j:Nat) (h:j<ds.length * 3):(fM ds k)[j]?=some (sO (if j / 3<k then ds.getD (j / 3) yU else yU) (j % 3)):=by
 simp [fM,h]
theorem HT (ds:List Dd) (k:Nat) (h:k<ds.length):
 (((fM ds k).setIfInBounds (k * 3) (.string ⟨ds[k].act.toArray⟩)).setIfInBounds (k * 3+1) (.int .i64 ds[k].line)).setIfInBounds (k * 3+2) (.int .i64 ds[k].word)=fM ds (k+1):=by
 apply Array.ext_getElem?
 intro j
 rcases Nat.lt_or_ge j (ds.length * 3) with h3|h3
 ·rw [jY ds _ j h3]
  simp only [Y_,jY ds k j h3,X_]
  have hs:(fM ds k).size=ds.length * 3:=by simp [fM]
  rw [hs]
  by_cases e2:k * 3+2=j
  ·subst e2
   rw [if_pos rfl,if_pos (by omega),if_pos (by omega),show (k * 3+2) / 3=k from by omega,show (k * 3+2) % 3=2 from by omega]
   simp [sO,List.getD,h]
  rw [if_neg e2]
  by_cases e1:k * 3+1=j
  ·subst e1
   rw [if_pos rfl,if_pos (by omega),if_pos (by omega),show (k * 3+1) / 3=k from by omega,show (k * 3+1) % 3=1 from by omega]
   simp [sO,List.getD,h]
  rw [if_neg e1]
  by_cases e0:k * 3=j
  ·subst e0
   rw [if_pos rfl,if_pos (by omega),if_pos (by omega),show k * 3 / 3=k from by omega,show k * 3 % 3=0 from by omega]
   simp [sO,List.getD,h]
  rw [if_neg e0]
  by_cases hk:j / 3<k
  ·rw [if_pos hk,if_pos (by omega)]
  ·rw [if_neg hk,if_neg (by omega)]
 ·rw [Array.getElem?_eq_none (by simpa [fM] using h3),Array.getElem?_eq_none (by simpa [fM] using h3)]
theorem cR.wV {t:TypeId} {f:Nat × Nat} (h:w.heap[b]?=some (.cells (fM ds ds.length) t f)):cR w (some ⟨b,0,none⟩) ds:=by
 refine .inr ⟨_,_,rfl,(cI h),fun i hi=> ?_⟩
 unfold World.cell?
 simp only [h,Nat.zero_add]
 refine ⟨?_, ?_, ?_⟩
 ·simp [jY ds _ (i * 3) (by omega),show i * 3 / 3=i from by omega,sO,List.getD,hi]
 ·simp [jY ds _ (i * 3+1) (by omega),show (i * 3+1) / 3=i from by omega,show (i * 3+1) % 3=1 from by omega,sO,List.getD,hi]
 ·simp [jY ds _ (i * 3+2) (by omega),show (i * 3+2) / 3=i from by omega,show (i * 3+2) % 3=2 from by omega,sO,List.getD,hi]
theorem Qm:(Tryz.prog.info? 55).map (fun i=>(i.zero,i.size,i.bytes))=some (some (.agg #[.string ⟨#[]⟩,.int .i64 0,.int .i64 0]),3,32):=by kernel_rfl
theorem Et (ds:List Dd):madeCells (Value.agg #[.string ⟨#[]⟩,.int .i64 0,.int .i64 0]).cells (ds.length * 3)=fM ds 0:=by
 apply Array.ext
 ·simp [madeCells,fM]
 ·intro j h1 h2
  simp only [madeCells,fM,Value.cells,Array.getElem_map,Array.getElem_range,Array.getElem_ofFn]
  rw [if_neg (by omega)]
  have:j % 3=0\/j % 3=1\/j % 3=2:=by omega
  rcases this with h|h|h<;>simp [h,sO,yU]
theorem JH (w:J') (ds:List Dd) (h:ds.length<=1048576):(Instr.makeSlice 30 (.int .i64 (ds.length:Int)) (.int .i64 (ds.length:Int))).run p_ w=.ok (.slice (some ⟨w.heap.size,0,none⟩) ds.length ds.length) (w.alloc (.cells (fM ds 0) 55)):=by
 obtain ⟨i0,hi,tX,rm,uF⟩:=info_parts Qm
 have:=run_make (P:=p_) w 30 55 i0 _ Tryz.underlying30 hi tX .i64 .i64 ds.length ds.length (by omega) (by omega) (by rw [uF];omega) (by omega)
 rw [this,rm]
 simp only [Int.toNat_natCast]
 rw [Et]
theorem DZ (d:Dd) (w:J'):
 d_ p_ 44 #[qL d] w fun e w'=>e=.returned (qL d)/\g_ w.heap.size w w':=by
 obtain ⟨act,line,word⟩:=d
 simp only [qL]
 go_enter func44,ntmps44
 go_wp2
 refine bodyPost_ret (v:=.agg #[.string ⟨act.toArray⟩,.int .i64 line,.int .i64 word]) (by simp [results,Tryz.results44,go_sem]) rfl ⟨rfl, ?_⟩
 exact (((h_ _ _).alloc (C_ _) _).alloc (by simp) _).alloc (by simp;omega) _
theorem lN (a:Option z_) (c:Nat) (ds:List Dd) (w:J') (hn:ds.length<=1048576) (hA:cR w a ds):
 d_ p_ 12 #[.slice a ds.length c] w fun e w'=>e=.returned (.slice (some ⟨w.heap.size,0,none⟩) ds.length ds.length)/\w'.heap[w.heap.size]?=some (.cells (fM ds ds.length) 55 (0,0))/\g_ w.heap.size w w':=by
 have Ng:=JH w ds hn
 go_enter func12,ntmps12
 go_wp2
 go_loopw [4] (fun i wr=>∃k:Nat,k<=ds.length/\i=.int .i64 k/\wr.heap[w.heap.size]?=some (.cells (fM ds k) 55)/\w.heap.size<wr.heap.size/\g_ w.heap.size w wr) (fun i _=>ds.length - (intOf i).toNat)
 case atStart=>exact ⟨0,Nat.zero_le _,rfl,heap_alloc_new _ _,by simp,(h_ _ _).alloc (C_ _) _⟩
 case round=>
  obtain ⟨k,hk,rfl,jm,ub,hb⟩:=hrel
  by_cases hlt:k<ds.length
  ·obtain ⟨b,off,rfl,uf,KE,BK,BJ⟩:=(hA.below hb (C_ _)).at hlt
   have gJ:(k:Int)<(ds.length:Int):=by omega
   go_wp2_with fail
   refine (DZ ds[k] _).mono ?_
   rintro e w1 ⟨rfl,eo⟩
   simp only [qL]
   have uP:w1.heap[w.heap.size]?=some (.cells (fM ds k) 55):=by rw [eo.block _ ub];exact jm
   have f0:w1.frozen? ⟨w.heap.size,k * 3,none⟩=false:=bX uP
   have f1:w1.frozen? ⟨w.heap.size,k * 3+1,none⟩=false:=bX uP
   have f2:w1.frozen? ⟨w.heap.size,k * 3+2,none⟩=false:=bX uP
   have g0:=(aB uP).trans (jY ds k (k * 3) (by omega))
   have g1:=(aB uP).trans (jY ds k (k * 3+1) (by omega))
   have g2:=(aB uP).trans (jY ds k (k * 3+2) (by omega))
   have vD:=Lib.hid (n8 (n8 (n8 uP (o:=k * 3) (.string ⟨ds[k].act.toArray⟩)) (o:=k * 3+1) (.int .i64 ds[k].line)) (o:=k * 3+2) (.int .i64 ds[k].word))
   have yf:=Lib.hid (HT ds k hlt)
   have Qz:=eo.size
   clear uP jm
   go_wp2
   go_roundw
   case rel=>exact ⟨k+1,by omega,by go_num,by rw [<-yf.out];exact vD.out,by simp;omega,(((hb.trans (eo.mono hb.size)).setCell (C_ _) _).setCell (C_ _) _).setCell (C_ _) _⟩
   case measure=>simp [intOf];omega
  ·obtain rfl:k=ds.length:=by omega
   go_wp2
   go_ret
   exact ⟨rfl,jm,hb⟩
theorem Df (d:Dd) (w:J'):
 d_ p_ 46 #[qL d,qL d] w fun e w'=>e=.returned (.bool true)/\g_ w.heap.size w w':=by
 obtain ⟨act,line,word⟩:=d
 simp only [qL]
 go_enter func46,ntmps46
 go_wp2
 go_ret
 exact ⟨rfl,((h_ _ _).alloc (C_ _) _).alloc (by simp) _⟩
theorem Bg (a b:Option z_) (ca cb:Nat) (ds:List Dd) (w:J') (hn:ds.length<=1048576) (hA:cR w a ds) (hB:cR w b ds):
 d_ p_ 15 #[.slice a ds.length ca,.slice b ds.length cb] w fun e w'=>e=.returned (.bool true)/\g_ w.heap.size w w':=by
 go_enter func15,ntmps15
 go_wp2
 go_loopw [5] (fun i wr=>∃k:Nat,k<=ds.length/\i=.int .i64 k/\g_ w.heap.size w wr) (fun i _=>ds.length - (intOf i).toNat)
 case atStart=>exact ⟨0,Nat.zero_le _,rfl,h_ _ _⟩
 case round=>
  obtain ⟨k,hk,rfl,hb⟩:=hrel
  by_cases hlt:k<ds.length
  ·obtain ⟨b1,Yx,rfl,ZJ,O1,WS,h12⟩:=(hA.below hb (C_ _)).at hlt
   obtain ⟨b2,Yw,rfl,ZI,h20,h21,h22⟩:=(hB.below hb (C_ _)).at hlt
   have gJ:(k:Int)<(ds.length:Int):=by omega
   have heq:=Lib.hid (fun w=>Df ds[k] w)
   simp only [qL] at heq
   go_wp2
   go_still_tail 8,(by kernel_rfl)
   go_wp2_with fail
   refine (heq.out _).mono ?_
   rintro e w1 ⟨rfl,eo⟩
   go_wp2
   go_roundw
   case rel=>exact ⟨k+1,by omega,by go_num,(hb.drew).trans (eo.mono hb.size)⟩
   case measure=>simp [intOf];omega
  ·go_wp2
   go_ret
   exact ⟨rfl,hb⟩
def Ov (k:Nat):List UInt8:=109::Lib.decDigits k
def Ay (v:Nat) (l:List UInt8):List UInt8:=if v=0 then l else ox v l
theorem Hp {v:Nat} (l:List UInt8) (h:0<v):Ay (v / 10) (UInt8.ofNat (48+v % 10)::l)=Ay v l:=by
 unfold Ay
 rw [if_neg (by omega:¬v=0)]
 by_cases h9:9<v
 ·rw [if_neg (by omega),xT _ _ h9]
 ·rw [if_pos (by omega),xU _ _ (by omega),Nat.mod_eq_of_lt (by omega)]
theorem JI {v u:Nat} {l:List UInt8} (h:Ay v l=Lib.decDigits u) (hu:u<=9223372036854775807):l.length<=21:=by
 unfold Ay at h
 split at h
 ·rw [h];exact E5 hu
 ·exact zD h hu
theorem AB (u:Nat) (w:J') (h0:0<u) (hu:u<=9223372036854775807):
 d_ p_ 47 #[.int .i64 (u:Int)] w fun e w'=>e=.returned (.string ⟨(Ov u).toArray⟩)/\g_ w.heap.size w w':=by
 have h1:¬(u:Int)<=0:=by omega
 go_enter func47,ntmps47
 go_wp2
 go_loopw [0,3] (fun n out wr=>∃(v:Nat) (l:List UInt8),n=.int .i64 (v:Int)/\v<=9223372036854775807/\out=.string ⟨l.toArray⟩/\f_ (Ay v l=Lib.decDigits u)/\g_ w.heap.size w wr) (fun n _ _=>(intOf n).toNat)
 case atStart=>exact ⟨u,[],rfl,hu,rfl,by simp [f_,Ay,ox];omega,h_ _ _⟩
 case round=>
  obtain ⟨v,l,rfl,hv,rfl,H,hb⟩:=hrel
  have Ma:=JI H.out hu
  by_cases hlt:0<v
  ·have gJ:(0:Int)<(v:Int):=by omega
   obtain ⟨c,hc⟩:∃c:UInt8,UInt8.ofNat (48+v % 10)=c:=⟨_,rfl⟩
   have hcv:=uj wr (48+(v:Int) % 10)
   rw [show (48+(v:Int) % 10).toNat=48+v % 10 from by omega,hc] at hcv
   have H2:f_ (Ay (v / 10) (c::l)=Lib.decDigits u):=by rw [f_,<-hc,Hp _ hlt];exact H.out
   clear hc
   go_wp2
   go_roundw
   case rel=>exact ⟨v / 10,c::l,by go_num,by omega,Mt (Gv _ _),H2,hb.alloc hb.size _⟩
   case measure=>simp [intOf];omega
  ·obtain rfl:v=0:=by omega
   have H2:f_ (l=Lib.decDigits u):=by have:=H.out;unfold Ay at this;rw [f_];simpa using this
   go_wp2
   go_ret
   exact ⟨MB (by rw [Gv,H2.out];rfl),hb⟩
def zm (n:Nat):List Dd:=(List.range n).map fun (i:Nat)=>⟨Ov (1+3 * i),2+3 * (i:Int),3+3 * (i:Int)⟩
theorem AE (n:Nat):(zm n).length=n:=by simp [zm]
theorem JK (n i:Nat) (h:i<(zm n).length):(zm n)[i]=⟨Ov (1+3 * i),2+3 * (i:Int),3+3 * (i:Int)⟩:=by simp [zm]
theorem Es {cu:Array M'} {k:Nat} {m:ByteArray} (h:∀j:Nat,j<k->cu[j * 3]?=some (.string ⟨(Ov (1+3 * j)).toArray⟩)/\cu[j * 3+1]?=some (.int .i64 (2+3 * (j:Int)))/\cu[j * 3+2]?=some (.int .i64 (3+3 * (j:Int))))
 (hm:m=⟨(Ov (1+3 * k)).toArray⟩) (hs:k * 3+2<cu.size):
 let c:=((cu.setIfInBounds (k * 3) (.string m)).setIfInBounds (k * 3+1) (.int .i64 (1+3 * (k:Int)+1))).setIfInBounds (k * 3+2) (.int .i64 (1+3 * (k:Int)+1+1))
 ∀j:Nat,j<k+1->c[j * 3]?=some (.string ⟨(Ov (1+3 * j)).toArray⟩)/\c[j * 3+1]?=some (.int .i64 (2+3 * (j:Int)))/\c[j * 3+2]?=some (.int .i64 (3+3 * (j:Int))):=by
 intro c j hj
 subst hm
 simp only [c,Y_,X_]
 by_cases e:j=k
 ·subst e
  refine ⟨?_, ?_, ?_⟩
  ·rw [if_neg (by omega),if_neg (by omega),if_pos rfl,if_pos (by omega)]
  ·rw [if_neg (by omega),if_pos rfl,if_pos (by omega)];congr 2;omega
  ·rw [if_pos rfl,if_pos (by omega)];congr 2;omega
 ·obtain ⟨h0,h1,h2⟩:=h j (by omega)
  refine ⟨?_, ?_, ?_⟩<;>rw [if_neg (by omega),if_neg (by omega),if_neg (by omega)]<;>assumption
theorem yz (v:M') (base n:Nat) (xs:List M') (w:J') (hn:n<=1048576) (ub:base<=w.heap.size) (iw:w.ownsRow base 55 3 v n xs):
 d_ p_ 16 #[v,.int .i64 1] w fun e w'=>e=.returned (.int .i64 (1+3 * n))/\(∃a c,v=.slice a n c/\cR w' a (zm n))/\bg v (.slice none 0 0) w w':=by
 rcases iw.2 with ⟨rfl,h0⟩|⟨g,cap,cur,rfl,hb,hg,lJ,_,hcs,_⟩
 ·subst h0
  go_enter func16,ntmps16
  go_wp2
  go_loopw [1,5] (fun m i wr=>m=.int .i64 1/\i=.int .i64 0/\w=wr) (fun _ _ _=>0)
  case atStart=>exact ⟨rfl,rfl,rfl⟩
  case round=>
   obtain ⟨rfl,rfl,rfl⟩:=hrel
   go_wp2
   go_ret
   exact ⟨rfl,⟨_,_,rfl,.inl rfl⟩,bg.refl _ _ _⟩
 ·go_enter func16,ntmps16
  go_wp2
  go_loopw [1,5] (fun m i wr=>∃(k:Nat) (cu:Array M'),k<=n/\i=.int .i64 k/\m=.int .i64 (1+3 * (k:Int))/\wr.heap[g]?=some (.cells cu 55 (0,0))/\cu.size=cap * 3/\(∀j:Nat,j<k->cu[j * 3]?=some (.string ⟨(Ov (1+3 * j)).toArray⟩)/\cu[j * 3+1]?=some (.int .i64 (2+3 * (j:Int)))/\cu[j * 3+2]?=some (.int .i64 (3+3 * (j:Int))))/\bg (.slice (some ⟨g,0,none⟩) n cap) (.slice none 0 0) w wr) (fun _ i _=>n - (intOf i).toNat)
  case atStart=>exact ⟨0,cur,Nat.zero_le _,rfl,rfl,hg,by omega,fun j hj=>by omega,bg.refl _ _ _⟩
  case round=>
   obtain ⟨k,cu,hk,rfl,rfl,uN,Gk,eU,lW⟩:=hrel
   by_cases hlt:k<n
   ·have gJ:(k:Int)<(n:Int):=by omega
    have θ:=Lib.hid (fun w=>AB (1+3 * k) w (by omega) (by omega))
    rw [show (((1+3 * k:Nat):Int))=1+3 * (k:Int) from by omega] at θ
    generalize hmx:(⟨(Ov (1+3 * k)).toArray⟩:ByteArray)=mx at *
    go_wp2_with fail
    refine (θ.out _).mono ?_
    rintro e w1 ⟨rfl,eo⟩
    have Zt:g<wr.heap.size:=(cI uN)
    have BI:w1.heap[g]?=some (.cells cu 55 (0,0)):=(eo.block g Zt).trans uN
    have ZM:bg (.slice (some ⟨g,0,none⟩) n cap) (.slice none 0 0) w w1:=lW.trans (bg.bW eo)
    obtain ⟨x0,YH⟩:∃x,w1.cell? ⟨g,k * 3,none⟩=some x:=⟨_,(aB BI).trans (H_ (by omega))⟩
    have WE:w1.frozen? ⟨g,k * 3,none⟩=false:=bX BI
    have Nu:(w1.setCell ⟨g,k * 3,none⟩ (.string mx)).heap[g]?=some (.cells (cu.setIfInBounds (k * 3) (.string mx)) 55 (0,0)):=n8 BI _
    obtain ⟨x1,AP⟩:∃x,(w1.setCell ⟨g,k * 3,none⟩ (.string mx)).cell? ⟨g,k * 3+1,none⟩=some x:=⟨_,(aB Nu).trans (H_ (by rw [X_];omega))⟩
    have Mh:(w1.setCell ⟨g,k * 3,none⟩ (.string mx)).frozen? ⟨g,k * 3+1,none⟩=false:=bX Nu
    have mS:((w1.setCell ⟨g,k * 3,none⟩ (.string mx)).setCell ⟨g,k * 3+1,none⟩ (.int .i64 (1+3 * (k:Int)+1))).heap[g]?=some (.cells ((cu.setIfInBounds (k * 3) (.string mx)).setIfInBounds (k * 3+1) (.int .i64 (1+3 * (k:Int)+1))) 55 (0,0)):=n8 Nu _
    obtain ⟨x2,M0⟩:∃x,((w1.setCell ⟨g,k * 3,none⟩ (.string mx)).setCell ⟨g,k * 3+1,none⟩ (.int .i64 (1+3 * (k:Int)+1))).cell? ⟨g,k * 3+2,none⟩=some x:=⟨_,(aB mS).trans (H_ (by rw [X_,X_];omega))⟩
    have nj:((w1.setCell ⟨g,k * 3,none⟩ (.string mx)).setCell ⟨g,k * 3+1,none⟩ (.int .i64 (1+3 * (k:Int)+1))).frozen? ⟨g,k * 3+2,none⟩=false:=bX mS
    have lI:=Lib.hid (Es (m:=mx) eU (by rw [<-hmx]) (by omega:k * 3+2<cu.size))
    clear hg hcs eU uN hmx
    go_wp2
    all_goals
     go_roundw
     case rel=>exact ⟨k+1,_,by omega,by go_num,by go_num,n8 mS _,by simp only [X_];exact Gk,lI.out,((ZM.trans (bg.te rfl)).trans (bg.te rfl)).trans (bg.te rfl)⟩
     case measure=>simp [intOf];omega
   ·obtain rfl:k=n:=by omega
    go_wp2
    go_ret
    refine ⟨rfl,⟨_,_,rfl,.inr ⟨g,0,rfl,(cI uN),fun i hi=> ?_⟩⟩,lW⟩
    rw [AE] at hi
    have h3:=eU i hi
    simp only [Nat.zero_add,JK]
    rw [aB uN,aB uN,aB uN]
    exact h3
def eW (w:J') (a:Option z_) (zs:List Int):Prop:=
 zs=[]\/∃b off,a=some ⟨b,off,none⟩/\b<w.heap.size/\∀i,i<zs.length->w.cell? ⟨b,off+i,none⟩=some (.int .i64 (zs.getD i 0))
variable {zs:List Int}
theorem eW.at (h:eW w a zs) (hi:i<zs.length):∃b off,a=some ⟨b,off,none⟩/\b<w.heap.size/\w.cell? ⟨b,off+i,none⟩=some (.int .i64 zs[i]):=by
 rcases h with rfl|⟨b,off,rfl,hb,hc⟩
 ·simp at hi
 ·refine ⟨b,off,rfl,hb, ?_⟩
  rw [hc i hi];simp [List.getD,hi]
theorem eW.below (h:eW w a zs) (hw:g_ B w w') (hB:w.heap.size<=B):eW w' a zs:=by
 rcases h with rfl|⟨b,off,rfl,hb,hc⟩
 ·exact .inl rfl
 ·exact .inr ⟨b,off,rfl,E_ hb hw.size,fun i hi=>(hw.cell (by show b<B;omega)).trans (hc i hi)⟩
theorem mN (a b:Option z_) (ca cb:Nat) (zs:List Int) (w:J') (hn:zs.length<=1048576) (hA:eW w a zs) (hB:eW w b zs):
 d_ p_ 14 #[.slice a zs.length ca,.slice b zs.length cb] w fun e w'=>e=.returned (.bool true)/\g_ w.heap.size w w':=by
 go_enter func14,ntmps14
 go_wp2
 go_loopw [5] (fun i wr=>∃k:Nat,k<=zs.length/\i=.int .i64 k/\g_ w.heap.size w wr) (fun i _=>zs.length - (intOf i).toNat)
 case atStart=>exact ⟨0,Nat.zero_le _,rfl,h_ _ _⟩
 case round=>
  obtain ⟨k,hk,rfl,hb⟩:=hrel
  by_cases hlt:k<zs.length
  ·obtain ⟨b1,Yx,rfl,ZJ,hck1⟩:=(hA.below hb (C_ _)).at hlt
   obtain ⟨b2,Yw,rfl,ZI,hck2⟩:=(hB.below hb (C_ _)).at hlt
   have gJ:(k:Int)<(zs.length:Int):=by omega
   go_wp2
   go_quiet (fail)
   go_wp2
   go_roundw
   case rel=>exact ⟨k+1,by omega,by go_num,Vp hb _⟩
   case measure=>simp [intOf];omega
  ·go_wp2
   go_ret
   exact ⟨rfl,hb⟩
def marks (n:Nat):List Int:=(List.range n).map fun (i:Nat)=>(1+i:Int)
theorem se (n:Nat):(marks n).length=n:=by simp [marks]
theorem NL (n i:Nat) (h:i<(marks n).length):(marks n)[i]=1+(i:Int):=by simp [marks]
variable {ns:List Int}
theorem NK {base:Nat} {v:M'} (h:w.ownsRow base 3 1 v ns.length (ns.map (Value.int .i64))):∃a c,v=.slice a ns.length c/\eW w a ns:=by
 rcases h.2 with ⟨rfl,h0⟩|⟨g,cap,cur,rfl,_,hg,hc,_,_,Vq⟩
 ·have:ns=[]:=List.length_eq_zero_iff.1 h0
  subst this
  exact ⟨_,_,rfl,.inl rfl⟩
 ·refine ⟨_,_,rfl,.inr ⟨g,0,rfl,(cI hg),fun i hi=> ?_⟩⟩
  rw [aB hg,Nat.zero_add,<-Array.getElem?_toList]
  have h3:(cur.toList.take (ns.length * 1))[i]?=some (.int .i64 ns[i]):=by rw [Vq];simp [hi]
  rw [List.getElem?_take_of_lt (by omega)] at h3
  rw [h3];simp [List.getD,hi]
theorem AD (v:M') (base n:Nat) (xs:List M') (w:J') (hn:n<=1048576) (iw:w.ownsRow base 3 1 v n xs):
 d_ p_ 17 #[v,.int .i64 1] w fun e w'=>e=.returned (.int .i64 (1+n))/\(∃a c,v=.slice a n c/\eW w' a (marks n))/\bg v (.slice none 0 0) w w':=by
 rcases iw.2 with ⟨rfl,h0⟩|⟨g,cap,cur,rfl,hb,hg,lJ,_,hcs,_⟩
 ·subst h0
  go_enter func17,ntmps17
  go_wp2
  go_loopw [1,5] (fun m i wr=>m=.int .i64 1/\i=.int .i64 0/\w=wr) (fun _ _ _=>0)
  case atStart=>exact ⟨rfl,rfl,rfl⟩
  case round=>
   obtain ⟨rfl,rfl,rfl⟩:=hrel
   go_wp2
   go_ret
   exact ⟨rfl,⟨_,_,rfl,.inl rfl⟩,bg.refl _ _ _⟩
 ·go_enter func17,ntmps17
  go_wp2
  go_loopw [1,5] (fun m i wr=>∃(k:Nat) (cu:Array M'),k<=n/\i=.int .i64 k/\m=.int .i64 (1+k)/\wr.heap[g]?=some (.cells cu 3 (0,0))/\cu.size=cap/\(∀j:Nat,j<k->cu[j]?=some (.int .i64 (1+j)))/\bg (.slice (some ⟨g,0,none⟩) n cap) (.slice none 0 0) w wr) (fun _ i _=>n - (intOf i).toNat)
  case atStart=>exact ⟨0,cur,Nat.zero_le _,rfl,rfl,hg,by omega,fun j hj=>by omega,bg.refl _ _ _⟩
  case round=>
   obtain ⟨k,cu,hk,rfl,rfl,uN,Gk,eU,lW⟩:=hrel
   by_cases hlt:k<n
   ·have hcell:∃x,wr.cell? ⟨g,k,none⟩=some x:=⟨_,(aB uN).trans (H_ (by omega))⟩
    obtain ⟨x,hcell⟩:=hcell
    have kj:wr.frozen? ⟨g,k,none⟩=false:=bX uN
    have vD:=Lib.hid (n8 uN (o:=k) (.int .i64 (1+k)))
    have W9:f_ (∀j:Nat,j<k+1->(cu.setIfInBounds k (.int .i64 (1+k)))[j]?=some (.int .i64 (1+j))):=by
     intro j hj
     rw [Y_]
     by_cases e:k=j
     ·subst e;simp;omega
     ·rw [if_neg e];exact eU j (by omega)
    have yF:f_ ((cu.setIfInBounds k (.int .i64 (1+k))).size=cap):=by rw [f_,X_];exact Gk
    clear eU uN Gk hg hcs
    go_wp2
    go_roundw
    case rel=>exact ⟨k+1,_,by omega,by go_num,by go_num,vD.out,yF,W9,lW.trans (bg.te rfl)⟩
    case measure=>simp [intOf];omega
   ·obtain rfl:k=n:=by omega
    go_wp2
    go_ret
    refine ⟨rfl,⟨_,_,rfl,.inr ⟨g,0,rfl,(cI uN),fun i hi=> ?_⟩⟩,lW⟩
    rw [se] at hi
    rw [aB uN,Nat.zero_add,eU i hi]
    simp [List.getD,marks,hi]
theorem sC (a:Option z_) (c n:Nat) (w:J') (hn:n<=1048576) (hA:eW w a (marks n)):
 d_ p_ 18 #[.slice a n c,.int .i64 1] w fun e w'=>e=.returned (.int .i64 (1+n))/\g_ w.heap.size w w':=by
 go_enter func18,ntmps18
 go_wp2
 go_loopw [1,5] (fun m i wr=>∃k:Nat,k<=n/\i=.int .i64 k/\m=.int .i64 (1+k)/\g_ w.heap.size w wr) (fun _ i _=>n - (intOf i).toNat)
 case atStart=>exact ⟨0,Nat.zero_le _,rfl,rfl,h_ _ _⟩
 case round=>
  obtain ⟨k,hk,rfl,rfl,hb⟩:=hrel
  by_cases hlt:k<n
  ·obtain ⟨b,off,rfl,ub,gv⟩:=(hA.below hb (C_ _)).at (i:=k) (by rw [se];exact hlt)
   rw [NL] at gv
   go_wp2
   go_roundw
   case rel=>exact ⟨k+1,by omega,by go_num,by go_num,hb⟩
   case measure=>simp [intOf];omega
  ·obtain rfl:k=n:=by omega
   go_wp2
   go_ret
   exact ⟨rfl,hb⟩
end
section
open Go Go.Conc Go.Conc.Lib Go.ConcR Go.ConcR.Gen Go.aC Go.Proofs
open Go.RowKit hiding Hid Below
open Go.ConcN (upd upd_ne upd_same)
def JM:List FuncId:=[9,10,11,12,14,15,16,17,18,19,21,41,42,43,44,46,47,48,52,62,63,64,82,83,84,85,86,110,111,112,113,114,115,116]
def MO (f:FuncId):Bool:=JM.contains f
theorem cC:gM p_ MO:=zh JM (fun f h=>by unfold MO at h;simpa using h) (List.all_eq_true.1 (show (JM.all (Al MO))=true by kernel_rfl))
theorem nz (L O P:Int) (w:J'):
 d_ p_ 11 #[.agg #[.int .i64 L,.int .i64 O,.int .i64 P]] w fun e w'=>e=.returned (.agg #[.int .i64 L,.int .i64 O,.int .i64 P])/\g_ w.heap.size w w':=by
 go_enter func11,ntmps11
 go_wp2
 refine bodyPost_ret (v:=.agg #[.int .i64 L,.int .i64 O,.int .i64 P]) (by simp [results,Tryz.results11,go_sem]) rfl ⟨rfl, ?_⟩
 exact (((h_ _ _).alloc (C_ _) _).alloc (by simp) _).alloc (by simp;omega) _
def Dd.raw (d:Dd):Raw:=⟨⟨d.act.toArray⟩,d.line,d.word⟩
structure cG (x:Option Nat) (w w':J'):Prop where
 size:w.heap.size<=w'.heap.size
 blk:∀(g:Nat) (cs:Array M') (e:TypeId) (f:Nat × Nat),x≠some g->w.heap[g]?=some (Obj.cells cs e f)->w'.heap[g]?=some (Obj.cells cs e f)
section
variable {x:Option Nat} {w w' lZ:J'}
theorem cG.bW (h:g_ w.heap.size w w'):cG none w w':=⟨h.size,fun g _ _ _ _ hg=>(h.block g (fw hg)).trans hg⟩
theorem cG.JD (h:SQ w w') (hs:w.heap.size<=w'.heap.size):cG none w w':=⟨hs,fun g cs e f _ hg=>h g cs e f hg⟩
theorem cG.Ou {v:M'} (h:bg v (.slice none 0 0) w w'):cG v.ownBlock w w':=⟨h.size,fun g _ _ _ hx hg=>(h.block g (fw hg) hx (fun e=>by cases e)).trans hg⟩
theorem cG.of_heap (h:w'.heap=w.heap):cG none w w':=⟨by rw [h];exact C_ _,fun g _ _ _ _ hg=>by rw [h];exact hg⟩
theorem cG.trans (h:cG none w w') (k:cG none w' lZ):cG none w lZ:=⟨D_ h.size k.size,fun g cs e f hx hg=>k.blk g cs e f hx (h.blk g cs e f hx hg)⟩
theorem zH {a:z_} {v:M'} (h:w.cell? a=some v):∃cs e f,w.heap[a.block]?=some (Obj.cells cs e f):=by
 unfold World.cell? at h
 split at h
 ·exact ⟨_,_,_,by assumption⟩
 ·cases h
theorem cG.cell (h:cG x w w') {a:z_} (hx:x≠some a.block) {v:M'} (ha:w.cell? a=some v):w'.cell? a=some v:=by
 obtain ⟨cs,e,f,hb⟩:=zH ha
 exact (World.cell?_of_block ((h.blk _ cs e f hx hb).trans hb.symm)).trans ha
variable {B:Nat}
theorem cG.own (h:cG x w w') {e sz n:Nat} {v:M'} {xs:List M'} (ho:w.ownsRow B e sz v n xs) (hx:∀g,v.ownBlock=some g->x≠some g):w'.ownsRow B e sz v n xs:=
 fE ho fun g hg=>by
  obtain ⟨c,hc⟩:=jF ho hg
  rw [hc];exact h.blk g c e (0,0) (hx g hg) hc
structure ju (B kb:Nat) (L O P:Int) (ta:Option z_) (ds:List Dd) (w:J'):Prop where
 box:w.heap[kb]?=some (.cells #[.int .i64 L,.int .i64 O,.int .i64 P] 23 (0,0))
 kb:kb<B
 ev:cR w ta ds
 K8:ds≠[]->∀b off,ta=some ⟨b,off,none⟩->b<B
 tab:∃g cs e f,g<B/\Tryz.prog.globalNamed "internal/strconv.uint64pow10" =some g/\w.heap[g]?=some (Obj.cells cs e f)/\cs=(Lib.pow10Tab.map fun z=>Value.int .u64 z).toArray
variable {kb:Nat} {L O P:Int} {ta:Option z_} {ds:List Dd}
theorem ju.was (h:ju B kb L O P ta ds w) (k:cG x w w') (hx:∀g,x=some g->B<=g):ju B kb L O P ta ds w':=by
 have hn:∀g,g<B->x≠some g:=fun g hg e=>by have:=hx g e;omega
 refine ⟨k.blk _ _ _ _ (hn _ h.kb) h.box,h.kb, ?_,h.K8, ?_⟩
 ·rcases h.ev with rfl|⟨b,off,rfl,hb,hc⟩
  ·exact .inl rfl
  ·by_cases h0:ds=[]
   ·exact .inl h0
   have OV:=hn _ (h.K8 h0 b off rfl)
   exact .inr ⟨b,off,rfl,E_ hb k.size,fun i hi=>⟨k.cell OV (hc i hi).1,k.cell OV (hc i hi).2.1,k.cell OV (hc i hi).2.2⟩⟩
 ·obtain ⟨g,cs,e,f,h1,h2,h3,h4⟩:=h.tab
  exact ⟨g,cs,e,f,h1,h2,k.blk _ _ _ _ (hn _ h1) h3,h4⟩
theorem ju.N6 (h:ju B kb L O P ta ds w):qO w:=by
 obtain ⟨g,cs,e,f,h1,h2,h3,h4⟩:=h.tab
 exact ⟨g,cs,e,f,h2,h3,h4⟩
theorem ju.cells (h:ju B kb L O P ta ds w):w.cell? ⟨kb,0,none⟩=some (.int .i64 L)/\w.cell? ⟨kb,1,none⟩=some (.int .i64 O)/\w.cell? ⟨kb,2,none⟩=some (.int .i64 P):=by
 refine ⟨?_, ?_, ?_⟩<;>(rw [aB h.box];rfl)
variable {b:Nat}
theorem tt (h:cR w (some ⟨b,0,none⟩) ds):fF w (some ⟨b,0,none⟩) (ds.map Dd.raw):=by
 rcases h with rfl|⟨b',off,e,hb,hc⟩
 ·exact .inl rfl
 ·injection e with e
  injection e with e1 e2
  subst e1 e2
  by_cases h0:ds=[]
  ·subst h0;exact .inl rfl
  ·have hl:0<ds.length:=List.length_pos_iff.2 h0
   obtain ⟨cs,t,f,jm⟩:=zH (hc 0 hl).1
   refine .inr ⟨b,cs,t,f,rfl,jm,fun k hk=> ?_⟩
   rw [List.length_map] at hk
   obtain ⟨c0,c1,c2⟩:=hc k hk
   rw [aB jm,Nat.zero_add] at c0
   rw [aB jm,Nat.zero_add] at c1
   rw [aB jm,Nat.zero_add] at c2
   rw [List.getElem_map]
   exact ⟨c0,c1,c2⟩
theorem Hk {g:Nat} (h:w.heap[g]?=some (.cells (fM ds ds.length) 55 (0,0))) (hB:B<=g) (hn:ds.length<=1048576):∃xs,w.ownsRow B 55 3 (.slice (some ⟨g,0,none⟩) ds.length ds.length) ds.length xs:=by
 exact ⟨(fM ds ds.length).toList.take (ds.length * 3),by simp [fM],.inr ⟨g,ds.length,_,rfl,hB,h,C_ _,by unfold maxLen;omega,by simp [fM],rfl⟩⟩
end
variable {x:Option Nat}
theorem cG.pre {a b c:J'} (h:cG none a b) (k:cG x b c):cG x a c:=⟨D_ h.size k.size,fun g cs e f hx hg=>k.blk g cs e f hx (h.blk g cs e f (fun e=>by cases e) hg)⟩
variable {w:J'} {B:Nat} {a:Option z_} {ns:List Int}
theorem cM {c:Nat} (h:w.ownsRow B 3 1 (.slice a ns.length c) ns.length (ns.map (Value.int .i64))):eW w a ns:=by
 obtain ⟨a',c',e,hi⟩:=NK h
 injection e with e1 e2 e3
 subst e1
 exact hi
variable {L O P:Int}
theorem CC {rs:List Raw} {R:List Int} (h:Xd L O P rs R):R.length<=1000:=by
 cases ha:da L O P rs with
 |false=>rw [h.1 ha];exact Nat.zero_le _
 |true=>
  obtain ⟨evs,he,_,_,_,_,_,hk⟩:=pF ha
  rw [h.2 ha evs he,List.length_map]
  have:=hk.n2
  omega
variable {w':J'} {zs:List Int}
theorem eW.was (h:eW w a zs) (k:cG x w w') (hx:∀g off,a=some ⟨g,off,none⟩->x≠some g):eW w' a zs:=by
 rcases h with h|⟨b,off,rfl,hb,hc⟩
 ·exact .inl h
 ·exact .inr ⟨b,off,rfl,E_ hb k.size,fun i hi=>k.cell (hx b off rfl) (hc i hi)⟩
noncomputable def ba:Code:=f3.body.getD .skip
end
end Go.aC.Of
