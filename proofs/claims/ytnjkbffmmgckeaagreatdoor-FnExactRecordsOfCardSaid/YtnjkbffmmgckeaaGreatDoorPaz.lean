/-
  The laws' helpers on events and numbers.
-/
import Derived.StillTailTactics
import Derived.Deep.RegionWith
import Derived.Lib.Hide
import Derived.Laws.Rows
import Derived.Lib.QuietBelow
import Derived.BigQuiet
import Derived.Test.YtnjkbffmmgckeaaGreatDoorPaa
import Derived.Test.YtnjkbffmmgckeaaGreatDoorPag
import Derived.Test.YtnjkbffmmgckeaaGreatDoorPay
set_option linter.all false
set_option maxRecDepth 100000
set_option maxHeartbeats 32000000
open Go renaming World->J',Value->M',Calls->d_,Addr->z_
open Go.RowKit renaming Hid->f_,Below->g_
open Go.RowKit.Below renaming refl->h_
open Nat renaming le_refl->C_,le_trans->D_,lt_of_lt_of_le->E_
open Array renaming getElem?_eq_getElem->H_,size_setIfInBounds->X_,getElem?_setIfInBounds->Y_
open Go.Proofs.Tryz renaming prog->p_
open Go.Proofs.Tryz
namespace Go.aC.Of
section
open Go Go.Conc Go.aC Go.Proofs
open Go.RowKit hiding Hid Below
open Go.ConcN (upd upd_ne upd_same)
theorem E5 {u:Nat} (hu:u<=9223372036854775807):(Lib.decDigits u).length<=21:=by
 have h2:=Lib.itoa_length_le (u:Int) (by omega) (by omega)
 unfold Lib.itoa at h2
 rw [if_neg (by omega)] at h2
 simpa using h2
theorem NR (l:List UInt8):(⟨l.toArray⟩:ByteArray).size=l.length:=by simp [ByteArray.size]
theorem MB {a b:ByteArray} (h:a=b):Ending.returned (.string a)=Ending.returned (.string b):=by rw [h]
theorem Mt {a b:ByteArray} (h:a=b):Value.string a=Value.string b:=by rw [h]
theorem vV {k:IntKind} {a b:Int} (h:a=b):Ending.returned (.int k a)=Ending.returned (.int k b):=by rw [h]
variable {w:J'} {b:Nat}
theorem n8 {o:Nat} {c:Array M'} {t:TypeId} {f:Nat × Nat} (h:w.heap[b]?=some (.cells c t f)) (v:M'):(w.setCell ⟨b,o,none⟩ v).heap[b]?=some (.cells (c.setIfInBounds o v) t f):=by
 simp only [World.setCell,Array.getElem?_modify]
 simp [h]
structure Dd where
 act:List UInt8
 line:Int
 word:Int
def Dd.v0 (d:Dd):M':=.string ⟨d.act.toArray⟩
def Dd.cells (d:Dd):List M':=[.string ⟨d.act.toArray⟩,.int .i64 d.line,.int .i64 d.word]
def qL (d:Dd):M':=.agg #[.string ⟨d.act.toArray⟩,.int .i64 d.line,.int .i64 d.word]
theorem D2 (d:Dd) (left:Nat) (w:J') (hl:left<=1048576) (hd:d.act.length<=9223372036854775807):
 d_ p_ 41 #[qL d,.int .i64 left] w fun e w'=>e=.returned (.int .i64 (if d.act.length<=left then ((left - d.act.length:Nat):Int) else -1))/\g_ w.heap.size w w':=by
 have hs:=NR d.act
 obtain ⟨act,line,word⟩:=d
 simp only at hs hd
 simp only [qL]
 generalize hn:act.length=n at *
 have U8:(n:Int)<=9223372036854775807:=by omega
 have Mb:(left:Int)<=1048576:=by omega
 by_cases h:n<=left
 ·have h1:decide ((left:Int) - (n:Int)<0)=false:=by simp;omega
  rw [if_pos h]
  go_enter func41,ntmps41
  go_wp2
  go_ret
  exact ⟨vV (by omega),(h_ _ _).alloc (C_ _) _⟩
 ·have h1:decide ((left:Int) - (n:Int)<0)=true:=by simp;omega
  rw [if_neg h]
  go_enter func41,ntmps41
  go_wp2
  go_ret
  exact ⟨rfl,(h_ _ _).alloc (C_ _) _⟩
def cR (w:J') (a:Option z_) (ds:List Dd):Prop:=
 ds=[]\/∃b off,a=some ⟨b,off,none⟩/\b<w.heap.size/\∀i (h:i<ds.length),w.cell? ⟨b,off+i * 3,none⟩=some (.string ⟨ds[i].act.toArray⟩)/\w.cell? ⟨b,off+i * 3+1,none⟩=some (.int .i64 ds[i].line)/\w.cell? ⟨b,off+i * 3+2,none⟩=some (.int .i64 ds[i].word)
variable {a:Option z_} {ds:List Dd} {i:Nat}
theorem cR.at (h:cR w a ds) (hi:i<ds.length):∃b off,a=some ⟨b,off,none⟩/\b<w.heap.size/\w.cell? ⟨b,off+i * 3,none⟩=some (.string ⟨ds[i].act.toArray⟩)/\w.cell? ⟨b,off+i * 3+1,none⟩=some (.int .i64 ds[i].line)/\w.cell? ⟨b,off+i * 3+2,none⟩=some (.int .i64 ds[i].word):=by
 rcases h with rfl|⟨b,off,rfl,hb,hc⟩
 ·simp at hi
 ·exact ⟨b,off,rfl,hb,hc i hi⟩
variable {w':J'} {B:Nat}
theorem cR.below (h:cR w a ds) (hw:g_ B w w') (hB:w.heap.size<=B):cR w' a ds:=by
 rcases h with rfl|⟨b,off,rfl,hb,hc⟩
 ·exact .inl rfl
 ·exact .inr ⟨b,off,rfl,E_ hb hw.size,fun i hi=>⟨(hw.cell (by show b<B;omega)).trans (hc i hi).1,(hw.cell (by show b<B;omega)).trans (hc i hi).2.1,(hw.cell (by show b<B;omega)).trans (hc i hi).2.2⟩⟩
def BZ (ds:List Dd) (k:Nat):Nat:=ds.length+((ds.take k).map (·.act.length)).sum
theorem IZ (ds:List Dd) (k:Nat) (h:k<ds.length):BZ ds (k+1)=BZ ds k+ds[k].act.length:=by
 unfold BZ;rw [List.take_succ_eq_append_getElem h,List.map_append,List.sum_append]
 simp only [List.map_cons,List.map_nil,List.sum_cons,List.sum_nil]
 omega
theorem PU (ds:List Dd) (k:Nat):BZ ds k<=BZ ds ds.length:=by
 unfold BZ
 have:((ds.take k).map (·.act.length)).sum<=(ds.map (·.act.length)).sum:=by
  have e:(ds.map (·.act.length)).sum=(((ds.take k)++(ds.drop k)).map (·.act.length)).sum:=by rw [List.take_append_drop]
  rw [e,List.map_append,List.sum_append]
  omega
 rw [List.take_length]
 omega
def zn (left n:Nat):Int:=if n<=left then ((left - n:Nat):Int) else -1
theorem BX (a:Option z_) (c:Nat) (ds:List Dd) (left:Nat) (w:J') (hl:left<=1048576) (hn:ds.length<=9223372036854775807) (hd:∀d∈ds,d.act.length<=9223372036854775807) (hA:cR w a ds):
 d_ p_ 9 #[.slice a ds.length c,.int .i64 left] w fun e w'=>e=.returned (.int .i64 (zn left (BZ ds ds.length)))/\g_ w.heap.size w w':=by
 have Mb:(left:Int)<=1048576:=by omega
 have CP:(ds.length:Int)<=9223372036854775807:=by omega
 by_cases h0:ds.length<=left
 ·have h1:decide ((left:Int) - (ds.length:Int)<0)=false:=by simp;omega
  have L9:(ds.length:Int)<=(left:Int):=by omega
  go_enter func9,ntmps9
  go_wp2
  go_loopw [1,5] (fun l i wr=>∃k:Nat,k<=ds.length/\i=.int .i64 k/\BZ ds k<=left/\l=.int .i64 ((left - BZ ds k:Nat):Int)/\g_ w.heap.size w wr) (fun _ i _=>ds.length - (intOf i).toNat)
  case atStart=>exact ⟨0,Nat.zero_le _,rfl,by simp [BZ,h0],by simp [BZ];omega,h_ _ _⟩
  case round=>
   obtain ⟨k,hk,rfl,hsz,rfl,hb⟩:=hrel
   by_cases hlt:k<ds.length
   ·obtain ⟨b,off,rfl,ub,KE,BK,BJ⟩:=(hA.below hb (C_ _)).at hlt
    have gJ:(k:Int)<(ds.length:Int):=by omega
    have hsd:=Lib.hid (fun w=>D2 ds[k] (left - BZ ds k) w (by omega) (hd _ (by simp)))
    have hss:=IZ ds k hlt
    by_cases U2:ds[k].act.length<=left - BZ ds k
    ·have iq:decide (((left - BZ ds k - ds[k].act.length:Nat):Int)<0)=false:=by simp
     go_wp2_with (go_at_call 41;refine (hsd.out _).mono ?_;rintro e w1 ⟨he,HJ⟩;rw [if_pos U2] at he;subst he)
     go_roundw
     case rel=>exact ⟨k+1,by omega,by go_num,by omega,by go_num,hb.trans (HJ.mono hb.size)⟩
     case measure=>simp [intOf];omega
    ·have hle:=PU ds (k+1)
     go_wp2_with (go_at_call 41;refine (hsd.out _).mono ?_;rintro e w1 ⟨he,HJ⟩;rw [if_neg U2] at he;subst he)
     go_ret
     exact ⟨vV (by unfold zn;rw [if_neg (by omega)]),hb.trans (HJ.mono hb.size)⟩
   ·obtain rfl:k=ds.length:=by omega
    go_wp2
    go_ret
    exact ⟨vV (by unfold zn;rw [if_pos hsz]),hb⟩
 ·have h1:decide ((left:Int) - (ds.length:Int)<0)=true:=by simp;omega
  go_enter func9,ntmps9
  go_wp2
  go_ret
  exact ⟨vV (by unfold zn;rw [if_neg (by unfold BZ;omega)]),h_ _ _⟩
def sO (d:Dd):Nat->M'
 |0=>.string ⟨d.act.toArray⟩
 |1=>.int .i64 d.line
 |_=>.int .i64 d.word
def yU:Dd:=⟨[],0,0⟩
def fM (ds:List Dd) (k:Nat):Array M':=Array.ofFn (n:=ds.length * 3) fun j=>sO (if j.val / 3<k then ds.getD (j.val / 3) yU else yU) (j.val % 3)
theorem jY (ds:List Dd) (k j:Nat) (h:j<ds.length * 3):(fM ds k)[j]?=some (sO (if j / 3<k then ds.getD (j / 3) yU else yU) (j % 3)):=by
 simp [fM,h]
theorem HT (ds:List Dd) (k:Nat) (h:k<ds.length):
 (((fM ds k).setIfInBounds (k * 3) (.string ⟨ds[k].act.toArray⟩)).setIfInBounds (k * 3+1) (.int .i64 ds[k].line)).setIfInBounds (k * 3+2) (.int .i64 ds[k].word)=fM ds (k+1):=by
 apply Array.ext_getElem?
 intro j
 rcases Nat.lt_or_ge j (ds.length * 3) with h3|h3
 ·rw [jY ds _ j h3]
  simp only [Y_,jY ds k j h3,X_]
  have hs:(fM ds k).size=ds.length * 3:=by simp [fM]
  rw [hs]
  by_cases e2:k * 3+2=j
  ·subst e2
   rw [if_pos rfl,if_pos (by omega),if_pos (by omega),show (k * 3+2) / 3=k from by omega,show (k * 3+2) % 3=2 from by omega]
   simp [sO,List.getD,h]
  rw [if_neg e2]
  by_cases e1:k * 3+1=j
  ·subst e1
   rw [if_pos rfl,if_pos (by omega),if_pos (by omega),show (k * 3+1) / 3=k from by omega,show (k * 3+1) % 3=1 from by omega]
   simp [sO,List.getD,h]
  rw [if_neg e1]
  by_cases e0:k * 3=j
  ·subst e0
   rw [if_pos rfl,if_pos (by omega),if_pos (by omega),show k * 3 / 3=k from by omega,show k * 3 % 3=0 from by omega]
   simp [sO,List.getD,h]
  rw [if_neg e0]
  by_cases hk:j / 3<k
  ·rw [if_pos hk,if_pos (by omega)]
  ·rw [if_neg hk,if_neg (by omega)]
 ·rw [Array.getElem?_eq_none (by simpa [fM] using h3),Array.getElem?_eq_none (by simpa [fM] using h3)]
theorem cR.wV {t:TypeId} {f:Nat × Nat} (h:w.heap[b]?=some (.cells (fM ds ds.length) t f)):cR w (some ⟨b,0,none⟩) ds:=by
 refine .inr ⟨_,_,rfl,(cI h),fun i hi=> ?_⟩
 unfold World.cell?
 simp only [h,Nat.zero_add]
 refine ⟨?_, ?_, ?_⟩
 ·simp [jY ds _ (i * 3) (by omega),show i * 3 / 3=i from by omega,sO,List.getD,hi]
 ·simp [jY ds _ (i * 3+1) (by omega),show (i * 3+1) / 3=i from by omega,show (i * 3+1) % 3=1 from by omega,sO,List.getD,hi]
 ·simp [jY ds _ (i * 3+2) (by omega),show (i * 3+2) / 3=i from by omega,show (i * 3+2) % 3=2 from by omega,sO,List.getD,hi]
theorem Qm:(Tryz.prog.info? 55).map (fun i=>(i.zero,i.size,i.bytes))=some (some (.agg #[.string ⟨#[]⟩,.int .i64 0,.int .i64 0]),3,32):=by kernel_rfl
theorem Et (ds:List Dd):madeCells (Value.agg #[.string ⟨#[]⟩,.int .i64 0,.int .i64 0]).cells (ds.length * 3)=fM ds 0:=by
 apply Array.ext
 ·simp [madeCells,fM]
 ·intro j h1 h2
  simp only [madeCells,fM,Value.cells,Array.getElem_map,Array.getElem_range,Array.getElem_ofFn]
  rw [if_neg (by omega)]
  have:j % 3=0\/j % 3=1\/j % 3=2:=by omega
  rcases this with h|h|h<;>simp [h,sO,yU]
theorem JH (w:J') (ds:List Dd) (h:ds.length<=1048576):(Instr.makeSlice 30 (.int .i64 (ds.length:Int)) (.int .i64 (ds.length:Int))).run p_ w=.ok (.slice (some ⟨w.heap.size,0,none⟩) ds.length ds.length) (w.alloc (.cells (fM ds 0) 55)):=by
 obtain ⟨i0,hi,tX,rm,uF⟩:=info_parts Qm
 have:=run_make (P:=p_) w 30 55 i0 _ Tryz.underlying30 hi tX .i64 .i64 ds.length ds.length (by omega) (by omega) (by rw [uF];omega) (by omega)
 rw [this,rm]
 simp only [Int.toNat_natCast]
 rw [Et]
theorem DZ (d:Dd) (w:J'):
 d_ p_ 44 #[qL d] w fun e w'=>e=.returned (qL d)/\g_ w.heap.size w w':=by
 obtain ⟨act,line,word⟩:=d
 simp only [qL]
 go_enter func44,ntmps44
 go_wp2
 refine bodyPost_ret (v:=.agg #[.string ⟨act.toArray⟩,.int .i64 line,.int .i64 word]) (by simp [results,Tryz.results44,go_sem]) rfl ⟨rfl, ?_⟩
 exact (((h_ _ _).alloc (C_ _) _).alloc (by simp) _).alloc (by simp;omega) _
theorem lN (a:Option z_) (c:Nat) (ds:List Dd) (w:J') (hn:ds.length<=1048576) (hA:cR w a ds):
 d_ p_ 12 #[.slice a ds.length c] w fun e w'=>e=.returned (.slice (some ⟨w.heap.size,0,none⟩) ds.length ds.length)/\w'.heap[w.heap.size]?=some (.cells (fM ds ds.length) 55 (0,0))/\g_ w.heap.size w w':=by
 have Ng:=JH w ds hn
 go_enter func12,ntmps12
 go_wp2
 go_loopw [4] (fun i wr=>∃k:Nat,k<=ds.length/\i=.int .i64 k/\wr.heap[w.heap.size]?=some (.cells (fM ds k) 55)/\w.heap.size<wr.heap.size/\g_ w.heap.size w wr) (fun i _=>ds.length - (intOf i).toNat)
 case atStart=>exact ⟨0,Nat.zero_le _,rfl,heap_alloc_new _ _,by simp,(h_ _ _).alloc (C_ _) _⟩
 case round=>
  obtain ⟨k,hk,rfl,jm,ub,hb⟩:=hrel
  by_cases hlt:k<ds.length
  ·obtain ⟨b,off,rfl,uf,KE,BK,BJ⟩:=(hA.below hb (C_ _)).at hlt
   have gJ:(k:Int)<(ds.length:Int):=by omega
   go_wp2_with fail
   refine (DZ ds[k] _).mono ?_
   rintro e w1 ⟨rfl,eo⟩
   simp only [qL]
   have uP:w1.heap[w.heap.size]?=some (.cells (fM ds k) 55):=by rw [eo.block _ ub];exact jm
   have f0:w1.frozen? ⟨w.heap.size,k * 3,none⟩=false:=bX uP
   have f1:w1.frozen? ⟨w.heap.size,k * 3+1,none⟩=false:=bX uP
   have f2:w1.frozen? ⟨w.heap.size,k * 3+2,none⟩=false:=bX uP
   have g0:=(aB uP).trans (jY ds k (k * 3) (by omega))
   have g1:=(aB uP).trans (jY ds k (k * 3+1) (by omega))
   have g2:=(aB uP).trans (jY ds k (k * 3+2) (by omega))
   have vD:=Lib.hid (n8 (n8 (n8 uP (o:=k * 3) (.string ⟨ds[k].act.toArray⟩)) (o:=k * 3+1) (.int .i64 ds[k].line)) (o:=k * 3+2) (.int .i64 ds[k].word))
   have yf:=Lib.hid (HT ds k hlt)
   have Qz:=eo.size
   clear uP jm
   go_wp2
   go_roundw
   case rel=>exact ⟨k+1,by omega,by go_num,by rw [<-yf.out];exact vD.out,by simp;omega,(((hb.trans (eo.mono hb.size)).setCell (C_ _) _).setCell (C_ _) _).setCell (C_ _) _⟩
   case measure=>simp [intOf];omega
  ·obtain rfl:k=ds.length:=by omega
   go_wp2
   go_ret
   exact ⟨rfl,jm,hb⟩
theorem Df (d:Dd) (w:J'):
 d_ p_ 46 #[qL d,qL d] w fun e w'=>e=.returned (.bool true)/\g_ w.heap.size w w':=by
 obtain ⟨act,line,word⟩:=d
 simp only [qL]
 go_enter func46,ntmps46
 go_wp2
 go_ret
 exact ⟨rfl,((h_ _ _).alloc (C_ _) _).alloc (by simp) _⟩
theorem Bg (a b:Option z_) (ca cb:Nat) (ds:List Dd) (w:J') (hn:ds.length<=1048576) (hA:cR w a ds) (hB:cR w b ds):
 d_ p_ 15 #[.slice a ds.length ca,.slice b ds.length cb] w fun e w'=>e=.returned (.bool true)/\g_ w.heap.size w w':=by
 go_enter func15,ntmps15
 go_wp2
 go_loopw [5] (fun i wr=>∃k:Nat,k<=ds.length/\i=.int .i64 k/\g_ w.heap.size w wr) (fun i _=>ds.length - (intOf i).toNat)
 case atStart=>exact ⟨0,Nat.zero_le _,rfl,h_ _ _⟩
 case round=>
  obtain ⟨k,hk,rfl,hb⟩:=hrel
  by_cases hlt:k<ds.length
  ·obtain ⟨b1,Yx,rfl,ZJ,O1,WS,h12⟩:=(hA.below hb (C_ _)).at hlt
   obtain ⟨b2,Yw,rfl,ZI,h20,h21,h22⟩:=(hB.below hb (C_ _)).at hlt
   have gJ:(k:Int)<(ds.length:Int):=by omega
   have heq:=Lib.hid (fun w=>Df ds[k] w)
   simp only [qL] at heq
   go_wp2
   go_still_tail 8,(by kernel_rfl)
   go_wp2_with fail
   refine (heq.out _).mono ?_
   rintro e w1 ⟨rfl,eo⟩
   go_wp2
   go_roundw
   case rel=>exact ⟨k+1,by omega,by go_num,(hb.drew).trans (eo.mono hb.size)⟩
   case measure=>simp [intOf];omega
  ·go_wp2
   go_ret
   exact ⟨rfl,hb⟩
def Ov (k:Nat):List UInt8:=109::Lib.decDigits k
def Ay (v:Nat) (l:List UInt8):List UInt8:=if v=0 then l else ox v l
theorem Hp {v:Nat} (l:List UInt8) (h:0<v):Ay (v / 10) (UInt8.ofNat (48+v % 10)::l)=Ay v l:=by
 unfold Ay
 rw [if_neg (by omega:¬v=0)]
 by_cases h9:9<v
 ·rw [if_neg (by omega),xT _ _ h9]
 ·rw [if_pos (by omega),xU _ _ (by omega),Nat.mod_eq_of_lt (by omega)]
theorem JI {v u:Nat} {l:List UInt8} (h:Ay v l=Lib.decDigits u) (hu:u<=9223372036854775807):l.length<=21:=by
 unfold Ay at h
 split at h
 ·rw [h];exact E5 hu
 ·exact zD h hu
theorem AB (u:Nat) (w:J') (h0:0<u) (hu:u<=9223372036854775807):
 d_ p_ 47 #[.int .i64 (u:Int)] w fun e w'=>e=.returned (.string ⟨(Ov u).toArray⟩)/\g_ w.heap.size w w':=by
 have h1:¬(u:Int)<=0:=by omega
 go_enter func47,ntmps47
 go_wp2
 go_loopw [0,3] (fun n out wr=>∃(v:Nat) (l:List UInt8),n=.int .i64 (v:Int)/\v<=9223372036854775807/\out=.string ⟨l.toArray⟩/\f_ (Ay v l=Lib.decDigits u)/\g_ w.heap.size w wr) (fun n _ _=>(intOf n).toNat)
 case atStart=>exact ⟨u,[],rfl,hu,rfl,by simp [f_,Ay,ox];omega,h_ _ _⟩
 case round=>
  obtain ⟨v,l,rfl,hv,rfl,H,hb⟩:=hrel
  have Ma:=JI H.out hu
  by_cases hlt:0<v
  ·have gJ:(0:Int)<(v:Int):=by omega
   obtain ⟨c,hc⟩:∃c:UInt8,UInt8.ofNat (48+v % 10)=c:=⟨_,rfl⟩
   have hcv:=uj wr (48+(v:Int) % 10)
   rw [show (48+(v:Int) % 10).toNat=48+v % 10 from by omega,hc] at hcv
   have H2:f_ (Ay (v / 10) (c::l)=Lib.decDigits u):=by rw [f_,<-hc,Hp _ hlt];exact H.out
   clear hc
   go_wp2
   go_roundw
   case rel=>exact ⟨v / 10,c::l,by go_num,by omega,Mt (Gv _ _),H2,hb.alloc hb.size _⟩
   case measure=>simp [intOf];omega
  ·obtain rfl:v=0:=by omega
   have H2:f_ (l=Lib.decDigits u):=by have:=H.out;unfold Ay at this;rw [f_];simpa using this
   go_wp2
   go_ret
   exact ⟨MB (by rw [Gv,H2.out];rfl),hb⟩
def zm (n:Nat):List Dd:=(List.range n).map fun (i:Nat)=>⟨Ov (1+3 * i),2+3 * (i:Int),3+3 * (i:Int)⟩
theorem AE (n:Nat):(zm n).length=n:=by simp [zm]
theorem JK (n i:Nat) (h:i<(zm n).length):(zm n)[i]=⟨Ov (1+3 * i),2+3 * (i:Int),3+3 * (i:Int)⟩:=by simp [zm]
theorem Es {cu:Array M'} {k:Nat} {m:ByteArray} (h:∀j:Nat,j<k->cu[j * 3]?=some (.string ⟨(Ov (1+3 * j)).toArray⟩)/\cu[j * 3+1]?=some (.int .i64 (2+3 * (j:Int)))/\cu[j * 3+2]?=some (.int .i64 (3+3 * (j:Int))))
 (hm:m=⟨(Ov (1+3 * k)).toArray⟩) (hs:k * 3+2<cu.size):
 let c:=((cu.setIfInBounds (k * 3) (.string m)).setIfInBounds (k * 3+1) (.int .i64 (1+3 * (k:Int)+1))).setIfInBounds (k * 3+2) (.int .i64 (1+3 * (k:Int)+1+1))
 ∀j:Nat,j<k+1->c[j * 3]?=some (.string ⟨(Ov (1+3 * j)).toArray⟩)/\c[j * 3+1]?=some (.int .i64 (2+3 * (j:Int)))/\c[j * 3+2]?=some (.int .i64 (3+3 * (j:Int))):=by
 intro c j hj
 subst hm
 simp only [c,Y_,X_]
 by_cases e:j=k
 ·subst e
  refine ⟨?_, ?_, ?_⟩
  ·rw [if_neg (by omega),if_neg (by omega),if_pos rfl,if_pos (by omega)]
  ·rw [if_neg (by omega),if_pos rfl,if_pos (by omega)];congr 2;omega
  ·rw [if_pos rfl,if_pos (by omega)];congr 2;omega
 ·obtain ⟨h0,h1,h2⟩:=h j (by omega)
  refine ⟨?_, ?_, ?_⟩<;>rw [if_neg (by omega),if_neg (by omega),if_neg (by omega)]<;>assumption
theorem yz (v:M') (base n:Nat) (xs:List M') (w:J') (hn:n<=1048576) (ub:base<=w.heap.size) (iw:w.ownsRow base 55 3 v n xs):
 d_ p_ 16 #[v,.int .i64 1] w fun e w'=>e=.returned (.int .i64 (1+3 * n))/\(∃a c,v=.slice a n c/\cR w' a (zm n))/\bg v (.slice none 0 0) w w':=by
 rcases iw.2 with ⟨rfl,h0⟩|⟨g,cap,cur,rfl,hb,hg,lJ,_,hcs,_⟩
 ·subst h0
  go_enter func16,ntmps16
  go_wp2
  go_loopw [1,5] (fun m i wr=>m=.int .i64 1/\i=.int .i64 0/\w=wr) (fun _ _ _=>0)
  case atStart=>exact ⟨rfl,rfl,rfl⟩
  case round=>
   obtain ⟨rfl,rfl,rfl⟩:=hrel
   go_wp2
   go_ret
   exact ⟨rfl,⟨_,_,rfl,.inl rfl⟩,bg.refl _ _ _⟩
 ·go_enter func16,ntmps16
  go_wp2
  go_loopw [1,5] (fun m i wr=>∃(k:Nat) (cu:Array M'),k<=n/\i=.int .i64 k/\m=.int .i64 (1+3 * (k:Int))/\wr.heap[g]?=some (.cells cu 55 (0,0))/\cu.size=cap * 3/\(∀j:Nat,j<k->cu[j * 3]?=some (.string ⟨(Ov (1+3 * j)).toArray⟩)/\cu[j * 3+1]?=some (.int .i64 (2+3 * (j:Int)))/\cu[j * 3+2]?=some (.int .i64 (3+3 * (j:Int))))/\bg (.slice (some ⟨g,0,none⟩) n cap) (.slice none 0 0) w wr) (fun _ i _=>n - (intOf i).toNat)
  case atStart=>exact ⟨0,cur,Nat.zero_le _,rfl,rfl,hg,by omega,fun j hj=>by omega,bg.refl _ _ _⟩
  case round=>
   obtain ⟨k,cu,hk,rfl,rfl,uN,Gk,eU,lW⟩:=hrel
   by_cases hlt:k<n
   ·have gJ:(k:Int)<(n:Int):=by omega
    have θ:=Lib.hid (fun w=>AB (1+3 * k) w (by omega) (by omega))
    rw [show (((1+3 * k:Nat):Int))=1+3 * (k:Int) from by omega] at θ
    generalize hmx:(⟨(Ov (1+3 * k)).toArray⟩:ByteArray)=mx at *
    go_wp2_with fail
    refine (θ.out _).mono ?_
    rintro e w1 ⟨rfl,eo⟩
    have Zt:g<wr.heap.size:=(cI uN)
    have BI:w1.heap[g]?=some (.cells cu 55 (0,0)):=(eo.block g Zt).trans uN
    have ZM:bg (.slice (some ⟨g,0,none⟩) n cap) (.slice none 0 0) w w1:=lW.trans (bg.bW eo)
    obtain ⟨x0,YH⟩:∃x,w1.cell? ⟨g,k * 3,none⟩=some x:=⟨_,(aB BI).trans (H_ (by omega))⟩
    have WE:w1.frozen? ⟨g,k * 3,none⟩=false:=bX BI
    have Nu:(w1.setCell ⟨g,k * 3,none⟩ (.string mx)).heap[g]?=some (.cells (cu.setIfInBounds (k * 3) (.string mx)) 55 (0,0)):=n8 BI _
    obtain ⟨x1,AP⟩:∃x,(w1.setCell ⟨g,k * 3,none⟩ (.string mx)).cell? ⟨g,k * 3+1,none⟩=some x:=⟨_,(aB Nu).trans (H_ (by rw [X_];omega))⟩
    have Mh:(w1.setCell ⟨g,k * 3,none⟩ (.string mx)).frozen? ⟨g,k * 3+1,none⟩=false:=bX Nu
    have mS:((w1.setCell ⟨g,k * 3,none⟩ (.string mx)).setCell ⟨g,k * 3+1,none⟩ (.int .i64 (1+3 * (k:Int)+1))).heap[g]?=some (.cells ((cu.setIfInBounds (k * 3) (.string mx)).setIfInBounds (k * 3+1) (.int .i64 (1+3 * (k:Int)+1))) 55 (0,0)):=n8 Nu _
    obtain ⟨x2,M0⟩:∃x,((w1.setCell ⟨g,k * 3,none⟩ (.string mx)).setCell ⟨g,k * 3+1,none⟩ (.int .i64 (1+3 * (k:Int)+1))).cell? ⟨g,k * 3+2,none⟩=some x:=⟨_,(aB mS).trans (H_ (by rw [X_,X_];omega))⟩
    have nj:((w1.setCell ⟨g,k * 3,none⟩ (.string mx)).setCell ⟨g,k * 3+1,none⟩ (.int .i64 (1+3 * (k:Int)+1))).frozen? ⟨g,k * 3+2,none⟩=false:=bX mS
    have lI:=Lib.hid (Es (m:=mx) eU (by rw [<-hmx]) (by omega:k * 3+2<cu.size))
    clear hg hcs eU uN hmx
    go_wp2
    all_goals
     go_roundw
     case rel=>exact ⟨k+1,_,by omega,by go_num,by go_num,n8 mS _,by simp only [X_];exact Gk,lI.out,((ZM.trans (bg.te rfl)).trans (bg.te rfl)).trans (bg.te rfl)⟩
     case measure=>simp [intOf];omega
   ·obtain rfl:k=n:=by omega
    go_wp2
    go_ret
    refine ⟨rfl,⟨_,_,rfl,.inr ⟨g,0,rfl,(cI uN),fun i hi=> ?_⟩⟩,lW⟩
    rw [AE] at hi
    have h3:=eU i hi
    simp only [Nat.zero_add,JK]
    rw [aB uN,aB uN,aB uN]
    exact h3
def eW (w:J') (a:Option z_) (zs:List Int):Prop:=
 zs=[]\/∃b off,a=some ⟨b,off,none⟩/\b<w.heap.size/\∀i,i<zs.length->w.cell? ⟨b,off+i,none⟩=some (.int .i64 (zs.getD i 0))
def marks (n:Nat):List Int:=(List.range n).map fun (i:Nat)=>(1+i:Int)
end
section
open Go Go.Conc Go.Conc.Lib Go.ConcR Go.ConcR.Gen Go.aC Go.Proofs
open Go.RowKit hiding Hid Below
open Go.ConcN (upd upd_ne upd_same)
def JM:List FuncId:=[9,10,11,12,14,15,16,17,18,19,21,41,42,43,44,46,47,48,52,62,63,64,82,83,84,85,86,110,111,112,113,114,115,116]
def MO (f:FuncId):Bool:=JM.contains f
theorem nz (L O P:Int) (w:J'):
 d_ p_ 11 #[.agg #[.int .i64 L,.int .i64 O,.int .i64 P]] w fun e w'=>e=.returned (.agg #[.int .i64 L,.int .i64 O,.int .i64 P])/\g_ w.heap.size w w':=by
 go_enter func11,ntmps11
 go_wp2
 refine bodyPost_ret (v:=.agg #[.int .i64 L,.int .i64 O,.int .i64 P]) (by simp [results,Tryz.results11,go_sem]) rfl ⟨rfl, ?_⟩
 exact (((h_ _ _).alloc (C_ _) _).alloc (by simp) _).alloc (by simp;omega) _
def Dd.raw (d:Dd):Raw:=⟨⟨d.act.toArray⟩,d.line,d.word⟩
structure cG (x:Option Nat) (w w':J'):Prop where
 size:w.heap.size<=w'.heap.size
 blk:∀(g:Nat) (cs:Array M') (e:TypeId) (f:Nat × Nat),x≠some g->w.heap[g]?=some (Obj.cells cs e f)->w'.heap[g]?=some (Obj.cells cs e f)
section
variable {x:Option Nat} {w w' lZ:J'}
theorem cG.bW (h:g_ w.heap.size w w'):cG none w w':=⟨h.size,fun g _ _ _ _ hg=>(h.block g (fw hg)).trans hg⟩
theorem cG.JD (h:SQ w w') (hs:w.heap.size<=w'.heap.size):cG none w w':=⟨hs,fun g cs e f _ hg=>h g cs e f hg⟩
theorem cG.Ou {v:M'} (h:bg v (.slice none 0 0) w w'):cG v.ownBlock w w':=⟨h.size,fun g _ _ _ hx hg=>(h.block g (fw hg) hx (fun e=>by cases e)).trans hg⟩
theorem cG.of_heap (h:w'.heap=w.heap):cG none w w':=⟨by rw [h];exact C_ _,fun g _ _ _ _ hg=>by rw [h];exact hg⟩
theorem cG.trans (h:cG none w w') (k:cG none w' lZ):cG none w lZ:=⟨D_ h.size k.size,fun g cs e f hx hg=>k.blk g cs e f hx (h.blk g cs e f hx hg)⟩
theorem zH {a:z_} {v:M'} (h:w.cell? a=some v):∃cs e f,w.heap[a.block]?=some (Obj.cells cs e f):=by
 unfold World.cell? at h
 split at h
 ·exact ⟨_,_,_,by assumption⟩
 ·cases h
theorem cG.cell (h:cG x w w') {a:z_} (hx:x≠some a.block) {v:M'} (ha:w.cell? a=some v):w'.cell? a=some v:=by
 obtain ⟨cs,e,f,hb⟩:=zH ha
 exact (World.cell?_of_block ((h.blk _ cs e f hx hb).trans hb.symm)).trans ha
variable {B:Nat} {xs:List M'}
theorem cG.own (h:cG x w w') {e sz n:Nat} {v:M'} (ho:w.ownsRow B e sz v n xs) (hx:∀g,v.ownBlock=some g->x≠some g):w'.ownsRow B e sz v n xs:=
 fE ho fun g hg=>by
  obtain ⟨c,hc⟩:=jF ho hg
  rw [hc];exact h.blk g c e (0,0) (hx g hg) hc
structure ju (B kb:Nat) (L O P:Int) (ta:Option z_) (ds:List Dd) (w:J'):Prop where
 box:w.heap[kb]?=some (.cells #[.int .i64 L,.int .i64 O,.int .i64 P] 23 (0,0))
 kb:kb<B
 ev:cR w ta ds
 K8:ds≠[]->∀b off,ta=some ⟨b,off,none⟩->b<B
 tab:∃g cs e f,g<B/\Tryz.prog.globalNamed "internal/strconv.uint64pow10" =some g/\w.heap[g]?=some (Obj.cells cs e f)/\cs=(Lib.pow10Tab.map fun z=>Value.int .u64 z).toArray
variable {kb:Nat} {L O P:Int} {ta:Option z_} {ds:List Dd}
theorem ju.was (h:ju B kb L O P ta ds w) (k:cG x w w') (hx:∀g,x=some g->B<=g):ju B kb L O P ta ds w':=by
 have hn:∀g,g<B->x≠some g:=fun g hg e=>by have:=hx g e;omega
 refine ⟨k.blk _ _ _ _ (hn _ h.kb) h.box,h.kb, ?_,h.K8, ?_⟩
 ·rcases h.ev with rfl|⟨b,off,rfl,hb,hc⟩
  ·exact .inl rfl
  ·by_cases h0:ds=[]
   ·exact .inl h0
   have OV:=hn _ (h.K8 h0 b off rfl)
   exact .inr ⟨b,off,rfl,E_ hb k.size,fun i hi=>⟨k.cell OV (hc i hi).1,k.cell OV (hc i hi).2.1,k.cell OV (hc i hi).2.2⟩⟩
 ·obtain ⟨g,cs,e,f,h1,h2,h3,h4⟩:=h.tab
  exact ⟨g,cs,e,f,h1,h2,k.blk _ _ _ _ (hn _ h1) h3,h4⟩
theorem ju.N6 (h:ju B kb L O P ta ds w):qO w:=by
 obtain ⟨g,cs,e,f,h1,h2,h3,h4⟩:=h.tab
 exact ⟨g,cs,e,f,h2,h3,h4⟩
theorem ju.cells (h:ju B kb L O P ta ds w):w.cell? ⟨kb,0,none⟩=some (.int .i64 L)/\w.cell? ⟨kb,1,none⟩=some (.int .i64 O)/\w.cell? ⟨kb,2,none⟩=some (.int .i64 P):=by
 refine ⟨?_, ?_, ?_⟩<;>(rw [aB h.box];rfl)
variable {b:Nat}
theorem tt (h:cR w (some ⟨b,0,none⟩) ds):fF w (some ⟨b,0,none⟩) (ds.map Dd.raw):=by
 rcases h with rfl|⟨b',off,e,hb,hc⟩
 ·exact .inl rfl
 ·injection e with e
  injection e with e1 e2
  subst e1 e2
  by_cases h0:ds=[]
  ·subst h0;exact .inl rfl
  ·have hl:0<ds.length:=List.length_pos_iff.2 h0
   obtain ⟨cs,t,f,jm⟩:=zH (hc 0 hl).1
   refine .inr ⟨b,cs,t,f,rfl,jm,fun k hk=> ?_⟩
   rw [List.length_map] at hk
   obtain ⟨c0,c1,c2⟩:=hc k hk
   rw [aB jm,Nat.zero_add] at c0
   rw [aB jm,Nat.zero_add] at c1
   rw [aB jm,Nat.zero_add] at c2
   rw [List.getElem_map]
   exact ⟨c0,c1,c2⟩
theorem Hk {g:Nat} (h:w.heap[g]?=some (.cells (fM ds ds.length) 55 (0,0))) (hB:B<=g) (hn:ds.length<=1048576):∃xs,w.ownsRow B 55 3 (.slice (some ⟨g,0,none⟩) ds.length ds.length) ds.length xs:=by
 exact ⟨(fM ds ds.length).toList.take (ds.length * 3),by simp [fM],.inr ⟨g,ds.length,_,rfl,hB,h,C_ _,by unfold maxLen;omega,by simp [fM],rfl⟩⟩
end
variable {w w':J'} {xs:List M'} {B:Nat}
theorem gL.VG {v:M'} {n:Nat} (h:gL w v n xs) (hw:g_ B w w') (hB:w.heap.size<=B):gL w' v n xs:=by
 refine ⟨h.1,fun hl=> ?_⟩
 obtain ⟨g,cap,hv,hc,hcell⟩:=h.2 hl
 refine ⟨g,cap,hv,hc,fun j hj=>(hw.cell ?_).trans (hcell j hj)⟩
 have h0:=hcell j hj
 rw [List.getElem?_eq_getElem hj] at h0
 obtain ⟨_,_,_,hb⟩:=zH h0
 exact E_ (fw hb) hB
def ZV (r:Rec):M':=.agg #[.int .i64 r.call,.int .i64 r.line,.int .i64 r.op,.int .i64 r.jy,.int .i64 r.heard,.int .i64 r.wI,.string ⟨r.fin.toArray⟩]
theorem NK (r:Rec) (w:J'):
 d_ p_ 49 #[ZV r,ZV r] w fun e w'=>e=.returned (.bool true)/\g_ w.heap.size w w':=by
 obtain ⟨c,l,o,f,h,t,e⟩:=r
 simp only [ZV]
 go_enter func49,ntmps49
 go_wp2
 go_ret
 exact ⟨rfl,((h_ _ _).alloc (C_ _) _).alloc (by simp) _⟩
variable {a:Option z_} {i:Nat}
theorem RP {c:Nat} {rs:List Rec} (h:gL w (.slice a rs.length c) rs.length (cj rs)) (hi:i<rs.length):∃g,a=some ⟨g,0,none⟩/\rs.length<=c/\(w.cell? ⟨g,i * 7,none⟩=some (.int .i64 (rs[i]).call)/\w.cell? ⟨g,i * 7+1,none⟩=some (.int .i64 (rs[i]).line)/\w.cell? ⟨g,i * 7+2,none⟩=some (.int .i64 (rs[i]).op)/\w.cell? ⟨g,i * 7+3,none⟩=some (.int .i64 (rs[i]).jy)/\w.cell? ⟨g,i * 7+4,none⟩=some (.int .i64 (rs[i]).heard)/\w.cell? ⟨g,i * 7+5,none⟩=some (.int .i64 (rs[i]).wI)/\w.cell? ⟨g,i * 7+6,none⟩=some (.string ⟨(rs[i]).fin.toArray⟩)):=by
 obtain ⟨g,cap,hv,hc,hx⟩:=nH h hi
 injection hv with h1 _ h3
 subst h3
 exact ⟨g,h1,hc,hx⟩
theorem zY (a b:Option z_) (ca cb:Nat) (rs:List Rec) (w:J') (hn:rs.length<=1048576) (hA:gL w (.slice a rs.length ca) rs.length (cj rs)) (hB:gL w (.slice b rs.length cb) rs.length (cj rs)):
 d_ p_ 23 #[.slice a rs.length ca,.slice b rs.length cb] w fun e w'=>e=.returned (.bool true)/\g_ w.heap.size w w':=by
 go_enter func23,ntmps23
 go_wp2
 go_loopw [5] (fun i wr=>∃k:Nat,k<=rs.length/\i=.int .i64 k/\g_ w.heap.size w wr) (fun i _=>rs.length - (intOf i).toNat)
 case atStart=>exact ⟨0,Nat.zero_le _,rfl,h_ _ _⟩
 case round=>
  obtain ⟨k,hk,rfl,hb⟩:=hrel
  by_cases hlt:k<rs.length
  ·obtain ⟨g1,rfl,BK,p0,p1,p2,p3,p4,p5,p6⟩:=RP (hA.VG hb (C_ _)) hlt
   obtain ⟨g2,rfl,BJ,q0,q1,q2,q3,q4,q5,q6⟩:=RP (hB.VG hb (C_ _)) hlt
   have gJ:(k:Int)<(rs.length:Int):=by omega
   have heq:=Lib.hid (fun w=>NK rs[k] w)
   simp only [ZV] at heq
   generalize rs[k]=r at *
   obtain ⟨r0,r1,r2,r3,r4,r5,r6⟩:=r
   simp only at *
   clear hA hB
   go_wp2
   go_still_tail 8,(by kernel_rfl)
   go_wp2_with fail
   refine (heq.out _).mono ?_
   rintro e w1 ⟨rfl,eo⟩
   go_wp2
   go_roundw
   case rel=>exact ⟨k+1,by omega,by go_num,(hb.drew).trans (eo.mono hb.size)⟩
   case measure=>simp [intOf];omega
  ·go_wp2
   go_ret
   exact ⟨rfl,hb⟩
def se (n:Nat):List Rec:=(List.range n).map fun (i:Nat)=>⟨1+7 * (i:Int),2+7 * (i:Int),3+7 * (i:Int),4+7 * (i:Int),5+7 * (i:Int),6+7 * (i:Int),Ov (7+7 * i)⟩
theorem sC (n:Nat):(se n).length=n:=by simp [se]
theorem T8 (n i:Nat) (h:i<(se n).length):(se n)[i]=⟨1+7 * (i:Int),2+7 * (i:Int),3+7 * (i:Int),4+7 * (i:Int),5+7 * (i:Int),6+7 * (i:Int),Ov (7+7 * i)⟩:=by simp [se]
theorem Vp (n i:Nat) (h:i<n) (r:Nat) (hr:r<7):(cj (se n))[i * 7+r]?=[Value.int .i64 (1+7 * (i:Int)),.int .i64 (2+7 * (i:Int)),.int .i64 (3+7 * (i:Int)),.int .i64 (4+7 * (i:Int)),.int .i64 (5+7 * (i:Int)),.int .i64 (6+7 * (i:Int)),.string ⟨(Ov (7+7 * i)).toArray⟩][r]?:=by
 have:=jr Rec.cells 7 (fun _=>rfl) (se n) i r (by rw [sC];exact h) hr
 rw [T8] at this
 exact this
theorem JJ (v:M') (base n:Nat) (xs:List M') (w:J') (hn:n<=1048576) (iw:w.ownsRow base 44 7 v n xs):
 d_ p_ 24 #[v,.int .i64 1] w fun e w'=>e=.returned (.int .i64 (1+7 * n))/\(∃a c,v=.slice a n c/\gL w' (.slice a n c) n (cj (se n)))/\bg v (.slice none 0 0) w w':=by
 rcases iw.2 with ⟨rfl,h0⟩|⟨g,cap,cur,rfl,hb,hg,lJ,_,hcs,_⟩
 ·subst h0
  go_enter func24,ntmps24
  go_wp2
  go_loopw [1,5] (fun m i wr=>m=.int .i64 1/\i=.int .i64 0/\w=wr) (fun _ _ _=>0)
  case atStart=>exact ⟨rfl,rfl,rfl⟩
  case round=>
   obtain ⟨rfl,rfl,rfl⟩:=hrel
   go_wp2
   go_ret
   exact ⟨rfl,⟨_,_,rfl,⟨_,_,rfl⟩,fun h=>by simp [se,cj] at h⟩,bg.refl _ _ _⟩
 ·go_enter func24,ntmps24
  go_wp2
  go_loopw [1,5] (fun m i wr=>∃(k:Nat) (cu:Array M'),k<=n/\i=.int .i64 k/\m=.int .i64 (1+7 * (k:Int))/\wr.heap[g]?=some (.cells cu 44 (0,0))/\cu.size=cap * 7/\(∀j:Nat,j<k * 7->cu[j]?=(cj (se n))[j]?)/\bg (.slice (some ⟨g,0,none⟩) n cap) (.slice none 0 0) w wr) (fun _ i _=>n - (intOf i).toNat)
  case atStart=>exact ⟨0,cur,Nat.zero_le _,rfl,rfl,hg,by omega,fun j hj=>by omega,bg.refl _ _ _⟩
  case round=>
   obtain ⟨k,cu,hk,rfl,rfl,χ,Gk,eU,L0⟩:=hrel
   by_cases hlt:k<n
   ·have gJ:(k:Int)<(n:Int):=by omega
    have θ:=Lib.hid (fun w=>AB (7+7 * k) w (by omega) (by omega))
    rw [show (((7+7 * k:Nat):Int))=1+7 * (k:Int)+1+1+1+1+1+1 from by omega] at θ
    generalize hmx:(⟨(Ov (7+7 * k)).toArray⟩:ByteArray)=mx at *
    clear hg hcs
    obtain ⟨x0,YH⟩:∃x,wr.cell? ⟨g,k * 7,none⟩=some x:=⟨_,(aB χ).trans (H_ (by omega))⟩
    have WE:wr.frozen? ⟨g,k * 7,none⟩=false:=bX χ
    obtain ⟨w1,cf⟩:∃w',wr.setCell ⟨g,k * 7,none⟩ (.int .i64 (1+7 * (k:Int)))=w':=⟨_,rfl⟩
    obtain ⟨c1,BK⟩:∃c',cu.setIfInBounds (k * 7) (.int .i64 (1+7 * (k:Int)))=c':=⟨_,rfl⟩
    have BI:w1.heap[g]?=some (.cells c1 44 (0,0)):=by rw [<-cf,<-BK];exact n8 χ _
    have rm:c1.size=cap * 7:=by rw [<-BK,X_];exact Gk
    have hr1:bg (.slice (some ⟨g,0,none⟩) n cap) (.slice none 0 0) w w1:=by rw [<-cf];exact L0.trans (bg.te rfl)
    obtain ⟨x1,AP⟩:∃x,w1.cell? ⟨g,k * 7+1,none⟩=some x:=⟨_,(aB BI).trans (H_ (by omega))⟩
    have Mh:w1.frozen? ⟨g,k * 7+1,none⟩=false:=bX BI
    obtain ⟨w2,wh⟩:∃w',w1.setCell ⟨g,k * 7+1,none⟩ (.int .i64 (1+7 * (k:Int)+1))=w':=⟨_,rfl⟩
    obtain ⟨c2,BJ⟩:∃c',c1.setIfInBounds (k * 7+1) (.int .i64 (1+7 * (k:Int)+1))=c':=⟨_,rfl⟩
    have Nu:w2.heap[g]?=some (.cells c2 44 (0,0)):=by rw [<-wh,<-BJ];exact n8 BI _
    have uF:c2.size=cap * 7:=by rw [<-BJ,X_];exact rm
    have l':bg (.slice (some ⟨g,0,none⟩) n cap) (.slice none 0 0) w w2:=by rw [<-wh];exact hr1.trans (bg.te rfl)
    obtain ⟨x2,M0⟩:∃x,w2.cell? ⟨g,k * 7+2,none⟩=some x:=⟨_,(aB Nu).trans (H_ (by omega))⟩
    have nj:w2.frozen? ⟨g,k * 7+2,none⟩=false:=bX Nu
    obtain ⟨w3,CK⟩:∃w',w2.setCell ⟨g,k * 7+2,none⟩ (.int .i64 (1+7 * (k:Int)+1+1))=w':=⟨_,rfl⟩
    obtain ⟨c3,OU⟩:∃c',c2.setIfInBounds (k * 7+2) (.int .i64 (1+7 * (k:Int)+1+1))=c':=⟨_,rfl⟩
    have mS:w3.heap[g]?=some (.cells c3 44 (0,0)):=by rw [<-CK,<-OU];exact n8 Nu _
    have Oz:c3.size=cap * 7:=by rw [<-OU,X_];exact uF
    have hr3:bg (.slice (some ⟨g,0,none⟩) n cap) (.slice none 0 0) w w3:=by rw [<-CK];exact l'.trans (bg.te rfl)
    obtain ⟨x3,hx3⟩:∃x,w3.cell? ⟨g,k * 7+3,none⟩=some x:=⟨_,(aB mS).trans (H_ (by omega))⟩
    have G':w3.frozen? ⟨g,k * 7+3,none⟩=false:=bX mS
    obtain ⟨w4,ψ⟩:∃w',w3.setCell ⟨g,k * 7+3,none⟩ (.int .i64 (1+7 * (k:Int)+1+1+1))=w':=⟨_,rfl⟩
    obtain ⟨c4,π⟩:∃c',c3.setIfInBounds (k * 7+3) (.int .i64 (1+7 * (k:Int)+1+1+1))=c':=⟨_,rfl⟩
    have Θ:w4.heap[g]?=some (.cells c4 44 (0,0)):=by rw [<-ψ,<-π];exact n8 mS _
    have YE:c4.size=cap * 7:=by rw [<-π,X_];exact Oz
    have hr4:bg (.slice (some ⟨g,0,none⟩) n cap) (.slice none 0 0) w w4:=by rw [<-ψ];exact hr3.trans (bg.te rfl)
    obtain ⟨x4,hx4⟩:∃x,w4.cell? ⟨g,k * 7+4,none⟩=some x:=⟨_,(aB Θ).trans (H_ (by omega))⟩
    have hf4:w4.frozen? ⟨g,k * 7+4,none⟩=false:=bX Θ
    obtain ⟨w5,hw5⟩:∃w',w4.setCell ⟨g,k * 7+4,none⟩ (.int .i64 (1+7 * (k:Int)+1+1+1+1))=w':=⟨_,rfl⟩
    obtain ⟨c5,ξ⟩:∃c',c4.setIfInBounds (k * 7+4) (.int .i64 (1+7 * (k:Int)+1+1+1+1))=c':=⟨_,rfl⟩
    have τ:w5.heap[g]?=some (.cells c5 44 (0,0)):=by rw [<-hw5,<-ξ];exact n8 Θ _
    have hz5:c5.size=cap * 7:=by rw [<-ξ,X_];exact YE
    have hr5:bg (.slice (some ⟨g,0,none⟩) n cap) (.slice none 0 0) w w5:=by rw [<-hw5];exact hr4.trans (bg.te rfl)
    obtain ⟨x5,hx5⟩:∃x,w5.cell? ⟨g,k * 7+5,none⟩=some x:=⟨_,(aB τ).trans (H_ (by omega))⟩
    have hf5:w5.frozen? ⟨g,k * 7+5,none⟩=false:=bX τ
    obtain ⟨w6,sk⟩:∃w',w5.setCell ⟨g,k * 7+5,none⟩ (.int .i64 (1+7 * (k:Int)+1+1+1+1+1))=w':=⟨_,rfl⟩
    obtain ⟨c6,ν⟩:∃c',c5.setIfInBounds (k * 7+5) (.int .i64 (1+7 * (k:Int)+1+1+1+1+1))=c':=⟨_,rfl⟩
    have pZ:w6.heap[g]?=some (.cells c6 44 (0,0)):=by rw [<-sk,<-ν];exact n8 τ _
    have hz6:c6.size=cap * 7:=by rw [<-ν,X_];exact hz5
    have hr6:bg (.slice (some ⟨g,0,none⟩) n cap) (.slice none 0 0) w w6:=by rw [<-sk];exact hr5.trans (bg.te rfl)
    have ς:f_ (∀(c:Array M'),c=c6.setIfInBounds (k * 7+6) (.string mx)->∀j:Nat,j<(k+1) * 7->c[j]?=(cj (se n))[j]?):=by
     intro c hc j hj
     by_cases Dy:j<k * 7
     ·rw [hc,<-ν,<-ξ,<-π,<-OU,<-BJ,<-BK]
      simp only [Y_]
      rw [if_neg (by omega),if_neg (by omega),if_neg (by omega),if_neg (by omega),if_neg (by omega),if_neg (by omega),if_neg (by omega)]
      exact eU j Dy
     ·obtain ⟨r,hr,rfl⟩:∃r,r<7/\j=k * 7+r:=⟨j - k * 7,by omega,by omega⟩
      rw [Vp n k hlt r hr,hc,<-ν,<-ξ,<-π,<-OU,<-BJ,<-BK,<-hmx]
      simp only [Y_,X_]
      obtain rfl|rfl|rfl|rfl|rfl|rfl|rfl:r=0\/r=1\/r=2\/r=3\/r=4\/r=5\/r=6:=by omega
      all_goals (repeat' first|rw [if_neg (by omega)]|rw [if_pos (by omega)])
      all_goals (try simp only [List.getElem?_cons_zero,List.getElem?_cons_succ])
      all_goals (try (congr 2;done))
      all_goals (try (congr 2;omega))
    clear BK BJ OU π ξ ν eU hmx
    go_wp2_with fail
    refine (θ.out _).mono ?_
    rintro e w7 ⟨rfl,eo⟩
    have Δ:w7.heap[g]?=some (.cells c6 44 (0,0)):=(eo.block g (fw pZ)).trans pZ
    have hr7:bg (.slice (some ⟨g,0,none⟩) n cap) (.slice none 0 0) w w7:=hr6.trans (bg.bW eo)
    obtain ⟨y,hy⟩:∃x,w7.cell? ⟨g,k * 7+6,none⟩=some x:=⟨_,(aB Δ).trans (H_ (by omega))⟩
    have hfy:w7.frozen? ⟨g,k * 7+6,none⟩=false:=bX Δ
    have hg8:=Lib.hid (n8 Δ (o:=k * 7+6) (.string mx))
    clear eo θ
    go_wp2
    all_goals
     go_roundw
     case rel=>exact ⟨k+1,_,by omega,by go_num,by go_num,hg8.out,by rw [X_];exact hz6,ς _ rfl,hr7.trans (bg.te rfl)⟩
     case measure=>simp [intOf];omega
   ·obtain rfl:k=n:=by omega
    go_wp2
    go_ret
    refine ⟨rfl,⟨_,_,rfl,⟨_,_,rfl⟩,fun _=>⟨g,cap,rfl,by omega,fun j hj=> ?_⟩⟩,L0⟩
    rw [Ad,sC] at hj
    rw [aB χ]
    exact eU j hj
theorem AD (a:Option z_) (c n:Nat) (w:J') (hn:n<=1048576) (hA:gL w (.slice a n c) n (cj (se n))):
 d_ p_ 25 #[.slice a n c,.int .i64 1] w fun e w'=>e=.returned (.int .i64 (1+7 * n))/\g_ w.heap.size w w':=by
 go_enter func25,ntmps25
 go_wp2
 go_loopw [1,5] (fun m i wr=>∃k:Nat,k<=n/\i=.int .i64 k/\m=.int .i64 (1+7 * (k:Int))/\g_ w.heap.size w wr) (fun _ i _=>n - (intOf i).toNat)
 case atStart=>exact ⟨0,Nat.zero_le _,rfl,rfl,h_ _ _⟩
 case round=>
  obtain ⟨k,hk,rfl,rfl,hb⟩:=hrel
  by_cases hlt:k<n
  ·have hAk:=hA.VG hb (C_ _)
   have hq:gL wr (.slice a (se n).length c) (se n).length (cj (se n)):=by rw [sC];exact hAk
   obtain ⟨g,rfl,hcn,p0,p1,p2,p3,p4,p5,p6⟩:=RP hq (i:=k) (by rw [sC];exact hlt)
   rw [T8] at p0 p1 p2 p3 p4 p5 p6
   simp only at p0 p1 p2 p3 p4 p5 p6
   have gJ:(k:Int)<(n:Int):=by omega
   have θ:=Lib.hid (fun w=>AB (7+7 * k) w (by omega) (by omega))
   rw [show (((7+7 * k:Nat):Int))=1+7 * (k:Int)+1+1+1+1+1+1 from by omega] at θ
   rw [show (2+7 * (k:Int))=1+7 * (k:Int)+1 from by omega] at p1
   rw [show (3+7 * (k:Int))=1+7 * (k:Int)+1+1 from by omega] at p2
   rw [show (4+7 * (k:Int))=1+7 * (k:Int)+1+1+1 from by omega] at p3
   rw [show (5+7 * (k:Int))=1+7 * (k:Int)+1+1+1+1 from by omega] at p4
   rw [show (6+7 * (k:Int))=1+7 * (k:Int)+1+1+1+1+1 from by omega] at p5
   generalize hmx:(⟨(Ov (7+7 * k)).toArray⟩:ByteArray)=mx at *
   clear hAk hq hA hmx
   have r0:=cell_regrown p6
   have cM:=fun d os=>Calls.regrown_of (w:=wr) (d:=d) (os:=os) (θ.out _)
   go_wp2
   refine wp_region_quiet_below (by kernel_rfl) (by kernel_rfl) ?_
   repeat (first|go_big_quiet_step (first|(go_at_call 47;exact cM _ _))|quiet_step (first|(go_at_call 47;exact cM _ _)))
   refine wpQuiet_nil ?_
   intro _ gC
   obtain ⟨⟨dq,osq⟩,Γ⟩:=gC
   subst Γ
   have hS:=below_regrown wr dq osq
   obtain ⟨W9,hW9⟩:∃W9,Go.Sort.grow (redrawn wr dq) osq=W9:=⟨_,rfl⟩
   rw [hW9] at hS ⊢
   clear hW9 r0 cM p0 p1 p2 p3 p4 p5 p6
   go_wp2
   go_roundw
   case rel=>exact ⟨k+1,by omega,by go_num,by go_num,hb.trans (hS.mono hb.size)⟩
   case measure=>simp [intOf];omega
  ·obtain rfl:k=n:=by omega
   go_wp2
   go_ret
   exact ⟨rfl,hb⟩
theorem cG.pre {x:Option Nat} {a b c:J'} (h:cG none a b) (k:cG x b c):cG x a c:=⟨D_ h.size k.size,fun g cs e f hx hg=>k.blk g cs e f hx (h.blk g cs e f (fun e=>by cases e) hg)⟩
noncomputable def ba:Code:=f3.body.getD .skip
end
end Go.aC.Of
