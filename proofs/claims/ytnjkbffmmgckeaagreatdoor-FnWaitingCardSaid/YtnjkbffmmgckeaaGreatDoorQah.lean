/-
  The law FnWaiting holds: for whatever row of bytes, on whatever tape and on every schedule, its run ends with true, and the argument reads behind the call as it read before. 
  Conditions: the three listed tables of the library are laid as the program's text lays them (the card ties them).
-/
import Derived.Test.YtnjkbffmmgckeaaGreatDoorRows
import Derived.Test.YtnjkbffmmgckeaaGreatDoorCards
import Derived.Test.YtnjkbffmmgckeaaGreatDoorTie
import Derived.OpenShut
import Derived.ShutString
import Derived.ChangeMaps5
import Derived.LaidMore
import Derived.Test.YtnjkbffmmgckeaaGreatDoorQaa
import Derived.Test.YtnjkbffmmgckeaaGreatDoorQab
import Derived.Test.YtnjkbffmmgckeaaGreatDoorQag
set_option linter.all false
set_option maxRecDepth 100000
set_option maxHeartbeats 32000000
open Go.Proofs.Tryz renaming prog->p_
open Go.Proofs.Tryz
namespace Go.Proofs.YtnjkbffmmgckeaaGreatDoor.fnWaiting
section
open Go Go.Conc Go.Conc.Lib Go.ConcR.Gen Go.RowKit Go.aC Go.aC.Of Go.Proofs Go.ChangeShapes Go.WideShapes Go.ChangeAt
theorem aAk {n:Int} (h:(Lit.int .u8 n).wf=true):PU n:=by
 have e1:IntKind.u8.min=0:=rfl
 have e2:IntKind.u8.max=255:=rfl
 simp [Lit.wf,e1,e2] at h
 exact ⟨by omega,by omega⟩
variable {W:World}
theorem aAm {x:Addr} {l c:Nat} {zs:List Int} (hl:l<=c) (hz:zs.length=c) (hcell:∀i,i<zs.length->W.cell? (x.add i)=some (.int .u8 (zs.getD i 0))) (hw:∀n∈zs,(Lit.int .u8 n).wf=true):
 ∃ys:List Int,l=ys.length/\(∀n∈ys,PU n)/\Bg W (some x) ys:=by
 refine ⟨zs.take l,by simp;omega,fun n hn=>aAk (hw n (List.mem_of_mem_take hn)), ?_⟩
 by_cases h0:l=0
 ·subst h0;exact .inl rfl
 obtain ⟨b,off,spot⟩:=x
 have hc:=hcell 0 (by omega)
 have Ua:spot=none:=by simpa [Addr.add] using World.cell?_spot hc
 subst Ua
 have hb:b<W.heap.size:=by
  unfold World.cell? at hc
  simp only [Addr.add] at hc
  rcases Nat.lt_or_ge b W.heap.size with h|h
  ·exact h
  ·simp [Array.getElem?_eq_none h] at hc
 refine .inr ⟨b,off,rfl,hb,fun i hi=> ?_⟩
 have lE:i<l:=by simp at hi;omega
 have:=hcell i (by omega)
 rw [show (zs.take l).getD i 0=zs.getD i 0 from by simp [List.getD,lE]]
 rw [<-this]
 congr 1
 simp [Addr.add]
variable {H:Type} {enc:TypeId × Value->H} {base:Nat} {sp:Nat->Bool} {held:Bool}
variable {a:Option Addr}
theorem Ω {fuel len cap:Nat} {x:DataW H × List MemPlace} (h:DataW.trod enc p_ W base sp held fuel 42 (Value.slice a len cap).cells.toList=some x):∃zs:List Int,len=zs.length/\len<=cap/\len<=9223372036854775807/\(∀n∈zs,PU n)/\Bg W a zs:=by
 rcases open_ints Tryz.underlying42 Tryz.underlying5 (by kernel_rfl) h with ⟨hcs,_⟩|⟨x,l,c,zs,hcs,_,hl,hm,hz,_,hcell,hwz⟩
 ·simp [Value.cells] at hcs
  obtain ⟨rfl,rfl,rfl⟩:=hcs
  exact ⟨[],rfl,Nat.zero_le _,by omega,by simp,.inl rfl⟩
 ·simp [Value.cells] at hcs
  obtain ⟨rfl,rfl,rfl⟩:=hcs
  have hz':zs.length=cap\/zs.length=len:=by
   split at hz
   ·exact .inl hz
   ·exact .inr hz
  obtain ⟨ys,q1,q2,q3⟩:=aAm (l:=len) (c:=zs.length) (by omega) rfl hcell hwz
  exact ⟨ys,q1,hl,by simp only [maxLen] at hm;omega,q2,q3⟩
theorem Ur {bs:List Int} (h:Bg W a bs):Bg (oR W) a bs:=by
 rcases h with h|⟨b,off,rfl,hb,hc⟩
 ·exact .inl h
 ·exact .inr ⟨b,off,rfl,by rw [nD];exact hb,fun i hi=>by rw [aAd];exact hc i hi⟩
theorem Yu:ownKnob Tryz.checked.prog.godebug=none:=by kernel_rfl
theorem laidOut:laidOutB p_=true:=by kernel_rfl
def JQ (h:Array Obj) (g:Nat) (vs:Array Value):Array Obj:=h.modify g fun
 | .cells _ t frozen=>.cells vs t frozen
 |o=>o
def S8:Array Value:=(([0,1,28,2,29,14,24,3,30,22,20,15,25,17,4,8,31,27,13,23,21,19,16,7,26,12,18,6,11,5,10,9]:List Int).map (Value.int .u8)).toArray
def S7:Array Value:=(([0,1,56,2,57,49,28,3,61,58,42,50,38,29,17,4,62,47,59,36,45,43,51,22,53,39,33,30,24,18,12,5,63,55,48,27,60,41,37,16,46,35,44,21,52,32,23,11,54,26,40,15,34,20,31,10,25,14,19,9,13,8,7,6]:List Int).map (Value.int .u8)).toArray
def PT:Array Value:=(Lib.pow10Tab.map (Value.int .u64)).toArray
theorem aCv:Tryz.prog.globalNamed "internal/strconv.uint64pow10" =some 0:=by kernel_rfl
theorem KY:(Tryz.prog.globals[0]?).map (·.type)=some 184:=by kernel_rfl
theorem Lt:Tryz.prog.cellsOf 184=20:=by kernel_rfl
theorem Lu:Tryz.prog.cellsOf 103=1:=by kernel_rfl
theorem Jw:(Rows.laid_internal_strconv_uint64pow10:DataW H)=Lib.tabData .u64 Lib.pow10Tab:=by kernel_rfl
theorem PR {l:List (String × DataW Unit)} (h:laidMet p_ l W) (hm:("internal/strconv.uint64pow10",Rows.laid_internal_strconv_uint64pow10)∈l):Lib.TabIs p_ W "internal/strconv.uint64pow10" .u64 Lib.pow10Tab:=by
 obtain ⟨ps,hv,_⟩:=h
 exact yY aCv KY Tryz.underlying184 Tryz.underlying103 Lu Lt hv (by rw [<-Jw];exact hm)
noncomputable def tQ (os:Os):World:={World.holding p_ os ⟨#[],#[],[]⟩ with heap:=JQ (JQ (JQ ((World.holding p_ os ⟨#[],#[],[]⟩).heap) 0 PT) 1 S8) 2 S7}
noncomputable def aDi:Array Value:=#[.slice none 0 0]
theorem JR (os:Os):laidMet p_ Rows.fnWaitingRow.laid ((tQ os).forCall (fun _ _=>0) ⟨#[],#[.slice none 0 0],[]⟩).memory:=
 laidMet_of_run' 8 (by kernel_rfl) (by kernel_rfl)
theorem reads (os:Os) (enc:TypeId × Value->H):∃places,DataW.whole enc p_ ((tQ os).forCall (fun _ _=>0) ⟨#[],#[.slice none 0 0],[]⟩).memory f7.params.toList Rows.fnWaitingSpec.vars false #[.slice none 0 0].toList 8=some ([.nil],[],places):=
 ⟨[],by kernel_rfl⟩
theorem lifted (os:Os) (started:os.Started) (H:Type) (enc:TypeId × Value->H):
 ReturnsInLeavingWide {} Tryz.checked os 7 .any ((OpenSpec.ofChange Rows.fnWaitingSpec).preRow enc p_ f7 Rows.fnWaitingRow.domain false Rows.fnWaitingRow.laid) (Rows.fnWaitingSpec.post enc p_ f7 false true false false):=by
 obtain ⟨places,hx⟩:=reads os enc
 refine kI (C:=Tryz.checked) Yu started func7
  (witness_row_at (enc:=enc) (C:=Tryz.checked) false (tQ os) #[.slice none 0 0] rfl (by kernel_rfl) (by kernel_rfl) (by kernel_rfl)
   (OpenSpec.preRow_of_cond 8 hx (by kernel_rfl) (fun k hk=>by cases hk) (by kernel_rfl) (JR os))) ?_
 intro W base args ds gs before OB hW UE
 have hval:∀(j:Nat) t v,f7.params[j]?=some t->args[j]?=some v->Value.okWide p_ W .any base t v:=OB
 have SD:=hW
 obtain ⟨p,q,hA0,hV,rfl,_,_⟩:=hW
 have hA:DataW.TrodAll enc p_ W 0 (fun _=>true) true f7.params.toList args.toList ds p:=hA0
 rw [Tryz.params7] at hA hval
 obtain ⟨v0,d0,rfl,rfl,h0⟩:=trodAll_one hA
 obtain ⟨rfl,rfl⟩:=trodVars_none hV
 have k0:=h0
 obtain ⟨a1,n1,c1,rfl⟩:=Go.WideShapes.okWide_slice Tryz.underlying42 (hval 0 42 v0 rfl rfl)
 obtain ⟨mT,rfl,aBd, -, Wm,DF⟩:∃zs:List Int,n1=zs.length/\n1<=c1/\n1<=9223372036854775807/\(∀n∈zs,PU n)/\Bg W a1 zs:=by
  obtain ⟨fuel,hf⟩:=h0
  exact Ω hf
 clear hA0 OB hval hA
 simp only [List.append_nil] at SD
 have lt0:∀x∈p,x.block<W.heap.size:=fun x hx=>by simpa using SD.lt x (by simpa using hx)
 have sr:=PS (PR UE (by simp [Rows.fnWaitingRow]))
 have hC:Go.aC.Can p_ (cS.empty ⟨0,0,none⟩) 0 0 (fun v _=>v=.bool true) 0 (db 1) (oR W) (G (Frame.enter p_ 7 #[.slice a1 mT.length c1] .normal) []):=
  aKo (by omega) (Hr _ _) (Ur DF) Wm aBd sr
 obtain ⟨M,last,o,w',t',e1,e2,e3,e4⟩:=Go.aC.Can.RJ (Nat.le_refl 1) hC
 refine ⟨M,last,o,w',t',e1,e2,e3,e4.mono fun v hF=> ?_⟩
 obtain ⟨rfl,vP⟩:=hF
 exact ⟨_,_,_,_,_,[],SD,trodAll_mk1 (shut_bool Tryz.underlying4 _),(trodAll_mk1 (Below.trod laidOut (by kernel_rfl) (of_decide_eq_true (by kernel_rfl)) k0 vP lt0)),rfl,vP.frame _,fun h=>by cases h⟩
theorem said:Rows.FnWaitingSaid:=
 OpenClaim.holds_of_wide_leaving 7 f7 rfl rfl rfl rfl rfl rfl rfl ⟨rfl,rfl,rfl,rfl,rfl⟩ rfl rfl rfl rfl rfl (by kernel_rfl) func7 (by kernel_rfl)
  (of_decide_eq_true (by kernel_rfl)) (by unfold Func.isWrapper;first|(rw [if_pos (by decide+kernel)];kernel_rfl)|(rw [if_neg (by decide+kernel)];exact ⟨rfl,rfl⟩))
  (fun os started H enc _=>by rw [OpenClaim.pre_eq_preRow];exact lifted os started H enc)
theorem plain (f:FuncId) (fn:Func) (hf:Tryz.pinned.checked.prog.funcNamed "loop.example/channelboard/laws.FnWaiting" =some f) (xF:Tryz.pinned.checked.prog.funcs[f]?=some fn):
 false=Tryz.pinned.checked.prog.looks []/\∀(j:Nat) t,fn.params[j]?=some t->Tryz.pinned.checked.prog.wantsStandIn t=false:=by
 obtain rfl:f=7:=Option.some.inj ((show Tryz.prog.funcNamed "loop.example/channelboard/laws.FnWaiting" =some 7 by kernel_rfl).symm.trans hf) |>.symm
 obtain rfl:fn=f7:=(Option.some.inj (func7.symm.trans xF)).symm
 refine ⟨by kernel_rfl,fun j t ht=> ?_⟩
 rw [Tryz.params7] at ht
 have hm:=Array.mem_of_getElem? ht
 simp only [List.mem_toArray,List.mem_cons,List.not_mem_nil,or_false] at hm
 have hm:t=42:=by simpa using hm
 subst hm
 ·exact (show Tryz.prog.wantsStandIn 42=false by kernel_rfl)
theorem card:Rows.FnWaitingCardSaid:=
 Claim7.vE .later _ _ _ _ said (by kernel_rfl) fnWaiting_row_tie rfl ⟨rfl,rfl⟩ (by kernel_rfl) rfl plain (by kernel_rfl)
#print axioms card
end
end Go.Proofs.YtnjkbffmmgckeaaGreatDoor.fnWaiting
