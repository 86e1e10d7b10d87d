/-
  The law FnExactWaitingCalls holds: for whatever office and events, on whatever tape and on every schedule, its run ends with true, and each argument reads behind the call as it read before. 
  Conditions: the three listed tables of the library are laid as the program's text lays them (the card ties them).
-/
import Derived.Test.YtnjkbffmmgckeaaGreatDoorRows
import Derived.Test.YtnjkbffmmgckeaaGreatDoorCards
import Derived.Test.YtnjkbffmmgckeaaGreatDoorTie
import Derived.OpenShut
import Derived.ShutString
import Derived.Test.YtnjkbffmmgckeaaGreatDoorPaa
import Derived.Test.YtnjkbffmmgckeaaGreatDoorPag
import Derived.Test.YtnjkbffmmgckeaaGreatDoorPba
set_option linter.all false
set_option maxRecDepth 100000
set_option maxHeartbeats 32000000
open Go.Proofs.Tryz renaming prog->p_
open Go.Proofs.Tryz
namespace Go.Proofs.YtnjkbffmmgckeaaGreatDoor.fnExactWaitingCalls
section
open Go Go.Conc Go.Conc.Lib Go.ConcR.Gen Go.RowKit Go.aC Go.aC.Of Go.Proofs Go.ChangeShapes Go.WideShapes Go.ChangeAt
theorem Yu:ownKnob Tryz.checked.prog.godebug=none:=by kernel_rfl
theorem laidOut:laidOutB p_=true:=by kernel_rfl
def JQ (h:Array Obj) (g:Nat) (vs:Array Value):Array Obj:=h.modify g fun
 | .cells _ t frozen=>.cells vs t frozen
 |o=>o
def S8:Array Value:=(([0,1,28,2,29,14,24,3,30,22,20,15,25,17,4,8,31,27,13,23,21,19,16,7,26,12,18,6,11,5,10,9]:List Int).map (Value.int .u8)).toArray
def S7:Array Value:=(([0,1,56,2,57,49,28,3,61,58,42,50,38,29,17,4,62,47,59,36,45,43,51,22,53,39,33,30,24,18,12,5,63,55,48,27,60,41,37,16,46,35,44,21,52,32,23,11,54,26,40,15,34,20,31,10,25,14,19,9,13,8,7,6]:List Int).map (Value.int .u8)).toArray
def PT:Array Value:=(Lib.pow10Tab.map (Value.int .u64)).toArray
theorem gPow:Tryz.prog.globalNamed "internal/strconv.uint64pow10" =some 0:=by kernel_rfl
theorem KY:(Tryz.prog.globals[0]?).map (·.type)=some 184:=by kernel_rfl
theorem Lt:Tryz.prog.cellsOf 184=20:=by kernel_rfl
theorem Lu:Tryz.prog.cellsOf 103=1:=by kernel_rfl
variable {H:Type}
theorem Jw:(Rows.laid_internal_strconv_uint64pow10:DataW H)=Lib.tabData .u64 Lib.pow10Tab:=by kernel_rfl
theorem PR {W:World} {l:List (String × DataW Unit)} (h:laidMet p_ l W) (hm:("internal/strconv.uint64pow10",Rows.laid_internal_strconv_uint64pow10)∈l):Lib.TabIs p_ W "internal/strconv.uint64pow10" .u64 Lib.pow10Tab:=by
 obtain ⟨ps,hv,_⟩:=h
 exact yY gPow KY Tryz.underlying184 Tryz.underlying103 Lu Lt hv (by rw [<-Jw];exact hm)
noncomputable def tQ (os:Os):World:={World.holding p_ os ⟨#[],#[],[]⟩ with heap:=JQ (JQ (JQ ((World.holding p_ os ⟨#[],#[],[]⟩).heap) 0 PT) 1 S8) 2 S7}
noncomputable def wArgs:Array Value:=#[.agg #[.int .i64 0,.int .i64 0,.int .i64 0],.slice none 0 0]
theorem JR (os:Os):laidMet p_ Rows.fnExactWaitingCallsRow.laid ((tQ os).forCall (fun _ _=>0) ⟨#[],#[.agg #[.int .i64 0,.int .i64 0,.int .i64 0],.slice none 0 0],[]⟩).memory:=
 laidMet_of_run' 8 (by kernel_rfl) (by kernel_rfl)
theorem reads (os:Os) (enc:TypeId × Value->H):∃places,DataW.whole enc p_ ((tQ os).forCall (fun _ _=>0) ⟨#[],#[.agg #[.int .i64 0,.int .i64 0,.int .i64 0],.slice none 0 0],[]⟩).memory f4.params.toList Rows.fnExactWaitingCallsSpec.vars false #[.agg #[.int .i64 0,.int .i64 0,.int .i64 0],.slice none 0 0].toList 8=some ([.agg [.lit (.int .i64 0),.lit (.int .i64 0),.lit (.int .i64 0)],.nil],[],places):=
 ⟨[],by kernel_rfl⟩
theorem lifted (os:Os) (started:os.Started) (H:Type) (enc:TypeId × Value->H):
 ReturnsInLeavingWide {} Tryz.checked os 4 .any ((OpenSpec.ofChange Rows.fnExactWaitingCallsSpec).preRow enc p_ f4 Rows.fnExactWaitingCallsRow.domain false Rows.fnExactWaitingCallsRow.laid) (Rows.fnExactWaitingCallsSpec.post enc p_ f4 false true false false):=by
 obtain ⟨places,hx⟩:=reads os enc
 refine kI (C:=Tryz.checked) Yu started func4
  (witness_row_at (enc:=enc) (C:=Tryz.checked) false (tQ os) #[.agg #[.int .i64 0,.int .i64 0,.int .i64 0],.slice none 0 0] rfl (by kernel_rfl) (by kernel_rfl) (by kernel_rfl)
   (OpenSpec.preRow_of_cond 8 hx (by kernel_rfl) (fun k hk=>by cases hk) (by kernel_rfl) (JR os))) ?_
 intro W base args ds gs before OB hW UE
 have hval:∀(j:Nat) t v,f4.params[j]?=some t->args[j]?=some v->Value.okWide p_ W .any base t v:=OB
 have SD:=hW
 obtain ⟨p,q,hA0,hV,rfl,_,_⟩:=hW
 have hA:DataW.TrodAll enc p_ W 0 (fun _=>true) true f4.params.toList args.toList ds p:=hA0
 rw [Tryz.params4] at hA hval
 obtain ⟨v0,v1,d0,d1,p0,p1,rfl,rfl,rfl,h0,h1⟩:=trodAll_two hA
 obtain ⟨rfl,rfl⟩:=trodVars_none hV
 have k0:=h0
 have k1:=h1
 obtain ⟨l,o,pt,rfl⟩:=Ho (hval 0 23 v0 rfl rfl) h0
 obtain ⟨a1,n1,c1,rfl⟩:=Go.WideShapes.okWide_slice Tryz.underlying24 (hval 1 24 v1 rfl rfl)
 obtain ⟨zs,hlen,Ww,Nq,fH⟩:∃zs:List Dd,n1=zs.length/\zs.length<=maxLen/\(∀d∈zs,NZ d)/\cR W a1 zs:=by
  obtain ⟨fuel,hf⟩:=h1
  obtain ⟨a,c,zs,hcs,h1,h2,h3⟩:=E7 (e:=60) (ts:=9) (ti:=3) Tryz.underlying24 (show Tryz.prog.underlying 60=some (.struct #[_,_,_]) from Tryz.underlying60) (by kernel_rfl) ⟨rfl,rfl,rfl⟩ ⟨by kernel_rfl,by kernel_rfl,by kernel_rfl⟩ rfl rfl rfl Tryz.underlying9 Tryz.underlying3 hf
  simp [Value.cells] at hcs
  obtain ⟨rfl,rfl,rfl⟩:=hcs
  exact ⟨zs,rfl,h1,h2,h3⟩
 subst hlen
 clear hA0 OB hval hA
 simp only [List.append_nil] at SD
 have hlt:∀x∈p0++p1,x.block<W.heap.size:=fun x hx=>by simpa using SD.lt x (by simpa using hx)
 have lt0:∀x∈p0,x.block<W.heap.size:=fun x hx=>hlt x (by simp [hx])
 have lt1:∀x∈p1,x.block<W.heap.size:=fun x hx=>hlt x (by simp [hx])
 have sr:=PS (PR UE (by simp [Rows.fnExactWaitingCallsRow]))
 have uO:∀b' off,a1=some ⟨b',off,none⟩->zs≠[]->b'<W.heap.size:=fun b' off e hz=>by
  rcases fH with h|⟨b,off',e',hb,_⟩
  ·exact absurd h hz
  ·rw [e] at e'
   injection e' with e'
   injection e' with e1 e2
   rw [e1];exact hb
 have hC:Go.aC.Can p_ (cS.empty ⟨0,0,none⟩) 0 0 (fun v _=>v=.bool true) 0 (db 1) (oR W) (G (Frame.enter p_ 4 #[.agg #[.int .i64 l,.int .i64 o,.int .i64 pt],.slice a1 zs.length c1] .normal) []):=
  Z8 (by omega) (Hr _ _) (E6 fH) (fun hz b' off e=>by rw [nD];exact uO b' off e hz) sr (fun d hd=>(Nq d hd).1) (by unfold maxLen at Ww;omega)
 obtain ⟨M,last,o,w',t',e1,e2,e3,e4⟩:=Go.aC.Can.RJ (Nat.le_refl 1) hC
 refine ⟨M,last,o,w',t',e1,e2,e3,e4.mono fun v hF=> ?_⟩
 obtain ⟨rfl,vP⟩:=hF
 exact ⟨_,_,_,_,_,[],SD,trodAll_mk1 (shut_bool Tryz.underlying4 _),(trodAll_mk2 (Below.trod laidOut (by kernel_rfl) (of_decide_eq_true (by kernel_rfl)) k0 vP lt0) (Below.trod laidOut (by kernel_rfl) (of_decide_eq_true (by kernel_rfl)) k1 vP lt1)),rfl,vP.frame _,fun h=>by cases h⟩
theorem said:Rows.FnExactWaitingCallsSaid:=
 OpenClaim.holds_of_wide_leaving 4 f4 rfl rfl rfl rfl rfl rfl rfl ⟨rfl,rfl,rfl,rfl,rfl⟩ rfl rfl rfl rfl rfl (by kernel_rfl) func4 (by kernel_rfl)
  (of_decide_eq_true (by kernel_rfl)) (by unfold Func.isWrapper;first|(rw [if_pos (by decide+kernel)];kernel_rfl)|(rw [if_neg (by decide+kernel)];exact ⟨rfl,rfl⟩))
  (fun os started H enc _=>by rw [OpenClaim.pre_eq_preRow];exact lifted os started H enc)
theorem plain (f:FuncId) (fn:Func) (hf:Tryz.pinned.checked.prog.funcNamed "loop.example/channelboard/laws.FnExactWaitingCalls" =some f) (xF:Tryz.pinned.checked.prog.funcs[f]?=some fn):
 false=Tryz.pinned.checked.prog.looks []/\∀(j:Nat) t,fn.params[j]?=some t->Tryz.pinned.checked.prog.wantsStandIn t=false:=by
 obtain rfl:f=4:=Option.some.inj ((show Tryz.prog.funcNamed "loop.example/channelboard/laws.FnExactWaitingCalls" =some 4 by kernel_rfl).symm.trans hf) |>.symm
 obtain rfl:fn=f4:=(Option.some.inj (func4.symm.trans xF)).symm
 refine ⟨by kernel_rfl,fun j t ht=> ?_⟩
 rw [Tryz.params4] at ht
 have hm:=Array.mem_of_getElem? ht
 simp only [List.mem_toArray,List.mem_cons,List.not_mem_nil,or_false] at hm
 rcases hm with rfl|rfl
 ·exact (show Tryz.prog.wantsStandIn 23=false by kernel_rfl)
 ·exact (show Tryz.prog.wantsStandIn 24=false by kernel_rfl)
theorem card:Rows.FnExactWaitingCallsCardSaid:=
 Claim7.vE .later _ _ _ _ said (by kernel_rfl) fnExactWaitingCalls_row_tie rfl ⟨rfl,rfl⟩ (by kernel_rfl) rfl plain (by kernel_rfl)
#print axioms card
end
end Go.Proofs.YtnjkbffmmgckeaaGreatDoor.fnExactWaitingCalls
