/-
  No cell of these rows narrows 'for every input' (looked for: loops, veiled, ifaces, maps, wideKeys, modest, calm, conditions, laid).
  DERIVED. THE GIVEN ROWS OF THIS SEAT. 6 by the template 'for every input the law returns true; each argument reads behind the call as it read before'; 0 by the template 'total and deterministic' (their statements: YtihmcigoofhpmaaTotals.lean).
  GIVEN WITH THE SEED: the statements are not yours to turn. If you find one false, say at which input.
  Laid BY PROGRAM, IN A SANDBOX (cutbox-rows.mjs): the forced cells as the released guide's own fill.sh prints them over the translation c46ad7695b2f00cd… (all of the seat's roots in one cut). By AI agents, Wed Nov 11 2026. No macro, syntax, notation, axiom, sorry.
-/
import Derived.Test.YtihmcigoofhpmaaChecked
import GoSem.Claim
import GoSem.ClaimJoined
import GoSem.ClaimMapViews
import Derived.JoinedTies
import Derived.KernelRfl
namespace Go.Proofs.Ytihmcigoofhpmaa
/- THE CELL 'sum', in the pinned program and in every row, IS THE sha256 OF THE DUMP (.gsa) THAT YtihmcigoofhpmaaProg.lean LOADS. Nothing in Lean hashes anything: it is a label: what it is worth is what the hold of that sum in a sandbox is worth. -/
noncomputable def Try.pinned : Pinned := { name := "ytihmcigoofhpmaa", sum := "c46ad7695b2f00cd103aaacda5dc313a67e1d3f1667002ac21ad138812c46451", checked := Try.checked }
namespace Rows
def none {H : Type} : Left H := { results := [], args := [] }

/-- 'laws.FnOneRule': WHATEVER THE INPUT: true; the input reads as it did. -/
def fnOneRuleSpec : ChangeSpec := { name := "fnOneRule", fn := fun _ => fun
  | [d] => { results := [.lit (.bool true)], args := [d] }
  | _ => none }
def fnOneRuleRow : OpenClaim := { program := "ytihmcigoofhpmaa", sum := "c46ad7695b2f00cd103aaacda5dc313a67e1d3f1667002ac21ad138812c46451", func := "loop.example/channelboard/laws.FnOneRule", spec := "fnOneRule", inPlace := ["(*sync.WaitGroup).Add", "internal/race.ReleaseMerge", "internal/race.Disable", "internal/race.Enable", "internal/synctest.IsInBubble", "internal/synctest.Associate[sync.WaitGroup]", "sync.fatal", "sync/atomic.OrUint64", "sync/atomic.AddUint64", "internal/race.Read", "sync/atomic.LoadUint64", "sync/atomic.StoreUint64", "internal/synctest.Disassociate[sync.WaitGroup]", "sync.runtime_Semrelease", "(*sync.WaitGroup).Done", "(*sync.WaitGroup).Wait", "internal/race.Acquire", "internal/synctest.IsAssociated[sync.WaitGroup]", "sync/atomic.CompareAndSwapUint64", "internal/race.Write", "sync.runtime_SemacquireWaitGroup"], unfollowed := true, recurses := true, leaving := true, apart := false }
def FnOneRuleSaid : Prop := fnOneRuleRow.holds Try.pinned (OpenSpec.ofChange fnOneRuleSpec)

/-- ITS FALSE NEIGHBOUR: 'it returns false'. Refute it at one input. -/
def fnOneRuleWrong : ChangeSpec := { name := "fnOneRule", fn := fun _ => fun
  | [d] => { results := [.lit (.bool false)], args := [d] }
  | _ => none }
def FnOneRuleWrongFalsely : Prop := fnOneRuleRow.holds Try.pinned (OpenSpec.ofChange fnOneRuleWrong)

/-- 'laws.FnRules': WHATEVER THE INPUT: true; the input reads as it did. -/
def fnRulesSpec : ChangeSpec := { name := "fnRules", fn := fun _ => fun
  | [d] => { results := [.lit (.bool true)], args := [d] }
  | _ => none }
def fnRulesRow : OpenClaim := { program := "ytihmcigoofhpmaa", sum := "c46ad7695b2f00cd103aaacda5dc313a67e1d3f1667002ac21ad138812c46451", func := "loop.example/channelboard/laws.FnRules", spec := "fnRules", inPlace := ["(*sync.WaitGroup).Add", "internal/race.ReleaseMerge", "internal/race.Disable", "internal/race.Enable", "internal/synctest.IsInBubble", "internal/synctest.Associate[sync.WaitGroup]", "sync.fatal", "sync/atomic.OrUint64", "sync/atomic.AddUint64", "internal/race.Read", "sync/atomic.LoadUint64", "sync/atomic.StoreUint64", "internal/synctest.Disassociate[sync.WaitGroup]", "sync.runtime_Semrelease", "(*sync.WaitGroup).Done", "(*sync.WaitGroup).Wait", "internal/race.Acquire", "internal/synctest.IsAssociated[sync.WaitGroup]", "sync/atomic.CompareAndSwapUint64", "internal/race.Write", "sync.runtime_SemacquireWaitGroup"], unfollowed := true, recurses := true, leaving := true, apart := false }
def FnRulesSaid : Prop := fnRulesRow.holds Try.pinned (OpenSpec.ofChange fnRulesSpec)

/-- ITS FALSE NEIGHBOUR: 'it returns false'. Refute it at one input. -/
def fnRulesWrong : ChangeSpec := { name := "fnRules", fn := fun _ => fun
  | [d] => { results := [.lit (.bool false)], args := [d] }
  | _ => none }
def FnRulesWrongFalsely : Prop := fnRulesRow.holds Try.pinned (OpenSpec.ofChange fnRulesWrong)

/-- 'laws.FnSumsAfter': WHATEVER THE INPUT: true; the input reads as it did. -/
def fnSumsAfterSpec : ChangeSpec := { name := "fnSumsAfter", fn := fun _ => fun
  | [d] => { results := [.lit (.bool true)], args := [d] }
  | _ => none }
def fnSumsAfterRow : OpenClaim := { program := "ytihmcigoofhpmaa", sum := "c46ad7695b2f00cd103aaacda5dc313a67e1d3f1667002ac21ad138812c46451", func := "loop.example/channelboard/laws.FnSumsAfter", spec := "fnSumsAfter", inPlace := ["(*sync.WaitGroup).Add", "internal/race.ReleaseMerge", "internal/race.Disable", "internal/race.Enable", "internal/synctest.IsInBubble", "internal/synctest.Associate[sync.WaitGroup]", "sync.fatal", "sync/atomic.OrUint64", "sync/atomic.AddUint64", "internal/race.Read", "sync/atomic.LoadUint64", "sync/atomic.StoreUint64", "internal/synctest.Disassociate[sync.WaitGroup]", "sync.runtime_Semrelease", "(*sync.WaitGroup).Done", "(*sync.WaitGroup).Wait", "internal/race.Acquire", "internal/synctest.IsAssociated[sync.WaitGroup]", "sync/atomic.CompareAndSwapUint64", "internal/race.Write", "sync.runtime_SemacquireWaitGroup"], unfollowed := true, recurses := true, leaving := true, apart := false }
def FnSumsAfterSaid : Prop := fnSumsAfterRow.holds Try.pinned (OpenSpec.ofChange fnSumsAfterSpec)

/-- ITS FALSE NEIGHBOUR: 'it returns false'. Refute it at one input. -/
def fnSumsAfterWrong : ChangeSpec := { name := "fnSumsAfter", fn := fun _ => fun
  | [d] => { results := [.lit (.bool false)], args := [d] }
  | _ => none }
def FnSumsAfterWrongFalsely : Prop := fnSumsAfterRow.holds Try.pinned (OpenSpec.ofChange fnSumsAfterWrong)

/-- 'laws.FnExactSumsAfter': WHATEVER THE INPUT: true; the input reads as it did. -/
def fnExactSumsAfterSpec : ChangeSpec := { name := "fnExactSumsAfter", fn := fun _ => fun
  | [d1, d2, d3] => { results := [.lit (.bool true)], args := [d1, d2, d3] }
  | _ => none }
def fnExactSumsAfterRow : OpenClaim := { program := "ytihmcigoofhpmaa", sum := "c46ad7695b2f00cd103aaacda5dc313a67e1d3f1667002ac21ad138812c46451", func := "loop.example/channelboard/laws.FnExactSumsAfter", spec := "fnExactSumsAfter", inPlace := ["(*sync.WaitGroup).Add", "internal/race.ReleaseMerge", "internal/race.Disable", "internal/race.Enable", "internal/synctest.IsInBubble", "internal/synctest.Associate[sync.WaitGroup]", "sync.fatal", "sync/atomic.OrUint64", "sync/atomic.AddUint64", "internal/race.Read", "sync/atomic.LoadUint64", "sync/atomic.StoreUint64", "internal/synctest.Disassociate[sync.WaitGroup]", "sync.runtime_Semrelease", "(*sync.WaitGroup).Done", "(*sync.WaitGroup).Wait", "internal/race.Acquire", "internal/synctest.IsAssociated[sync.WaitGroup]", "sync/atomic.CompareAndSwapUint64", "internal/race.Write", "sync.runtime_SemacquireWaitGroup"], unfollowed := true, recurses := true, leaving := true, apart := false }
def FnExactSumsAfterSaid : Prop := fnExactSumsAfterRow.holds Try.pinned (OpenSpec.ofChange fnExactSumsAfterSpec)

/-- ITS FALSE NEIGHBOUR: 'it returns false'. Refute it at one input. -/
def fnExactSumsAfterWrong : ChangeSpec := { name := "fnExactSumsAfter", fn := fun _ => fun
  | [d1, d2, d3] => { results := [.lit (.bool false)], args := [d1, d2, d3] }
  | _ => none }
def FnExactSumsAfterWrongFalsely : Prop := fnExactSumsAfterRow.holds Try.pinned (OpenSpec.ofChange fnExactSumsAfterWrong)

/-- 'laws.FnRunKeeper': WHATEVER THE INPUT: true; the input reads as it did. -/
def fnRunKeeperSpec : ChangeSpec := { name := "fnRunKeeper", fn := fun _ => fun
  | [d] => { results := [.lit (.bool true)], args := [d] }
  | _ => none }
def fnRunKeeperRow : OpenClaim := { program := "ytihmcigoofhpmaa", sum := "c46ad7695b2f00cd103aaacda5dc313a67e1d3f1667002ac21ad138812c46451", func := "loop.example/channelboard/laws.FnRunKeeper", spec := "fnRunKeeper", inPlace := ["(*sync.WaitGroup).Add", "internal/race.ReleaseMerge", "internal/race.Disable", "internal/race.Enable", "internal/synctest.IsInBubble", "internal/synctest.Associate[sync.WaitGroup]", "sync.fatal", "sync/atomic.OrUint64", "sync/atomic.AddUint64", "internal/race.Read", "sync/atomic.LoadUint64", "sync/atomic.StoreUint64", "internal/synctest.Disassociate[sync.WaitGroup]", "sync.runtime_Semrelease", "(*sync.WaitGroup).Done", "(*sync.WaitGroup).Wait", "internal/race.Acquire", "internal/synctest.IsAssociated[sync.WaitGroup]", "sync/atomic.CompareAndSwapUint64", "internal/race.Write", "sync.runtime_SemacquireWaitGroup"], unfollowed := true, recurses := true, leaving := true, apart := false }
def FnRunKeeperSaid : Prop := fnRunKeeperRow.holds Try.pinned (OpenSpec.ofChange fnRunKeeperSpec)

/-- ITS FALSE NEIGHBOUR: 'it returns false'. Refute it at one input. -/
def fnRunKeeperWrong : ChangeSpec := { name := "fnRunKeeper", fn := fun _ => fun
  | [d] => { results := [.lit (.bool false)], args := [d] }
  | _ => none }
def FnRunKeeperWrongFalsely : Prop := fnRunKeeperRow.holds Try.pinned (OpenSpec.ofChange fnRunKeeperWrong)

/-- 'laws.FnExactRunKeeper': WHATEVER THE INPUT: true; the input reads as it did. -/
def fnExactRunKeeperSpec : ChangeSpec := { name := "fnExactRunKeeper", fn := fun _ => fun
  | [d1, d2] => { results := [.lit (.bool true)], args := [d1, d2] }
  | _ => none }
def fnExactRunKeeperRow : OpenClaim := { program := "ytihmcigoofhpmaa", sum := "c46ad7695b2f00cd103aaacda5dc313a67e1d3f1667002ac21ad138812c46451", func := "loop.example/channelboard/laws.FnExactRunKeeper", spec := "fnExactRunKeeper", inPlace := ["(*sync.WaitGroup).Add", "internal/race.ReleaseMerge", "internal/race.Disable", "internal/race.Enable", "internal/synctest.IsInBubble", "internal/synctest.Associate[sync.WaitGroup]", "sync.fatal", "sync/atomic.OrUint64", "sync/atomic.AddUint64", "internal/race.Read", "sync/atomic.LoadUint64", "sync/atomic.StoreUint64", "internal/synctest.Disassociate[sync.WaitGroup]", "sync.runtime_Semrelease", "(*sync.WaitGroup).Done", "(*sync.WaitGroup).Wait", "internal/race.Acquire", "internal/synctest.IsAssociated[sync.WaitGroup]", "sync/atomic.CompareAndSwapUint64", "internal/race.Write", "sync.runtime_SemacquireWaitGroup"], unfollowed := true, recurses := true, leaving := true, apart := false }
def FnExactRunKeeperSaid : Prop := fnExactRunKeeperRow.holds Try.pinned (OpenSpec.ofChange fnExactRunKeeperSpec)

/-- ITS FALSE NEIGHBOUR: 'it returns false'. Refute it at one input. -/
def fnExactRunKeeperWrong : ChangeSpec := { name := "fnExactRunKeeper", fn := fun _ => fun
  | [d1, d2] => { results := [.lit (.bool false)], args := [d1, d2] }
  | _ => none }
def FnExactRunKeeperWrongFalsely : Prop := fnExactRunKeeperRow.holds Try.pinned (OpenSpec.ofChange fnExactRunKeeperWrong)

/- THE SECOND FORM. 'bulk': how many values and letters a reading holds, each counted each time it is reached (what is shared counts as often as it is met; a slice's spare places count too). A statement '..UptoSaid' is the law's where the arguments, and the package variables that the reading takes, are together of bulk at most 1048576: NARROWER than '..Said'. Prove '..Said' where nothing that the law and all that it calls make is longer than what came in: it says more and counts as full. Else prove '..UptoSaid'. A law counts once. -/
mutual
def uptoBulk {H : Type} : DataW H → Nat
  | .lit (.string bytes) => bytes.length + 1
  | .lit _ => 1
  | .nil => 1
  | .ptr d => uptoBulk d + 1
  | .slice elems spare => uptoBulkAll elems + uptoBulkAll spare + 1
  | .agg parts => uptoBulkAll parts + 1
  | .iface _ d => uptoBulk d + 1
  | .map entries => uptoBulkEntries entries + 1
  | .held _ => 1
def uptoBulkAll {H : Type} : List (DataW H) → Nat
  | [] => 0
  | d :: r => uptoBulk d + uptoBulkAll r
def uptoBulkEntries {H : Type} : List (Lit × DataW H) → Nat
  | [] => 0
  | x :: r => uptoBulkEntry x + uptoBulkEntries r
def uptoBulkEntry {H : Type} : Lit × DataW H → Nat
  | (.string bytes, d) => bytes.length + uptoBulk d + 1
  | (_, d) => uptoBulk d + 1
 end
def uptoSmall : (H : Type) → List (DataW H) → Bool := fun _ ds => decide (uptoBulkAll ds ≤ 1048576)
def OpenSpec.upto (s : _root_.Go.ChangeSpec) : _root_.Go.OpenSpec := { _root_.Go.OpenSpec.ofChange s with cond := some uptoSmall }

/-- 'laws.FnOneRule', WHERE WHAT IT READS IS OF BULK AT MOST 1048576: true; the input reads as it did. -/
def fnOneRuleUptoRow : OpenClaim := { program := "ytihmcigoofhpmaa", sum := "c46ad7695b2f00cd103aaacda5dc313a67e1d3f1667002ac21ad138812c46451", func := "loop.example/channelboard/laws.FnOneRule", spec := "fnOneRule", inPlace := ["(*sync.WaitGroup).Add", "internal/race.ReleaseMerge", "internal/race.Disable", "internal/race.Enable", "internal/synctest.IsInBubble", "internal/synctest.Associate[sync.WaitGroup]", "sync.fatal", "sync/atomic.OrUint64", "sync/atomic.AddUint64", "internal/race.Read", "sync/atomic.LoadUint64", "sync/atomic.StoreUint64", "internal/synctest.Disassociate[sync.WaitGroup]", "sync.runtime_Semrelease", "(*sync.WaitGroup).Done", "(*sync.WaitGroup).Wait", "internal/race.Acquire", "internal/synctest.IsAssociated[sync.WaitGroup]", "sync/atomic.CompareAndSwapUint64", "internal/race.Write", "sync.runtime_SemacquireWaitGroup"], unfollowed := true, recurses := true, leaving := true, apart := false, narrowed := true }
def FnOneRuleUptoSaid : Prop := fnOneRuleUptoRow.holds Try.pinned (OpenSpec.upto fnOneRuleSpec)

/-- 'laws.FnRules', WHERE WHAT IT READS IS OF BULK AT MOST 1048576: true; the input reads as it did. -/
def fnRulesUptoRow : OpenClaim := { program := "ytihmcigoofhpmaa", sum := "c46ad7695b2f00cd103aaacda5dc313a67e1d3f1667002ac21ad138812c46451", func := "loop.example/channelboard/laws.FnRules", spec := "fnRules", inPlace := ["(*sync.WaitGroup).Add", "internal/race.ReleaseMerge", "internal/race.Disable", "internal/race.Enable", "internal/synctest.IsInBubble", "internal/synctest.Associate[sync.WaitGroup]", "sync.fatal", "sync/atomic.OrUint64", "sync/atomic.AddUint64", "internal/race.Read", "sync/atomic.LoadUint64", "sync/atomic.StoreUint64", "internal/synctest.Disassociate[sync.WaitGroup]", "sync.runtime_Semrelease", "(*sync.WaitGroup).Done", "(*sync.WaitGroup).Wait", "internal/race.Acquire", "internal/synctest.IsAssociated[sync.WaitGroup]", "sync/atomic.CompareAndSwapUint64", "internal/race.Write", "sync.runtime_SemacquireWaitGroup"], unfollowed := true, recurses := true, leaving := true, apart := false, narrowed := true }
def FnRulesUptoSaid : Prop := fnRulesUptoRow.holds Try.pinned (OpenSpec.upto fnRulesSpec)

/-- 'laws.FnSumsAfter', WHERE WHAT IT READS IS OF BULK AT MOST 1048576: true; the input reads as it did. -/
def fnSumsAfterUptoRow : OpenClaim := { program := "ytihmcigoofhpmaa", sum := "c46ad7695b2f00cd103aaacda5dc313a67e1d3f1667002ac21ad138812c46451", func := "loop.example/channelboard/laws.FnSumsAfter", spec := "fnSumsAfter", inPlace := ["(*sync.WaitGroup).Add", "internal/race.ReleaseMerge", "internal/race.Disable", "internal/race.Enable", "internal/synctest.IsInBubble", "internal/synctest.Associate[sync.WaitGroup]", "sync.fatal", "sync/atomic.OrUint64", "sync/atomic.AddUint64", "internal/race.Read", "sync/atomic.LoadUint64", "sync/atomic.StoreUint64", "internal/synctest.Disassociate[sync.WaitGroup]", "sync.runtime_Semrelease", "(*sync.WaitGroup).Done", "(*sync.WaitGroup).Wait", "internal/race.Acquire", "internal/synctest.IsAssociated[sync.WaitGroup]", "sync/atomic.CompareAndSwapUint64", "internal/race.Write", "sync.runtime_SemacquireWaitGroup"], unfollowed := true, recurses := true, leaving := true, apart := false, narrowed := true }
def FnSumsAfterUptoSaid : Prop := fnSumsAfterUptoRow.holds Try.pinned (OpenSpec.upto fnSumsAfterSpec)

/-- 'laws.FnExactSumsAfter', WHERE WHAT IT READS IS OF BULK AT MOST 1048576: true; the input reads as it did. -/
def fnExactSumsAfterUptoRow : OpenClaim := { program := "ytihmcigoofhpmaa", sum := "c46ad7695b2f00cd103aaacda5dc313a67e1d3f1667002ac21ad138812c46451", func := "loop.example/channelboard/laws.FnExactSumsAfter", spec := "fnExactSumsAfter", inPlace := ["(*sync.WaitGroup).Add", "internal/race.ReleaseMerge", "internal/race.Disable", "internal/race.Enable", "internal/synctest.IsInBubble", "internal/synctest.Associate[sync.WaitGroup]", "sync.fatal", "sync/atomic.OrUint64", "sync/atomic.AddUint64", "internal/race.Read", "sync/atomic.LoadUint64", "sync/atomic.StoreUint64", "internal/synctest.Disassociate[sync.WaitGroup]", "sync.runtime_Semrelease", "(*sync.WaitGroup).Done", "(*sync.WaitGroup).Wait", "internal/race.Acquire", "internal/synctest.IsAssociated[sync.WaitGroup]", "sync/atomic.CompareAndSwapUint64", "internal/race.Write", "sync.runtime_SemacquireWaitGroup"], unfollowed := true, recurses := true, leaving := true, apart := false, narrowed := true }
def FnExactSumsAfterUptoSaid : Prop := fnExactSumsAfterUptoRow.holds Try.pinned (OpenSpec.upto fnExactSumsAfterSpec)

/-- 'laws.FnRunKeeper', WHERE WHAT IT READS IS OF BULK AT MOST 1048576: true; the input reads as it did. -/
def fnRunKeeperUptoRow : OpenClaim := { program := "ytihmcigoofhpmaa", sum := "c46ad7695b2f00cd103aaacda5dc313a67e1d3f1667002ac21ad138812c46451", func := "loop.example/channelboard/laws.FnRunKeeper", spec := "fnRunKeeper", inPlace := ["(*sync.WaitGroup).Add", "internal/race.ReleaseMerge", "internal/race.Disable", "internal/race.Enable", "internal/synctest.IsInBubble", "internal/synctest.Associate[sync.WaitGroup]", "sync.fatal", "sync/atomic.OrUint64", "sync/atomic.AddUint64", "internal/race.Read", "sync/atomic.LoadUint64", "sync/atomic.StoreUint64", "internal/synctest.Disassociate[sync.WaitGroup]", "sync.runtime_Semrelease", "(*sync.WaitGroup).Done", "(*sync.WaitGroup).Wait", "internal/race.Acquire", "internal/synctest.IsAssociated[sync.WaitGroup]", "sync/atomic.CompareAndSwapUint64", "internal/race.Write", "sync.runtime_SemacquireWaitGroup"], unfollowed := true, recurses := true, leaving := true, apart := false, narrowed := true }
def FnRunKeeperUptoSaid : Prop := fnRunKeeperUptoRow.holds Try.pinned (OpenSpec.upto fnRunKeeperSpec)

/-- 'laws.FnExactRunKeeper', WHERE WHAT IT READS IS OF BULK AT MOST 1048576: true; the input reads as it did. -/
def fnExactRunKeeperUptoRow : OpenClaim := { program := "ytihmcigoofhpmaa", sum := "c46ad7695b2f00cd103aaacda5dc313a67e1d3f1667002ac21ad138812c46451", func := "loop.example/channelboard/laws.FnExactRunKeeper", spec := "fnExactRunKeeper", inPlace := ["(*sync.WaitGroup).Add", "internal/race.ReleaseMerge", "internal/race.Disable", "internal/race.Enable", "internal/synctest.IsInBubble", "internal/synctest.Associate[sync.WaitGroup]", "sync.fatal", "sync/atomic.OrUint64", "sync/atomic.AddUint64", "internal/race.Read", "sync/atomic.LoadUint64", "sync/atomic.StoreUint64", "internal/synctest.Disassociate[sync.WaitGroup]", "sync.runtime_Semrelease", "(*sync.WaitGroup).Done", "(*sync.WaitGroup).Wait", "internal/race.Acquire", "internal/synctest.IsAssociated[sync.WaitGroup]", "sync/atomic.CompareAndSwapUint64", "internal/race.Write", "sync.runtime_SemacquireWaitGroup"], unfollowed := true, recurses := true, leaving := true, apart := false, narrowed := true }
def FnExactRunKeeperUptoSaid : Prop := fnExactRunKeeperUptoRow.holds Try.pinned (OpenSpec.upto fnExactRunKeeperSpec)

end Rows
end Go.Proofs.Ytihmcigoofhpmaa
