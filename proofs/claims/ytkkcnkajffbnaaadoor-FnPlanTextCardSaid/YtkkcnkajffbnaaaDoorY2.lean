/-
  The program's isAct, parseAct.
-/
import Derived.Test.YtkkcnkajffbnaaaDoorY1
import Derived.Test.YtkkcnkajffbnaaaDoorV5
namespace Go.Proofs.YtkkcnkajffbnaaaDoor
open Go.RowKit

/-- What the walks of the deeds' parsers lean on. -/
structure EnvQ (w : World) : Prop where
  envP : EnvP w
  max : ∃ m, w.cell? ⟨3, 0, none⟩ = some (.int .i64 m)
theorem EnvQ.below {w w' : World} {B : Nat} (h : EnvQ w) (hb : Below B w w') (hB : w.heap.size ≤ B) : EnvQ w' := by
  refine ⟨h.envP.below hb hB, ?_⟩
  obtain ⟨m, hm⟩ := h.max
  exact ⟨m, (hb.cell (by show 3 < B; have := h.envP.env.size; omega)).trans hm⟩

theorem split_any (s : ByteArray) (w : World) (hn : s.size ≤ 1048576) (hE : EnvQ w) :
    Calls Tryd.prog 61 #[.string s, .string ⟨#[32]⟩] w fun e w' => e = .returned (.slice (some ⟨w.heap.size, 0, none⟩) (cuts 32 s.data.toList).length (cuts 32 s.data.toList).length) ∧ Texts w' w.heap.size (cuts 32 s.data.toList) ∧ Below w.heap.size w w' := by
  obtain ⟨m, hm⟩ := hE.max
  have hc := split_cuts 32 s.size s (Nat.le_refl _)
  have hl : (cuts 32 s.data.toList).length = Lib.countB s ⟨#[32]⟩ + 1 := by
    rw [← hc, List.length_map, Lib.splitB_all ⟨#[32]⟩ (by decide) 0 _ s rfl]
  refine (Tryd.strings_Split s ⟨#[32]⟩ m w (by omega) hm (by decide)).mono fun e w' ⟨he, hw⟩ => ?_
  subst hw
  refine ⟨by rw [he, hl], ⟨by simp, fun k hk => ?_⟩, (Below.refl _ _).alloc (Nat.le_refl _) _⟩
  have hb : (w.alloc (.cells ((Lib.splitB ⟨#[32]⟩ 0 (Lib.countB s ⟨#[32]⟩) s).map Value.string).toArray 9)).heap[w.heap.size]? = some (.cells ((Lib.splitB ⟨#[32]⟩ 0 (Lib.countB s ⟨#[32]⟩) s).map Value.string).toArray 9) := heap_alloc_new _ _
  have hx : ∃ x, (Lib.splitB ⟨#[32]⟩ 0 (Lib.countB s ⟨#[32]⟩) s)[k]? = some x ∧ x.data.toList = (cuts 32 s.data.toList)[k] := by
    have h1 : ((Lib.splitB ⟨#[32]⟩ 0 (Lib.countB s ⟨#[32]⟩) s).map (·.data.toList))[k]? = some (cuts 32 s.data.toList)[k] := by rw [hc]; simp
    rw [List.getElem?_map] at h1
    obtain ⟨x, h2, h3⟩ := Option.map_eq_some_iff.1 h1
    exact ⟨x, h2, h3⟩
  obtain ⟨x, h2, h3⟩ := hx
  simp only [World.cell?, hb]
  rw [List.getElem?_toArray, List.getElem?_map, h2, ← h3]
  simp

set_option maxRecDepth 100000 in
set_option maxHeartbeats 400000 in
theorem isAct_any (a : List UInt8) (w : World) : Calls Tryd.prog 51 #[.string ⟨a.toArray⟩] w fun e w' => e = .returned (.bool (actB a)) ∧ w = w' := by
  have e0 : (⟨a.toArray⟩ : ByteArray).toList = a := by rw [Lib.toList_data]
  unfold actB
  go_enter Tryd.func51, Tryd.ntmps51
  go_wp2
  all_goals (go_ret; exact ⟨by simp_all, rfl⟩)

def act1 (a : List UInt8) : Bool := a == [112, 117, 116] || a == [116, 97, 107, 101] || a == [101, 110, 100] || a == [108, 111, 111, 107]
def takes (a : List UInt8) : Bool := a == [116, 97, 107, 101] || a == [101, 97, 99, 104]
def act3 (a : List UInt8) : Bool := a == [112, 117, 116] || a == [112, 97, 115, 115] || a == [101, 110, 100] || takes a
theorem actB_eq (a : List UInt8) : actB a = (act1 a || act3 a || a == [104, 97, 110, 100]) := by
  unfold actB act1 act3 takes
  generalize (a == [112, 117, 116]) = p
  generalize (a == [116, 97, 107, 101]) = q
  generalize (a == [101, 110, 100]) = r
  generalize (a == [108, 111, 111, 107]) = s
  generalize (a == [112, 97, 115, 115]) = t
  generalize (a == [101, 97, 99, 104]) = u
  generalize (a == [104, 97, 110, 100]) = v
  revert p q r s t u v
  decide

set_option maxRecDepth 100000 in
set_option maxHeartbeats 400000 in
theorem l1Act_any (a : List UInt8) (w : World) : Calls Tryd.prog 59 #[.string ⟨a.toArray⟩] w fun e w' => e = .returned (.bool (act1 a)) ∧ w = w' := by
  have e0 : (⟨a.toArray⟩ : ByteArray).toList = a := by rw [Lib.toList_data]
  unfold act1
  go_enter Tryd.func59, Tryd.ntmps59
  go_wp2
  all_goals (go_ret; exact ⟨by simp_all, rfl⟩)

set_option maxRecDepth 100000 in
set_option maxHeartbeats 400000 in
theorem l3Takes_any (a : List UInt8) (w : World) : Calls Tryd.prog 74 #[.string ⟨a.toArray⟩] w fun e w' => e = .returned (.bool (takes a)) ∧ w = w' := by
  have e0 : (⟨a.toArray⟩ : ByteArray).toList = a := by rw [Lib.toList_data]
  unfold takes
  go_enter Tryd.func74, Tryd.ntmps74
  go_wp2
  all_goals (go_ret; exact ⟨by simp_all, rfl⟩)

set_option maxRecDepth 100000 in
set_option maxHeartbeats 400000 in
theorem l3Act_any (a : List UInt8) (w : World) : Calls Tryd.prog 60 #[.string ⟨a.toArray⟩] w fun e w' => e = .returned (.bool (act3 a)) ∧ w = w' := by
  have e0 : (⟨a.toArray⟩ : ByteArray).toList = a := by rw [Lib.toList_data]
  have ht := Lib.hid (l3Takes_any a)
  unfold act3
  generalize takes a = tk at *
  go_enter Tryd.func60, Tryd.ntmps60
  go_wp2_with (go_at_call 74; refine (ht.out _).mono ?_; rintro e w' ⟨rfl, hw⟩; subst hw)
  all_goals (go_ret; exact ⟨by simp_all, rfl⟩)

set_option maxRecDepth 100000 in
set_option maxHeartbeats 400000 in
theorem l10Act_any (a : List UInt8) (w : World) : Calls Tryd.prog 49 #[.string ⟨a.toArray⟩] w fun e w' => e = .returned (.bool (actB a)) ∧ w = w' := by
  have e0 : (⟨a.toArray⟩ : ByteArray).toList = a := by rw [Lib.toList_data]
  have h1 := Lib.hid (l1Act_any a)
  have h3 := Lib.hid (l3Act_any a)
  rw [actB_eq]
  generalize act1 a = b1 at *
  generalize act3 a = b3 at *
  cases b1 <;> cases b3
  all_goals
    go_enter Tryd.func49, Tryd.ntmps49
    go_wp2_with (first
      | (go_at_call 59; refine (h1.out _).mono ?_; rintro e w' ⟨rfl, hw⟩; subst hw)
      | (go_at_call 60; refine (h3.out _).mono ?_; rintro e w' ⟨rfl, hw⟩; subst hw))
    all_goals (go_ret; exact ⟨by simp_all, rfl⟩)
end Go.Proofs.YtkkcnkajffbnaaaDoor
