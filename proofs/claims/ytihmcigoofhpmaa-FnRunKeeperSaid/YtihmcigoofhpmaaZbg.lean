/-
  Which keepers and which tasks are valid; the greatest number of tasks.
  Which tasks are valid.
  RunKeeper.
-/
import Derived.Lib.Hide
import Derived.Test.YtihmcigoofhpmaaZbf
set_option linter.all false
namespace Go.Town.Kp
open Go Go.Conc Go.Conc.Lib Go.ConcR.Gen Go.RowKit Go.Town Go.Proofs
open Go.ConcN (upd upd_ne upd_same)
def vK (l : List UInt8) (f t : Int) : Bool := decide (0 ≤ f) && decide (f ≤ 20) && decide (1 ≤ t) && decide (t ≤ 20) && (l == [111, 110, 101] || l == [114, 101, 115, 116] || l == [97, 108, 108])
theorem vK_true {l : List UInt8} {f t : Int} (h0 : 0 ≤ f) (h1 : f ≤ 20) (h2 : 1 ≤ t) (h3 : t ≤ 20) (hl : l = [111, 110, 101] ∨ l = [114, 101, 115, 116] ∨ l = [97, 108, 108]) : vK l f t = true := by
  unfold vK; rcases hl with rfl | rfl | rfl <;> simp [h0, h1, h2, h3]
theorem vK_num {l : List UInt8} {f t : Int} (h : f < 0 ∨ 20 < f ∨ t < 1 ∨ 20 < t) : vK l f t = false := by
  unfold vK
  rcases h with h | h | h | h
  · have : decide (0 ≤ f) = false := by simp; omega
    simp [this]
  · have : decide (f ≤ 20) = false := by simp; omega
    simp [this]
  · have : decide (1 ≤ t) = false := by simp; omega
    simp [this]
  · have : decide (t ≤ 20) = false := by simp; omega
    simp [this]
theorem vK_rule {l : List UInt8} {f t : Int} (h1 : l ≠ [111, 110, 101]) (h2 : l ≠ [114, 101, 115, 116]) (h3 : l ≠ [97, 108, 108]) : vK l f t = false := by
  unfold vK; simp [h1, h2, h3]
theorem vK_spec {l : List UInt8} {f t : Int} (h : vK l f t = true) : ∃ κ : Kr, l = κ.rule.text.data.toList ∧ f = κ.bear ∧ t = κ.win ∧ κ.bear ≤ 20 ∧ 0 < κ.win ∧ κ.win ≤ 20 := by
  unfold vK at h
  simp only [Bool.and_eq_true, decide_eq_true_eq, Bool.or_eq_true, beq_iff_eq] at h
  obtain ⟨⟨⟨⟨h0, h1⟩, h2⟩, h3⟩, h4⟩ := h
  have e : ∃ r : Rule, l = r.text.data.toList := by
    rcases h4 with (rfl | rfl) | rfl
    · exact ⟨.one, rfl⟩
    · exact ⟨.rest, rfl⟩
    · exact ⟨.all, rfl⟩
  obtain ⟨r, hr⟩ := e
  exact ⟨⟨r, f.toNat, t.toNat⟩, hr, by simp only; omega, by simp only; omega, by simp only; omega, by simp only; omega, by simp only; omega⟩
set_option maxRecDepth 100000 in
set_option maxHeartbeats 1000000 in
theorem keeperValid_any (l : List UInt8) (f t : Int) (w : World) :
    Calls Try.prog 25 #[.agg #[.string ⟨l.toArray⟩, .int .i64 f, .int .i64 t]] w fun e w' => e = .returned (.bool (vK l f t)) ∧ Below w.heap.size w w' := by
  have B : ∀ o, Below w.heap.size w (w.alloc o) := fun o => (Below.refl _ _).alloc (Nat.le_refl _) _
  by_cases h0 : f < 0
  · rw [vK_num (.inl h0)]
    go_enter Try.func25, Try.ntmps25
    go_wp2
    go_ret
    exact ⟨rfl, B _⟩
  by_cases h1 : 20 < f
  · rw [vK_num (.inr (.inl h1))]
    go_enter Try.func25, Try.ntmps25
    go_wp2
    go_ret
    exact ⟨rfl, B _⟩
  by_cases h2 : t < 1
  · rw [vK_num (.inr (.inr (.inl h2)))]
    go_enter Try.func25, Try.ntmps25
    go_wp2
    go_ret
    exact ⟨rfl, B _⟩
  by_cases h3 : 20 < t
  · rw [vK_num (.inr (.inr (.inr h3)))]
    go_enter Try.func25, Try.ntmps25
    go_wp2
    go_ret
    exact ⟨rfl, B _⟩
  by_cases h4 : l = [111, 110, 101]
  · rw [vK_true (by omega) (by omega) (by omega) (by omega) (.inl h4)]
    subst h4
    go_enter Try.func25, Try.ntmps25
    go_wp2
    go_ret
    exact ⟨rfl, B _⟩
  by_cases h5 : l = [114, 101, 115, 116]
  · rw [vK_true (by omega) (by omega) (by omega) (by omega) (.inr (.inl h5))]
    subst h5
    go_enter Try.func25, Try.ntmps25
    go_wp2
    go_ret
    exact ⟨rfl, B _⟩
  by_cases h6 : l = [97, 108, 108]
  · rw [vK_true (by omega) (by omega) (by omega) (by omega) (.inr (.inr h6))]
    subst h6
    go_enter Try.func25, Try.ntmps25
    go_wp2
    go_ret
    exact ⟨rfl, B _⟩
  · rw [vK_rule h4 h5 h6]
    have g4 : (l == [111, 110, 101]) = false := by simp [h4]
    have g5 : (l == [114, 101, 115, 116]) = false := by simp [h5]
    have g6 : (l == [97, 108, 108]) = false := by simp [h6]
    go_enter Try.func25, Try.ntmps25
    go_wp2
    go_ret
    exact ⟨rfl, B _⟩
set_option maxRecDepth 100000 in
set_option maxHeartbeats 1000000 in
theorem l1In_any (n lo hi : Int) (w : World) : Calls Try.prog 43 #[.int .i64 n, .int .i64 lo, .int .i64 hi] w fun e w' => e = .returned (.bool (decide (lo ≤ n) && decide (n ≤ hi))) ∧ w = w' := by
  by_cases h : lo ≤ n
  · have hd : decide (lo ≤ n) = true := by simpa using h
    go_enter Try.func43, Try.ntmps43
    go_wp2
    go_ret
    exact ⟨by rw [hd]; rfl, rfl⟩
  · have hd : decide (lo ≤ n) = false := by simpa using h
    go_enter Try.func43, Try.ntmps43
    go_wp2
    go_ret
    exact ⟨rfl, rfl⟩
set_option maxRecDepth 100000 in
set_option maxHeartbeats 1000000 in
theorem specKeeperValid_any (l : List UInt8) (f t : Int) (w : World) :
    Calls Try.prog 26 #[.agg #[.string ⟨l.toArray⟩, .int .i64 f, .int .i64 t]] w fun e w' => e = .returned (.bool (vK l f t)) ∧ Below w.heap.size w w' := by
  have B : ∀ o, Below w.heap.size w (w.alloc o) := fun o => (Below.refl _ _).alloc (Nat.le_refl _) _
  obtain ⟨b1, hb1⟩ : ∃ b, b = (decide (0 ≤ f) && decide (f ≤ 20)) := ⟨_, rfl⟩
  obtain ⟨b2, hb2⟩ : ∃ b, b = (decide (1 ≤ t) && decide (t ≤ 20)) := ⟨_, rfl⟩
  have c1 : Hid (∀ w, Calls Try.prog 43 #[.int .i64 f, .int .i64 0, .int .i64 20] w fun e w' => e = .returned (.bool b1) ∧ w = w') := ⟨fun w => by rw [hb1]; exact l1In_any f 0 20 w⟩
  have c2 : Hid (∀ w, Calls Try.prog 43 #[.int .i64 t, .int .i64 1, .int .i64 20] w fun e w' => e = .returned (.bool b2) ∧ w = w') := ⟨fun w => by rw [hb2]; exact l1In_any t 1 20 w⟩
  have hv : vK l f t = (b1 && b2 && (l == [111, 110, 101] || l == [114, 101, 115, 116] || l == [97, 108, 108])) := by
    rw [hb1, hb2]; unfold vK; simp [Bool.and_assoc]
  rw [hv]
  clear hb1 hb2 hv
  by_cases h4 : l = [111, 110, 101]
  · subst h4
    cases b1 <;> cases b2 <;>
    · go_enter Try.func26, Try.ntmps26
      go_wp2_with (first | (go_at_call 43; (with_reducible refine (c1.out _).mono ?_); rintro e w' ⟨rfl, rfl⟩) | (go_at_call 43; (with_reducible refine (c2.out _).mono ?_); rintro e w' ⟨rfl, rfl⟩))
      go_ret
      exact ⟨rfl, B _⟩
  by_cases h5 : l = [114, 101, 115, 116]
  · subst h5
    cases b1 <;> cases b2 <;>
    · go_enter Try.func26, Try.ntmps26
      go_wp2_with (first | (go_at_call 43; (with_reducible refine (c1.out _).mono ?_); rintro e w' ⟨rfl, rfl⟩) | (go_at_call 43; (with_reducible refine (c2.out _).mono ?_); rintro e w' ⟨rfl, rfl⟩))
      go_ret
      exact ⟨rfl, B _⟩
  by_cases h6 : l = [97, 108, 108]
  · subst h6
    cases b1 <;> cases b2 <;>
    · go_enter Try.func26, Try.ntmps26
      go_wp2_with (first | (go_at_call 43; (with_reducible refine (c1.out _).mono ?_); rintro e w' ⟨rfl, rfl⟩) | (go_at_call 43; (with_reducible refine (c2.out _).mono ?_); rintro e w' ⟨rfl, rfl⟩))
      go_ret
      exact ⟨rfl, B _⟩
  · have g4 : (l == [111, 110, 101]) = false := by simp [h4]
    have g5 : (l == [114, 101, 115, 116]) = false := by simp [h5]
    have g6 : (l == [97, 108, 108]) = false := by simp [h6]
    rw [show (b1 && b2 && (l == [111, 110, 101] || l == [114, 101, 115, 116] || l == [97, 108, 108])) = false by simp [g4, g5, g6]]
    clear c1 c2
    go_enter Try.func26, Try.ntmps26
    go_wp2
    go_ret
    exact ⟨rfl, B _⟩
end Go.Town.Kp
namespace Go.Town.Kp
open Go Go.Conc Go.Conc.Lib Go.ConcR.Gen Go.RowKit Go.Town Go.Proofs
open Go.ConcN (upd upd_ne upd_same)
def taskOk (v : Int) : Bool := decide (0 ≤ v) && decide (v ≤ 1000)
def rowOk (l : List Int) : Bool := decide (l.length ≤ 20) && l.all taskOk
def vT (J : List (List Int)) : Bool := decide (1 ≤ J.length) && decide (J.length ≤ 4) && J.all rowOk
theorem vT_false_row {J : List (List Int)} {k : Nat} (hk : k < J.length) (h : rowOk J[k] = false) : vT J = false := by
  have : J.all rowOk = false := by
    rw [List.all_eq_false]
    exact ⟨J[k], List.getElem_mem hk, by simp [h]⟩
  unfold vT; simp [this]
theorem rowOk_long {l : List Int} (h : 20 < l.length) : rowOk l = false := by
  have : decide (l.length ≤ 20) = false := by simp; omega
  unfold rowOk; simp [this]
theorem rowOk_task {l : List Int} {i : Nat} (hi : i < l.length) (h : taskOk l[i] = false) : rowOk l = false := by
  have : l.all taskOk = false := by
    rw [List.all_eq_false]
    exact ⟨l[i], List.getElem_mem hi, by simp [h]⟩
  unfold rowOk; simp [this]
theorem rowOk_true {l : List Int} (h : l.length ≤ 20) (ha : ∀ i (hi : i < l.length), taskOk l[i] = true) : rowOk l = true := by
  have : l.all taskOk = true := by
    rw [List.all_eq_true]
    intro x hx
    obtain ⟨i, hi, rfl⟩ := List.getElem_of_mem hx
    exact ha i hi
  unfold rowOk; simp [this, h]
theorem vT_true {J : List (List Int)} (h1 : 1 ≤ J.length) (h4 : J.length ≤ 4) (ha : ∀ i (hi : i < J.length), rowOk J[i] = true) : vT J = true := by
  have : J.all rowOk = true := by
    rw [List.all_eq_true]
    intro x hx
    obtain ⟨i, hi, rfl⟩ := List.getElem_of_mem hx
    exact ha i hi
  unfold vT; simp [this, h1, h4]
theorem vT_spec {J : List (List Int)} (h : vT J = true) : 0 < J.length ∧ J.length ≤ 4 ∧ TasksIn J ∧ ∀ l ∈ J, l.length ≤ 20 := by
  unfold vT at h
  simp only [Bool.and_eq_true, decide_eq_true_eq, List.all_eq_true] at h
  obtain ⟨⟨h1, h4⟩, h5⟩ := h
  refine ⟨by omega, h4, fun l hl v hv => ?_, fun l hl => ?_⟩
  · have := h5 l hl
    simp only [rowOk, taskOk, Bool.and_eq_true, decide_eq_true_eq, List.all_eq_true] at this
    exact this.2 v hv
  · have := h5 l hl
    simp only [rowOk, Bool.and_eq_true, decide_eq_true_eq] at this
    exact this.1
theorem ret_bool {a b : Bool} (h : a = b) : Ending.returned (.bool a) = .returned (.bool b) := by rw [h]
set_option maxRecDepth 100000 in
set_option maxHeartbeats 2000000 in
theorem tasksValid_any (a : Option Addr) (c : Nat) (J : List (List Int)) (w : World) (hn : J.length ≤ 1048576) (hm : ∀ l ∈ J, l.length ≤ 1048576) (hA : RowsAt w a J) :
    Calls Try.prog 35 #[.slice a J.length c] w fun e w' => e = .returned (.bool (vT J)) ∧ w = w' := by
  by_cases h1 : J.length < 1
  · have hv : vT J = false := by unfold vT; simp; omega
    rw [hv]
    have h1' : (J.length : Int) < 1 := by omega
    clear hv
    go_enter Try.func35, Try.ntmps35
    go_wp2
    go_ret
    exact ⟨rfl, rfl⟩
  by_cases h4 : 4 < J.length
  · have hv : vT J = false := by
      have : decide (J.length ≤ 4) = false := by simp; omega
      unfold vT; simp [this]
    rw [hv]
    have h4' : 4 < (J.length : Int) := by omega
    clear hv
    go_enter Try.func35, Try.ntmps35
    go_wp2
    go_ret
    exact ⟨rfl, rfl⟩
  have h1' : ¬ (J.length : Int) < 1 := by omega
  have h4' : ¬ 4 < (J.length : Int) := by omega
  go_enter Try.func35, Try.ntmps35
  go_wp2
  go_loop [17] (fun i => ∃ k : Nat, k ≤ J.length ∧ i = .int .i64 k ∧ Hid (∀ j (hj : j < J.length), j < k → rowOk J[j] = true)) (fun i => J.length - (intOf i).toNat)
  case atStart => exact ⟨0, Nat.zero_le _, rfl, ⟨fun j hj h => by omega⟩⟩
  case round =>
    obtain ⟨k, hk, rfl, hok⟩ := hrel
    by_cases hlt : k < J.length
    · obtain ⟨b, off, a', c', rfl, hbs, hck, hI⟩ := hA.at hlt
      have hlt' : (k : Int) < (J.length : Int) := by omega
      have hml : J[k].length ≤ 1048576 := hm _ (List.getElem_mem hlt)
      by_cases h20 : 20 < J[k].length
      · have hv : Hid (vT J = false) := ⟨vT_false_row hlt (rowOk_long h20)⟩
        have h20' : 20 < (J[k].length : Int) := by omega
        go_wp2
        go_ret
        exact ⟨ret_bool hv.out.symm, rfl⟩
      · have h20' : ¬ 20 < (J[k].length : Int) := by omega
        have hrow : Hid (∃ l, l = J[k]) := ⟨⟨_, rfl⟩⟩
        go_wp2
        go_loop [26] (fun i => ∃ m : Nat, m ≤ J[k].length ∧ i = .int .i64 m ∧ Hid (∀ j (hj : j < J[k].length), j < m → taskOk J[k][j] = true)) (fun i => J[k].length - (intOf i).toNat)
        case atStart => exact ⟨0, Nat.zero_le _, rfl, ⟨fun j hj h => by omega⟩⟩
        case round =>
          obtain ⟨m, hm2, rfl, hok2⟩ := hrel
          by_cases hlt2 : m < J[k].length
          · obtain ⟨b2, off2, rfl, hbs2, hck2⟩ := hI.at hlt2
            have hlt2' : (m : Int) < (J[k].length : Int) := by omega
            have hv : Hid (taskOk J[k][m] = (decide (0 ≤ J[k][m]) && decide (J[k][m] ≤ 1000))) := ⟨rfl⟩
            have hbad : Hid (taskOk J[k][m] = false → vT J = false) := ⟨fun h => vT_false_row hlt (rowOk_task hlt2 h)⟩
            have hgood : Hid (taskOk J[k][m] = true → ∀ j (hj : j < J[k].length), j < m + 1 → taskOk J[k][j] = true) := ⟨fun h j hj hjm => by
              rcases (by omega : j < m ∨ j = m) with h' | rfl
              · exact hok2.out j hj h'
              · exact h⟩
            generalize J[k][m] = v at *
            by_cases hv0 : v < 0
            · go_wp2
              go_ret
              exact ⟨ret_bool (hbad.out (by rw [hv.out]; simp; omega)).symm, rfl⟩
            by_cases hv1 : 1000 < v
            · go_wp2
              go_ret
              exact ⟨ret_bool (hbad.out (by rw [hv.out]; simp; omega)).symm, rfl⟩
            go_wp2
            go_round
            case rel => exact ⟨m + 1, by omega, by go_num, ⟨hgood.out (by rw [hv.out]; simp; omega)⟩⟩
            case measure => simp [intOf]; omega
          · obtain rfl : m = J[k].length := by omega
            go_wp2
            go_round
            case rel => exact ⟨k + 1, by omega, by go_num, ⟨fun j hj hjk => by
              rcases (by omega : j < k ∨ j = k) with h' | rfl
              · exact hok.out j hj h'
              · exact rowOk_true (by omega) (fun i hi => hok2.out i hi hi)⟩⟩
            case measure => simp [intOf]; omega
    · obtain rfl : k = J.length := by omega
      have hv : Hid (vT J = true) := ⟨vT_true (by omega) (by omega) (fun i hi => hok.out i hi hi)⟩
      go_wp2
      go_ret
      exact ⟨ret_bool hv.out.symm, rfl⟩
def mxR (J : List (List Int)) : Nat → Nat
  | 0 => 0
  | k + 1 => max (mxR J k) (J.getD k []).length
theorem mxR_le {J : List (List Int)} {B : Nat} (h : ∀ l ∈ J, l.length ≤ B) : ∀ k, mxR J k ≤ B
  | 0 => by simp [mxR]
  | k + 1 => by
    have := mxR_le h k
    have h2 : (J.getD k []).length ≤ B := by
      by_cases hk : k < J.length
      · have e : J.getD k [] = J[k] := by simp [List.getD, hk]
        rw [e]; exact h _ (List.getElem_mem hk)
      · have e : J.getD k [] = [] := by simp [List.getD, List.getElem?_eq_none (show J.length ≤ k by omega)]
        rw [e]; simp
    simp only [mxR]
    omega
theorem mxR_succ {J : List (List Int)} {k : Nat} (hk : k < J.length) : mxR J (k + 1) = max (mxR J k) J[k].length := by
  have e : J.getD k [] = J[k] := by simp [List.getD, hk]
  simp only [mxR, e]
set_option maxRecDepth 100000 in
set_option maxHeartbeats 2000000 in
theorem longest_any (a : Option Addr) (c : Nat) (J : List (List Int)) (w : World) (hn : J.length ≤ 1048576) (hm : ∀ l ∈ J, l.length ≤ 1048576) (hA : RowsAt w a J) :
    Calls Try.prog 37 #[.slice a J.length c] w fun e w' => e = .returned (.int .i64 (mxR J J.length : Nat)) ∧ w = w' := by
  go_enter Try.func37, Try.ntmps37
  go_wp2
  go_loop [3, 8] (fun r i => ∃ k : Nat, k ≤ J.length ∧ i = .int .i64 k ∧ r = .int .i64 (mxR J k : Nat)) (fun _ i => J.length - (intOf i).toNat)
  case atStart => exact ⟨0, Nat.zero_le _, rfl, rfl⟩
  case round =>
    obtain ⟨k, hk, rfl, rfl⟩ := hrel
    by_cases hlt : k < J.length
    · obtain ⟨b, off, a', c', rfl, hbs, hck, hI⟩ := hA.at hlt
      have hlt' : (k : Int) < (J.length : Int) := by omega
      have hml : J[k].length ≤ 1048576 := hm _ (List.getElem_mem hlt)
      have hmm : mxR J k ≤ 1048576 := mxR_le hm k
      have hs : Hid (mxR J (k + 1) = max (mxR J k) J[k].length) := ⟨mxR_succ hlt⟩
      generalize mxR J k = r at *
      generalize J[k].length = n at *
      go_wp2
      go_round
      case rel => exact ⟨k + 1, by omega, by go_num, by rw [hs.out]; congr 1; split <;> omega⟩
      case measure => simp [intOf]; omega
    · obtain rfl : k = J.length := by omega
      go_wp2
      go_ret
      exact ⟨rfl, rfl⟩
set_option maxRecDepth 100000 in
set_option maxHeartbeats 2000000 in
theorem specLongest_any (a : Option Addr) (c : Nat) (J : List (List Int)) (w : World) (hn : J.length ≤ 1048576) (hm : ∀ l ∈ J, l.length ≤ 1048576) (hA : RowsAt w a J) :
    Calls Try.prog 40 #[.slice a J.length c] w fun e w' => e = .returned (.int .i64 (mxR J J.length : Nat)) ∧ w = w' := by
  go_enter Try.func40, Try.ntmps40
  go_wp2
  go_loop [3, 4] (fun r i => ∃ k : Nat, k ≤ J.length ∧ i = .int .i64 k ∧ r = .int .i64 (mxR J k : Nat)) (fun _ i => J.length - (intOf i).toNat)
  case atStart => exact ⟨0, Nat.zero_le _, rfl, rfl⟩
  case round =>
    obtain ⟨k, hk, rfl, rfl⟩ := hrel
    by_cases hlt : k < J.length
    · obtain ⟨b, off, a', c', rfl, hbs, hck, hI⟩ := hA.at hlt
      have hlt' : (k : Int) < (J.length : Int) := by omega
      have hml : J[k].length ≤ 1048576 := hm _ (List.getElem_mem hlt)
      have hmm : mxR J k ≤ 1048576 := mxR_le hm k
      have hs : Hid (mxR J (k + 1) = max (mxR J k) J[k].length) := ⟨mxR_succ hlt⟩
      generalize mxR J k = r at *
      generalize J[k].length = n at *
      go_wp2
      go_round
      case rel => exact ⟨k + 1, by omega, by go_num, by rw [hs.out]; congr 1; split <;> omega⟩
      case measure => simp [intOf]; omega
    · obtain rfl : k = J.length := by omega
      go_wp2
      go_ret
      exact ⟨rfl, rfl⟩
set_option maxRecDepth 100000 in
set_option maxHeartbeats 2000000 in
theorem specTasksValid_any (a : Option Addr) (c : Nat) (J : List (List Int)) (w : World) (hn : J.length ≤ 1048576) (hm : ∀ l ∈ J, l.length ≤ 1048576) (hA : RowsAt w a J) :
    Calls Try.prog 38 #[.slice a J.length c] w fun e w' => e = .returned (.bool (vT J)) ∧ w = w' := by
  have c1 : Hid (∀ (v : Int) (b : Bool), b = taskOk v → ∀ w, Calls Try.prog 43 #[.int .i64 v, .int .i64 0, .int .i64 1000] w fun e w' => e = .returned (.bool b) ∧ w = w') := ⟨fun v b hb w => by rw [hb]; exact l1In_any v 0 1000 w⟩
  have c2 : Hid (∀ w, Calls Try.prog 43 #[.int .i64 (J.length : Nat), .int .i64 1, .int .i64 4] w fun e w' => e = .returned (.bool (decide (1 ≤ J.length) && decide (J.length ≤ 4))) ∧ w = w') := ⟨fun w => by
    have := l1In_any (J.length : Nat) 1 4 w
    have e1 : decide ((1 : Int) ≤ (J.length : Nat)) = decide (1 ≤ J.length) := by simp only [decide_eq_decide]; omega
    have e2 : decide (((J.length : Nat) : Int) ≤ 4) = decide (J.length ≤ 4) := by simp only [decide_eq_decide]; omega
    rw [e1, e2] at this
    exact this⟩
  go_enter Try.func38, Try.ntmps38
  go_wp2
  go_loop [3] (fun i => ∃ k : Nat, k ≤ J.length ∧ i = .int .i64 k ∧ Hid (∀ j (hj : j < J.length), j < k → rowOk J[j] = true)) (fun i => J.length - (intOf i).toNat)
  case atStart => exact ⟨0, Nat.zero_le _, rfl, ⟨fun j hj h => by omega⟩⟩
  case round =>
    obtain ⟨k, hk, rfl, hok⟩ := hrel
    by_cases hlt : k < J.length
    · obtain ⟨b, off, a', c', rfl, hbs, hck, hI⟩ := hA.at hlt
      have hlt' : (k : Int) < (J.length : Int) := by omega
      have hml : J[k].length ≤ 1048576 := hm _ (List.getElem_mem hlt)
      go_wp2
      go_loop [4] (fun i => ∃ m : Nat, m ≤ J[k].length ∧ i = .int .i64 m ∧ Hid (∀ j (hj : j < J[k].length), j < m → taskOk J[k][j] = true)) (fun i => J[k].length - (intOf i).toNat)
      case atStart => exact ⟨0, Nat.zero_le _, rfl, ⟨fun j hj h => by omega⟩⟩
      case round =>
        obtain ⟨m, hm2, rfl, hok2⟩ := hrel
        by_cases hlt2 : m < J[k].length
        · obtain ⟨b2, off2, rfl, hbs2, hck2⟩ := hI.at hlt2
          have hlt2' : (m : Int) < (J[k].length : Int) := by omega
          have hbad : Hid (taskOk J[k][m] = false → vT J = false) := ⟨fun h => vT_false_row hlt (rowOk_task hlt2 h)⟩
          have hgood : Hid (taskOk J[k][m] = true → ∀ j (hj : j < J[k].length), j < m + 1 → taskOk J[k][j] = true) := ⟨fun h j hj hjm => by
            rcases (by omega : j < m ∨ j = m) with h' | rfl
            · exact hok2.out j hj h'
            · exact h⟩
          have c1v : Hid _ := ⟨c1.out J[k][m] _ rfl⟩
          generalize J[k][m] = v at *
          cases hv : taskOk v with
          | false =>
            rw [hv] at c1v hbad
            clear hv hgood
            go_wp2_with (go_at_call 43; (with_reducible refine (c1v.out _).mono ?_); rintro e w' ⟨rfl, rfl⟩)
            go_ret
            exact ⟨ret_bool (hbad.out (by trivial)).symm, rfl⟩
          | true =>
            rw [hv] at c1v hgood
            clear hv hbad
            go_wp2_with (go_at_call 43; (with_reducible refine (c1v.out _).mono ?_); rintro e w' ⟨rfl, rfl⟩)
            go_round
            case rel => exact ⟨m + 1, by omega, by go_num, ⟨hgood.out (by trivial)⟩⟩
            case measure => simp [intOf]; omega
        · obtain rfl : m = J[k].length := by omega
          by_cases h20 : 20 < J[k].length
          · have hv : Hid (vT J = false) := ⟨vT_false_row hlt (rowOk_long h20)⟩
            have h20' : 20 < (J[k].length : Int) := by omega
            go_wp2
            go_ret
            exact ⟨ret_bool hv.out.symm, rfl⟩
          · have h20' : ¬ 20 < (J[k].length : Int) := by omega
            go_wp2
            go_round
            case rel => exact ⟨k + 1, by omega, by go_num, ⟨fun j hj hjk => by
              rcases (by omega : j < k ∨ j = k) with h' | rfl
              · exact hok.out j hj h'
              · exact rowOk_true (by omega) (fun i hi => hok2.out i hi hi)⟩⟩
            case measure => simp [intOf]; omega
    · obtain rfl : k = J.length := by omega
      have hv : Hid (vT J = (decide (1 ≤ J.length) && decide (J.length ≤ 4))) := ⟨by
        have : J.all rowOk = true := by
          rw [List.all_eq_true]
          intro x hx
          obtain ⟨i, hi, rfl⟩ := List.getElem_of_mem hx
          exact hok.out i hi hi
        unfold vT
        rw [this]; simp⟩
      go_wp2_with (go_at_call 43; (with_reducible refine (c2.out _).mono ?_); rintro e w' ⟨rfl, rfl⟩)
      go_ret
      exact ⟨ret_bool hv.out.symm, rfl⟩
end Go.Town.Kp
namespace Go.Town.Kp
open Go Go.Conc Go.Conc.Lib Go.ConcR.Gen Go.RowKit Go.Town Go.Proofs
open Go.ConcN (upd upd_ne upd_same)
noncomputable def body10 : Code := Try.f10.body.getD .skip
noncomputable def bad10 : Code := match tailC 1 (headC 1 body10) with | .cond _ c _ => c | c => c
theorem body10_eq : body10 = .seq (headC 0 body10) (.seq (.seq (headC 0 (headC 1 body10)) (.cond (.tmp 13) bad10 .skip)) (.seq (headC 2 body10) .ret)) := by kernel_rfl
theorem Below.kin {w w' : World} {B : Nat} (h : Below w.heap.size w w') (hB : B ≤ w.heap.size) : Kin B w w' :=
  ⟨fun x j v hx hv => (h.cell (p := ⟨x, j, none⟩) (by show x < w.heap.size; omega)).trans hv, fun x j v hx _ hf => (h.frozen (p := ⟨x, j, none⟩) (by show x < w.heap.size; omega)).trans hf, h.size⟩
def Reads (w : World) (x : Nat) (vs : List Value) : Prop := ∀ j, j < vs.length → w.cell? ⟨x, j, none⟩ = vs[j]? ∧ w.frozen? ⟨x, j, none⟩ = false
theorem Reads.kin {B : Nat} {w w' : World} {x : Nat} {vs : List Value} (h : Reads w x vs) (k : Kin B w w') (hx : x < B) : Reads w' x vs := fun j hj => by
  obtain ⟨h1, h2⟩ := h j hj
  rw [List.getElem?_eq_getElem hj] at h1 ⊢
  exact ⟨k.cells _ _ _ hx h1, k.thaw _ _ _ hx h1 h2⟩
theorem reads_block {w : World} {x : Nat} {vs : List Value} {t : TypeId} (h : w.heap[x]? = some (.cells vs.toArray t)) : Reads w x vs := fun j hj => by
  have := cell_of_block (w := w) (b := x) (j := j) (cs := vs.toArray) (t := t) (v := vs[j]) h (by simp [hj])
  exact ⟨by rw [List.getElem?_eq_getElem hj]; exact this.1, this.2⟩
section
variable {A : At} {C : Cfg} {L : Nat → Ws} {Post : Value → World → Prop} {N k : Nat} {wl : World} {i : Nat} {cs : List Frame} {slot : Nat → Option Nat} {sum starts : Nat → Int} {b₀ : Frame} {a₀ : Act} {ops₀ : Array Oper} {i₀ : Nat} {rest₀ : List Nat} {k₀ : List Item}
variable {l : List UInt8} {f t : Int} {J : List (List Int)} {tc : Nat} {ta : Option Addr} {C₀ : Cfg} {b' o' Bd : Nat}
theorem ord10 : ordersOf (match headC 2 body10 with | .region _ ops _ => ops | _ => #[]) 7 (Array.replicate 7 false) = [[0, 1, 2, 3, 4, 5, 6], [0, 2, 1, 3, 4, 5, 6], [0, 2, 3, 1, 4, 5, 6], [1, 0, 2, 3, 4, 5, 6], [1, 2, 0, 3, 4, 5, 6], [1, 2, 3, 0, 4, 5, 6], [2, 0, 1, 3, 4, 5, 6], [2, 0, 3, 1, 4, 5, 6], [2, 1, 0, 3, 4, 5, 6], [2, 1, 3, 0, 4, 5, 6], [2, 3, 0, 1, 4, 5, 6], [2, 3, 1, 0, 4, 5, 6]] := by kernel_rfl
set_option maxRecDepth 100000 in
set_option maxHeartbeats 400000 in
theorem leave10 {C : Cfg} {b o : Nat} {Rs : (Nat → Prop) → (Nat → Role) → Nat → Prop} {rb : Nat} {todo : List Item} {x y : Option Addr} {n1 m1 n2 m2 : Nat} {s : ByteArray} {q : Int} {ok : Bool} {z0 z1 z2 z3 z6 z7 z8 z9 z10 z11 z12 z13 z14 z15 z16 z17 z18 z19 : Value} {w : World} (hS : Steady Rs) (hL : Lay C w) (h0 : w.cell? ⟨rb, 0, none⟩ = some (.slice x n1 m1)) (h1 : w.cell? ⟨rb, 1, none⟩ = some (.slice y n2 m2)) (h2 : w.cell? ⟨rb, 2, none⟩ = some (.string s)) (h3 : w.cell? ⟨rb, 3, none⟩ = some (.int .i64 q))
    (h : Can Try.prog C b o Post 0 Rs w (G (b₀.at (a₀.put ((ops₀[i₀]?).bind (·.dst)) (.tuple #[.agg #[.slice x n1 m1, .slice y n2 m2, .string s, .int .i64 q], .bool ok])) (.inRegion ops₀ rest₀ :: k₀)) cs)) :
    Can Try.prog C b o Post 0 Rs w (G { (base 10).at ⟨#[z0, z1, z2, z3, .pointer (some ⟨rb, 0, none⟩), .bool ok, z6, z7, z8, z9, z10, z11, z12, z13, z14, z15, z16, z17, z18, z19], []⟩ todo with mode := .returning } (b₀.at a₀ (.inRegion ops₀ (i₀ :: rest₀) :: k₀) :: cs)) := by
  refine Can.leaves (v := .tuple #[.agg #[.slice x n1 m1, .slice y n2 m2, .string s, .int .i64 q], .bool ok]) hS hL rfl rfl Try.func10 (fun T d => ?_) ?_
  · have h0 : (w.re T d).cell? ⟨rb, 0, none⟩ = _ := h0
    have h1 : (w.re T d).cell? ⟨rb, 1, none⟩ = _ := h1
    have h2 : (w.re T d).cell? ⟨rb, 2, none⟩ = _ := h2
    have h3 : (w.re T d).cell? ⟨rb, 3, none⟩ = _ := h3
    generalize w.re T d = w₅ at *
    simp [results, Try.results10, go_sem, h0, h1, h2, h3]
  · rw [Frame.finish_at]
    exact h
theorem bwre {w w' : World} {T : Nat → Question → Nat} {d : Nat} (h : Below (w.re T d).heap.size (w.re T d) w') : Kin w.heap.size w w' :=
  have k := Below.kin h (Nat.le_refl _)
  ⟨k.cells, k.thaw, k.size⟩
theorem Kin.le {B B' : Nat} {w w' : World} (h : Kin B w w') (hB : B' ≤ B) : Kin B' w w' := ⟨fun x j v hx => h.cells x j v (by omega), fun x j v hx => h.thaw x j v (by omega), h.size⟩
theorem Reads.ex {w : World} {x : Nat} {vs : List Value} (h : Reads w x vs) {j : Nat} (hj : j < vs.length) : ∃ v, w.cell? ⟨x, j, none⟩ = some v := ⟨vs[j], by rw [(h j hj).1, List.getElem?_eq_getElem hj]⟩
set_option maxRecDepth 100000 in
set_option maxHeartbeats 1000000 in
theorem rk_first (hp : OkProg Try.prog okT) (hL : Lay C₀ wl) (hn : J.length ≤ 1048576) (hm : ∀ l ∈ J, l.length ≤ 1048576) (hR : RowsAt wl ta J)
    (kbad : (vK l f t && vT J) = false → ∀ wl', Lay C₀ wl' → Kin wl.heap.size wl wl' → Can Try.prog C₀ b' o' Post 0 (AloneB Bd) wl' (G (b₀.at (a₀.put ((ops₀[i₀]?).bind (·.dst)) (.tuple #[(.agg #[.slice none 0 0, .slice none 0 0, .string ⟨#[]⟩, .int .i64 0]), .bool false])) (.inRegion ops₀ rest₀ :: k₀)) cs))
    (kgood : vK l f t = true → vT J = true → ∀ z3 z6 z7 z8 z9 z10 z11 z12 z13 z14 z15 z16 z17 z18 z19 wl', Lay C₀ wl' → Kin wl.heap.size wl wl' → Reads wl' wl.heap.size [.string ⟨l.toArray⟩, .int .i64 f, .int .i64 t] → Reads wl' (wl.heap.size + 1) [.slice none 0 0, .slice none 0 0, .string ⟨#[]⟩, .int .i64 0] → wl.heap.size + 2 ≤ wl'.heap.size → Can Try.prog C₀ b' o' Post 0 (AloneB Bd) wl' (G ((base 10).at ⟨#[.agg #[.string ⟨l.toArray⟩, .int .i64 f, .int .i64 t], .slice ta J.length tc, .pointer (some ⟨wl.heap.size, 0, none⟩), z3, .pointer (some ⟨(wl.heap.size + 1), 0, none⟩), .bool false, z6, z7, z8, z9, z10, z11, z12, z13, z14, z15, z16, z17, z18, z19], []⟩ [.code (.seq (headC 2 body10) .ret)]) (b₀.at a₀ (.inRegion ops₀ (i₀ :: rest₀) :: k₀) :: cs))) :
    Can Try.prog C₀ b' o' Post 0 (AloneB Bd) wl (G ((base 10).at ⟨#[.agg #[.string ⟨l.toArray⟩, .int .i64 f, .int .i64 t], .slice ta J.length tc] ++ Array.replicate 18 undef, []⟩ [.code body10]) (b₀.at a₀ (.inRegion ops₀ (i₀ :: rest₀) :: k₀) :: cs)) := by
  have hS := steady_aloneB Bd
  have ea : (#[.agg #[.string ⟨l.toArray⟩, .int .i64 f, .int .i64 t], .slice ta J.length tc] ++ Array.replicate 18 undef : Array Value) = #[.agg #[.string ⟨l.toArray⟩, .int .i64 f, .int .i64 t], .slice ta J.length tc, undef, undef, undef, undef, undef, undef, undef, undef, undef, undef, undef, undef, undef, undef, undef, undef, undef, undef] := by kernel_rfl
  rw [ea, body10_eq]
  refine Can.ctl hS hL rfl (fun _ => stepG_seq) ?_
  refine Can.code' hp hS hL (okFr_at (by kernel_rfl) rfl rfl ⟨_, Try.func10⟩) ?_
  intro T d W hW B hB
  simp only [headC, tailC, bodyC, body10, Try.f10, Option.getD_some]
  go_wp2
  have hB := hB.out
  subst hB
  intro hc
  have hW := hW.out
  subst hW
  obtain ⟨w₁, hw₁⟩ : ∃ w, w = ((wl.re T d).alloc (.cells #[.string ⟨l.toArray⟩, .int .i64 f, .int .i64 t] 24)).alloc (.cells #[.slice none 0 0, .slice none 0 0, .string ⟨#[]⟩, .int .i64 0] 30) := ⟨_, rfl⟩
  rw [← hw₁] at hc ⊢
  have hsz : (wl.re T d).heap.size = wl.heap.size := rfl
  have x1 : ((wl.re T d).alloc (.cells #[.string ⟨l.toArray⟩, .int .i64 f, .int .i64 t] 24)).heap.size = wl.heap.size + 1 := by rw [World.size_alloc, hsz]
  have z₁ : w₁.heap.size = wl.heap.size + 2 := by rw [hw₁, World.size_alloc, x1]
  have r₁ : Reads w₁ wl.heap.size [.string ⟨l.toArray⟩, .int .i64 f, .int .i64 t] := reads_block (t := 24) (by rw [hw₁, ← hsz]; exact heap_alloc_lt (alloc_self (wl.re T d) _))
  have q₁ : Reads w₁ (wl.heap.size + 1) [.slice none 0 0, .slice none 0 0, .string ⟨#[]⟩, .int .i64 0] := reads_block (t := 30) (by rw [hw₁, ← x1]; exact alloc_self _ _)
  have G₁ : Kin wl.heap.size wl w₁ := by rw [hw₁]; exact ((((Grown.refl wl).re T d).alloc _).alloc _).kin (Nat.le_refl _)
  simp only [hsz]
  clear hw₁ x1 hsz
  have hL₁ : Lay C₀ w₁ := ⟨hc, hL.no⟩
  have hR₁ : RowsAt w₁ ta J := hR.kept G₁.cells G₁.size
  replace z₁ : Hid _ := ⟨z₁⟩
  clear hc
  refine Can.ctl hS hL₁ rfl (fun _ => stepG_seq) ?_
  refine Can.ctl hS hL₁ rfl (fun _ => stepG_seq) ?_
  obtain ⟨rb, hrb⟩ : ∃ x : Nat, Hid (x = wl.heap.size + 1) := ⟨_, ⟨rfl⟩⟩
  rw [← hrb.out] at q₁ ⊢
  have mid : Hid (∀ b : Bool, b = (vK l f t && vT J) → ∀ z6 z7 z8 z9 z10 z11 z12 z14 z15 z16 z17 z18 z19 w', Kin w₁.heap.size w₁ w' → Lay C₀ w' → Can Try.prog C₀ b' o' Post 0 (AloneB Bd) w' (G ((base 10).at ⟨#[.agg #[.string ⟨l.toArray⟩, .int .i64 f, .int .i64 t], .slice ta J.length tc, .pointer (some ⟨wl.heap.size, 0, none⟩), undef, .pointer (some ⟨rb, 0, none⟩), .bool false, z6, z7, z8, z9, z10, z11, z12, .bool (!b), z14, z15, z16, z17, z18, z19], []⟩ [.code (.cond (.tmp 13) bad10 .skip), .code (.seq (headC 2 body10) .ret)]) (b₀.at a₀ (.inRegion ops₀ (i₀ :: rest₀) :: k₀) :: cs))) := by
    refine ⟨?_⟩
    intro b hb z6 z7 z8 z9 z10 z11 z12 z14 z15 z16 z17 z18 z19 w' hbw hL₂
    have zz := z₁.out
    have G₂ : Kin wl.heap.size wl w' := G₁.trans (hbw.le (by omega))
    have K₂ : Kin w₁.heap.size w₁ w' := hbw
    have r₂ := r₁.kin K₂ (by omega)
    have q₂ := q₁.kin K₂ (by have := hrb.out; omega)
    have z₂ := K₂.size
    replace zz : Hid _ := ⟨zz⟩
    cases b with
    | false =>
      replace hb : Hid _ := ⟨hb⟩
      refine Can.ctl hS hL₂ rfl (fun _ => stepG_cond (t := true) rfl) ?_; simp only [if_true, if_false, Bool.false_eq_true, ↓reduceIte]
      refine Can.code' hp hS hL₂ (okFr_at (by kernel_rfl) rfl rfl ⟨_, Try.func10⟩) ?_
      intro T d W hW B hB
      simp only [headC, tailC, bodyC, bad10, body10, Try.f10, Option.getD_some]
      have q0 := q₂ 0 (by simp)
      have c0 : W.cell? ⟨rb, 0, none⟩ = some (.slice none 0 0) := by rw [hW.out]; exact q0.1
      have f0 : W.frozen? ⟨rb, 0, none⟩ = false := by rw [hW.out]; exact q0.2
      clear q0
      have q1 := q₂ 1 (by simp)
      have c1 : W.cell? ⟨rb, 1, none⟩ = some (.slice none 0 0) := by rw [hW.out]; exact q1.1
      have f1 : W.frozen? ⟨rb, 1, none⟩ = false := by rw [hW.out]; exact q1.2
      clear q1
      have q2 := q₂ 2 (by simp)
      have c2 : W.cell? ⟨rb, 2, none⟩ = some (.string ⟨#[]⟩) := by rw [hW.out]; exact q2.1
      have f2 : W.frozen? ⟨rb, 2, none⟩ = false := by rw [hW.out]; exact q2.2
      clear q2
      have q3 := q₂ 3 (by simp)
      have c3 : W.cell? ⟨rb, 3, none⟩ = some (.int .i64 0) := by rw [hW.out]; exact q3.1
      have f3 : W.frozen? ⟨rb, 3, none⟩ = false := by rw [hW.out]; exact q3.2
      clear q3
      go_wp2
      have hB := hB.out
      subst hB
      intro hc todo
      have hW := hW.out
      subst hW
      have kin : Kin wl.heap.size wl (set4 (w'.re T d) rb (.slice none 0 0) (.slice none 0 0) (.string ⟨#[]⟩) (.int .i64 0)) :=
        ((((G₂.re T d).set _ (by have := hrb.out; omega)).set _ (by have := hrb.out; omega)).set _ (by have := hrb.out; omega)).set _ (by have := hrb.out; omega)
      obtain ⟨s0, s1, s2, s3⟩ := set4_cells (w := w'.re T d) (rb := rb) (fun j hj => q₂.ex (by simpa using hj)) (.slice none 0 0) (.slice none 0 0) (.string ⟨#[]⟩) (.int .i64 0)
      refine leave10 (todo := todo) (w := set4 (w'.re T d) rb (.slice none 0 0) (.slice none 0 0) (.string ⟨#[]⟩) (.int .i64 0)) hS ⟨hc, hL₂.no⟩ s0 s1 s2 s3 ?_
      exact kbad hb.out.symm _ ⟨hc, hL₂.no⟩ kin
    | true =>
      rw [eq_comm, Bool.and_eq_true] at hb
      refine Can.ctl hS hL₂ rfl (fun _ => stepG_cond (t := false) rfl) ?_; simp only [if_true, if_false, Bool.false_eq_true, ↓reduceIte]
      refine Can.ctl hS hL₂ rfl (fun _ => stepG_skip) ?_
      rw [hrb.out] at q₂
      exact hrb.out ▸ kgood hb.1 hb.2 _ _ _ _ _ _ _ _ _ _ _ _ _ _ _ w' hL₂ G₂ r₂ q₂ (by have := zz.out; omega)
  have go : ∀ b : Bool, b = (vK l f t && vT J) → ∀ T d W, Eqd W (w₁.re T d) → ∀ B, Eqd B (Behind Try.prog C₀ b' o' Post 0 (AloneB Bd) (base 10) [.code (.cond (.tmp 13) bad10 .skip), .code (.seq (headC 2 body10) .ret)] (b₀.at a₀ (.inRegion ops₀ (i₀ :: rest₀) :: k₀) :: cs)) → (headC 0 (headC 1 body10)).wp Try.prog B ⟨#[.agg #[.string ⟨l.toArray⟩, .int .i64 f, .int .i64 t], .slice ta J.length tc, .pointer (some ⟨wl.heap.size, 0, none⟩), undef, .pointer (some ⟨rb, 0, none⟩), .bool false, undef, undef, undef, undef, undef, undef, undef, undef, undef, undef, undef, undef, undef, undef], []⟩ W := by
    intro b hb T d W hW B hB
    have fin : Hid (∀ z6 z7 z8 z9 z10 z11 z12 z14 z15 z16 z17 z18 z19 w', Below W.heap.size W w' → B .normal ⟨#[.agg #[.string ⟨l.toArray⟩, .int .i64 f, .int .i64 t], .slice ta J.length tc, .pointer (some ⟨wl.heap.size, 0, none⟩), undef, .pointer (some ⟨rb, 0, none⟩), .bool false, z6, z7, z8, z9, z10, z11, z12, .bool (!b), z14, z15, z16, z17, z18, z19], []⟩ w') := by
      refine ⟨?_⟩
      intro z6 z7 z8 z9 z10 z11 z12 z14 z15 z16 z17 z18 z19 w' hbw
      have hB := hB.out
      subst hB
      intro hc
      have hW := hW.out
      subst hW
      exact mid.out b hb z6 z7 z8 z9 z10 z11 z12 z14 z15 z16 z17 z18 z19 w' (bwre hbw) ⟨hc, hL.no⟩
    have c25 : Hid (∀ w, Calls Try.prog 25 #[.agg #[.string ⟨l.toArray⟩, .int .i64 f, .int .i64 t]] w fun e w' => e = .returned (.bool (vK l f t)) ∧ Below w.heap.size w w') := ⟨fun w => keeperValid_any l f t w⟩
    have c35 : Hid (∀ w', Below W.heap.size W w' → Calls Try.prog 35 #[.slice ta J.length tc] w' fun e w'' => e = .returned (.bool (vT J)) ∧ w' = w'') := ⟨fun w' hb => tasksValid_any ta tc J w' hn hm ((show RowsAt W ta J by rw [hW.out]; exact hR₁).below hb (Nat.le_refl _))⟩
    have g := fun j hj => (r₁ j hj)
    have g0 : W.cell? ⟨wl.heap.size, 0, none⟩ = some (.string ⟨l.toArray⟩) := by rw [hW.out]; exact (r₁ 0 (by simp)).1
    have g1 : W.cell? ⟨wl.heap.size, 1, none⟩ = some (.int .i64 f) := by rw [hW.out]; exact (r₁ 1 (by simp)).1
    have g2 : W.cell? ⟨wl.heap.size, 2, none⟩ = some (.int .i64 t) := by rw [hW.out]; exact (r₁ 2 (by simp)).1
    clear g r₁ q₁ G₁ hR₁ mid kbad kgood hR hB hW z₁ hm
    replace hn : Hid _ := ⟨hn⟩
    simp only [headC, tailC, bodyC, body10, Try.f10, Option.getD_some]
    cases hk : vK l f t with
    | false =>
      rw [hk] at c25 hb
      obtain rfl : b = false := by simpa using hb
      clear hk hb
      go_wp2_with (go_at_call 25; (with_reducible refine (c25.out _).mono ?_); rintro e w' ⟨rfl, hbw⟩)
      exact fin.out _ _ _ _ _ _ _ _ _ _ _ _ _ _ hbw
    | true =>
      rw [hk] at c25 hb
      cases hv : vT J with
      | false =>
        rw [hv] at c35 hb
        obtain rfl : b = false := by simpa using hb
        clear hk hb hv
        go_wp2_with (go_at_call 25; (with_reducible refine (c25.out _).mono ?_); rintro e w' ⟨rfl, hbw⟩)
        refine (c35.out _ hbw).mono ?_
        rintro e w' ⟨rfl, rfl⟩
        go_wp2
        exact fin.out _ _ _ _ _ _ _ _ _ _ _ _ _ _ hbw
      | true =>
        rw [hv] at c35 hb
        obtain rfl : b = true := by simpa using hb
        clear hk hb hv
        go_wp2_with (go_at_call 25; (with_reducible refine (c25.out _).mono ?_); rintro e w' ⟨rfl, hbw⟩)
        refine (c35.out _ hbw).mono ?_
        rintro e w' ⟨rfl, rfl⟩
        go_wp2
        exact fin.out _ _ _ _ _ _ _ _ _ _ _ _ _ _ hbw
  exact Can.code' hp hS hL₁ (okFr_at (by kernel_rfl) rfl rfl ⟨_, Try.func10⟩) (go _ rfl)
end
end Go.Town.Kp
