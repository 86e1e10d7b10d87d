/-
  The laws of the keeper (P9): which functions keep to themselves; RunKeeper called, with what it answers told without memory.
  cbSame of equal lists.
  Sums after some ticks, told plainly: all ticks, no tick, and the tasks cut.
  Faults, told plainly: a keeper gives up exactly if more faults come in its ticks than it bears; by the rule for all each fault starts each worker again.
  FaultTicks, of valid tasks.
  FaultsNeeded, of valid tasks and ticks.
-/
import Derived.Test.YtihmcigoofhpmaaZbe
import Derived.Test.YtihmcigoofhpmaaZbg
import Derived.Test.YtihmcigoofhpmaaZbm
import Derived.Test.YtihmcigoofhpmaaZbo
set_option linter.all false
namespace Go.Town.Kp
open Go Go.Conc Go.Conc.Lib Go.ConcR.Gen Go.RowKit Go.Town Go.Proofs
open Go.ConcN (upd upd_ne upd_same)
def listP : List FuncId := [9, 32, 33, 34, 41, 42, 47, 12, 11, 25, 35, 37, 46, 26, 38, 43, 39, 40, 52, 66, 67]
def okP (f : FuncId) : Bool := listP.contains f
theorem BytesAt.re {w : World} {a : Option Addr} {bs : List Int} (h : BytesAt w a bs) (T : Nat → Question → Nat) (d : Nat) : BytesAt (w.re T d) a bs := h
structure BaseP (q : List UInt8) (f t : Int) (J : List (List Int)) (ta : Option Addr) (kb : Nat) (w : World) : Prop where
  keeper : Reads w kb [.string ⟨q.toArray⟩, .int .i64 f, .int .i64 t]
  rows : RowsIn kb w ta J
  low : kb < w.heap.size
theorem BaseP.kin {q : List UInt8} {f t : Int} {J : List (List Int)} {ta : Option Addr} {kb : Nat} {w w' : World} (h : BaseP q f t J ta kb w) (k : Kin (kb + 1) w w') : BaseP q f t J ta kb w' :=
  ⟨h.keeper.kin k (by omega), h.rows.kept (k.le (B' := kb) (by omega)).cells (Nat.le_refl _), Nat.lt_of_lt_of_le h.low k.size⟩
theorem BaseP.rowsAt {q : List UInt8} {f t : Int} {J : List (List Int)} {ta : Option Addr} {kb : Nat} {w : World} (h : BaseP q f t J ta kb w) : RowsAt w ta J := h.rows.kept (B' := w.heap.size) (fun _ _ _ _ hv => hv) (Nat.le_of_lt h.low)
theorem enter10 {l : ByteArray} {f t : Int} {n tc : Nat} {ta : Option Addr} : Frame.enter Try.prog 10 #[.agg #[.string l, .int .i64 f, .int .i64 t], .slice ta n tc] .normal = (base 10).at ⟨#[.agg #[.string l, .int .i64 f, .int .i64 t], .slice ta n tc] ++ Array.replicate 18 undef, []⟩ [.code body10] := by kernel_rfl
section
variable {C : Cfg} {b o Bd kb : Nat} {wl : World} {q : List UInt8} {f t : Int} {J : List (List Int)} {tc : Nat} {ta : Option Addr} {g : Bool} {R1 R2 : List Int} {E : ByteArray} {A : Int}
set_option maxRecDepth 100000 in
set_option maxHeartbeats 2000000 in
theorem call10 {b₀ : Frame} {a₀ : Act} {ops₀ : Array Oper} {i₀ : Nat} {rest₀ : List Nat} {k₀ : List Item} {cs : List Frame} {ta' : Option Addr} {tc' : Nat} {Post : Value → World → Prop} (hn : J.length ≤ 1048576) (hm : ∀ l ∈ J, l.length ≤ 1048576) (hBd : Bd < 2000000000) (hL : Lay C wl) (hR : RowsAt wl ta' J) (hD : Kd q f t J g R1 R2 E A)
    (h : ∀ C' b' o' d1 d2 e1 e2 wl', Lay C' wl' → Kin wl.heap.size wl wl' → Ans wl.heap.size R1 R2 d1 d2 wl' → Can Try.prog C' b' o' Post 0 (AloneB (Bd + 400)) wl' (G (b₀.at (a₀.put ((ops₀[i₀]?).bind (·.dst)) (.tuple #[.agg #[.slice d1 R1.length e1, .slice d2 R2.length e2, .string E, .int .i64 A], .bool g])) (.inRegion ops₀ rest₀ :: k₀)) cs)) :
    Can Try.prog C b o Post 0 (AloneB Bd) wl (G (Frame.enter Try.prog 10 #[.agg #[.string ⟨q.toArray⟩, .int .i64 f, .int .i64 t], .slice ta' J.length tc'] .normal) (b₀.at a₀ (.inRegion ops₀ (i₀ :: rest₀) :: k₀) :: cs)) := by
  rw [enter10]
  refine runKeeper okProgT hn hm hBd hL hR (fun hbad wl' hL' hK => ?_) (fun κ h1 h2 h3 hb hw0 hw h4 C' b₁ sa st wl' hL' hK h5 h6 h7 s1 s2 => ?_)
  · obtain ⟨rfl, rfl, rfl, rfl, rfl⟩ := (Kd.one (.inl ⟨hbad, rfl, rfl, rfl, rfl, rfl⟩) hD : _)
    exact Can.mono (h C b o none none 0 0 wl' hL' hK ⟨.inl rfl, .inl rfl, (fun x e => by cases e), (fun x e => by cases e)⟩) (AloneB.mono (by omega))
  · have hv : (vK q f t && vT J) = true := by
      have a1 : vK q f t = true := vK_true (by omega) (by omega) (by omega) (by omega) (by rw [h1]; cases κ.rule <;> simp [Rule.text])
      rw [a1, h4]; rfl
    obtain ⟨rfl, rfl, rfl, rfl, rfl⟩ := (Kd.one (.inr ⟨κ, h1, h2, h3, hv, rfl, rfl, rfl, rfl, rfl⟩) hD : _)
    have := h C' b₁ 5 (some ⟨sa, 0, none⟩) (some ⟨st, 0, none⟩) J.length J.length wl' hL' hK ⟨nums_ints (w := wl') (x := sa) s1, nums_ints (w := wl') (x := st) s2, (fun x e => by cases e; exact h5), (fun x e => by cases e; exact h6)⟩
    simpa using this
theorem kd_ex (q : List UInt8) (f t : Int) (J : List (List Int)) : ∃ g R1 R2 E A, Kd q f t J g R1 R2 E A := by
  cases h : (vK q f t && vT J) with
  | false => exact ⟨false, [], [], ⟨#[]⟩, 0, .inl ⟨h, rfl, rfl, rfl, rfl, rfl⟩⟩
  | true =>
    have h' := h
    simp only [Bool.and_eq_true] at h'
    obtain ⟨κ, h1, h2, h3, _⟩ := vK_spec h'.1
    exact ⟨true, _, _, _, _, .inr ⟨κ, h1, h2, h3, h, rfl, rfl, rfl, rfl, rfl⟩⟩
end
end Go.Town.Kp
namespace Go.Town.Kp
open Go Go.Conc Go.Conc.Lib Go.ConcR.Gen Go.RowKit Go.Town Go.Proofs
set_option maxRecDepth 100000 in
set_option maxHeartbeats 400000 in
theorem cbSame_same (a b : Option Addr) (ca cb : Nat) (zs : List Int) (w : World) (hn : zs.length ≤ 1048576) (hA : IntsAt w a zs) (hB : IntsAt w b zs) :
    Calls Try.prog 12 #[.slice a zs.length ca, .slice b zs.length cb] w fun e w' => e = .returned (.bool true) ∧ Below w.heap.size w w' := by
  go_enter Try.func12, Try.ntmps12
  go_wp2
  go_loopw [5] (fun i wr => ∃ k : Nat, k ≤ zs.length ∧ i = .int .i64 k ∧ Below w.heap.size w wr) (fun i _ => zs.length - (intOf i).toNat)
  case atStart => exact ⟨0, Nat.zero_le _, rfl, Below.refl _ _⟩
  case round =>
    obtain ⟨k, hk, rfl, hb⟩ := hrel
    by_cases hlt : k < zs.length
    · obtain ⟨b1, off1, rfl, hbs1, hck1⟩ := (hA.below hb (Nat.le_refl _)).at hlt
      obtain ⟨b2, off2, rfl, hbs2, hck2⟩ := (hB.below hb (Nat.le_refl _)).at hlt
      have hlt' : (k : Int) < (zs.length : Int) := by omega
      go_wp2
      go_quiet (fail)
      go_wp2
      go_roundw
      case rel => exact ⟨k + 1, by omega, by go_num, below_drewN hb _⟩
      case measure => simp [intOf]; omega
    · go_wp2
      go_ret
      exact ⟨by simp, hb⟩
end Go.Town.Kp
namespace Go.Town.Kp
open Go Go.Conc Go.Conc.Lib Go.ConcR.Gen Go.RowKit Go.Town Go.Proofs
open Go.ConcN (upd upd_ne upd_same)
theorem mxR_up {J : List (List Int)} : ∀ k m, k ≤ m → mxR J k ≤ mxR J m
  | k, 0, h => by
    obtain rfl : k = 0 := by omega
    exact Nat.le_refl _
  | k, m + 1, h => by
    by_cases e : k = m + 1
    · subst e; exact Nat.le_refl _
    · have := mxR_up (J := J) k m (by omega)
      simp only [mxR]; omega
theorem len_mxR {J : List (List Int)} {k : Nat} (h : k < J.length) : (J.getD k []).length ≤ mxR J J.length := by
  have h2 := mxR_up (J := J) (k + 1) J.length (by omega)
  simp only [mxR] at h2
  omega
def cutJ (n : Nat) (J : List (List Int)) : List (List Int) := J.map (List.take n)
end Go.Town.Kp
namespace Go.Town.Kp
open Go Go.Conc Go.Conc.Lib Go.ConcR.Gen Go.RowKit Go.Town Go.Proofs
open Go.ConcN (upd upd_ne upd_same)
def zeroAt (J : List (List Int)) (t i : Nat) : Bool := (J.getD i [])[t]? == some 0
def cntTo (J : List (List Int)) (t : Nat) : Nat → Nat
  | 0 => 0
  | i + 1 => cntTo J t i + (if zeroAt J t i then 1 else 0)
def cnt (J : List (List Int)) (t : Nat) : Nat := cntTo J t J.length
def cntI (J : List (List Int)) (t : Nat) : Int := (cnt J t : Int)
def tot (J : List (List Int)) : Nat → Nat
  | 0 => 0
  | t + 1 => tot J t + cnt J t
def needTo (J : List (List Int)) (win : Nat) : Nat → Int
  | 0 => 0
  | t + 1 => max (needTo J win t) (fin (cntI J) t win)
theorem cntTo_mono (J : List (List Int)) (t : Nat) : ∀ i k, i ≤ k → cntTo J t i ≤ cntTo J t k
  | i, 0, h => by
    obtain rfl : i = 0 := by omega
    exact Nat.le_refl _
  | i, k + 1, h => by
    by_cases e : i = k + 1
    · subst e; exact Nat.le_refl _
    · have := cntTo_mono J t i k (by omega)
      simp only [cntTo]; omega
theorem tot_mono (J : List (List Int)) : ∀ t u, t ≤ u → tot J t ≤ tot J u
  | t, 0, h => by
    obtain rfl : t = 0 := by omega
    exact Nat.le_refl _
  | t, u + 1, h => by
    by_cases e : t = u + 1
    · subst e; exact Nat.le_refl _
    · have := tot_mono J t u (by omega)
      simp only [tot]; omega
theorem sumR_le {fl fl' : Nat → Int} (a : Nat) : ∀ m, (∀ j, j < m → fl (a + j) ≤ fl' (a + j)) → sumR fl a m ≤ sumR fl' a m
  | 0, _ => Int.le_refl _
  | m + 1, h => by
    have h1 := sumR_le a m (fun j hj => h j (by omega))
    have h2 := h m (by omega)
    simp only [sumR]; omega
theorem sumR_join (fl : Nat → Int) (a m : Nat) : ∀ k, sumR fl a (m + k) = sumR fl a m + sumR fl (a + m) k
  | 0 => by simp [sumR]
  | k + 1 => by
    have := sumR_join fl a m k
    rw [show m + (k + 1) = m + k + 1 by omega]
    simp only [sumR, this, Nat.add_assoc]
    omega
theorem sumR_pos {fl : Nat → Int} (h : ∀ t, 0 ≤ fl t) (a : Nat) : ∀ m, 0 ≤ sumR fl a m
  | 0 => Int.le_refl _
  | m + 1 => by
    have h1 := sumR_pos h a m
    have h2 := h (a + m)
    simp only [sumR]; omega
theorem fin_le {fl fl' : Nat → Int} {t win : Nat} (h : ∀ u, u ≤ t → fl u ≤ fl' u) : fin fl t win ≤ fin fl' t win :=
  sumR_le _ _ fun j hj => h _ (by omega)
theorem fin_eq {fl fl' : Nat → Int} {t win : Nat} (h : ∀ u, u ≤ t → fl u = fl' u) : fin fl t win = fin fl' t win :=
  Int.le_antisymm (fin_le fun u hu => Int.le_of_eq (h u hu)) (fin_le fun u hu => Int.le_of_eq (h u hu).symm)
theorem fin_shift {fl : Nat → Int} (h : ∀ t, 0 ≤ fl t) {t win : Nat} (hw : 0 < win) (h0 : fl (t + 1) = 0) : fin fl (t + 1) win ≤ fin fl t win := by
  unfold fin
  have e1 : t + 1 + 1 - (t + 1 + 1 - win) = (t + 1 - (t + 1 + 1 - win)) + 1 := by omega
  rw [e1]
  simp only [sumR]
  rw [show t + 1 + 1 - win + (t + 1 - (t + 1 + 1 - win)) = t + 1 by omega, h0]
  have e2 := sumR_join fl (t + 1 - win) ((t + 1 + 1 - win) - (t + 1 - win)) (t + 1 - (t + 1 + 1 - win))
  rw [show (t + 1 + 1 - win) - (t + 1 - win) + (t + 1 - (t + 1 + 1 - win)) = t + 1 - (t + 1 - win) by omega, show t + 1 - win + ((t + 1 + 1 - win) - (t + 1 - win)) = t + 1 + 1 - win by omega] at e2
  rw [e2]
  have := sumR_pos h (t + 1 - win) ((t + 1 + 1 - win) - (t + 1 - win))
  omega
theorem fin_zero {fl : Nat → Int} {win : Nat} (hw : 0 < win) (h0 : fl 0 = 0) : fin fl 0 win = 0 := by
  unfold fin
  rw [show 0 + 1 - win = 0 by omega]
  simp [sumR, h0]
theorem cntI_pos (J : List (List Int)) (t : Nat) : 0 ≤ cntI J t := by unfold cntI; omega
structure Inv (κ : Kr) (J : List (List Int)) (t i : Nat) (s : St) : Prop where
  over : s.over = false
  past : ∀ u, u < t → s.fl u = cntI J u
  now : s.fl t = (cntTo J t i : Nat)
  later : ∀ u, t < u → s.fl u = 0
  ok : ∀ u, u < t → fin (cntI J) u κ.win ≤ (κ.bear : Nat)
  okn : 0 < cntTo J t i → fin s.fl t κ.win ≤ (κ.bear : Nat)
  st : ∀ l, s.starts l ≤ ((tot J t + cntTo J t i : Nat) : Int)
  all : κ.rule = .all → ∀ l, l < J.length → s.starts l = ((tot J t + cntTo J t i : Nat) : Int)
structure Gone (κ : Kr) (J : List (List Int)) (t : Nat) (s : St) : Prop where
  over : s.over = true
  many : ((κ.bear : Nat) : Int) < fin (cntI J) t κ.win
  st : ∀ l, s.starts l ≤ ((tot J t + cnt J t : Nat) : Int)
theorem Inv.step {κ : Kr} {J : List (List Int)} {t i : Nat} {s : St} (h : Inv κ J t i s) (hi : i < J.length) : Inv κ J t (i + 1) (stepW κ J t i s) ∨ Gone κ J t (stepW κ J t i s) := by
  have hle := cntTo_mono J t (i + 1) J.length (by omega)
  unfold stepW
  cases hv : (J.getD i [])[t]? with
  | none =>
    have hz : zeroAt J t i = false := by unfold zeroAt; rw [hv]; rfl
    left
    have e : cntTo J t (i + 1) = cntTo J t i := by simp [cntTo, hz]
    exact ⟨h.over, h.past, by rw [e]; exact h.now, h.later, h.ok, by rw [e]; exact h.okn, by rw [e]; exact h.st, by rw [e]; exact h.all⟩
  | some v =>
    unfold stepT
    by_cases h0 : v = 0
    · subst h0
      have hz : zeroAt J t i = true := by unfold zeroAt; rw [hv]; rfl
      have e : cntTo J t (i + 1) = cntTo J t i + 1 := by simp [cntTo, hz]
      have fnow : upd s.fl t (s.fl t + 1) t = ((cntTo J t (i + 1) : Nat) : Int) := by rw [upd_same, h.now, e]; omega
      have fle : ∀ u, u ≤ t → upd s.fl t (s.fl t + 1) u ≤ cntI J u := fun u hu => by
        by_cases eu : u = t
        · subst eu; rw [fnow]; unfold cntI cnt; omega
        · rw [upd_ne _ _ eu, h.past u (by omega)]; exact Int.le_refl _
      simp only [if_true]
      split
      · rename_i hb
        simp only [decide_eq_true_eq] at hb
        refine .inr ⟨rfl, Int.lt_of_lt_of_le hb (fin_le fle), fun l => ?_⟩
        have := h.st l
        unfold cnt
        simp only
        omega
      · rename_i hb
        simp only [decide_eq_true_eq] at hb
        refine .inl ⟨rfl, fun u hu => ?_, fnow, fun u hu => ?_, h.ok, (fun _ => by simp only; omega), fun l => ?_, fun hr l hl => ?_⟩
        · simp only; rw [upd_ne _ _ (by omega)]; exact h.past u hu
        · simp only; rw [upd_ne _ _ (by omega)]; exact h.later u hu
        · have := h.st l
          simp only; split <;> omega
        · have := h.all hr l hl
          simp only
          rw [if_pos (by simp [again, hits, hr, hl])]
          omega
    · have hz : zeroAt J t i = false := by unfold zeroAt; rw [hv]; simp [h0]
      have e : cntTo J t (i + 1) = cntTo J t i := by simp [cntTo, hz]
      simp only [if_neg h0]
      left
      exact ⟨rfl, h.past, by rw [e]; exact h.now, h.later, h.ok, by rw [e]; exact h.okn, by rw [e]; exact h.st, by rw [e]; exact h.all⟩
theorem Inv.workers {κ : Kr} {J : List (List Int)} {t : Nat} : ∀ (m i : Nat) (s : St), i + m = J.length → Inv κ J t i s → Inv κ J t J.length (runW κ J t m i s) ∨ Gone κ J t (runW κ J t m i s)
  | 0, i, s, hm, h => .inl (by rw [← hm]; exact h)
  | m + 1, i, s, hm, h => by
    unfold runW
    rcases h.step (by omega) with h1 | h1
    · rw [if_neg (by rw [h1.over]; simp)]
      exact Inv.workers m (i + 1) _ (by omega) h1
    · rw [if_pos h1.over]
      exact .inr h1
theorem Inv.next {κ : Kr} {J : List (List Int)} {t : Nat} {s : St} (hw : 0 < κ.win) (h : Inv κ J t J.length s) : Inv κ J (t + 1) 0 s := by
  have fl : ∀ u, u ≤ t → s.fl u = cntI J u := fun u hu => by
    by_cases e : u = t
    · subst e; exact h.now
    · exact h.past u (by omega)
  refine ⟨h.over, fun u hu => fl u (by omega), by rw [h.later _ (by omega)]; rfl, fun u hu => h.later u (by omega), fun u hu => ?_, fun h0 => by simp [cntTo] at h0, fun l => ?_, fun hr l hl => ?_⟩
  · by_cases e : u = t
    · subst e
      by_cases hc : 0 < cntTo J u J.length
      · rw [← fin_eq fl]; exact h.okn hc
      · have c0 : cntI J u = 0 := by unfold cntI cnt; omega
        match u, h, c0 with
        | 0, _, c0 => rw [fin_zero hw c0]; omega
        | v + 1, h, c0 => exact Int.le_trans (fin_shift (cntI_pos J) hw c0) (h.ok v (by omega))
    · exact h.ok u (by omega)
  · have := h.st l; simpa [tot, cnt, cntTo] using this
  · have := h.all hr l hl; simpa [tot, cnt, cntTo] using this
theorem Inv.zero (κ : Kr) (J : List (List Int)) : Inv κ J 0 0 St.zero :=
  ⟨rfl, fun u hu => by omega, rfl, fun u _ => rfl, fun u hu => by omega, fun h => by simp [cntTo] at h, fun l => by simp [St.zero, tot, cntTo], fun _ l _ => by simp [St.zero, tot, cntTo]⟩
theorem Inv.ticks {κ : Kr} {J : List (List Int)} (hw : 0 < κ.win) : ∀ (m t : Nat) (s : St), Inv κ J t 0 s → Inv κ J (t + m) 0 (runT κ J m t s).1 ∨ ∃ u, u < t + m ∧ Gone κ J u (runT κ J m t s).1
  | 0, t, s, h => .inl h
  | m + 1, t, s, h => by
    unfold runT
    rcases Inv.workers J.length 0 s (by omega) h with h1 | h1
    · have h1' : Inv κ J t J.length (tickW κ J t s) := h1
      rw [if_neg (by rw [h1'.over]; simp)]
      rcases Inv.ticks hw m (t + 1) _ (h1'.next hw) with h2 | ⟨u, hu, h2⟩
      · left; rw [show t + (m + 1) = t + 1 + m by omega]; exact h2
      · right; exact ⟨u, by omega, h2⟩
    · have h1' : Gone κ J t (tickW κ J t s) := h1
      rw [if_pos h1'.over]
      exact .inr ⟨t, by omega, h1'⟩
theorem cnt_late {J : List (List Int)} {t : Nat} (ht : mxR J J.length ≤ t) : cnt J t = 0 := by
  have : ∀ i, i ≤ J.length → cntTo J t i = 0 := by
    intro i
    induction i with
    | zero => intro _; rfl
    | succ i ih =>
      intro hi
      have hz : zeroAt J t i = false := by
        unfold zeroAt
        have := len_mxR (J := J) (k := i) (by omega)
        rw [List.getElem?_eq_none (by omega)]; rfl
      simp [cntTo, hz, ih (by omega)]
  exact this _ (Nat.le_refl _)
theorem needTo_le {J : List (List Int)} {win : Nat} {b : Int} (hb : 0 ≤ b) (h : ∀ t, fin (cntI J) t win ≤ b) : ∀ n, needTo J win n ≤ b
  | 0 => hb
  | n + 1 => by
    have h1 := needTo_le hb h n
    have h2 := h n
    simp only [needTo]; omega
theorem le_needTo {J : List (List Int)} {win : Nat} : ∀ n t, t < n → fin (cntI J) t win ≤ needTo J win n
  | 0, t, h => by omega
  | n + 1, t, h => by
    simp only [needTo]
    by_cases e : t = n
    · subst e; omega
    · have := le_needTo (J := J) (win := win) n t (by omega); omega
theorem run_faults {κ : Kr} {J : List (List Int)} (hw : 0 < κ.win) (hm : mxR J J.length ≤ 20) :
    ((runT κ J (mxR J J.length) 0 St.zero).1.over = true → ((κ.bear : Nat) : Int) < needTo J κ.win 20) ∧ ((runT κ J (mxR J J.length) 0 St.zero).1.over = false → needTo J κ.win 20 ≤ (κ.bear : Nat)) ∧
    (∀ l, (runT κ J (mxR J J.length) 0 St.zero).1.starts l ≤ (tot J (mxR J J.length) : Nat)) ∧
    ((runT κ J (mxR J J.length) 0 St.zero).1.over = false → κ.rule = .all → ∀ l, l < J.length → (runT κ J (mxR J J.length) 0 St.zero).1.starts l = (tot J (mxR J J.length) : Nat)) := by
  rcases Inv.ticks hw (mxR J J.length) 0 St.zero (Inv.zero κ J) with h | ⟨u, hu, h⟩
  · rw [Nat.zero_add] at h
    refine ⟨fun e => by rw [h.over] at e; (cases e), fun _ => needTo_le (by omega) (fun t => ?_) 20, fun l => by have := h.st l; simpa [cntTo] using this, fun _ hr l hl => by have := h.all hr l hl; simpa [cntTo] using this⟩
    induction t with
    | zero =>
      by_cases h0 : 0 < mxR J J.length
      · exact h.ok 0 h0
      · rw [fin_zero hw (by unfold cntI; rw [cnt_late (by omega)]; rfl)]; omega
    | succ t ih =>
      by_cases h0 : t + 1 < mxR J J.length
      · exact h.ok _ h0
      · exact Int.le_trans (fin_shift (cntI_pos J) hw (by unfold cntI; rw [cnt_late (by omega)]; rfl)) ih
  · rw [Nat.zero_add] at hu
    refine ⟨fun _ => Int.lt_of_lt_of_le h.many (le_needTo 20 u (by omega)), fun e => by rw [h.over] at e; (cases e), fun l => ?_, fun e => by rw [h.over] at e; (cases e)⟩
    have h1 := h.st l
    have h2 := tot_mono J (u + 1) (mxR J J.length) (by omega)
    simp only [tot] at h2
    omega
end Go.Town.Kp
namespace Go.Town.Kp
open Go Go.Conc Go.Conc.Lib Go.ConcR.Gen Go.RowKit Go.Town Go.Proofs
open Go.ConcN (upd upd_ne upd_same)
def ftT (J : List (List Int)) : Nat → List Int
  | 0 => []
  | t + 1 => ftT J t ++ List.replicate (cnt J t) (t : Int)
theorem ftT_length (J : List (List Int)) : ∀ t, (ftT J t).length = tot J t
  | 0 => rfl
  | t + 1 => by simp [ftT, tot, ftT_length J t]
theorem cntTo_le (J : List (List Int)) (t : Nat) : ∀ i, cntTo J t i ≤ i
  | 0 => Nat.le_refl _
  | i + 1 => by have := cntTo_le J t i; simp only [cntTo]; split <;> omega
theorem tot_le {J : List (List Int)} (h : J.length ≤ 4) : ∀ t, tot J t ≤ 4 * t
  | 0 => Nat.le_refl _
  | t + 1 => by have := tot_le h t; have := cntTo_le J t J.length; simp only [tot, cnt]; omega
theorem row_ints {w : World} {base : Nat} {v : Value} {ns : List Int} (h : w.ownsRow base 3 1 v ns.length (ns.map (Value.int .i64))) : ∃ a c, v = .slice a ns.length c ∧ IntsAt w a ns := by
  rcases h.2 with ⟨rfl, h0⟩ | ⟨g, cap, cur, rfl, _, hg, hc, _, _, htake⟩
  · have : ns = [] := List.length_eq_zero_iff.1 h0
    subst this
    exact ⟨_, _, rfl, .inl rfl⟩
  · refine ⟨_, _, rfl, .inr ⟨g, 0, rfl, (Array.getElem?_eq_some_iff.1 hg).1, fun i hi => ?_⟩⟩
    rw [blk_cell hg, Nat.zero_add, ← Array.getElem?_toList]
    have h3 : (cur.toList.take (ns.length * 1))[i]? = some (.int .i64 ns[i]) := by rw [htake]; simp [hi]
    rw [List.getElem?_take_of_lt (by omega)] at h3
    rw [h3]; simp [List.getD, hi]
def Fts (w0 : World) (J : List (List Int)) (t i : Nat) (v : Value) (wr : World) : Prop :=
  wr.ownsRow w0.heap.size 3 1 v (tot J t + cntTo J t i) ((ftT J t ++ List.replicate (cntTo J t i) (t : Int)).map (Value.int .i64)) ∧ Below w0.heap.size w0 wr
theorem Fts.next {w0 wr : World} {J : List (List Int)} {t : Nat} {v : Value} (h : Fts w0 J t J.length v wr) : Fts w0 J (t + 1) 0 v wr := by
  unfold Fts at h ⊢
  have e : tot J (t + 1) + cntTo J (t + 1) 0 = tot J t + cntTo J t J.length := rfl
  rw [e]
  simpa [ftT, cnt, cntTo] using h
set_option maxRecDepth 100000 in
set_option maxHeartbeats 4000000 in
theorem faultTicks_any {ta : Option Addr} {tc : Nat} {J : List (List Int)} {w : World} (hv : vT J = true) (hR : RowsAt w ta J) :
    Calls Try.prog 28 #[.slice ta J.length tc] w fun e w' => ∃ (a : Option Addr) (c : Nat), e = .returned (.tuple #[.slice a (tot J (mxR J J.length)) c, .bool true]) ∧ IntsAt w' a (ftT J (mxR J J.length)) ∧ Below w.heap.size w w' := by
  obtain ⟨v1, v2, v3, v4⟩ := vT_spec hv
  obtain ⟨i0, hi, hz0, hz1, hz2⟩ := info_parts Try.info3
  have hm : ∀ l ∈ J, l.length ≤ 1048576 := fun l hl => by have := v4 l hl; omega
  have c35 := hidC (tasksValid_any ta tc J w (by omega) hm hR)
  rw [hv] at c35
  have hmx : mxR J J.length ≤ 20 := mxR_le v4 _
  have hB1 : Below w.heap.size w (w.alloc (.cells #[] 3)) := (Below.refl _ w).alloc (Nat.le_refl _) _
  have c37 := hidC (longest_any ta tc J (w.alloc (.cells #[] 3)) (by omega) hm (hR.below hB1 (Nat.le_refl _)))
  have h0 : RowKit.Hid (Fts w J 0 0 (.slice (some ⟨w.heap.size, 0, none⟩) 0 0) (w.alloc (.cells #[] 3))) := ⟨ownsRow_empty w 3 1, hB1⟩
  have htot : ∀ t, tot J t ≤ 4 * t := tot_le v2
  have hcn : ∀ t i, cntTo J t i ≤ i := cntTo_le J
  clear hB1 hv
  generalize hmm : mxR J J.length = mx at *
  clear hmm
  go_enter Try.func28, Try.ntmps28
  go_wp2_with (first
    | (go_at_call 35; (with_reducible refine c35.out.mono ?_); rintro e w1 ⟨rfl, rfl⟩)
    | (go_at_call 37; (with_reducible refine c37.out.mono ?_); rintro e w1 ⟨rfl, rfl⟩))
  go_loopw [4, 14] (fun v i wr => ∃ t : Nat, t ≤ mx ∧ i = .int .i64 t ∧ RowKit.Hid (Fts w J t 0 v wr)) (fun _ i _ => mx - (intOf i).toNat)
  case atStart => exact ⟨0, Nat.zero_le _, rfl, h0⟩
  case round =>
    obtain ⟨t, ht, rfl, hF⟩ := hrel
    by_cases hlt : t < mx
    · have hlt' : (t : Int) < (mx : Int) := by omega
      go_wp2
      go_loopw [4, 19] (fun v i wr' => ∃ k : Nat, k ≤ J.length ∧ i = .int .i64 k ∧ RowKit.Hid (Fts w J t k v wr')) (fun _ i _ => J.length - (intOf i).toNat)
      case atStart => exact ⟨0, Nat.zero_le _, rfl, hF⟩
      case round =>
        obtain ⟨k, hk, rfl, hG⟩ := hrel
        by_cases hkl : k < J.length
        · have hkl' : (k : Int) < (J.length : Int) := by omega
          obtain ⟨hown, hbl⟩ := hG.out
          obtain ⟨xb, off, a', c', hta, hxb, hck, hI⟩ := (hR.below hbl (Nat.le_refl _)).at hkl
          subst hta
          have eJ : J.getD k [] = J[k] := by simp [List.getD, hkl]
          have h1 := htot t
          have h2 := hcn t k
          by_cases hin : t < J[k].length
          · have hin' : (t : Int) < (J[k].length : Int) := by omega
            obtain ⟨xc, off2, hxa, hxb2, hcc⟩ := hI.at hin
            subst hxa
            by_cases hz : J[k][t] = 0
            · rw [hz] at hcc
              have hcount : cntTo J t (k + 1) = cntTo J t k + 1 := by simp [cntTo, zeroAt, List.getElem?_eq_getElem hkl, List.getElem?_eq_getElem hin, hz]
              have hown' := hown.alloc (.cells #[.int .i64 (t : Nat)] 3)
              go_wp2_with (at_builtin; refine wpList_append_own_at _ rfl (.tmp 34) (.tmp 36) 28 rfl w.heap.size 3 i0 (.int .i64 0) 1 8 Try.underlying28 hi hz0 hz1 hz2 rfl (by decide) _ (tot J t + cntTo J t k) _ rfl hown' ⟨wr.heap.size, 0, none⟩ 1 1 [.int .i64 (t : Nat)] rfl rfl ?c1 ?c2 ?c3 ?c4 ?c5 ?_)
              case c1 => exact cell_one_new _ _ _
              case c2 => intro u hu; simp at hu; subst hu; rfl
              case c3 => unfold maxLen; omega
              case c4 => omega
              case c5 => have := hbl.size; simp; omega
              intro v' w5 hown5 hgr5 _ _
              have hF5 : RowKit.Hid (Fts w J t (k + 1) v' w5) := by
                refine ⟨?_, (hbl.alloc hbl.size _).grown hgr5 (by have := hbl.size; simp; omega) (fun r e => (hown.lt r e).1)⟩
                rw [hcount]
                simpa [List.replicate_succ', Nat.add_assoc] using hown5
              clear hown5 hgr5 hown' hown
              go_wp2
              go_roundw
              case rel => exact ⟨k + 1, by omega, by go_num, hF5⟩
              case measure => simp [intOf]; omega
            · have hz' : (J[k][t] == 0) = false := beq_eq_false_iff_ne.2 hz
              have hcount : cntTo J t (k + 1) = cntTo J t k := by simp [cntTo, zeroAt, List.getElem?_eq_getElem hkl, List.getElem?_eq_getElem hin, hz]
              have hF5 := (show ∀ v, Fts w J t k v wr → RowKit.Hid (Fts w J t (k + 1) v wr) from fun v h => by show Fts _ _ _ _ _ _; unfold Fts at h ⊢; rw [hcount]; exact h) _ hG.out
              go_wp2
              go_roundw
              case rel => exact ⟨k + 1, by omega, by go_num, hF5⟩
              case measure => simp [intOf]; omega
          · have hin' : ¬ (t : Int) < (J[k].length : Int) := by omega
            have hcount : cntTo J t (k + 1) = cntTo J t k := by simp [cntTo, zeroAt, List.getElem?_eq_getElem hkl, List.getElem?_eq_none (show J[k].length ≤ t by omega)]
            have hF5 := (show ∀ v, Fts w J t k v wr → RowKit.Hid (Fts w J t (k + 1) v wr) from fun v h => by show Fts _ _ _ _ _ _; unfold Fts at h ⊢; rw [hcount]; exact h) _ hG.out
            go_wp2
            go_roundw
            case rel => exact ⟨k + 1, by omega, by go_num, hF5⟩
            case measure => simp [intOf]; omega
        · obtain rfl : k = J.length := by omega
          go_wp2
          go_roundw
          case rel => exact ⟨t + 1, by omega, by go_num, hG.out.next⟩
          case measure => simp [intOf]; omega
    · obtain rfl : t = mx := by omega
      obtain ⟨hown, hbl⟩ := hF.out
      have e1 : tot J t + cntTo J t 0 = (ftT J t).length := by rw [ftT_length]; rfl
      have e2 : (ftT J t ++ List.replicate (cntTo J t 0) (t : Int)) = ftT J t := by simp [cntTo]
      rw [e1, e2] at hown
      obtain ⟨a, c, rfl, hI⟩ := row_ints hown
      rw [ftT_length]
      go_wp2
      go_ret2
      exact ⟨a, c, rfl, hI, hbl⟩
end Go.Town.Kp
namespace Go.Town.Kp
open Go Go.Conc Go.Conc.Lib Go.ConcR.Gen Go.RowKit Go.Town Go.Proofs
open Go.ConcN (upd upd_ne upd_same)
theorem ftT_in {J : List (List Int)} : ∀ m, ∀ x ∈ ftT J m, ∃ u : Nat, x = (u : Int) ∧ u < m
  | 0, x, h => by simp [ftT] at h
  | m + 1, x, h => by
    simp only [ftT, List.mem_append, List.mem_replicate] at h
    rcases h with h | ⟨_, rfl⟩
    · obtain ⟨u, h1, h2⟩ := ftT_in m x h
      exact ⟨u, h1, by omega⟩
    · exact ⟨m, rfl, by omega⟩
theorem ftT_count {J : List (List Int)} (u : Nat) : ∀ m, (ftT J m).count (u : Int) = if u < m then cnt J u else 0
  | 0 => by simp [ftT]
  | m + 1 => by
    simp only [ftT, List.count_append, ftT_count u m, List.count_replicate]
    by_cases e : u = m
    · subst e; simp
    · have e2 : ((m : Int) == (u : Int)) = false := beq_eq_false_iff_ne.2 (by omega)
      rw [e2]
      simp only [Bool.false_eq_true, if_false, Nat.add_zero]
      split <;> split <;> first | rfl | omega
theorem ftT_cnt {J : List (List Int)} (u : Nat) : (((ftT J (mxR J J.length)).count (u : Int) : Nat) : Int) = cntI J u := by
  rw [ftT_count]
  unfold cntI
  split
  · rfl
  · rw [cnt_late (by omega)]
def Tally (fb : Nat) (l : List Int) (k : Nat) (wr : World) : Prop :=
  ∀ u, u < 20 → wr.cell? ⟨fb, u, none⟩ = some (.int .i64 (((l.take k).count (u : Int) : Nat) : Int)) ∧ wr.frozen? ⟨fb, u, none⟩ = false
theorem Tally.next {fb k x : Nat} {l : List Int} {wr : World} (h : Tally fb l k wr) (hk : k < l.length) (hx : l[k] = (x : Int)) (hx2 : x < 20) : Tally fb l (k + 1) (wr.setCell ⟨fb, x, none⟩ (.int .i64 (((l.take k).count (x : Int) : Nat) + 1 : Int))) := by
  intro u hu
  refine ⟨?_, (frozen_setCell _ _ _ _).trans (h u hu).2⟩
  have ec : (l.take (k + 1)).count (u : Int) = (l.take k).count (u : Int) + (if (x : Int) == (u : Int) then 1 else 0) := by
    rw [List.take_succ_eq_append_getElem hk, List.count_append, hx, List.count_singleton]
  rw [ec]
  by_cases e : x = u
  · subst e
    rw [cell_setCell_eq _ (h x hu).1]
    simp
  · have e2 : ((x : Int) == (u : Int)) = false := beq_eq_false_iff_ne.2 (by omega)
    rw [cell_setCell_ne _ _ (.inr e), (h u hu).1, e2]
    simp
theorem ints_far {wr : World} {fb j : Nat} {v : Value} {a : Option Addr} {l : List Int} (h : IntsIn fb wr a l) : IntsIn fb (wr.setCell ⟨fb, j, none⟩ v) a l :=
  h.kept (fun x i u hx hu => (cell_setCell_ne wr v (.inl (by omega))).trans hu) (Nat.le_refl _)
set_option maxRecDepth 100000 in
set_option maxHeartbeats 4000000 in
theorem faultsNeeded_any {ta : Option Addr} {tc win : Nat} {J : List (List Int)} {w : World} (hv : vT J = true) (hR : RowsAt w ta J) (hw0 : 0 < win) (hw20 : win ≤ 20) :
    Calls Try.prog 27 #[.int .i64 (win : Nat), .slice ta J.length tc] w fun e w' => e = .returned (.int .i64 (needTo J win 20)) ∧ Below w.heap.size w w' := by
  obtain ⟨v1, v2, v3, v4⟩ := vT_spec hv
  have hmx : mxR J J.length ≤ 20 := mxR_le v4 _
  have c28 := hidC (faultTicks_any (tc := tc) hv hR)
  have hlen : (ftT J (mxR J J.length)).length = tot J (mxR J J.length) := ftT_length _ _
  have htot := tot_le v2 (mxR J J.length)
  have hin : RowKit.Hid (∀ x ∈ ftT J (mxR J J.length), ∃ u : Nat, x = (u : Int) ∧ u < 20) := fun x hx => by
    obtain ⟨u, h1, h2⟩ := ftT_in _ x hx
    exact ⟨u, h1, by omega⟩
  have hcnt : RowKit.Hid (∀ u : Nat, (((ftT J (mxR J J.length)).count (u : Int) : Nat) : Int) = cntI J u) := fun u => ftT_cnt u
  have hmk : ∀ w : World, (Instr.makeSlice 28 (.int .i64 20) (.int .i64 20)).run Try.prog w = .ok (.slice (some ⟨w.heap.size, 0, none⟩) 20 20) (w.alloc (.cells (Array.replicate 20 (.int .i64 0)) 3)) := fun w => mk_ints w 20 (by omega)
  have hw1 : (1 : Int) ≤ (win : Int) := by omega
  have hw2 : ¬ ((win : Int) < 1) := by omega
  have hw3 : ¬ ((20 : Int) < (win : Int)) := by omega
  have hneed : RowKit.Hid (∀ k, 0 ≤ needTo J win k) := fun k => by
    induction k with
    | zero => exact Int.le_refl _
    | succ k ih => simp only [needTo]; omega
  have hcl : RowKit.Hid (∀ t, 0 ≤ cntI J t ∧ cntI J t ≤ (4 : Nat)) := fun t => by
    have := cntTo_le J t J.length
    unfold cntI cnt; omega
  have hfl : RowKit.Hid (∀ t, fin (cntI J) t win ≤ 100) := fun t => by
    have h := sumR_bounds (c := 4) hcl.out (t + 1 - win) (t + 1 - (t + 1 - win))
    have : ((t + 1 - (t + 1 - win) : Nat) : Int) * ((4 : Nat) : Int) ≤ 80 := by
      have h3 : (t + 1 - (t + 1 - win)) * 4 ≤ 20 * 4 := Nat.mul_le_mul (by omega) (Nat.le_refl _)
      have h4 : (((t + 1 - (t + 1 - win)) * 4 : Nat) : Int) ≤ ((20 * 4 : Nat) : Int) := by omega
      simpa using h4
    unfold fin; omega
  rw [← hlen] at c28 htot
  generalize ftT J (mxR J J.length) = ft at *
  clear hlen hv
  go_enter Try.func27, Try.ntmps27
  go_wp2_with (go_at_call 28; (with_reducible refine c28.out.mono ?_); rintro e w1 ⟨a, c, rfl, hI, hb1⟩)
  obtain ⟨fb, hfb⟩ : ∃ fb, fb = w1.heap.size := ⟨_, rfl⟩
  obtain ⟨W, hW⟩ : ∃ W, W = w1.alloc (.cells (Array.replicate 20 (.int .i64 0)) 3) := ⟨_, rfl⟩
  rw [← hW, ← hfb]
  have hfw : w.heap.size ≤ fb := by rw [hfb]; exact hb1.size
  have hI1 : IntsIn fb W a ft := by rw [hW, hfb]; exact IntsIn.kept hI (((Grown.refl w1).alloc _).kin (B := w1.heap.size) (Nat.le_refl _)).cells (Nat.le_refl _)
  have hT0 : RowKit.Hid (Tally fb ft 0 W) := fun u hu => by
    have hblk : W.heap[fb]? = some (.cells (Array.replicate 20 (.int .i64 0)) 3) := by rw [hW, hfb]; exact alloc_self w1 _
    exact ⟨by rw [blk_cell hblk]; simp [hu], blk_frozen hblk⟩
  have hbW : Below w.heap.size w W := by rw [hW]; exact hb1.alloc hb1.size _
  have hWz : fb < W.heap.size := by rw [hW, hfb, World.size_alloc]; omega
  have h0 : RowKit.Hid (Tally fb ft 0 W ∧ IntsIn fb W a ft ∧ Below w.heap.size w W ∧ fb < W.heap.size) := ⟨hT0.out, hI1, hbW, hWz⟩
  clear hI hb1 hW hfb hI1 hT0 hbW hWz c28
  go_wp2
  go_loopw [30] (fun i wr => ∃ k : Nat, k ≤ ft.length ∧ i = .int .i64 k ∧ RowKit.Hid (Tally fb ft k wr ∧ IntsIn fb wr a ft ∧ Below w.heap.size w wr ∧ fb < wr.heap.size)) (fun i _ => ft.length - (intOf i).toNat)
  case atStart => exact ⟨0, Nat.zero_le _, rfl, h0⟩
  case round =>
    obtain ⟨k, hk, rfl, hH⟩ := hrel
    obtain ⟨hT, hI, hbl, hz⟩ := hH.out
    by_cases hkl : k < ft.length
    · have hkl' : (k : Int) < (ft.length : Int) := by omega
      obtain ⟨xb, off, hxa, hxb, hck⟩ := hI.at hkl
      obtain ⟨x, hx, hx20⟩ := hin.out _ (List.getElem_mem hkl)
      have hx20' : (x : Int) < 20 := by omega
      subst hxa
      rw [hx] at hck
      obtain ⟨q1, q2⟩ := hT x hx20
      have hcle : (ft.take k).count (x : Int) ≤ 80 := by
        have := List.count_le_length (a := (x : Int)) (l := ft.take k)
        rw [List.length_take] at this; omega
      have hnx : RowKit.Hid (Tally fb ft (k + 1) (wr.setCell ⟨fb, x, none⟩ (.int .i64 (((ft.take k).count (x : Int) : Nat) + 1 : Int))) ∧ IntsIn fb (wr.setCell ⟨fb, x, none⟩ (.int .i64 (((ft.take k).count (x : Int) : Nat) + 1 : Int))) (some ⟨xb, off, none⟩) ft ∧ Below w.heap.size w (wr.setCell ⟨fb, x, none⟩ (.int .i64 (((ft.take k).count (x : Int) : Nat) + 1 : Int))) ∧ fb < (wr.setCell ⟨fb, x, none⟩ (.int .i64 (((ft.take k).count (x : Int) : Nat) + 1 : Int))).heap.size) :=
        ⟨hT.next hkl hx hx20, ints_far hI, hbl.setCell (p := ⟨fb, x, none⟩) hfw _, by rw [World.size_setCell]; exact hz⟩
      generalize (ft.take k).count (x : Int) = cc at *
      have hwr : IntKind.i64.wrap ((cc : Int) + 1) = (cc : Int) + 1 := IntWalk.i64_in _ (by omega)
      clear hT hI hbl hH
      go_wp2
      go_roundw
      case rel => exact ⟨k + 1, by omega, by go_num, hnx⟩
      case measure => simp [intOf]; omega
    · obtain rfl : k = ft.length := by omega
      have hcell : ∀ t, t < 20 → wr.cell? ⟨fb, t, none⟩ = some (.int .i64 (cntI J t)) := fun t ht => by
        have := (hT t ht).1
        rw [List.take_of_length_le (Nat.le_refl _), hcnt.out] at this
        exact this
      have c46 : RowKit.Hid (∀ t, t < 20 → Calls Try.prog 46 #[.slice (some ⟨fb, 0, none⟩) 20 20, .int .i64 (t : Nat), .int .i64 (win : Nat)] wr fun e w' => e = .returned (.int .i64 (fin (cntI J) t win)) ∧ wr = w') := fun t ht => faultsIn_any fb t win 4 (cntI J) wr ht hw0 hw20 (by omega) hcl.out hcell
      clear hT hI hH hcell h0
      go_wp2
      go_loopw [10, 43] (fun r i wr' => ∃ k : Nat, k ≤ 20 ∧ i = .int .i64 k ∧ r = .int .i64 (needTo J win k) ∧ wr = wr') (fun _ i _ => 20 - (intOf i).toNat)
      case atStart => exact ⟨0, Nat.zero_le _, rfl, rfl, rfl⟩
      case round =>
        obtain ⟨k, hk, rfl, rfl, rfl⟩ := hrel
        by_cases hk20 : k < 20
        · have hk20' : (k : Int) < 20 := by omega
          have c46k := c46.out k hk20
          have hs : RowKit.Hid (needTo J win (k + 1) = max (needTo J win k) (fin (cntI J) k win)) := rfl
          have hf1 := hfl.out k
          generalize needTo J win k = nd at *
          generalize fin (cntI J) k win = fi at *
          go_wp2_with (go_at_call 46; (with_reducible refine c46k.mono ?_); rintro e w2 ⟨rfl, rfl⟩)
          go_roundw
          case rel => exact ⟨k + 1, by omega, by go_num, by rw [hs.out]; congr 1; split <;> omega, trivial⟩
          case measure => simp [intOf]; omega
        · obtain rfl : k = 20 := by omega
          go_wp2
          go_ret
          exact ⟨rfl, hbl⟩
end Go.Town.Kp
