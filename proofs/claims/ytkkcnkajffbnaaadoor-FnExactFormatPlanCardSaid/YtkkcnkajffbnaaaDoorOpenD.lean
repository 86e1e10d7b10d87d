/-
  A slice of deeds that came in as an argument reads as deeds.
-/
import Derived.Test.YtkkcnkajffbnaaaDoorU1
import Derived.Test.YtkkcnkajffbnaaaDoorOpen
import Derived.Deep.Slices
import Derived.Deep.Fields
namespace Go.Proofs.YtkkcnkajffbnaaaDoor
open Go.RowKit Go.Deep Go.ChangeShapes Go.WideShapes

/-- What is asked of the numbers and the text of a deed that came in. -/
def DdIn (d : Dd) : Prop := d.act.length ≤ 9223372036854775807 ∧ InI d.line ∧ InI d.word

theorem drop3 {c : List Value} (h : c.length = 3) : ∃ a b d, c = [a, b, d] := by
  match c, h with
  | [a, b, d], _ => exact ⟨a, b, d, rfl⟩

theorem deeds_open {H : Type} {enc : TypeId × Value → H} {P : Program} {w : World} {base : Nat} {spare : Nat → Bool} {held : Bool} {t e ts ti : TypeId} {f0 f1 f2 : Field} {fuel : Nat} {cs : List Value} {x : DataW H × List MemPlace}
    (ht : P.underlying t = some (.slice e)) (he : P.underlying e = some (.struct #[f0, f1, f2])) (h3 : P.cellsOf e = 3) (ho : f0.offset = 0 ∧ f1.offset = 1 ∧ f2.offset = 2)
    (hc : P.cellsOf f0.type = 1 ∧ P.cellsOf f1.type = 1 ∧ P.cellsOf f2.type = 1) (e0 : f0.type = ts) (e1 : f1.type = ti) (e2 : f2.type = ti) (hs : P.underlying ts = some .string) (hi : P.underlying ti = some (.int .i64))
    (h : DataW.trod enc P w base spare held fuel t cs = some x) :
    ∃ (a : Option Addr) (c : Nat) (ds : List Dd), cs = [.slice a ds.length c] ∧ ds.length ≤ maxLen ∧ (∀ d ∈ ds, DdIn d) ∧ DeedsAt w a ds := by
  rcases open_slice ht h with ⟨h0, _⟩ | ⟨a, len, cap, m, n, D, Pl, hcs, _, hl, hm, hmm, _, hel⟩
  · exact ⟨none, 0, [], h0, by simp, by simp, .inl rfl⟩
  have hlm : len ≤ m := by rw [hmm]; split <;> omega
  have hone : ∀ i, i < len → ∃ d : Dd, DdIn d ∧ w.cell? (a.add (i * 3)) = some (.string ⟨d.act.toArray⟩) ∧ w.cell? ((a.add (i * 3)).add 1) = some (.int .i64 d.line) ∧ w.cell? ((a.add (i * 3)).add 2) = some (.int .i64 d.word) := by
    intro i hil
    obtain ⟨c, hc', ht'⟩ := hel i (by omega)
    rw [h3] at hc'
    obtain ⟨_, hcl, hat⟩ := World.cells?_some hc'
    obtain ⟨x0, x1, x2, rfl⟩ := drop3 hcl
    obtain ⟨xs, n', _, _, _, hxl, hf⟩ := DataW.trod_struct he ht'
    have hf0 := hf 0 f0 rfl
    have hf1 := hf 1 f1 rfl
    have hf2 := hf 2 f2 rfl
    rw [ho.1, hc.1, e0] at hf0
    rw [ho.2.1, hc.2.1, e1] at hf1
    rw [ho.2.2, hc.2.2, e2] at hf2
    simp only [List.drop_zero, List.take_succ_cons, List.take_zero, List.drop_succ_cons] at hf0 hf1 hf2
    have hx : ∀ k, k < 3 → ∃ y, xs[k]? = some y := fun k hk => ⟨xs[k]'(by rw [hxl]; exact hk), List.getElem?_eq_getElem (by rw [hxl]; exact hk)⟩
    obtain ⟨y0, hy0⟩ := hx 0 (by omega)
    obtain ⟨y1, hy1⟩ := hx 1 (by omega)
    obtain ⟨y2, hy2⟩ := hx 2 (by omega)
    obtain ⟨s, q0, _, hsz⟩ := DataW.trod_string hs (hf0.trans hy0)
    obtain ⟨n1, q1, _, w1⟩ := DataW.trod_int hi (hf1.trans hy1)
    obtain ⟨n2, q2, _, w2⟩ := DataW.trod_int hi (hf2.trans hy2)
    cases q0; cases q1; cases q2
    refine ⟨⟨s.data.toList, n1, n2⟩, ⟨by have hq : s.data.toList.length = s.size := (by rw [Array.length_toList]; rfl); unfold maxLen at hsz; show s.data.toList.length ≤ _; omega, inI_of_wf w1, inI_of_wf w2⟩, ?_, ?_, ?_⟩
    · have := hat 0 (by omega); simp [Addr.add] at this ⊢; exact this
    · exact hat 1 (by omega)
    · exact hat 2 (by omega)
  obtain ⟨f, hfs⟩ : ∃ f : Nat → Dd, ∀ i, i < len → DdIn (f i) ∧ w.cell? (a.add (i * 3)) = some (.string ⟨(f i).act.toArray⟩) ∧ w.cell? ((a.add (i * 3)).add 1) = some (.int .i64 (f i).line) ∧ w.cell? ((a.add (i * 3)).add 2) = some (.int .i64 (f i).word) := by
    refine ⟨fun i => if h : i < len then (hone i h).choose else zeroD, fun i hi' => ?_⟩
    simp only [dif_pos hi']
    exact (hone i hi').choose_spec
  refine ⟨some a, cap, (List.range len).map f, by simpa using hcs, by simp; omega, ?_, ?_⟩
  · intro d hd
    obtain ⟨i, hi', rfl⟩ := List.mem_map.1 hd
    exact (hfs i (List.mem_range.1 hi')).1
  · by_cases h0 : len = 0
    · subst h0; exact .inl rfl
    obtain ⟨b, off, spot⟩ := a
    have h00 := (hfs 0 (by omega)).2.1
    have hspot : spot = none := by simpa [Addr.add] using World.cell?_spot h00
    subst hspot
    have hb : b < w.heap.size := by
      unfold World.cell? at h00
      simp only [Addr.add] at h00
      rcases Nat.lt_or_ge b w.heap.size with h | h
      · exact h
      · simp [Array.getElem?_eq_none h] at h00
    refine .inr ⟨b, off, rfl, hb, fun i hi' => ?_⟩
    have hil : i < len := by simpa using hi'
    have hh := (hfs i hil).2
    simp only [List.getElem_map, List.getElem_range]
    have ea : ∀ k, (⟨b, off, none⟩ : Addr).add k = ⟨b, off + k, none⟩ := fun k => by unfold Addr.add; split <;> simp_all
    rw [ea, show ∀ (o k : Nat), (⟨b, o, none⟩ : Addr).add k = ⟨b, o + k, none⟩ from fun o k => by unfold Addr.add; split <;> simp_all, show ∀ (o k : Nat), (⟨b, o, none⟩ : Addr).add k = ⟨b, o + k, none⟩ from fun o k => by unfold Addr.add; split <;> simp_all] at hh
    exact hh
end Go.Proofs.YtkkcnkajffbnaaaDoor
