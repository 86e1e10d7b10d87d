/-
  The program's FormatNumbers (and joined, strconv.Itoa) returns the same text, where the library's table of powers is laid.
-/
import Derived.Test.YtkkcnkajffbnaaaDoorT3
import Derived.OwnWalk
import Derived.WalkSmall
namespace Go.Proofs.YtkkcnkajffbnaaaDoor
open Go.RowKit

theorem below_grow (B : Nat) (w : World) (hB : B ≤ w.heap.size) (k : Nat) (os : Array Obj) : Below B w (Sort.grow (w.drewN k) os) := by
  refine ⟨rfl, rfl, rfl, ?_, fun i hi => ?_⟩
  · simp [Sort.grow]
  · show (w.heap ++ os)[i]? = _
    rw [Array.getElem?_append_left (by omega)]

theorem Tryd.info9 : (Tryd.prog.info? 9).map (fun i => (i.zero, i.size, i.bytes)) = some (some (.string ⟨#[]⟩), 1, 16) := by kernel_rfl
theorem gPow : Tryd.prog.globalNamed "internal/strconv.uint64pow10" = some 0 := by kernel_rfl

/-- What the walks lean on: the table of powers is laid. -/
structure Env (w : World) : Prop where
  pow : Lib.TabIs Tryd.prog w "internal/strconv.uint64pow10" .u64 Lib.pow10Tab
  size : 9 ≤ w.heap.size
theorem Env.below {w w' : World} {B : Nat} (h : Env w) (hb : Below B w w') (hB : w.heap.size ≤ B) : Env w' :=
  ⟨var?_below hb gPow (by have := h.size; omega) h.pow, Nat.le_trans h.size hb.size⟩

theorem itoa_any (n : Int) (w : World) (hn : InI n) (hE : Env w) :
    Calls Tryd.prog 32 #[.int .i64 n] w fun e w' => e = .returned (.string ⟨(Lib.itoa n).toArray⟩) ∧ Below w.heap.size w w' :=
  (Tryd.strconv_Itoa n hn.1 hn.2 w hE.pow).mono fun _ _ ⟨he, k, os, hw⟩ => ⟨he, hw ▸ below_grow _ w (Nat.le_refl _) k os⟩

theorem ownsRow_below {w w' : World} {base e size n B : Nat} {v : Value} {xs : List Value} (h : w.ownsRow base e size v n xs) (hb : Below B w w') (hB : w.heap.size ≤ B) : w'.ownsRow base e size v n xs := by
  obtain ⟨h1, h2⟩ := h
  refine ⟨h1, ?_⟩
  rcases h2 with h2 | ⟨g, cap, cur, e1, e2, e3, e4⟩
  · exact .inl h2
  · refine .inr ⟨g, cap, cur, e1, e2, ?_, e4⟩
    rw [hb.block g (by have := (Array.getElem?_eq_some_iff.1 e3).1; omega)]
    exact e3
def itoaV (n : Int) : Value := .string ⟨(Lib.itoa n).toArray⟩

/-- The strings that a row of the call's own holds. -/
def strV (l : List UInt8) : Value := .string ⟨l.toArray⟩
def joinD (xs : List (List UInt8)) (sep : List UInt8) : List UInt8 := if xs = [] then [45] else Lib.join xs sep

set_option maxRecDepth 100000 in
set_option maxHeartbeats 400000 in
theorem joined_any (v : Value) (base : Nat) (xs : List (List UInt8)) (sep : List UInt8) (w : World) (hown : w.ownsRow base 9 1 v xs.length (xs.map strV)) (hn : xs.length ≤ 1048576) (hlen : (Lib.join xs sep).length ≤ 140737488355328) :
    Calls Tryd.prog 33 #[v, .string ⟨sep.toArray⟩] w fun e w' => e = .returned (.string ⟨(joinD xs sep).toArray⟩) ∧ Below w.heap.size w w' := by
  by_cases hx : xs = []
  · subst hx
    obtain ⟨a, c, rfl⟩ : ∃ a c, v = .slice a 0 c := by
      rcases hown.2 with ⟨rfl, _⟩ | ⟨g, cap, cur, rfl, _⟩
      · exact ⟨_, _, rfl⟩
      · exact ⟨_, _, rfl⟩
    go_enter Tryd.func33, Tryd.ntmps33
    go_wp2
    go_ret
    exact ⟨rfl, Below.refl _ _⟩
  · have hpos : 0 < xs.length := by cases xs with | nil => exact absurd rfl hx | cons _ _ => simp
    obtain ⟨h1, ⟨_, h2⟩ | ⟨g, cap, cur, rfl, _, hg, hcap, _, _, htake⟩⟩ := hown
    · omega
    have hgl := (Array.getElem?_eq_some_iff.1 hg).1
    have hj := Tryd.strings_Join g 0 cap (xs.map fun l => ⟨l.toArray⟩) ⟨sep.toArray⟩ w (fun j x hj => by
      have hl : j < xs.length := by have := (List.getElem?_eq_some_iff.1 hj).1; simpa using this
      have : cur.toList[j]? = some (.string x) := by
        have h3 : (cur.toList.take (xs.length * 1))[j]? = some (.string x) := by
          rw [htake]
          simp only [List.getElem?_map] at hj ⊢
          obtain ⟨y, hy, rfl⟩ := Option.map_eq_some_iff.1 hj
          rw [hy]; rfl
        rwa [List.getElem?_take_of_lt (by omega)] at h3
      simp [World.cell?, hg]
      simpa using this) hgl (by simp; omega) (by simpa using hcap) (by
        have e : (List.map (fun l : List UInt8 => (⟨l.toArray⟩ : ByteArray)) xs).map (fun x => x.data.toList) = xs := by simp [List.map_map, Function.comp_def]
        simpa [e] using hlen)
    have e : (List.map (fun l : List UInt8 => (⟨l.toArray⟩ : ByteArray)) xs).map (fun x => x.data.toList) = xs := by simp [List.map_map, Function.comp_def]
    rw [e, List.length_map] at hj
    simp only at hj
    have HJ := Lib.hid hj
    clear hj e
    have hne : ((xs.length : Int) == 0) = false := by simp; exact hx
    go_enter Tryd.func33, Tryd.ntmps33
    go_wp2_with (go_at_call 55; refine HJ.out.mono ?_; rintro e w' ⟨rfl, hb⟩)
    go_ret
    exact ⟨ret_str (by unfold joinD; rw [if_neg hx]), by assumption⟩

set_option maxRecDepth 100000 in
set_option maxHeartbeats 400000 in
theorem implFN (a : Option Addr) (c : Nat) (zs : List Int) (w : World) (hn : zs.length ≤ 1048576) (hz : ∀ n ∈ zs, InI n) (hA : IntsAt w a zs) (hE : Env w) :
    Calls Tryd.prog 11 #[.slice a zs.length c] w fun e w' => e = .returned (.string ⟨(fmtNums zs).toArray⟩) ∧ Below w.heap.size w w' := by
  obtain ⟨i0, hi, hz0, hz1, hz2⟩ := info_parts Tryd.info9
  go_enter Tryd.func11, Tryd.ntmps11
  go_wp2_with (at_make; refine wpList_make_own _ rfl _ _ 49 rfl w.heap.size 9 i0 (.string ⟨#[]⟩) 1 Tryd.underlying49 hi hz0 hz1 .i64 .i64 _ zs.length rfl rfl rfl ?b2 ?b3 (Nat.le_refl _) ?_)
  case b2 => rw [hz2]; omega
  case b3 => unfold maxLen; omega
  intro w0 hown0 hgrow0
  have hb0 := (Below.refl w.heap.size w).grown hgrow0 (Nat.le_refl _) (fun k h => by cases h)
  clear hgrow0
  go_wp2
  go_loopw [3, 11] (fun v i wr => ∃ k : Nat, k ≤ zs.length ∧ i = .int .i64 k ∧ wr.ownsRow w.heap.size 9 1 v k ((zs.take k).map itoaV) ∧ Below w.heap.size w wr) (fun _ i _ => zs.length - (intOf i).toNat)
  case atStart => exact ⟨0, Nat.zero_le _, rfl, hown0, hb0⟩
  case round =>
    obtain ⟨k, hk, rfl, hown, hb⟩ := hrel
    by_cases hlt : k < zs.length
    · obtain ⟨b, off, rfl, hbs, hck⟩ := (hA.below hb (Nat.le_refl _)).at hlt
      have hit := Lib.hid (itoa_any zs[k] wr (hz zs[k] (by simp)) (hE.below hb (Nat.le_refl _)))
      have hbs' := hb.size
      go_wp2_with (first
        | (go_at_call 32; refine hit.out.mono ?_; rintro e w1 ⟨rfl, hb2⟩; have hown1 := (ownsRow_below hown hb2 (Nat.le_refl _)).alloc (.cells #[itoaV zs[k]] 9); have hs1 := hb2.size)
        | (at_builtin; refine wpList_append_own _ rfl (.tmp 15) (.tmp 18) 49 rfl w.heap.size 9 i0 (.string ⟨#[]⟩) 1 16 Tryd.underlying49 hi hz0 hz1 hz2 rfl (by decide) _ k _ rfl hown1 ⟨w1.heap.size, 0, none⟩ 1 1 [itoaV zs[k]] rfl rfl ?c1 ?c2 ?c3 ?c4 ?c5 ?_))
      case c1 => intro j u hj; match j, hj with | 0, hj => simp at hj; subst hj; simp [Addr.add, itoaV]
      case c2 => intro u hu; simp at hu; subst hu; rfl
      case c3 => unfold maxLen; omega
      case c4 => omega
      case c5 => simp; omega
      intro v' w2 hown2 hgrow2 _
      have hown3 : w2.ownsRow w.heap.size 9 1 v' (k + 1) ((zs.take (k + 1)).map itoaV) := by
        rw [List.take_succ_eq_append_getElem hlt, List.map_append, List.map_take]; exact hown2
      go_wp2
      go_roundw
      case rel => exact ⟨k + 1, by omega, by go_num, hown3, ((hb.trans (hb2.mono hb.size)).alloc (by omega) _).grown hgrow2 (by simp; omega) (fun q hq => (hown.lt q hq).1)⟩
      case measure => simp [intOf]; omega
    · have ek : k = zs.length := by omega
      subst ek
      rw [List.take_length] at hown
      have eown : ∀ v, wr.ownsRow w.heap.size 9 1 v zs.length (zs.map itoaV) → wr.ownsRow w.heap.size 9 1 v (zs.map Lib.itoa).length ((zs.map Lib.itoa).map strV) := by
        intro v h; simp only [List.length_map, List.map_map]; exact h
      have hown' := eown _ hown
      clear eown
      have hll := fmtL_length zs zs.length hz
      have hjl : (Lib.join (zs.map Lib.itoa) [32]).length ≤ 140737488355328 := by
        unfold fmtL at hll; rw [List.take_length] at hll; omega
      have hjn : Hid (fmtNums zs = joinD (zs.map Lib.itoa) [32]) := by
        unfold Hid fmtNums joinD fmtL; rw [List.take_length]; by_cases h : zs = [] <;> simp [h]
      have HJ := Lib.hid (fun v h => joined_any v w.heap.size (zs.map Lib.itoa) [32] wr h (by simpa using hn) hjl)
      go_wp2_with (go_at_call 33; refine (HJ.out _ hown').mono ?_; rintro e w' ⟨rfl, hb2⟩)
      go_ret
      exact ⟨ret_str (by rw [hjn.out]), hb.trans (hb2.mono hb.size)⟩
end Go.Proofs.YtkkcnkajffbnaaaDoor
