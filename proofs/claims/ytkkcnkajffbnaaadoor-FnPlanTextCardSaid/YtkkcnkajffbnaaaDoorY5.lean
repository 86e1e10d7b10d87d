/-
  The reference's ParsePlan tells the deeds that a text tells, in a row of its own.
-/
import Derived.Test.YtkkcnkajffbnaaaDoorY4
import Derived.Lib.QuietBelow
import Derived.BigQuiet
namespace Go.Proofs.YtkkcnkajffbnaaaDoor
open Go.RowKit

def cellsOf (ds : List Dd) : List Value := (ds.map Dd.cells).flatten
theorem cellsOf_snoc (ds : List Dd) (d : Dd) : cellsOf (ds ++ [d]) = cellsOf ds ++ d.cells := by simp [cellsOf]
theorem cellsOf_length (ds : List Dd) : (cellsOf ds).length = ds.length * 3 := by
  induction ds with
  | nil => rfl
  | cons d r ih =>
    have : cellsOf (d :: r) = d.cells ++ cellsOf r := by simp [cellsOf]
    rw [this, List.length_append, ih]
    simp [Dd.cells]; omega
theorem cellsOf_at : ∀ (ds : List Dd) (i j : Nat) (hi : i < ds.length), j < 3 → (cellsOf ds)[i * 3 + j]? = (ds[i].cells)[j]?
  | [], i, j, hi, _ => by simp at hi
  | d :: r, 0, j, _, hj => by
    have : cellsOf (d :: r) = d.cells ++ cellsOf r := by simp [cellsOf]
    rw [this, List.getElem?_append_left (by simp [Dd.cells]; omega)]
    simp
  | d :: r, i + 1, j, hi, hj => by
    have h := cellsOf_at r i j (by simpa using hi) hj
    have : cellsOf (d :: r) = d.cells ++ cellsOf r := by simp [cellsOf]
    rw [this, List.getElem?_append_right (by simp [Dd.cells]; omega)]
    rw [show (i + 1) * 3 + j - d.cells.length = i * 3 + j by simp [Dd.cells]; omega, h]
    simp
theorem deeds_of_row {w : World} {base : Nat} {v : Value} {ds : List Dd} (h : w.ownsRow base 47 3 v ds.length (cellsOf ds)) : ∃ a c, v = .slice a ds.length c ∧ DeedsAt w a ds := by
  rcases h.2 with ⟨rfl, h0⟩ | ⟨g, cap, cur, rfl, _, hg, hc, _, _, htake⟩
  · have : ds = [] := List.length_eq_zero_iff.1 h0
    subst this
    exact ⟨_, _, rfl, .inl rfl⟩
  · refine ⟨_, _, rfl, .inr ⟨g, 0, rfl, (Array.getElem?_eq_some_iff.1 hg).1, fun i hi => ?_⟩⟩
    have hat : ∀ j, j < 3 → w.cell? ⟨g, i * 3 + j, none⟩ = (ds[i].cells)[j]? := fun j hj => by
      rw [cell_blk hg, ← Array.getElem?_toList, ← cellsOf_at ds i j hi hj, ← htake, List.getElem?_take_of_lt (by omega)]
    simp only [Nat.zero_add]
    exact ⟨(hat 0 (by omega)).trans rfl, (hat 1 (by omega)).trans rfl, (hat 2 (by omega)).trans rfl⟩
theorem cell_three_new (w : World) (d : Dd) (t : TypeId) : ∀ j u, d.cells[j]? = some u → (w.alloc (.cells d.cells.toArray t)).cell? ((⟨w.heap.size, 0, none⟩ : Addr).add j) = some u := by
  intro j u hj
  have hb : (w.alloc (.cells d.cells.toArray t)).heap[w.heap.size]? = some (.cells d.cells.toArray t) := heap_alloc_new _ _
  have hc : ∀ k, (w.alloc (.cells d.cells.toArray t)).cell? ⟨w.heap.size, k, none⟩ = d.cells[k]? := fun k => by rw [cell_blk hb]; simp
  match j, hj with
  | 0, hj => exact (hc 0).trans hj
  | 1, hj => exact (hc 1).trans hj
  | 2, hj => exact (hc 2).trans hj
  | k + 3, hj => simp [Dd.cells] at hj

set_option maxRecDepth 100000 in
set_option maxHeartbeats 2000000 in
theorem specPP (s : ByteArray) (w : World) (hn : s.size ≤ 1048576) :
    Calls Tryd.prog 25 #[.string s] w fun e w' => ∃ v, e = .returned (.tuple #[v, .bool (parseP s.data.toList).isSome]) ∧ w'.ownsRow w.heap.size 47 3 v ((parseP s.data.toList).getD []).length (cellsOf ((parseP s.data.toList).getD [])) ∧ Below w.heap.size w w' := by
  obtain ⟨i0, hi, hz0, hz1, hz2⟩ := info_parts Tryd.info47
  have hsz : s.data.toList.length = s.size := Array.length_toList
  by_cases hdash : s.data.toList = [45]
  · rw [hdash, parseP_dash]
    have hs : s = ⟨#[45]⟩ := by
      obtain ⟨⟨l⟩⟩ := s
      simp at hdash; subst hdash; rfl
    subst hs
    go_enter Tryd.func25, Tryd.ntmps25
    go_wp2
    go_ret2
    exact ⟨_, rfl, ownsRow_empty _ _ _, (Below.refl _ _).alloc (Nat.le_refl _) _⟩
  · have hcmp : (s.toList == [45]) = false := by rw [Lib.toList_data]; simpa using hdash
    have hcut := Lib.hid (fun w => l11Cut_any s 44 w hn)
    have hcl := cuts_length 44 s.data.toList
    have hcm : ∀ x ∈ cuts 44 s.data.toList, x.length ≤ 1048576 := fun x hx => by have := cuts_mem hx; omega
    have hdone := fun ns => parseP_done (ns := ns) hdash
    have hbad := fun a b x => parseP_bad (a := a) (b := b) (x := x) hdash
    have hne := cutGo_ne_nil 44 s.data.toList []
    change cuts 44 s.data.toList ≠ [] at hne
    generalize hws : cuts 44 s.data.toList = ws at *
    generalize hpn : parseP s.data.toList = pn at *
    go_enter Tryd.func25, Tryd.ntmps25
    go_wp2_with fail
    refine (hcut.out _).mono ?_
    rintro e w1 ⟨vf, rfl, hrow, hb1⟩
    obtain ⟨g, cap, rfl, hg, htx⟩ := texts_of hrow hne
    have hown1 := ownsRow_below (ownsRow_empty w 47 3) hb1 (Nat.le_refl _)
    have hb1' : Below w.heap.size w w1 := ((Below.refl _ w).alloc (Nat.le_refl _) _).trans (hb1.mono (by simp))
    have hgs : w.heap.size < g := by simp at hg; omega
    clear hrow hb1 hcut
    go_wp2
    go_loopw [4, 6, 7, 8] (fun v i _ _ wr => ∃ (k : Nat) (ns : List Dd), k ≤ ws.length ∧ i = .int .i64 k ∧ Hid (allOk deedOf (ws.take k) = some ns) ∧ ns.length = k ∧ (0 < k → ws.length ≤ 12) ∧ wr.ownsRow w.heap.size 47 3 v k (cellsOf ns) ∧ v.ownBlock ≠ some g ∧ Texts wr g ws ∧ Below w.heap.size w wr) (fun _ i _ _ _ => ws.length - (intOf i).toNat)
    case atStart => exact ⟨0, [], Nat.zero_le _, rfl, rfl, rfl, by omega, hown1, by simp [Value.ownBlock]; omega, htx, hb1'⟩
    case round =>
      obtain ⟨k, ns, hk, rfl, hok, hnl, h40, hown, hnb, hT, hb⟩ := hrel
      by_cases hlt : k < ws.length
      · have hck := hT.at' k hlt
        have hbs := hb.size
        have hspl : ws = ws.take k ++ ws[k] :: ws.drop (k + 1) := by rw [← List.drop_eq_getElem_cons hlt, List.take_append_drop]
        have hrd := Lib.hid (l1Read_any ⟨ws[k].toArray⟩ wr (by have := hcm ws[k] (by simp); rw [bs_size]; omega))
        simp only at hrd
        have hbad' := fun h => hbad _ _ _ hspl h
        have hde := read_deed ws[k]
        have htk : ws.take (k + 1) = ws.take k ++ [ws[k]] := List.take_succ_eq_append_getElem hlt
        have hcmk := hcm ws[k] (by simp)
        clear hbad hspl hcm
        generalize hx : ws[k] = x at *
        go_wp2_with (go_at_call 48; refine hrd.out.mono ?_; rintro e w2 ⟨⟨act, line, word⟩, okb, rfl, hro, hdo, hb2⟩; simp only [deedV])
        obtain ⟨W0, hW0⟩ : ∃ W0, w2.alloc (.cells #[.string ⟨act.toArray⟩, .int .i64 line, .int .i64 word] 47) = W0 := ⟨_, rfl⟩
        have hblk : W0.heap[w2.heap.size]? = some (.cells #[.string ⟨act.toArray⟩, .int .i64 line, .int .i64 word] 47 (0, 0)) := by rw [← hW0]; exact heap_alloc_new _ _
        have hW2 : Below w2.heap.size w2 W0 := by rw [← hW0]; exact (Below.refl _ w2).alloc (Nat.le_refl _) _
        have hT0 := (hT.below hb2 (Nat.le_refl _)).below hW2 (Nat.le_refl _)
        have hown0 := ownsRow_below (ownsRow_below hown hb2 (Nat.le_refl _)) hW2 (Nat.le_refl _)
        have hb0 : Below w.heap.size w W0 := (hb.trans (hb2.mono hbs)).trans (hW2.mono (Nat.le_trans hbs hb2.size))
        have hcx := hT0.at' k hlt
        rw [hx] at hcx
        rw [hW0]
        have d0 := cell_blk hblk (o := 0); have d1 := cell_blk hblk (o := 1); have d2 := cell_blk hblk (o := 2)
        simp only [List.getElem?_toArray, List.getElem?_cons_zero, List.getElem?_cons_succ] at d0 d1 d2
        have k0 := cell_regrown d0
        have k1 := cell_regrown d1
        have k2 := cell_regrown d2
        have k3 := cell_regrown hcx
        have hact := Lib.hid (fun w => (l10Act_any act w).mono (R' := fun e w' => e = .returned (.bool (actB act)) ∧ Below w.heap.size w w') fun e w' ⟨h1, h2⟩ => ⟨h1, h2 ▸ Below.refl _ _⟩)
        have hld := Lib.hid (fun w => l10Deed_any ⟨act, line, word⟩ w hdo.1 hdo.2.1 hdo.2.2)
        simp only [deedV] at hld
        have hrx : readOf x = if okb = true then some ⟨act, line, word⟩ else none := by rw [← hro]
        rw [hrx] at hde
        have hde2 : deedOf x = if okb = true then (if (actB act && (deedText ⟨act, line, word⟩ == x)) = true then some ⟨act, line, word⟩ else none) else none := by rw [hde]; cases okb <;> rfl
        clear hde
        have hcmpd : ((⟨(deedText ⟨act, line, word⟩).toArray⟩ : ByteArray).toList == x) = (deedText ⟨act, line, word⟩ == x) := by rw [Lib.toList_data]
        clear hrd hro hblk hW2 hW0 hrx d0 d1 d2 hcx
        generalize deedText ⟨act, line, word⟩ = dt at *
        generalize hab : actB act = ab at *
        generalize hdx : (dt == x) = dx at *
        generalize hq : (⟨dt.toArray⟩ : ByteArray) = q at *
        clear hq hdx
        have hdo1 := hdo.1
        have cA := fun d os => Calls.regrown_of (w := W0) (d := d) (os := os) (hact.out _)
        have cD := fun d os => Calls.regrown_of (w := W0) (d := d) (os := os) (hld.out _)
        cases okb
        · have hfin : Hid (pn = none) := hbad' (.inl (by rw [hde2]; rfl))
          clear hbad' hdone hde2
          refine wp_region_quiet_below (by kernel_rfl) (by kernel_rfl) ?_
          repeat (first | go_big_quiet_step (first | (go_at_call 49; exact cA _ _) | (go_at_call 35; exact cD _ _)) | quiet_step (first | (go_at_call 49; exact cA _ _) | (go_at_call 35; exact cD _ _)))
          refine wpQuiet_nil ?_
          intro _ hw'
          obtain ⟨⟨dq, osq⟩, hw''⟩ := hw'
          subst hw''
          have hS := below_regrown W0 dq osq
          have d0 := k0 dq osq; have d1 := k1 dq osq; have d2 := k2 dq osq
          obtain ⟨W9, hW9⟩ : ∃ W9, Go.Sort.grow (redrawn W0 dq) osq = W9 := ⟨_, rfl⟩
          rw [hW9] at hS d0 d1 d2 ⊢
          clear hW9 k0 k1 k2 k3 cA cD hact hld
          go_wp2
          go_ret2
          exact ⟨_, by rw [hfin.out]; rfl, by rw [hfin.out]; exact ownsRow_base (ownsRow_empty _ _ _) (by have := hS.size; have := hb0.size; omega), (hb0.trans (hS.mono hb0.size)).alloc (by have := hS.size; have := hb0.size; omega) _⟩
        cases ab
        · have hfin : Hid (pn = none) := hbad' (.inl (by rw [hde2]; rfl))
          clear hbad' hdone hde2
          refine wp_region_quiet_below (by kernel_rfl) (by kernel_rfl) ?_
          repeat (first | go_big_quiet_step (first | (go_at_call 49; exact cA _ _) | (go_at_call 35; exact cD _ _)) | quiet_step (first | (go_at_call 49; exact cA _ _) | (go_at_call 35; exact cD _ _)))
          refine wpQuiet_nil ?_
          intro _ hw'
          obtain ⟨⟨dq, osq⟩, hw''⟩ := hw'
          subst hw''
          have hS := below_regrown W0 dq osq
          have d0 := k0 dq osq; have d1 := k1 dq osq; have d2 := k2 dq osq
          obtain ⟨W9, hW9⟩ : ∃ W9, Go.Sort.grow (redrawn W0 dq) osq = W9 := ⟨_, rfl⟩
          rw [hW9] at hS d0 d1 d2 ⊢
          clear hW9 k0 k1 k2 k3 cA cD hact hld
          go_wp2
          go_ret2
          exact ⟨_, by rw [hfin.out]; rfl, by rw [hfin.out]; exact ownsRow_base (ownsRow_empty _ _ _) (by have := hS.size; have := hb0.size; omega), (hb0.trans (hS.mono hb0.size)).alloc (by have := hS.size; have := hb0.size; omega) _⟩
        cases dx
        · have hfin : Hid (pn = none) := hbad' (.inl (by rw [hde2]; rfl))
          clear hbad' hdone hde2
          refine wp_region_quiet_below (by kernel_rfl) (by kernel_rfl) ?_
          repeat (first | go_big_quiet_step (first | (go_at_call 49; exact cA _ _) | (go_at_call 35; exact cD _ _)) | quiet_step (first | (go_at_call 49; exact cA _ _) | (go_at_call 35; exact cD _ _)))
          refine wpQuiet_nil ?_
          intro _ hw'
          obtain ⟨⟨dq, osq⟩, hw''⟩ := hw'
          subst hw''
          have hS := below_regrown W0 dq osq
          have d0 := k0 dq osq; have d1 := k1 dq osq; have d2 := k2 dq osq
          obtain ⟨W9, hW9⟩ : ∃ W9, Go.Sort.grow (redrawn W0 dq) osq = W9 := ⟨_, rfl⟩
          rw [hW9] at hS d0 d1 d2 ⊢
          clear hW9 k0 k1 k2 k3 cA cD hact hld
          go_wp2
          go_ret2
          exact ⟨_, by rw [hfin.out]; rfl, by rw [hfin.out]; exact ownsRow_base (ownsRow_empty _ _ _) (by have := hS.size; have := hb0.size; omega), (hb0.trans (hS.mono hb0.size)).alloc (by have := hS.size; have := hb0.size; omega) _⟩
        by_cases h4 : 12 < ws.length
        · have h4' : decide ((12 : Int) < (ws.length : Int)) = true := by simp; omega
          have hfin : Hid (pn = none) := hbad' (.inr h4)
          clear hbad' hdone hde2
          refine wp_region_quiet_below (by kernel_rfl) (by kernel_rfl) ?_
          repeat (first | go_big_quiet_step (first | (go_at_call 49; exact cA _ _) | (go_at_call 35; exact cD _ _)) | quiet_step (first | (go_at_call 49; exact cA _ _) | (go_at_call 35; exact cD _ _)))
          refine wpQuiet_nil ?_
          intro _ hw'
          obtain ⟨⟨dq, osq⟩, hw''⟩ := hw'
          subst hw''
          have hS := below_regrown W0 dq osq
          have d0 := k0 dq osq; have d1 := k1 dq osq; have d2 := k2 dq osq
          obtain ⟨W9, hW9⟩ : ∃ W9, Go.Sort.grow (redrawn W0 dq) osq = W9 := ⟨_, rfl⟩
          rw [hW9] at hS d0 d1 d2 ⊢
          clear hW9 k0 k1 k2 k3 cA cD hact hld
          go_wp2
          go_ret2
          exact ⟨_, by rw [hfin.out]; rfl, by rw [hfin.out]; exact ownsRow_base (ownsRow_empty _ _ _) (by have := hS.size; have := hb0.size; omega), (hb0.trans (hS.mono hb0.size)).alloc (by have := hS.size; have := hb0.size; omega) _⟩
        · have h4' : decide ((12 : Int) < (ws.length : Int)) = false := by simp; omega
          have hok2 : Hid (allOk deedOf (ws.take (k + 1)) = some (ns ++ [⟨act, line, word⟩])) := by
            rw [Hid, htk]
            exact allOk_snoc hok.out (by rw [hde2]; rfl)
          clear hbad' hdone hde2 hok htk
          refine wp_region_quiet_below (by kernel_rfl) (by kernel_rfl) ?_
          repeat (first | go_big_quiet_step (first | (go_at_call 49; exact cA _ _) | (go_at_call 35; exact cD _ _)) | quiet_step (first | (go_at_call 49; exact cA _ _) | (go_at_call 35; exact cD _ _)))
          refine wpQuiet_nil ?_
          intro _ hw'
          obtain ⟨⟨dq, osq⟩, hw''⟩ := hw'
          subst hw''
          have hS := below_regrown W0 dq osq
          have d0 := k0 dq osq; have d1 := k1 dq osq; have d2 := k2 dq osq
          obtain ⟨W9, hW9⟩ : ∃ W9, Go.Sort.grow (redrawn W0 dq) osq = W9 := ⟨_, rfl⟩
          rw [hW9] at hS d0 d1 d2 ⊢
          clear hW9 k0 k1 k2 k3 cA cD hact hld
          have hT9 := hT0.below hS (Nat.le_refl _)
          have hown9 := (ownsRow_below hown0 hS (Nat.le_refl _)).alloc (.cells (⟨act, line, word⟩ : Dd).cells.toArray 47)
          have hb9 : Below w.heap.size w W9 := hb0.trans (hS.mono hb0.size)
          have hs9 := hb9.size
          go_wp2_with (at_builtin; refine wpList_append_own_at _ rfl (.tmp 52) (.tmp 54) 30 rfl w.heap.size 47 i0 (.agg #[.string ⟨#[]⟩, .int .i64 0, .int .i64 0]) 3 32 Tryd.underlying30 hi hz0 hz1 hz2 rfl (by decide) _ k _ rfl hown9 ⟨W9.heap.size, 0, none⟩ 1 1 (⟨act, line, word⟩ : Dd).cells rfl rfl ?c1 ?c2 ?c3 ?c4 ?c5 ?_)
          case c1 => exact fun j u h => h
          case c2 => intro u hu; simp [Dd.cells] at hu; rcases hu with rfl | rfl | rfl <;> rfl
          case c3 => unfold maxLen; omega
          case c4 => omega
          case c5 => first | omega | (simp; omega)
          intro v' w4 hown4 hgrow4 _ hob
          have hb4 : Below w.heap.size w w4 := (hb9.alloc hs9 _).grown hgrow4 (by simp; omega) (fun q hq => (hown.lt q hq).1)
          have hT4 : Texts w4 g ws := (hT9.below ((Below.refl _ W9).alloc (Nat.le_refl _) _) (Nat.le_refl _)).block (hgrow4.block g (by have := hT9.lt; simp; omega) (fun e => hnb e.symm))
          have hnb4 : v'.ownBlock ≠ some g := by
            rcases hob with h | h
            · rw [h]; exact hnb
            · intro e
              have hlt2 := hT9.lt
              rw [h] at e
              simp at e
              omega
          go_wp2
          go_roundw
          case rel => exact ⟨k + 1, ns ++ [⟨act, line, word⟩], by omega, by go_num, hok2, by simp [hnl], fun _ => by omega, by rw [cellsOf_snoc]; exact hown4, hnb4, hT4, hb4⟩
          case measure => simp [intOf]; omega
      · obtain rfl : k = ws.length := by omega
        have hfin : Hid (pn = some ns) := by
          refine hdone ns (h40 (by cases ws with | nil => exact absurd rfl hne | cons _ _ => simp)) ?_
          have := hok.out
          rwa [List.take_length] at this
        go_wp2
        go_ret2
        exact ⟨_, by rw [hfin.out]; rfl, by rw [hfin.out, Option.getD_some, hnl]; exact hown, hb⟩
end Go.Proofs.YtkkcnkajffbnaaaDoor
