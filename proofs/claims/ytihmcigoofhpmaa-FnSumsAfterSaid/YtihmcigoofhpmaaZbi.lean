/-
  SumsAfter.
  The reference's count of faults, and who is started again.
  The reference: a worker's task.
  The reference: a fault.
-/
import Derived.Maps.AppendAt
import Derived.Laws.OwnMore
import Derived.Test.YtihmcigoofhpmaaZbh
set_option linter.all false
namespace Go.Town.Kp
open Go Go.Conc Go.Conc.Lib Go.ConcR.Gen Go.RowKit Go.Town Go.Proofs
open Go.ConcN (upd upd_ne upd_same)
noncomputable def body14 : Code := Try.f14.body.getD .skip
noncomputable def bad14 : Code := match tailC 1 (headC 1 body14) with | .cond _ c _ => c | c => c
theorem body14_eq : body14 = .seq (headC 0 body14) (.seq (.seq (headC 0 (headC 1 body14)) (.cond (.tmp 23) bad14 .skip)) (.seq (headC 2 body14) .ret)) := by kernel_rfl
def vA (n : Int) : Bool := decide (0 ≤ n) && decide (n ≤ 20)
theorem run_field30 (x y : Option Addr) (n1 m1 n2 m2 : Nat) (s : ByteArray) (q : Int) (w : World) : (Instr.field 30 (.agg #[.slice x n1 m1, .slice y n2 m2, .string s, .int .i64 q]) 0).run Try.prog w = .ok (.slice x n1 m1) w := by
  simp [Instr.field, go_sem, asAgg]
section
variable {A : At} {C : Cfg} {L : Nat → Ws} {Post : Value → World → Prop} {N k : Nat} {wl : World} {i : Nat} {cs : List Frame} {slot : Nat → Option Nat} {sum starts : Nat → Int} {b₀ : Frame} {a₀ : Act} {ops₀ : Array Oper} {i₀ : Nat} {rest₀ : List Nat} {k₀ : List Item}
variable {l : List UInt8} {f t n : Int} {J : List (List Int)} {tc : Nat} {ta : Option Addr} {C₀ : Cfg} {b' o' Bd : Nat}
set_option maxRecDepth 100000 in
set_option maxHeartbeats 400000 in
theorem leave14 {C : Cfg} {b o : Nat} {Rs : (Nat → Prop) → (Nat → Role) → Nat → Prop} {todo : List Item} {v : Value} {ok : Bool} {z0 z1 z2 z3 z4 z5 z8 z9 za zb zc zd ze zf zg zh zi zj zk zl zm zn zo zp zq zr zs : Value} {w : World} (hS : Steady Rs) (hL : Lay C w)
    (h : Can Try.prog C b o Post 0 Rs w (G (b₀.at (a₀.put ((ops₀[i₀]?).bind (·.dst)) (.tuple #[v, .bool ok])) (.inRegion ops₀ rest₀ :: k₀)) cs)) :
    Can Try.prog C b o Post 0 Rs w (G { (base 14).at ⟨#[z0, z1, z2, z3, z4, z5, v, .bool ok, z8, z9, za, zb, zc, zd, ze, zf, zg, zh, zi, zj, zk, zl, zm, zn, zo, zp, zq, zr, zs], []⟩ todo with mode := .returning } (b₀.at a₀ (.inRegion ops₀ (i₀ :: rest₀) :: k₀) :: cs)) := by
  refine Can.leaves (v := .tuple #[v, .bool ok]) hS hL rfl rfl Try.func14 (fun T d => ?_) ?_
  · simp [results, Try.results14, go_sem]
  · rw [Frame.finish_at]
    exact h
set_option maxRecDepth 100000 in
set_option maxHeartbeats 1000000 in
theorem sa_first (hp : OkProg Try.prog okT) (hn : J.length ≤ 1048576) (hm : ∀ l ∈ J, l.length ≤ 1048576) (hBd : Bd < 2000000000) (hL : Lay C₀ wl) (hR : RowsAt wl ta J)
    (kbad : (vK l f t && vT J && vA n) = false → ∀ wl', Lay C₀ wl' → Kin wl.heap.size wl wl' → Can Try.prog C₀ b' o' Post 0 (AloneB Bd) wl' (G (b₀.at (a₀.put ((ops₀[i₀]?).bind (·.dst)) (.tuple #[.slice none 0 0, .bool false])) (.inRegion ops₀ rest₀ :: k₀)) cs))
    (kgood : (vK l f t && vT J && vA n) = true → ∀ z4 z5 z8 z9 za zb zc zd ze zf zg zh zi zj zk zl zm zn zo zp zq zr zs wl', Lay C₀ wl' → Kin wl.heap.size wl wl' → Reads wl' wl.heap.size [.string ⟨l.toArray⟩, .int .i64 f, .int .i64 t] → wl.heap.size + 1 ≤ wl'.heap.size → Can Try.prog C₀ b' o' Post 0 (AloneB Bd) wl' (G ((base 14).at ⟨#[.agg #[.string ⟨l.toArray⟩, .int .i64 f, .int .i64 t], .slice ta J.length tc, .int .i64 n, .pointer (some ⟨wl.heap.size, 0, none⟩), z4, z5, .slice none 0 0, .bool false, z8, z9, za, zb, zc, zd, ze, zf, zg, zh, zi, zj, zk, zl, zm, zn, zo, zp, zq, zr, zs], []⟩ [.code (.seq (headC 2 body14) .ret)]) (b₀.at a₀ (.inRegion ops₀ (i₀ :: rest₀) :: k₀) :: cs))) :
    Can Try.prog C₀ b' o' Post 0 (AloneB Bd) wl (G ((base 14).at ⟨#[.agg #[.string ⟨l.toArray⟩, .int .i64 f, .int .i64 t], .slice ta J.length tc, .int .i64 n] ++ Array.replicate 26 undef, []⟩ [.code body14]) (b₀.at a₀ (.inRegion ops₀ (i₀ :: rest₀) :: k₀) :: cs)) := by
  have hS := steady_aloneB Bd
  have ea : (#[.agg #[.string ⟨l.toArray⟩, .int .i64 f, .int .i64 t], .slice ta J.length tc, .int .i64 n] ++ Array.replicate 26 undef : Array Value) = #[.agg #[.string ⟨l.toArray⟩, .int .i64 f, .int .i64 t], .slice ta J.length tc, .int .i64 n, undef, undef, undef, undef, undef, undef, undef, undef, undef, undef, undef, undef, undef, undef, undef, undef, undef, undef, undef, undef, undef, undef, undef, undef, undef, undef] := by kernel_rfl
  rw [ea, body14_eq]
  refine Can.ctl hS hL rfl (fun _ => stepG_seq) ?_
  refine Can.code' hp hS hL (okFr_at (by kernel_rfl) rfl rfl ⟨_, Try.func14⟩) ?_
  intro T d W hW B hB
  simp only [headC, tailC, bodyC, body14, Try.f14, Option.getD_some]
  go_wp2
  have hB := hB.out
  subst hB
  intro hc
  have hW := hW.out
  subst hW
  obtain ⟨w₁, hw₁⟩ : ∃ w, w = (wl.re T d).alloc (.cells #[.string ⟨l.toArray⟩, .int .i64 f, .int .i64 t] 24) := ⟨_, rfl⟩
  rw [← hw₁] at hc ⊢
  have hsz : (wl.re T d).heap.size = wl.heap.size := rfl
  have z₁ : w₁.heap.size = wl.heap.size + 1 := by rw [hw₁, World.size_alloc, hsz]
  have r₁ : Reads w₁ wl.heap.size [.string ⟨l.toArray⟩, .int .i64 f, .int .i64 t] := reads_block (t := 24) (by rw [hw₁, ← hsz]; exact alloc_self (wl.re T d) _)
  have G₁ : Kin wl.heap.size wl w₁ := by rw [hw₁]; exact (((Grown.refl wl).re T d).alloc _).kin (Nat.le_refl _)
  simp only [hsz]
  clear hw₁ hsz
  have hL₁ : Lay C₀ w₁ := ⟨hc, hL.no⟩
  have hR₁ : RowsAt w₁ ta J := hR.kept G₁.cells G₁.size
  replace z₁ : Hid _ := ⟨z₁⟩
  clear hc
  refine Can.ctl hS hL₁ rfl (fun _ => stepG_seq) ?_
  refine Can.ctl hS hL₁ rfl (fun _ => stepG_seq) ?_
  have mid : Hid (∀ b : Bool, b = (vK l f t && vT J && vA n) → ∀ z4 z5 z8 z9 za zb zc zd ze zf zg zh zi zj zk zl zm zo zp zq zr zs w', Kin w₁.heap.size w₁ w' → Lay C₀ w' → Can Try.prog C₀ b' o' Post 0 (AloneB Bd) w' (G ((base 14).at ⟨#[.agg #[.string ⟨l.toArray⟩, .int .i64 f, .int .i64 t], .slice ta J.length tc, .int .i64 n, .pointer (some ⟨wl.heap.size, 0, none⟩), z4, z5, .slice none 0 0, .bool false, z8, z9, za, zb, zc, zd, ze, zf, zg, zh, zi, zj, zk, zl, zm, .bool (!b), zo, zp, zq, zr, zs], []⟩ [.code (.cond (.tmp 23) bad14 .skip), .code (.seq (headC 2 body14) .ret)]) (b₀.at a₀ (.inRegion ops₀ (i₀ :: rest₀) :: k₀) :: cs))) := by
    refine ⟨?_⟩
    intro b hb z4 z5 z8 z9 za zb zc zd ze zf zg zh zi zj zk zl zm zo zp zq zr zs w' hbw hL₂
    have zz := z₁.out
    have G₂ : Kin wl.heap.size wl w' := G₁.trans (hbw.le (by omega))
    have r₂ := r₁.kin hbw (by omega)
    have z₂ := hbw.size
    replace zz : Hid _ := ⟨zz⟩
    cases b with
    | false =>
      replace hb : Hid _ := ⟨hb⟩
      refine Can.ctl hS hL₂ rfl (fun _ => stepG_cond (t := true) rfl) ?_; simp only [if_true, if_false, Bool.false_eq_true, ↓reduceIte]
      refine Can.code' hp hS hL₂ (okFr_at (by kernel_rfl) rfl rfl ⟨_, Try.func14⟩) ?_
      intro T d W hW B hB
      simp only [headC, tailC, bodyC, bad14, body14, Try.f14, Option.getD_some]
      go_wp2
      have hB := hB.out
      subst hB
      intro hc todo
      have hW := hW.out
      subst hW
      refine Can.re ?_ T d
      clear hc
      exact leave14 (todo := todo) hS hL₂ (kbad hb.out.symm _ hL₂ G₂)
    | true =>
      refine Can.ctl hS hL₂ rfl (fun _ => stepG_cond (t := false) rfl) ?_; simp only [if_true, if_false, Bool.false_eq_true, ↓reduceIte]
      refine Can.ctl hS hL₂ rfl (fun _ => stepG_skip) ?_
      exact kgood hb.symm _ _ _ _ _ _ _ _ _ _ _ _ _ _ _ _ _ _ _ _ _ _ _ w' hL₂ G₂ r₂ (by have := zz.out; omega)
  have go : ∀ b : Bool, b = (vK l f t && vT J && vA n) → ∀ T d W, Eqd W (w₁.re T d) → ∀ B, Eqd B (Behind Try.prog C₀ b' o' Post 0 (AloneB Bd) (base 14) [.code (.cond (.tmp 23) bad14 .skip), .code (.seq (headC 2 body14) .ret)] (b₀.at a₀ (.inRegion ops₀ (i₀ :: rest₀) :: k₀) :: cs)) → (headC 0 (headC 1 body14)).wp Try.prog B ⟨#[.agg #[.string ⟨l.toArray⟩, .int .i64 f, .int .i64 t], .slice ta J.length tc, .int .i64 n, .pointer (some ⟨wl.heap.size, 0, none⟩), undef, undef, .slice none 0 0, .bool false, undef, undef, undef, undef, undef, undef, undef, undef, undef, undef, undef, undef, undef, undef, undef, undef, undef, undef, undef, undef, undef], []⟩ W := by
    intro b hb T d W hW B hB
    have fin : Hid (∀ z4 z5 z8 z9 za zb zc zd ze zf zg zh zi zj zk zl zm zo zp zq zr zs w', Below W.heap.size W w' → B .normal ⟨#[.agg #[.string ⟨l.toArray⟩, .int .i64 f, .int .i64 t], .slice ta J.length tc, .int .i64 n, .pointer (some ⟨wl.heap.size, 0, none⟩), z4, z5, .slice none 0 0, .bool false, z8, z9, za, zb, zc, zd, ze, zf, zg, zh, zi, zj, zk, zl, zm, .bool (!b), zo, zp, zq, zr, zs], []⟩ w') := by
      refine ⟨?_⟩
      intro z4 z5 z8 z9 za zb zc zd ze zf zg zh zi zj zk zl zm zo zp zq zr zs w' hbw
      have hB := hB.out
      subst hB
      intro hc
      have hW := hW.out
      subst hW
      exact mid.out b hb z4 z5 z8 z9 za zb zc zd ze zf zg zh zi zj zk zl zm zo zp zq zr zs w' (bwre hbw) ⟨hc, hL.no⟩
    have c25 : Hid (∀ w, Calls Try.prog 25 #[.agg #[.string ⟨l.toArray⟩, .int .i64 f, .int .i64 t]] w fun e w' => e = .returned (.bool (vK l f t)) ∧ Below w.heap.size w w') := ⟨fun w => keeperValid_any l f t w⟩
    have c35 : Hid (∀ w', Below W.heap.size W w' → Calls Try.prog 35 #[.slice ta J.length tc] w' fun e w'' => e = .returned (.bool (vT J)) ∧ w' = w'') := ⟨fun w' hb => tasksValid_any ta tc J w' hn hm ((show RowsAt W ta J by rw [hW.out]; exact hR₁).below hb (Nat.le_refl _))⟩
    have g0 : W.cell? ⟨wl.heap.size, 0, none⟩ = some (.string ⟨l.toArray⟩) := by rw [hW.out]; exact (r₁ 0 (by simp)).1
    have g1 : W.cell? ⟨wl.heap.size, 1, none⟩ = some (.int .i64 f) := by rw [hW.out]; exact (r₁ 1 (by simp)).1
    have g2 : W.cell? ⟨wl.heap.size, 2, none⟩ = some (.int .i64 t) := by rw [hW.out]; exact (r₁ 2 (by simp)).1
    clear r₁ G₁ hR₁ mid kbad kgood hR hB hW z₁ hm
    replace hn : Hid _ := ⟨hn⟩
    simp only [headC, tailC, bodyC, body14, Try.f14, Option.getD_some]
    cases hk : vK l f t with
    | false =>
      rw [hk] at c25 hb
      obtain rfl : b = false := by simpa using hb
      clear hk hb
      go_wp2_with (go_at_call 25; (with_reducible refine (c25.out _).mono ?_); rintro e w' ⟨rfl, hbw⟩)
      exact fin.out _ _ _ _ _ _ _ _ _ _ _ _ _ _ _ _ _ _ _ _ _ _ _ hbw
    | true =>
      rw [hk] at c25 hb
      cases hv : vT J with
      | false =>
        rw [hv] at c35 hb
        obtain rfl : b = false := by simpa using hb
        clear hk hb hv
        go_wp2_with (go_at_call 25; (with_reducible refine (c25.out _).mono ?_); rintro e w' ⟨rfl, hbw⟩)
        refine (c35.out _ hbw).mono ?_
        rintro e w' ⟨rfl, rfl⟩
        go_wp2
        exact fin.out _ _ _ _ _ _ _ _ _ _ _ _ _ _ _ _ _ _ _ _ _ _ _ hbw
      | true =>
        rw [hv] at c35 hb
        clear hk hv
        by_cases h0 : n < 0
        · obtain rfl : b = false := by rw [hb]; simp [vA]; omega
          clear hb
          go_wp2_with (go_at_call 25; (with_reducible refine (c25.out _).mono ?_); rintro e w' ⟨rfl, hbw⟩)
          refine (c35.out _ hbw).mono ?_
          rintro e w' ⟨rfl, rfl⟩
          go_wp2
          exact fin.out _ _ _ _ _ _ _ _ _ _ _ _ _ _ _ _ _ _ _ _ _ _ _ hbw
        by_cases h1 : 20 < n
        · obtain rfl : b = false := by rw [hb]; simp [vA]; omega
          clear hb
          go_wp2_with (go_at_call 25; (with_reducible refine (c25.out _).mono ?_); rintro e w' ⟨rfl, hbw⟩)
          refine (c35.out _ hbw).mono ?_
          rintro e w' ⟨rfl, rfl⟩
          go_wp2
          exact fin.out _ _ _ _ _ _ _ _ _ _ _ _ _ _ _ _ _ _ _ _ _ _ _ hbw
        · obtain rfl : b = true := by rw [hb]; simp [vA]; omega
          clear hb
          have d0 : decide (n < 0) = false := by simp; omega
          have d1 : decide (20 < n) = false := by simp; omega
          go_wp2_with (go_at_call 25; (with_reducible refine (c25.out _).mono ?_); rintro e w' ⟨rfl, hbw⟩)
          refine (c35.out _ hbw).mono ?_
          rintro e w' ⟨rfl, rfl⟩
          go_wp2
          exact fin.out _ _ _ _ _ _ _ _ _ _ _ _ _ _ _ _ _ _ _ _ _ _ _ hbw
  exact Can.code' hp hS hL₁ (okFr_at (by kernel_rfl) rfl rfl ⟨_, Try.func14⟩) (go _ rfl)
set_option maxRecDepth 100000 in
set_option maxHeartbeats 1000000 in
theorem sumsAfter (hp : OkProg Try.prog okT) (hn : J.length ≤ 1048576) (hm : ∀ l ∈ J, l.length ≤ 1048576) (hBd : Bd < 2000000000) (hL : Lay C₀ wl) (hR : RowsAt wl ta J)
    (hbad : (vK l f t && vT J && vA n) = false → ∀ wl', Lay C₀ wl' → Kin wl.heap.size wl wl' → Can Try.prog C₀ b' o' Post 0 (AloneB Bd) wl' (G (b₀.at (a₀.put ((ops₀[i₀]?).bind (·.dst)) (.tuple #[.slice none 0 0, .bool false])) (.inRegion ops₀ rest₀ :: k₀)) cs))
    (hgood : ∀ κ : Kr, l = κ.rule.text.data.toList → f = (κ.bear : Nat) → t = (κ.win : Nat) → κ.bear ≤ 20 → 0 < κ.win → κ.win ≤ 20 → vT J = true → ∀ tn : Nat, n = (tn : Nat) → tn ≤ 20 → ∀ C' b₁ sa st wl', Lay C' wl' → Kin wl.heap.size wl wl' → wl.heap.size ≤ sa → wl.heap.size ≤ st → sa ≠ st → (∀ i, i < J.length → wl'.cell? ⟨sa, i, none⟩ = some (.int .i64 ((runT κ J (tn) 0 St.zero).1.sum i)) ∧ wl'.frozen? ⟨sa, i, none⟩ = false) →
      Can Try.prog C' b₁ 5 Post 0 (AloneB (Bd + 400)) wl' (G (b₀.at (a₀.put ((ops₀[i₀]?).bind (·.dst)) (.tuple #[.slice (some ⟨sa, 0, none⟩) J.length J.length, .bool true])) (.inRegion ops₀ rest₀ :: k₀)) cs)) :
    Can Try.prog C₀ b' o' Post 0 (AloneB Bd) wl (G ((base 14).at ⟨#[.agg #[.string ⟨l.toArray⟩, .int .i64 f, .int .i64 t], .slice ta J.length tc, .int .i64 n] ++ Array.replicate 26 undef, []⟩ [.code body14]) (b₀.at a₀ (.inRegion ops₀ (i₀ :: rest₀) :: k₀) :: cs)) := by
  refine sa_first hp hn hm hBd hL hR hbad ?_
  intro hall z4 z5 z8 z9 za zb zc zd ze zf zg zh zi zj zk zl zm zn zo zp zq zr zs w₂ hL₂ G₂ r₂ z₂
  simp only [Bool.and_eq_true] at hall
  obtain ⟨⟨hk, hv⟩, ha⟩ := hall
  obtain ⟨κ, rfl, rfl, rfl, k1, k2, k3⟩ := vK_spec hk
  obtain ⟨v1, v2, v3, v4⟩ := vT_spec hv
  obtain ⟨tn, rfl, htn⟩ : ∃ tn : Nat, n = (tn : Nat) ∧ tn ≤ 20 := by
    simp only [vA, Bool.and_eq_true, decide_eq_true_eq] at ha
    exact ⟨n.toNat, by omega, by omega⟩
  have hS := steady_aloneB Bd
  simp only [text_list] at r₂ ⊢
  refine Can.ctl hS hL₂ rfl (fun _ => stepG_seq) ?_
  generalize hK : [Item.code .ret] = K₁
  simp only [headC, tailC, bodyC, body14, Try.f14, Option.getD_some]
  refine Can.ctl hS hL₂ rfl (fun _ => stepG_region) ?_; simp only [List.size_toArray, List.length_cons, List.length_nil, Nat.reduceAdd, Nat.zero_add, List.range, List.range.loop]
  refine Can.op (ok := okT) hS hL₂ rfl rfl (by k_ne) (by kernel_rfl) (fun T d => ⟨.agg #[.string κ.rule.text, .int .i64 (κ.bear : Nat), .int .i64 (κ.win : Nat)], w₂.re T d, ?_, fun _ => Can.re ?_ T d⟩)
  · have g0 : (w₂.re T d).cell? ⟨wl.heap.size, 0, none⟩ = some (.string κ.rule.text) := (r₂ 0 (by simp)).1
    have g1 : (w₂.re T d).cell? ⟨wl.heap.size, 1, none⟩ = some (.int .i64 (κ.bear : Nat)) := (r₂ 1 (by simp)).1
    have g2 : (w₂.re T d).cell? ⟨wl.heap.size, 2, none⟩ = some (.int .i64 (κ.win : Nat)) := (r₂ 2 (by simp)).1
    go_simp
  walk_nrm
  refine Can.op (ok := okT) hS hL₂ rfl rfl (by k_ne) (by kernel_rfl) (fun T d => ⟨.slice ta J.length tc, w₂.re T d, ?_, fun _ => Can.re ?_ T d⟩)
  · go_simp
  walk_nrm
  refine Can.op (ok := okT) hS hL₂ rfl rfl (by k_ne) (by kernel_rfl) (fun T d => ⟨.int .i64 (tn : Nat), w₂.re T d, ?_, fun _ => Can.re ?_ T d⟩)
  · go_simp
  walk_nrm
  refine Can.ctl hS hL₂ rfl (fun _ => st_keep (p := .agg #[.string κ.rule.text, .int .i64 (κ.bear : Nat), .int .i64 (κ.win : Nat)]) (q := .slice ta J.length tc) (r := .int .i64 (tn : Nat)) Try.func36 rfl rfl (by k_ne) rfl (by kernel_rfl)) ?_
  refine keepAll hp v2 v1 v3 k2 k3 k1 htn hBd hL₂ (hR.kept G₂.cells G₂.size) ?_
  intro C' b₁ sa st wl' hL' kin h1 h2 h3 hsum hst
  walk_nrm
  have hS' := steady_aloneB (Bd + 400)
  have := G₂.size
  refine Can.op (ok := okT) hS' hL' rfl rfl (by k_ne) (by kernel_rfl) (fun T d => ⟨.slice (some ⟨sa, 0, none⟩) J.length J.length, wl'.re T d, ?_, fun _ => Can.re ?_ T d⟩)
  · have hfd := run_field30
    go_simp
  walk_nrm
  refine Can.op (ok := okT) hS' hL' rfl rfl (by k_ne) (by kernel_rfl) (fun T d => ⟨.slice (some ⟨sa, 0, none⟩) J.length J.length, wl'.re T d, ?_, fun _ => Can.re ?_ T d⟩)
  · go_simp
  walk_nrm
  refine Can.op (ok := okT) hS' hL' rfl rfl (by k_ne) (by kernel_rfl) (fun T d => ⟨.bool true, wl'.re T d, ?_, fun _ => Can.re ?_ T d⟩)
  · go_simp
  walk_nrm
  refine Can.ctl hS' hL' rfl (fun _ => stepG_region_end) ?_
  subst hK
  refine Can.ctl hS' hL' rfl (fun _ => st_ret) ?_
  exact leave14 hS' hL' (hgood κ rfl rfl rfl k1 k2 k3 hv tn rfl htn C' b₁ sa st wl' hL' (G₂.trans (kin.le (by omega))) (by omega) (by omega) h3 hsum)
end
end Go.Town.Kp
namespace Go.Town.Kp
open Go Go.Conc Go.Conc.Lib Go.ConcR.Gen Go.RowKit Go.Town Go.Proofs
open Go.ConcN (upd upd_ne upd_same)
def cntF (F : List Nat) (t : Nat) : Int := (F.count t : Nat)
def recent (F : List Nat) (tick win : Nat) : Nat := F.countP fun f => decide (tick < f + win)
theorem sumR_congr {f g : Nat → Int} (h : ∀ t, f t = g t) (a : Nat) : ∀ m, sumR f a m = sumR g a m
  | 0 => rfl
  | m + 1 => by simp only [sumR, sumR_congr h a m, h]
theorem sumR_zero (a : Nat) : ∀ m, sumR (fun _ => 0) a m = 0
  | 0 => rfl
  | m + 1 => by simp only [sumR, sumR_zero a m]; rfl
theorem sumR_add (f g : Nat → Int) (a : Nat) : ∀ m, sumR (fun t => f t + g t) a m = sumR f a m + sumR g a m
  | 0 => rfl
  | m + 1 => by simp only [sumR, sumR_add f g a m]; omega
theorem sumR_one (x a : Nat) : ∀ m, sumR (fun t => if x = t then 1 else 0) a m = if a ≤ x ∧ x < a + m then 1 else 0
  | 0 => by simp only [sumR]; rw [if_neg (by omega)]
  | m + 1 => by
    simp only [sumR, sumR_one x a m]
    by_cases h : x = a + m
    · rw [if_neg (by omega), if_pos h, if_pos (by omega)]; rfl
    · rw [if_neg h]
      by_cases h2 : a ≤ x ∧ x < a + m
      · rw [if_pos h2, if_pos (by omega)]; rfl
      · rw [if_neg h2, if_neg (by omega)]; rfl
theorem recent_fin {tick win : Nat} (hw : 0 < win) : ∀ (F : List Nat), (∀ f ∈ F, f ≤ tick) → (recent F tick win : Int) = fin (cntF F) tick win
  | [], _ => by
    unfold fin
    rw [sumR_congr (g := fun _ => 0) (fun t => by simp [cntF]), sumR_zero]
    rfl
  | x :: F, h => by
    have ih := recent_fin hw F (fun f hf => h f (by simp [hf]))
    have hx := h x (by simp)
    have e : ∀ t, cntF (x :: F) t = cntF F t + (if x = t then 1 else 0) := fun t => by
      unfold cntF
      rw [List.count_cons]
      by_cases e : x = t
      · subst e; simp
      · have e2 : (x == t) = false := by simp [e]
        simp [e, e2]
    unfold fin at ih ⊢
    rw [sumR_congr e, sumR_add, sumR_one, ← ih]
    unfold recent
    rw [List.countP_cons]
    by_cases h2 : tick < x + win
    · rw [if_pos (by simpa using h2), if_pos (by omega)]; simp
    · rw [if_neg (by simpa using h2), if_neg (by omega)]; simp
theorem cntF_append (F : List Nat) (x : Nat) : cntF (F ++ [x]) = upd (cntF F) x (cntF F x + 1) := by
  funext t
  unfold cntF
  rw [List.count_append]
  by_cases e : t = x
  · subst e; rw [upd_same]; simp
  · rw [upd_ne _ _ e]
    have e2 : (x == t) = false := by simp [Ne.symm e]
    simp [List.count_cons, e2]
theorem recent_take (F : List Nat) (tick win k : Nat) (hk : k < F.length) : recent (F.take (k + 1)) tick win = recent (F.take k) tick win + if tick < F[k] + win then 1 else 0 := by
  unfold recent
  rw [List.take_succ_eq_append_getElem hk, List.countP_append]
  simp [List.countP_cons]
theorem recent_le (F : List Nat) (tick win : Nat) : recent F tick win ≤ F.length := List.countP_le_length ..
set_option maxRecDepth 100000 in
set_option maxHeartbeats 1000000 in
theorem l9Recent_any (a : Option Addr) (c : Nat) (F : List Nat) (tick win : Nat) (w : World) (hn : F.length ≤ 1048576) (ht : tick ≤ 1000) (hw : win ≤ 1000) (hF : ∀ f ∈ F, f ≤ 1000) (hA : IntsAt w a (F.map Int.ofNat)) :
    Calls Try.prog 66 #[.slice a F.length c, .int .i64 tick, .int .i64 win] w fun e w' => e = .returned (.int .i64 (recent F tick win : Nat)) ∧ w = w' := by
  go_enter Try.func66, Try.ntmps66
  go_wp2
  go_loop [7, 8] (fun r i => ∃ k : Nat, k ≤ F.length ∧ i = .int .i64 k ∧ r = .int .i64 (recent (F.take k) tick win : Nat)) (fun _ i => F.length - (intOf i).toNat)
  case atStart => exact ⟨0, Nat.zero_le _, rfl, rfl⟩
  case round =>
    obtain ⟨k, hk, rfl, rfl⟩ := hrel
    by_cases hlt : k < F.length
    · obtain ⟨b, off, rfl, hbs, hck⟩ := hA.at (i := k) (by simpa using hlt)
      replace hck : w.cell? ⟨b, off + k, none⟩ = some (.int .i64 (F[k] : Nat)) := by rw [hck]; simp
      have hlt' : (k : Int) < (F.length : Int) := by omega
      have hfk : F[k] ≤ 1000 := hF _ (List.getElem_mem hlt)
      have hs : Hid _ := ⟨recent_take F tick win k hlt⟩
      have hrl : recent (F.take k) tick win ≤ 1048576 := Nat.le_trans (recent_le _ _ _) (by rw [List.length_take]; omega)
      generalize recent (F.take k) tick win = r at *
      generalize F[k] = x at *
      by_cases hx : tick < x + win
      · have hx' : (tick : Int) - (win : Int) < (x : Int) := by omega
        rw [if_pos hx] at hs
        go_wp2
        go_round
        case rel => exact ⟨k + 1, by omega, by go_num, by rw [hs.out]; go_num⟩
        case measure => simp [intOf]; omega
      · have hx' : ¬ (tick : Int) - (win : Int) < (x : Int) := by omega
        rw [if_neg hx] at hs
        go_wp2
        go_round
        case rel => exact ⟨k + 1, by omega, by go_num, by rw [hs.out]; rfl⟩
        case measure => simp [intOf]; omega
    · obtain rfl : k = F.length := by omega
      have hs : Hid (recent (F.take F.length) tick win = recent F tick win) := ⟨by rw [List.take_length]⟩
      go_wp2
      go_ret
      exact ⟨by rw [← hs.out]; rfl, rfl⟩
set_option maxRecDepth 100000 in
set_option maxHeartbeats 1000000 in
theorem l9Restarted_any (r : Rule) (f v : Nat) (w : World) : Calls Try.prog 67 #[.string r.text, .int .i64 f, .int .i64 v] w fun e w' => e = .returned (.bool (hits r f v)) ∧ w = w' := by
  cases r <;> simp only [Rule.text, hits]
  · go_enter Try.func67, Try.ntmps67
    go_wp2
    go_ret
    exact ⟨ret_bool (by rw [Bool.eq_iff_iff]; simp; omega), rfl⟩
  · go_enter Try.func67, Try.ntmps67
    go_wp2
    go_ret
    exact ⟨rfl, rfl⟩
  · go_enter Try.func67, Try.ntmps67
    go_wp2
    go_ret
    exact ⟨rfl, rfl⟩
end Go.Town.Kp
namespace Go.Town.Kp
open Go Go.Conc Go.Conc.Lib Go.ConcR.Gen Go.RowKit Go.Town Go.Proofs
open Go.ConcN (upd upd_ne upd_same)
def NumsAt (w : World) (x : Nat) (f : Nat → Int) (n : Nat) : Prop := ∀ i, i < n → w.cell? ⟨x, i, none⟩ = some (.int .i64 (f i)) ∧ w.frozen? ⟨x, i, none⟩ = false
theorem NumsAt.alloc {w : World} {x n : Nat} {f : Nat → Int} (h : NumsAt w x f n) (o : Obj) : NumsAt (w.alloc o) x f n := fun i hi => ⟨cell_alloc (h i hi).1, (frozen_alloc (h i hi).1).trans (h i hi).2⟩
theorem NumsAt.drewN {w : World} {x n : Nat} {f : Nat → Int} (h : NumsAt w x f n) (k : Nat) : NumsAt (w.drewN k) x f n := h
theorem NumsAt.drew {w : World} {x n : Nat} {f : Nat → Int} (h : NumsAt w x f n) : NumsAt w.drew x f n := h
theorem NumsAt.set {w : World} {x n : Nat} {f : Nat → Int} (h : NumsAt w x f n) (i : Nat) (v : Int) : NumsAt (w.setCell ⟨x, i, none⟩ (.int .i64 v)) x (upd f i v) n := fun j hj => by
  refine ⟨?_, (frozen_setCell _ _ _ _).trans (h j hj).2⟩
  by_cases e : j = i
  · subst e; rw [upd_same]; exact cell_setCell_eq _ (h j hj).1
  · rw [upd_ne _ _ e]; exact (cell_setCell_ne w _ (.inr (Ne.symm e))).trans (h j hj).1
theorem NumsAt.other {w : World} {x n y j : Nat} {f : Nat → Int} (h : NumsAt w x f n) (v : Value) (hy : y ≠ x) : NumsAt (w.setCell ⟨y, j, none⟩ v) x f n := fun i hi => ⟨(cell_setCell_ne w _ (.inl hy)).trans (h i hi).1, (frozen_setCell _ _ _ _).trans (h i hi).2⟩
theorem NumsAt.grown {w w' : World} {x n : Nat} {f : Nat → Int} {row : Option Nat} (h : NumsAt w x f n) (hg : w.grownBy w' row) (hr : row ≠ some x) : NumsAt w' x f n := fun i hi => by
  have hlt : x < w.heap.size := block_lt (h i hi).1
  have hb := hg.block x hlt (fun e => hr e.symm)
  exact ⟨(World.cell?_of_block hb).trans (h i hi).1, (World.frozen?_of_block hb).trans (h i hi).2⟩
def ROOM (κ : Kr) (sa st n : Nat) (fv : Value) (e : ByteArray) : Value := .agg #[.string κ.rule.text, .int .i64 (κ.bear : Nat), .int .i64 (κ.win : Nat), .slice (some ⟨sa, 0, none⟩) n n, .slice (some ⟨st, 0, none⟩) n n, fv, .string e]
set_option maxRecDepth 100000 in
set_option maxHeartbeats 2000000 in
theorem task_more {κ : Kr} {sa st n i tick c : Nat} {fa : Option Addr} {fl fc : Nat} {v : Int} {s : St} {w : World} (hv0 : 0 < v) (hv1 : v ≤ 1000) (hi : i < n) (hn : n ≤ 4) (hc : c ≤ 1000) (hs : Small c s) (hS : NumsAt w sa s.sum n) :
    Calls Try.prog 52 #[.agg #[.string κ.rule.text, .int .i64 (κ.bear : Nat), .int .i64 (κ.win : Nat), .slice (some ⟨sa, 0, none⟩) n n, .slice (some ⟨st, 0, none⟩) n n, .slice fa fl fc, .string ⟨#[]⟩], .int .i64 i, .int .i64 v, .int .i64 tick] w fun e w' => e = .returned (ROOM κ sa st n (.slice fa fl fc) ⟨#[]⟩) ∧ (∃ o1 o2 k, w' = (((w.setCell ⟨sa, i, none⟩ (.int .i64 (s.sum i + v))).alloc o1).alloc o2).drewN k) := by
  have h1 : ∀ o1 o2, ((w.alloc o1).alloc o2).cell? ⟨sa, i, none⟩ = some (.int .i64 (s.sum i)) := fun o1 o2 => (((hS.alloc o1).alloc o2) i hi).1
  have h2 : ∀ o1 o2, ((w.alloc o1).alloc o2).frozen? ⟨sa, i, none⟩ = false := fun o1 o2 => (((hS.alloc o1).alloc o2) i hi).2
  have hlt : sa < w.heap.size := block_lt (hS i hi).1
  have hb := hs.sum i
  have hb2 : 0 ≤ s.sum i + v ∧ s.sum i + v ≤ 10000000 := by omega
  have hw2 : Hid (IntKind.i64.wrap (s.sum i + v) = s.sum i + v) := ⟨wrap_small hb2.1 (by omega)⟩
  clear hS hs hb
  generalize s.sum i = x at *
  go_enter Try.func52, Try.ntmps52
  go_wp2
  have hw2 := hw2.out
  go_region
  go_wp2
  exact bodyPost_ret (v := ROOM κ sa st n (.slice fa fl fc) ⟨#[]⟩) (by simp [results, Try.results52, go_sem, ROOM]) rfl ⟨rfl, _, _, 1, rfl⟩
end Go.Town.Kp
namespace Go.Town.Kp
open Go Go.Conc Go.Conc.Lib Go.ConcR.Gen Go.RowKit Go.Town Go.Proofs
open Go.ConcN (upd upd_ne upd_same)
def nums (F : List Nat) : List Value := F.map fun f => Value.int .i64 (f : Nat)
def endS (over : Bool) : ByteArray := if over then ⟨#[103, 105, 118, 101, 110, 32, 117, 112]⟩ else ⟨#[]⟩
structure Only (sa st : Nat) (w w' : World) : Prop where
  os : w'.os = w.os
  tape : w'.tape = w.tape
  output : w'.output = w.output
  size : w'.heap.size = w.heap.size
  block : ∀ r : Nat, r ≠ sa → r ≠ st → w'.heap[r]? = w.heap[r]?
theorem Only.refl (sa st : Nat) (w : World) : Only sa st w w := ⟨rfl, rfl, rfl, rfl, fun _ _ _ => rfl⟩
theorem Only.trans {sa st : Nat} {w w' w'' : World} (h : Only sa st w w') (k : Only sa st w' w'') : Only sa st w w'' := ⟨k.os.trans h.os, k.tape.trans h.tape, k.output.trans h.output, k.size.trans h.size, fun r h1 h2 => (k.block r h1 h2).trans (h.block r h1 h2)⟩
theorem Only.set {sa st : Nat} {w w' : World} (h : Only sa st w w') {x j : Nat} (v : Value) (hx : x = sa ∨ x = st) : Only sa st w (w'.setCell ⟨x, j, none⟩ v) :=
  h.trans ⟨rfl, rfl, rfl, by simp [World.setCell], fun r h1 h2 => Below.heap_setCell _ _ _ r (by rintro rfl; rcases hx with q | q; exact h1 q; exact h2 q)⟩
theorem Only.drew {sa st : Nat} {w w' : World} (h : Only sa st w w') : Only sa st w w'.drew := ⟨h.os, h.tape, h.output, h.size, h.block⟩
theorem Only.cell {sa st : Nat} {w w' : World} (h : Only sa st w w') {x j : Nat} (h1 : x ≠ sa) (h2 : x ≠ st) : w'.cell? ⟨x, j, none⟩ = w.cell? ⟨x, j, none⟩ ∧ w'.frozen? ⟨x, j, none⟩ = w.frozen? ⟨x, j, none⟩ :=
  ⟨World.cell?_of_block (h.block x h1 h2), World.frozen?_of_block (h.block x h1 h2)⟩
theorem nums_miss {w : World} {x n k i : Nat} {r : Rule} {f g : Nat → Int} (h : NumsAt w x (fun l => if decide (l < k) && hits r i l then g l else f l) n) (hh : hits r i k = false) : NumsAt w x (fun l => if decide (l < k + 1) && hits r i l then g l else f l) n := fun j hj => by
  have := h j hj
  by_cases e : j = k
  · subst e; simpa [hh] using this
  · have e2 : decide (j < k + 1) = decide (j < k) := by simp only [decide_eq_decide]; omega
    simpa [e2] using this
theorem nums_hit {w : World} {x n k i : Nat} {r : Rule} {f g : Nat → Int} (h : NumsAt w x (fun l => if decide (l < k) && hits r i l then g l else f l) n) (hh : hits r i k = true) : NumsAt (w.setCell ⟨x, k, none⟩ (.int .i64 (g k))) x (fun l => if decide (l < k + 1) && hits r i l then g l else f l) n := fun j hj => by
  have := (h.set k (g k)) j hj
  by_cases e : j = k
  · subst e; rw [upd_same] at this; simpa [hh] using this
  · have e2 : decide (j < k + 1) = decide (j < k) := by simp only [decide_eq_decide]; omega
    rw [upd_ne _ _ e] at this
    simpa [e2] using this
noncomputable def body52 : Code := Try.f52.body.getD .skip
noncomputable def loop52 : Code := headC 4 body52
set_option maxRecDepth 100000 in
set_option maxHeartbeats 2000000 in
theorem task_loop {κ : Kr} {sa st n i c bx : Nat} {s : St} {w : World} {Q : Exit → Act → World → Prop}
    {z0 z2 z3 z5 z6 z7 z8 z9 za zb zc zd ze zf zg zh zi zj zk zl zm zn zo zp zq zr zs zt zu zv zw zx zy zz zA zB zC zD zE zF zG zH zI zJ zK zL zM zN zO zP zQ zR zS zT zU zV zW zX zY zZ Z0 Z1 Z2 Z3 Z4 Z5 Z6 Z7 Z8 : Value}
    (hn : n ≤ 4) (hc : c ≤ 1000) (hs : Small c s) (hS : NumsAt w sa s.sum n) (hT : NumsAt w st s.starts n) (hne : sa ≠ st) (hb1 : bx ≠ sa) (hb2 : bx ≠ st)
    (c0 : w.cell? ⟨bx, 0, none⟩ = some (.string κ.rule.text)) (c3 : w.cell? ⟨bx, 3, none⟩ = some (.slice (some ⟨sa, 0, none⟩) n n)) (c4 : w.cell? ⟨bx, 4, none⟩ = some (.slice (some ⟨st, 0, none⟩) n n))
    (h : ∀ z9 zH zI zJ zK zL zM zN zO zP zQ zR zS zT zU zV zW zX zY zZ Z0 Z1 Z2 Z3 Z4 Z5 Z6 Z7 w', Only sa st w w' → NumsAt w' sa (fun l => if again κ.rule n i l then 0 else s.sum l) n → NumsAt w' st (fun l => if again κ.rule n i l then s.starts l + 1 else s.starts l) n →
      Q .normal ⟨#[z0, .int .i64 (i : Nat), z2, z3, .pointer (some ⟨bx, 0, none⟩), z5, z6, z7, z8, z9, za, zb, zc, zd, ze, zf, zg, zh, zi, zj, zk, zl, zm, zn, zo, zp, zq, zr, zs, zt, zu, zv, zw, zx, zy, zz, zA, zB, zC, zD, zE, zF, zG, zH, zI, zJ, zK, zL, zM, zN, zO, zP, zQ, zR, zS, zT, zU, zV, zW, zX, zY, zZ, Z0, Z1, Z2, Z3, Z4, Z5, Z6, Z7, Z8], []⟩ w') :
    loop52.wp Try.prog Q ⟨#[z0, .int .i64 (i : Nat), z2, z3, .pointer (some ⟨bx, 0, none⟩), z5, z6, z7, z8, z9, za, zb, zc, zd, ze, zf, zg, zh, zi, zj, zk, zl, zm, zn, zo, zp, zq, zr, zs, zt, zu, zv, zw, zx, zy, zz, zA, zB, zC, zD, zE, zF, zG, zH, zI, zJ, zK, zL, zM, zN, zO, zP, zQ, zR, zS, zT, zU, zV, zW, zX, zY, zZ, Z0, Z1, Z2, Z3, Z4, Z5, Z6, Z7, Z8], []⟩ w := by
  simp only [loop52, headC, body52, Try.f52, Option.getD_some]
  replace h : Hid _ := ⟨h⟩
  have hS0 : Hid _ := ⟨hS⟩
  have hT0 : Hid _ := ⟨hT⟩
  have hle : Hid _ := ⟨hs⟩
  clear hS hT hs
  have hb1 : Hid _ := ⟨hb1⟩
  have hb2 : Hid _ := ⟨hb2⟩
  have hne' : Hid _ := ⟨hne⟩
  have p1 : Hid _ := ⟨c0⟩
  have p3 : Hid _ := ⟨c3⟩
  have p4 : Hid _ := ⟨c4⟩
  clear c0 c3 c4
  go_wp2
  go_loopw [9] (fun v wr => ∃ k : Nat, k ≤ n ∧ v = .int .i64 k ∧ Only sa st w wr ∧ NumsAt wr sa (fun l => if decide (l < k) && hits κ.rule i l then 0 else s.sum l) n ∧ NumsAt wr st (fun l => if decide (l < k) && hits κ.rule i l then s.starts l + 1 else s.starts l) n) (fun v _ => n - (intOf v).toNat)
  case atStart => exact ⟨0, Nat.zero_le _, rfl, Only.refl _ _ _, by simpa using hS0.out, by simpa using hT0.out⟩
  case round =>
    obtain ⟨k, hk, rfl, hO, hS, hT⟩ := hrel
    have d0 : wr.cell? ⟨bx, 0, none⟩ = some (.string κ.rule.text) := (hO.cell hb1.out hb2.out).1.trans p1.out
    have d3 : wr.cell? ⟨bx, 3, none⟩ = some (.slice (some ⟨sa, 0, none⟩) n n) := (hO.cell hb1.out hb2.out).1.trans p3.out
    have d4 : wr.cell? ⟨bx, 4, none⟩ = some (.slice (some ⟨st, 0, none⟩) n n) := (hO.cell hb1.out hb2.out).1.trans p4.out
    by_cases hlt : k < n
    · have hlt' : (k : Int) < (n : Int) := by omega
      have c67 : Hid (∀ (b : Bool), b = hits κ.rule i k → ∀ w, Calls Try.prog 67 #[.string κ.rule.text, .int .i64 (i : Nat), .int .i64 (k : Nat)] w fun e w' => e = .returned (.bool b) ∧ w = w') := ⟨fun b hb w => by rw [hb]; exact l9Restarted_any κ.rule i k w⟩
      cases hh : hits κ.rule i k with
      | false =>
        have c67' : Hid _ := ⟨c67.out false hh.symm⟩
        have hS' : Hid _ := ⟨nums_miss (g := fun _ => 0) hS hh⟩
        have hT' : Hid _ := ⟨nums_miss (g := fun l => s.starts l + 1) hT hh⟩
        clear c67 hh hS hT
        go_wp2_with (go_at_call 67; (with_reducible refine (c67'.out _).mono ?_); rintro e w' ⟨rfl, rfl⟩)
        go_roundw
        case rel => exact ⟨k + 1, by omega, by go_num, hO, hS'.out, hT'.out⟩
        case measure => simp [intOf]; omega
      | true =>
        have c67' : Hid _ := ⟨c67.out true hh.symm⟩
        have e1 := hS k hlt
        have e2 := hT k hlt
        simp only [Nat.lt_irrefl, decide_false, Bool.false_and, Bool.false_eq_true, if_false] at e1 e2
        obtain ⟨e1, f1⟩ := e1
        obtain ⟨e2, f2⟩ := e2
        have hS' : Hid _ := ⟨nums_hit (g := fun _ => 0) hS hh⟩
        have hT' : Hid (NumsAt ((wr.setCell ⟨sa, k, none⟩ (.int .i64 0)).setCell ⟨st, k, none⟩ (.int .i64 (s.starts k + 1))) st (fun l => if decide (l < k + 1) && hits κ.rule i l then s.starts l + 1 else s.starts l) n) := ⟨nums_hit (g := fun l => s.starts l + 1) (hT.other _ hne) hh⟩
        have hS2 : Hid (NumsAt ((wr.setCell ⟨sa, k, none⟩ (.int .i64 0)).setCell ⟨st, k, none⟩ (.int .i64 (s.starts k + 1))) sa (fun l => if decide (l < k + 1) && hits κ.rule i l then 0 else s.sum l) n) := ⟨hS'.out.other _ (Ne.symm hne)⟩
        have hO2 : Hid (Only sa st w ((wr.setCell ⟨sa, k, none⟩ (.int .i64 0)).setCell ⟨st, k, none⟩ (.int .i64 (s.starts k + 1)))) := ⟨(hO.set _ (.inl rfl)).set _ (.inr rfl)⟩
        have hst := hle.out.starts k
        have hst2 : 0 ≤ s.starts k + 1 ∧ s.starts k + 1 ≤ 100000 := by omega
        have hw2 : Hid (IntKind.i64.wrap (s.starts k + 1) = s.starts k + 1) := ⟨wrap_small hst2.1 (by omega)⟩
        have ne1 : Hid (st ≠ sa) := ⟨Ne.symm hne⟩
        have d3' : ∀ v, (wr.setCell ⟨sa, k, none⟩ v).cell? ⟨bx, 4, none⟩ = some (.slice (some ⟨st, 0, none⟩) n n) := fun v => (cell_setCell_ne _ _ (.inl (Ne.symm hb1.out))).trans d4
        have e2' : ∀ v, (wr.setCell ⟨sa, k, none⟩ v).cell? ⟨st, k, none⟩ = some (.int .i64 (s.starts k)) := fun v => (cell_setCell_ne _ _ (.inl hne)).trans e2
        have f2' : ∀ v, (wr.setCell ⟨sa, k, none⟩ v).frozen? ⟨st, k, none⟩ = false := fun v => (frozen_setCell _ _ _ _).trans f2
        clear c67 hh hS hT hne hS' hO
        go_wp2_with (go_at_call 67; (with_reducible refine (c67'.out _).mono ?_); rintro e w' ⟨rfl, rfl⟩)
        have hw2 := hw2.out
        go_region
        clear hw2
        go_wp2
        go_roundw
        case rel => exact ⟨k + 1, by omega, by go_num, hO2.out.drew, hS2.out.drew, hT'.out.drew⟩
        case measure => simp [intOf]; omega
    · obtain rfl : k = n := by omega
      go_wp2
      refine h.out _ _ _ _ _ _ _ _ _ _ _ _ _ _ _ _ _ _ _ _ _ _ _ _ _ _ _ _ wr hO ?_ ?_
      · exact hS
      · exact hT
end Go.Town.Kp
