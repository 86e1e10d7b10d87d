/-
  restart as a whole.
  What keepers do, told plainly; lists in memory; faultsIn.
-/
import Derived.ProofKit
import Derived.WalkLawsBesides
import Derived.Outline
import Derived.Deep.DeepFit
import Derived.OwnWalk
import Derived.WalkSmall
import Derived.Laws.Rows
import Derived.Test.YtihmcigoofhpmaaZaz
set_option linter.all false
namespace Go.Town.Kp
open Go Go.Conc Go.Conc.Lib Go.ConcR.Gen Go.RowKit Go.Town Go.Proofs
open Go.ConcN (upd upd_ne upd_same)
structure Re (r : Rule) (f n t : Nat) (slot slot' : Nat → Option Nat) (sum sum' starts starts' : Nat → Int) : Prop where
  hit : ∀ l, t ≤ l → l < n → hits r f l = true → (∃ x, slot' l = some x) ∧ sum' l = 0 ∧ starts' l = starts l + 1
  mis : ∀ l, ¬(t ≤ l ∧ l < n ∧ hits r f l = true) → slot' l = slot l ∧ sum' l = sum l ∧ starts' l = starts l
theorem Re.done (r : Rule) (f n : Nat) (slot : Nat → Option Nat) (sum starts : Nat → Int) : Re r f n n slot slot sum sum starts starts :=
  ⟨fun l h1 h2 _ => absurd h1 (by omega), fun _ _ => ⟨rfl, rfl, rfl⟩⟩
theorem Re.miss {r : Rule} {f n t : Nat} {slot slot' : Nat → Option Nat} {sum sum' starts starts' : Nat → Int} (h : Re r f n (t + 1) slot slot' sum sum' starts starts') (hm : hits r f t = false) : Re r f n t slot slot' sum sum' starts starts' :=
  ⟨fun l h1 h2 h3 => h.hit l (by rcases Nat.eq_or_lt_of_le h1 with rfl | h; rw [hm] at h3; cases h3; exact h) h2 h3, fun l h1 => h.mis l (fun ⟨a, b, c⟩ => h1 ⟨by omega, b, c⟩)⟩
theorem Re.step {r : Rule} {f n t u : Nat} {slot slot' : Nat → Option Nat} {sum sum' starts starts' : Nat → Int} (h : Re r f n (t + 1) (upd slot t (some u)) slot' (upd sum t 0) sum' (upd starts t (starts t + 1)) starts') (ht : t < n) (hm : hits r f t = true) : Re r f n t slot slot' sum sum' starts starts' := by
  refine ⟨fun l h1 h2 h3 => ?_, fun l h1 => ?_⟩
  · by_cases e : l = t
    · subst e
      obtain ⟨a, b, c⟩ := h.mis l (fun ⟨a, _⟩ => absurd a (by omega))
      rw [upd_same] at a b c
      exact ⟨⟨_, a⟩, b, c⟩
    · obtain ⟨a, b, c⟩ := h.hit l (by omega) h2 h3
      rw [upd_ne _ _ e] at c
      exact ⟨a, b, c⟩
  · have e : l ≠ t := by rintro rfl; exact h1 ⟨Nat.le_refl _, ht, hm⟩
    obtain ⟨a, b, c⟩ := h.mis l (fun ⟨a, b, c⟩ => h1 ⟨by omega, b, c⟩)
    rw [upd_ne _ _ e] at a b c
    exact ⟨a, b, c⟩
section
variable {A : At} {C : Cfg} {L : Nat → Ws} {Post : Value → World → Prop} {N k : Nat} {wl : World} {i : Nat} {cs : List Frame} {slot : Nat → Option Nat} {sum starts : Nat → Int} {b₀ : Frame} {a₀ : Act} {ops₀ : Array Oper} {i₀ : Nat} {rest₀ : List Nat} {k₀ : List Item}
set_option maxRecDepth 100000 in
set_option maxHeartbeats 400000 in
theorem restart_test {K : List Item} {r : Rule} {f : Nat} {z3 z4 z5 z6 z7 z8 z9 za zb zc zd ze zf zg zh zi zj zk zl zm zn zo zp zq zr zs zt zu zv zw zx zy zz zA zB zC zD zE zF zG zH zI : Value} (hp : OkProg Try.prog okT) (hL : Lay C wl) (b : Bool) (hb : hits r f i = b)
    (h : ∀ y14 y15 y16 y17 y18 y19 y20 y21 y22 y23 y24 y25 y26 y27 y28 y29, Can Try.prog C A.c 5 Post k (Crew A.c A.rp N L) wl (G ((base 55).at ⟨#[.pointer (some ⟨A.c, 0, none⟩), .string r.text, .int .i64 (f : Nat), z3, z4, z5, .int .i64 (i : Nat), z7, z8, z9, za, .int .i64 (A.n : Nat), .int .i64 (i : Nat), zb, y14, y15, y16, y17, y18, y19, y20, y21, y22, y23, y24, y25, y26, y27, y28, y29, .bool b, zt, zu, zv, zw, zx, zy, zz, zA, zB, zC, zD, zE, zF, zG, zH, zI], []⟩ (.code (.cond (.tmp 30) hit55 .skip) :: K)) cs)) :
    Can Try.prog C A.c 5 Post k (Crew A.c A.rp N L) wl (G ((base 55).at ⟨#[.pointer (some ⟨A.c, 0, none⟩), .string r.text, .int .i64 (f : Nat), z3, z4, z5, z6, z7, z8, z9, za, .int .i64 (A.n : Nat), .int .i64 (i : Nat), zb, zc, zd, ze, zf, zg, zh, zi, zj, zk, zl, zm, zn, zo, zp, zq, zr, zs, zt, zu, zv, zw, zx, zy, zz, zA, zB, zC, zD, zE, zF, zG, zH, zI], []⟩ (.code inner55 :: K)) cs) := by
  have hS := (crew_free A.c A.rp N L).steady
  rw [inner55_eq]
  refine Can.ctl hS hL rfl (fun _ => stepG_seq) ?_
  refine Can.code' hp hS hL (okFr_at (by kernel_rfl) rfl rfl ⟨_, Try.func55⟩) ?_
  intro T d W hW B hB
  simp only [headC, tailC, bodyC, inner55, loop55, body55, Try.f55, Option.getD_some]
  go_wp2
  have hB := hB.out
  subst hB
  intro hc
  have hW := hW.out
  subst hW
  refine Can.re ?_ T d
  clear hc
  refine Can.ctl hS hL rfl (fun _ => stepG_seq) ?_
  refine Can.code' hp hS hL (okFr_at (by kernel_rfl) rfl rfl ⟨_, Try.func55⟩) ?_
  intro T d W hW B hB
  simp only [headC, tailC, bodyC, inner55, loop55, body55, Try.f55, Option.getD_some]
  have fin : Hid (∀ y14 y15 y16 y17 y18 y19 y20 y21 y22 y23 y24 y25 y26 y27 y28 y29, B .normal ⟨#[.pointer (some ⟨A.c, 0, none⟩), .string r.text, .int .i64 (f : Nat), z3, z4, z5, .int .i64 (i : Nat), z7, z8, z9, za, .int .i64 (A.n : Nat), .int .i64 (i : Nat), zb, y14, y15, y16, y17, y18, y19, y20, y21, y22, y23, y24, y25, y26, y27, y28, y29, .bool b, zt, zu, zv, zw, zx, zy, zz, zA, zB, zC, zD, zE, zF, zG, zH, zI], []⟩ W) := by
    refine ⟨?_⟩
    intro y14 y15 y16 y17 y18 y19 y20 y21 y22 y23 y24 y25 y26 y27 y28 y29
    have hB := hB.out
    subst hB
    intro hc
    have hW := hW.out
    subst hW
    refine Can.re ?_ T d
    exact h y14 y15 y16 y17 y18 y19 y20 y21 y22 y23 y24 y25 y26 y27 y28 y29
  clear hB hW h
  rcases Nat.lt_trichotomy i f with hlt | rfl | hgt
  · have h1 : ((i : Int) == (f : Int)) = false := by simp; omega
    have h2 : decide (f < i) = false := by simp; omega
    cases r <;> simp only [Rule.text]
    · obtain rfl : b = false := by rw [← hb]; simp [hits]; omega
      clear hb
      go_wp2
      exact fin.out ..
    · obtain rfl : b = false := by rw [← hb]; simp [hits]; omega
      clear hb
      go_wp2
      exact fin.out ..
    · obtain rfl : b = true := by rw [← hb]; simp [hits]
      clear hb
      go_wp2
      exact fin.out ..
  · cases r <;> simp only [Rule.text]
    · obtain rfl : b = true := by rw [← hb]; simp [hits]
      clear hb
      go_wp2
      exact fin.out ..
    · obtain rfl : b = true := by rw [← hb]; simp [hits]
      clear hb
      go_wp2
      exact fin.out ..
    · obtain rfl : b = true := by rw [← hb]; simp [hits]
      clear hb
      go_wp2
      exact fin.out ..
  · have h1 : ((i : Int) == (f : Int)) = false := by simp; omega
    have h2 : decide (f < i) = true := by simp; omega
    cases r <;> simp only [Rule.text]
    · obtain rfl : b = false := by rw [← hb]; simp [hits]; omega
      clear hb
      go_wp2
      exact fin.out ..
    · obtain rfl : b = true := by rw [← hb]; simp [hits]; omega
      clear hb
      go_wp2
      exact fin.out ..
    · obtain rfl : b = true := by rw [← hb]; simp [hits]
      clear hb
      go_wp2
      exact fin.out ..
set_option maxRecDepth 100000 in
set_option maxHeartbeats 400000 in
theorem restart_loop {r : Rule} {f : Nat} (hp : OkProg Try.prog okT) : ∀ (m : Nat) {z3 z4 z5 z6 z7 z8 z9 za zb zc zd ze zf zg zh zi zj zk zl zm zn zo zp zq zr zs zt zu zv zw zx zy zz zA zB zC zD zE zF zG zH zI : Value} {C : Cfg} {L : Nat → Ws} {N : Nat} {wl : World} {i : Nat} {slot : Nat → Option Nat} {sum starts : Nat → Int}, A.n - i = m → i ≤ A.n → 0 < N → N + m < 2147483640 → (∀ j, N ≤ j → L j = .gone) → Kept A C L slot sum starts wl → (∀ l, i ≤ l → l < A.n → 0 ≤ starts l ∧ starts l ≤ 1000) →
    (∀ C' L' N' slot' sum' starts' wl', Kept A C' L' slot' sum' starts' wl' → Side A wl wl' → Re r f A.n i slot slot' sum sum' starts starts' → N ≤ N' → N' ≤ N + m → (∀ j, N' ≤ j → L' j = .gone) → Can Try.prog C' A.c 5 Post 0 (Crew A.c A.rp N' L') wl' (G (b₀.at (a₀.put ((ops₀[i₀]?).bind (·.dst)) (.tuple #[])) (.inRegion ops₀ rest₀ :: k₀)) cs)) →
    Can Try.prog C A.c 5 Post 0 (Crew A.c A.rp N L) wl (G ((base 55).at ⟨#[.pointer (some ⟨A.c, 0, none⟩), .string r.text, .int .i64 (f : Nat), z3, z4, z5, z6, z7, z8, z9, za, .int .i64 (A.n : Nat), .int .i64 (i : Nat), zb, zc, zd, ze, zf, zg, zh, zi, zj, zk, zl, zm, zn, zo, zp, zq, zr, zs, zt, zu, zv, zw, zx, zy, zz, zA, zB, zC, zD, zE, zF, zG, zH, zI], []⟩ [.code loop55, .inLoop loop55, .inBlock 0]) (b₀.at a₀ (.inRegion ops₀ (i₀ :: rest₀) :: k₀) :: cs)) := by
  intro m
  induction m with
  | zero =>
    intro z3 z4 z5 z6 z7 z8 z9 za zb zc zd ze zf zg zh zi zj zk zl zm zn zo zp zq zr zs zt zu zv zw zx zy zz zA zB zC zD zE zF zG zH zI C L N wl i slot sum starts hm hi hN hNb hg Kp hs h
    obtain rfl : i = A.n := by omega
    clear hm
    have hS := (crew_free A.c A.rp N L).steady
    have hL := Kp.lay
    rw [loop55_eq]
    refine Can.ctl hS hL rfl (fun _ => stepG_seq) ?_
    refine Can.code' hp hS hL (okFr_at (by kernel_rfl) rfl rfl ⟨_, Try.func55⟩) ?_
    intro T d W hW B hB
    simp only [headC, tailC, bodyC, loop55, body55, Try.f55, Option.getD_some]
    go_wp2
    have hB := hB.out
    subst hB
    intro hc
    have hW := hW.out
    subst hW
    refine Can.re ?_ T d
    clear hc
    refine Can.ctl hS hL rfl (fun _ => stepG_seq) ?_
    refine Can.ctl hS hL rfl (fun _ => stepG_cond (t := false) rfl) ?_; simp only [if_true, if_false, Bool.false_eq_true, ↓reduceIte]
    refine Can.ctl hS hL rfl (fun _ => stepG_exit rfl) ?_
    refine Can.ctl hS hL rfl (fun _ => stepG_end) ?_
    refine Can.ctl hS hL rfl (fun _ => st_leave0 rfl rfl Try.func55 rfl) ?_
    exact h _ _ _ _ _ _ _ Kp (Side.refl _ _) (Re.done ..) (Nat.le_refl _) (Nat.le_refl _) hg
  | succ m ih =>
    intro z3 z4 z5 z6 z7 z8 z9 za zb zc zd ze zf zg zh zi zj zk zl zm zn zo zp zq zr zs zt zu zv zw zx zy zz zA zB zC zD zE zF zG zH zI C L N wl i slot sum starts hm hi hN hNb hg Kp hs h
    have hlt : i < A.n := by omega
    replace hm : A.n ≤ i + (m + 1) ∧ i + (m + 1) ≤ A.n := by omega
    have hle := Kp.ok.le
    have hS := (crew_free A.c A.rp N L).steady
    have hL := Kp.lay
    rw [loop55_eq]
    refine Can.ctl hS hL rfl (fun _ => stepG_seq) ?_
    refine Can.code' hp hS hL (okFr_at (by kernel_rfl) rfl rfl ⟨_, Try.func55⟩) ?_
    intro T d W hW B hB
    simp only [headC, tailC, bodyC, loop55, body55, Try.f55, Option.getD_some]
    have hlt2 : (i : Int) < (A.n : Int) := by omega
    go_wp2
    have hB := hB.out
    subst hB
    intro hc
    have hW := hW.out
    subst hW
    refine Can.re ?_ T d
    clear hc
    refine Can.ctl hS hL rfl (fun _ => stepG_seq) ?_
    refine Can.ctl hS hL rfl (fun _ => stepG_cond (t := true) rfl) ?_; simp only [if_true, if_false, Bool.false_eq_true, ↓reduceIte]
    refine Can.ctl hS hL rfl (fun _ => stepG_skip) ?_
    refine Can.ctl hS hL rfl (fun _ => stepG_seq) ?_
    refine Can.ctl hS hL rfl (fun _ => stepG_block) ?_
    rw [← loop55_eq]
    cases hb : hits r f i with
    | false =>
      refine restart_test hp hL false hb ?_
      intro y14 y15 y16 y17 y18 y19 y20 y21 y22 y23 y24 y25 y26 y27 y28 y29
      refine Can.ctl hS hL rfl (fun _ => stepG_cond (t := false) rfl) ?_; simp only [if_true, if_false, Bool.false_eq_true, ↓reduceIte]
      refine Can.ctl hS hL rfl (fun _ => stepG_skip) ?_
      refine Can.ctl hS hL rfl (fun _ => stepG_inBlock) ?_
      refine Can.code' hp hS hL (okFr_at (by kernel_rfl) rfl rfl ⟨_, Try.func55⟩) ?_
      intro T d W hW B hB
      simp only [headC, tailC, bodyC, loop55, body55, Try.f55, Option.getD_some]
      go_wp2
      have hB := hB.out
      subst hB
      intro hc
      have hW := hW.out
      subst hW
      refine Can.re ?_ T d
      clear hc
      refine Can.ctl hS hL rfl (fun _ => stepG_inLoop) ?_
      rw [show ((i : Int) + 1) = ((i + 1 : Nat) : Int) from by omega]
      refine ih (by omega) (by omega) hN (by omega) hg Kp (fun l h1 h2 => hs l (by omega) h2) ?_
      intro C' L' N' slot' sum' starts' wl' K' sd re h1 h2 hg'
      exact h C' L' N' slot' sum' starts' wl' K' sd (re.miss hb) h1 (by omega) hg'
    | true =>
      refine restart_test hp hL true hb ?_
      intro y14 y15 y16 y17 y18 y19 y20 y21 y22 y23 y24 y25 y26 y27 y28 y29
      refine Can.ctl hS hL rfl (fun _ => stepG_cond (t := true) rfl) ?_; simp only [if_true, if_false, Bool.false_eq_true, ↓reduceIte]
      refine restart_hit hp hN (by omega) (hg _ (Nat.le_refl _)) Kp hlt (hs i (Nat.le_refl _) hlt).1 (hs i (Nat.le_refl _) hlt).2 ?_
      intro x31 x32 x33 x34 x35 x36 x37 x38 x39 x40 x41 x42 x43 x44 x45 C₂ L₂ u w₂ K₂ sd₂ hg₂
      have hS₂ := (crew_free A.c A.rp (N + 1) L₂).steady
      have hL₂ := K₂.lay
      refine Can.ctl hS₂ hL₂ rfl (fun _ => stepG_inBlock) ?_
      refine Can.code' hp hS₂ hL₂ (okFr_at (by kernel_rfl) rfl rfl ⟨_, Try.func55⟩) ?_
      intro T d W hW B hB
      simp only [headC, tailC, bodyC, loop55, body55, Try.f55, Option.getD_some]
      go_wp2
      have hB := hB.out
      subst hB
      intro hc
      have hW := hW.out
      subst hW
      refine Can.re ?_ T d
      clear hc
      refine Can.ctl hS₂ hL₂ rfl (fun _ => stepG_inLoop) ?_
      rw [show ((i : Int) + 1) = ((i + 1 : Nat) : Int) from by omega]
      refine ih (by omega) (by omega) (by omega) (by omega) (fun j hj => hg₂ j (by omega) (hg j (by omega))) K₂ (fun l h1 h2 => ?_) ?_
      · rw [upd_ne _ _ (by omega)]; exact hs l (by omega) h2
      intro C' L' N' slot' sum' starts' wl' K' sd re h1 h2 hg'
      exact h C' L' N' slot' sum' starts' wl' K' (sd₂.trans sd) (re.step hlt hb) (by omega) (by omega) hg'
set_option maxRecDepth 100000 in
set_option maxHeartbeats 400000 in
theorem restart {r : Rule} {f : Nat} (hp : OkProg Try.prog okT) (hN : 0 < N) (hNb : N + A.n < 2147483640) (hg : ∀ j, N ≤ j → L j = .gone) (Kp : Kept A C L slot sum starts wl) (hs : ∀ l, l < A.n → 0 ≤ starts l ∧ starts l ≤ 1000)
    (h : ∀ C' L' N' slot' sum' starts' wl', Kept A C' L' slot' sum' starts' wl' → Side A wl wl' → Re r f A.n 0 slot slot' sum sum' starts starts' → N ≤ N' → N' ≤ N + A.n → (∀ j, N' ≤ j → L' j = .gone) → Can Try.prog C' A.c 5 Post 0 (Crew A.c A.rp N' L') wl' (G (b₀.at (a₀.put ((ops₀[i₀]?).bind (·.dst)) (.tuple #[])) (.inRegion ops₀ rest₀ :: k₀)) cs)) :
    Can Try.prog C A.c 5 Post 0 (Crew A.c A.rp N L) wl (G ((base 55).at ⟨#[.pointer (some ⟨A.c, 0, none⟩), .string r.text, .int .i64 (f : Nat)] ++ Array.replicate 44 undef, []⟩ [.code body55]) (b₀.at a₀ (.inRegion ops₀ (i₀ :: rest₀) :: k₀) :: cs)) := by
  have hS := (crew_free A.c A.rp N L).steady
  have hL := Kp.lay
  have ea : (#[.pointer (some ⟨A.c, 0, none⟩), .string r.text, .int .i64 (f : Nat)] ++ Array.replicate 44 undef : Array Value) = #[.pointer (some ⟨A.c, 0, none⟩), .string r.text, .int .i64 (f : Nat), undef, undef, undef, undef, undef, undef, undef, undef, undef, undef, undef, undef, undef, undef, undef, undef, undef, undef, undef, undef, undef, undef, undef, undef, undef, undef, undef, undef, undef, undef, undef, undef, undef, undef, undef, undef, undef, undef, undef, undef, undef, undef, undef, undef] := by kernel_rfl
  rw [ea, body55_eq]
  refine Can.ctl hS hL rfl (fun _ => stepG_seq) ?_
  refine Can.code' hp hS hL (okFr_at (by kernel_rfl) rfl rfl ⟨_, Try.func55⟩) ?_
  intro T d W hW B hB
  simp only [headC, tailC, bodyC, body55, Try.f55, Option.getD_some]
  have m := Kp.mem.re T d
  rw [← hW.out] at m
  have h0 := m.c0
  clear m
  have hle := Kp.ok.le
  go_wp2
  have hB := hB.out
  subst hB
  intro hc
  have hW := hW.out
  subst hW
  refine Can.re ?_ T d
  clear hc
  refine Can.ctl hS hL rfl (fun _ => stepG_block) ?_
  refine Can.ctl hS hL rfl (fun _ => stepG_loop) ?_
  exact restart_loop (i := 0) hp A.n rfl (Nat.zero_le _) hN hNb hg Kp (fun l _ hl => hs l hl) h
theorem st_restart {P : Program} {main : Bool} {b : Frame} {a : Act} {k : List Item} {cs : List Frame} {ops : Array Oper} {i : Nat} {rest : List Nat} {o : Oper} {w : World} {args : Array Operand} {ats : Array TypeId} {p q s : Value} (hP : P.funcs[55]? = some Try.f55) (ho : ops[i]? = some o) (hw : Region.wanted o (yielded ops a.tmps) = true) (hk : b.kind ≠ .early) (hop : o.op = .call { callee := .value (.func 55), args := args, argTypes := ats }) (ha : args.map a.eval = #[p, q, s]) :
    stepG P main (G (b.at a (.inRegion ops (i :: rest) :: k)) cs) w = .go (G ((base 55).at ⟨#[p, q, s] ++ Array.replicate 44 undef, []⟩ [.code body55]) (b.at a (.inRegion ops (i :: rest) :: k) :: cs)) w #[] := by
  rw [st_call ho hw hk hop hP (c := body55) rfl rfl, ha]
  rfl
theorem st_do {P : Program} {main : Bool} {b : Frame} {a : Act} {k : List Item} {cs : List Frame} {ops : Array Oper} {i : Nat} {rest : List Nat} {o : Oper} {w : World} {args : Array Operand} {ats : Array TypeId} {p q s : Value} (hP : P.funcs[54]? = some Try.f54) (ho : ops[i]? = some o) (hw : Region.wanted o (yielded ops a.tmps) = true) (hk : b.kind ≠ .early) (hop : o.op = .call { callee := .value (.func 54), args := args, argTypes := ats }) (ha : args.map a.eval = #[p, q, s]) :
    stepG P main (G (b.at a (.inRegion ops (i :: rest) :: k)) cs) w = .go (G ((base 54).at ⟨#[p, q, s] ++ Array.replicate 39 undef, []⟩ [.code body54]) (b.at a (.inRegion ops (i :: rest) :: k) :: cs)) w #[] := by
  rw [st_call ho hw hk hop hP (c := body54) rfl rfl, ha]
  rfl
end
end Go.Town.Kp
namespace Go.Town.Kp
open Go Go.Conc Go.Conc.Lib Go.ConcR.Gen Go.RowKit Go.Town Go.Proofs
open Go.ConcN (upd upd_ne upd_same)
def sumR (fl : Nat → Int) (a : Nat) : Nat → Int
  | 0 => 0
  | m + 1 => sumR fl a m + fl (a + m)
def fin (fl : Nat → Int) (tick win : Nat) : Int := sumR fl (tick + 1 - win) (tick + 1 - (tick + 1 - win))
theorem sumR_bounds {fl : Nat → Int} {c : Nat} (h : ∀ t, 0 ≤ fl t ∧ fl t ≤ c) (a : Nat) : ∀ m, 0 ≤ sumR fl a m ∧ sumR fl a m ≤ m * c
  | 0 => by simp [sumR]
  | m + 1 => by
    have := sumR_bounds h a m
    have := h (a + m)
    have e : ((m + 1 : Nat) : Int) * c = m * c + c := by rw [Int.natCast_add, Int.add_mul]; simp
    simp only [sumR]
    omega
structure St where
  sum : Nat → Int
  starts : Nat → Int
  fl : Nat → Int
  over : Bool
def St.zero : St := ⟨fun _ => 0, fun _ => 0, fun _ => 0, false⟩
structure Kr where
  rule : Rule
  bear : Nat
  win : Nat
def again (r : Rule) (n i : Nat) (l : Nat) : Bool := decide (l < n) && hits r i l
def stepT (k : Kr) (n tick i : Nat) (v : Int) (s : St) : St :=
  if v = 0 then
    let fl := upd s.fl tick (s.fl tick + 1)
    if decide ((k.bear : Int) < fin fl tick k.win) then ⟨s.sum, s.starts, fl, true⟩
    else ⟨fun l => if again k.rule n i l then 0 else s.sum l, fun l => if again k.rule n i l then s.starts l + 1 else s.starts l, fl, false⟩
  else ⟨upd s.sum i (s.sum i + v), s.starts, s.fl, false⟩
def stepW (k : Kr) (T : List (List Int)) (tick i : Nat) (s : St) : St :=
  match (T.getD i [])[tick]? with
  | none => s
  | some v => stepT k T.length tick i v s
def runW (k : Kr) (T : List (List Int)) (tick : Nat) : Nat → Nat → St → St
  | 0, _, s => s
  | m + 1, i, s => if (stepW k T tick i s).over then stepW k T tick i s else runW k T tick m (i + 1) (stepW k T tick i s)
def tickW (k : Kr) (T : List (List Int)) (tick : Nat) (s : St) : St := runW k T tick T.length 0 s
def runT (k : Kr) (T : List (List Int)) : Nat → Nat → St → St × Nat
  | 0, t, s => (s, t)
  | m + 1, t, s => if (tickW k T t s).over then (tickW k T t s, t) else runT k T m (t + 1) (tickW k T t s)
structure Small (c : Nat) (s : St) : Prop where
  sum : ∀ l, 0 ≤ s.sum l ∧ s.sum l ≤ 1000 * c
  starts : ∀ l, 0 ≤ s.starts l ∧ s.starts l ≤ c
  fl : ∀ l, 0 ≤ s.fl l ∧ s.fl l ≤ c
theorem Small.zero : Small 0 St.zero := ⟨fun _ => by simp [St.zero], fun _ => by simp [St.zero], fun _ => by simp [St.zero]⟩
theorem Small.mono {c d : Nat} {s : St} (h : Small c s) (hd : c ≤ d) : Small d s :=
  ⟨fun l => by have := h.sum l; omega, fun l => by have := h.starts l; omega, fun l => by have := h.fl l; omega⟩
theorem Small.task {c : Nat} {s : St} (h : Small c s) (k : Kr) (n tick i : Nat) {v : Int} (h0 : 0 ≤ v) (h1 : v ≤ 1000) : Small (c + 1) (stepT k n tick i v s) := by
  have hu : ∀ l, 0 ≤ upd s.fl tick (s.fl tick + 1) l ∧ upd s.fl tick (s.fl tick + 1) l ≤ (c + 1 : Nat) := fun l => by
    by_cases e : l = tick
    · subst e; rw [upd_same]; have := h.fl l; omega
    · rw [upd_ne _ _ e]; have := h.fl l; omega
  unfold stepT
  split
  · simp only
    split
    · exact ⟨fun l => by have := h.sum l; simp only; omega, fun l => by have := h.starts l; simp only; omega, hu⟩
    · exact ⟨fun l => by have := h.sum l; simp only; split <;> omega, fun l => by have := h.starts l; simp only; split <;> omega, hu⟩
  · refine ⟨fun l => ?_, fun l => by have := h.starts l; simp only; omega, fun l => by have := h.fl l; simp only; omega⟩
    by_cases e : l = i
    · subst e; simp only [upd_same]; have := h.sum l; omega
    · simp only [upd_ne _ _ e]; have := h.sum l; omega
def TasksIn (T : List (List Int)) : Prop := ∀ l ∈ T, ∀ v ∈ l, 0 ≤ v ∧ v ≤ 1000
theorem Small.one {c : Nat} {s : St} (h : Small c s) (k : Kr) {T : List (List Int)} (hT : TasksIn T) (tick i : Nat) : Small (c + 1) (stepW k T tick i s) := by
  unfold stepW
  cases hv : (T.getD i [])[tick]? with
  | none => exact h.mono (by omega)
  | some v =>
    have hi : i < T.length := by
      refine Classical.byContradiction fun hn => ?_
      have e : T.getD i [] = [] := by simp [List.getD, List.getElem?_eq_none (show T.length ≤ i by omega)]
      rw [e] at hv
      simp at hv
    have hm : v ∈ T[i] := by
      have e : T.getD i [] = T[i] := by simp [List.getD, hi]
      rw [e] at hv
      exact List.mem_of_getElem? hv
    have := hT _ (List.getElem_mem hi) v hm
    exact h.task k _ tick i this.1 this.2
theorem Small.workers {k : Kr} {T : List (List Int)} (hT : TasksIn T) (tick : Nat) : ∀ (m i c : Nat) (s : St), Small c s → Small (c + m) (runW k T tick m i s)
  | 0, _, _, _, h => h
  | m + 1, i, c, s, h => by
    have h1 := h.one k hT tick i
    unfold runW
    split
    · exact h1.mono (by omega)
    · exact (Small.workers hT tick m (i + 1) (c + 1) _ h1).mono (by omega)
def IntsIn (B : Nat) (w : World) (a : Option Addr) (zs : List Int) : Prop :=
  zs = [] ∨ ∃ b off, a = some ⟨b, off, none⟩ ∧ b < B ∧ ∀ i, i < zs.length → w.cell? ⟨b, off + i, none⟩ = some (.int .i64 (zs.getD i 0))
def IntsAt (w : World) (a : Option Addr) (zs : List Int) : Prop := IntsIn w.heap.size w a zs
theorem IntsIn.at {B : Nat} {w : World} {a : Option Addr} {zs : List Int} (h : IntsIn B w a zs) {i : Nat} (hi : i < zs.length) : ∃ b off, a = some ⟨b, off, none⟩ ∧ b < B ∧ w.cell? ⟨b, off + i, none⟩ = some (.int .i64 zs[i]) := by
  rcases h with rfl | ⟨b, off, rfl, hb, hc⟩
  · simp at hi
  · refine ⟨b, off, rfl, hb, ?_⟩
    rw [hc i hi]; simp [List.getD, hi]
theorem IntsIn.kept {B B' : Nat} {w w' : World} {a : Option Addr} {zs : List Int} (h : IntsIn B w a zs) (hk : ∀ x j v, x < B → w.cell? ⟨x, j, none⟩ = some v → w'.cell? ⟨x, j, none⟩ = some v) (hz : B ≤ B') : IntsIn B' w' a zs := by
  rcases h with rfl | ⟨b, off, rfl, hb, hc⟩
  · exact .inl rfl
  · exact .inr ⟨b, off, rfl, by omega, fun i hi => hk _ _ _ hb (hc i hi)⟩
theorem IntsAt.at {w : World} {a : Option Addr} {zs : List Int} (h : IntsAt w a zs) {i : Nat} (hi : i < zs.length) : ∃ b off, a = some ⟨b, off, none⟩ ∧ b < w.heap.size ∧ w.cell? ⟨b, off + i, none⟩ = some (.int .i64 zs[i]) := IntsIn.at h hi
theorem IntsAt.below {w w' : World} {a : Option Addr} {zs : List Int} (h : IntsAt w a zs) {B : Nat} (hw : Below B w w') (hB : w.heap.size ≤ B) : IntsAt w' a zs :=
  IntsIn.kept h (fun x j v hx hv => (hw.cell (p := ⟨x, j, none⟩) (by show x < B; omega)).trans hv) hw.size
def RowsIn (B : Nat) (w : World) (a : Option Addr) (T : List (List Int)) : Prop :=
  T = [] ∨ ∃ b off, a = some ⟨b, off, none⟩ ∧ b < B ∧ ∀ i, i < T.length → ∃ a' c', w.cell? ⟨b, off + i, none⟩ = some (.slice a' (T.getD i []).length c') ∧ IntsIn B w a' (T.getD i [])
def RowsAt (w : World) (a : Option Addr) (T : List (List Int)) : Prop := RowsIn w.heap.size w a T
theorem RowsIn.at {B : Nat} {w : World} {a : Option Addr} {T : List (List Int)} (h : RowsIn B w a T) {i : Nat} (hi : i < T.length) : ∃ b off a' c', a = some ⟨b, off, none⟩ ∧ b < B ∧ w.cell? ⟨b, off + i, none⟩ = some (.slice a' T[i].length c') ∧ IntsIn B w a' T[i] := by
  rcases h with rfl | ⟨b, off, rfl, hb, hc⟩
  · simp at hi
  · obtain ⟨a', c', h1, h2⟩ := hc i hi
    have e : T.getD i [] = T[i] := by simp [List.getD, hi]
    rw [e] at h1 h2
    exact ⟨b, off, a', c', rfl, hb, h1, h2⟩
theorem RowsIn.kept {B B' : Nat} {w w' : World} {a : Option Addr} {T : List (List Int)} (h : RowsIn B w a T) (hk : ∀ x j v, x < B → w.cell? ⟨x, j, none⟩ = some v → w'.cell? ⟨x, j, none⟩ = some v) (hz : B ≤ B') : RowsIn B' w' a T := by
  rcases h with rfl | ⟨b, off, rfl, hb, hc⟩
  · exact .inl rfl
  · refine .inr ⟨b, off, rfl, by omega, fun i hi => ?_⟩
    obtain ⟨a', c', h1, h2⟩ := hc i hi
    exact ⟨a', c', hk _ _ _ hb h1, h2.kept hk hz⟩
theorem RowsAt.below {w w' : World} {a : Option Addr} {T : List (List Int)} (h : RowsAt w a T) {B : Nat} (hw : Below B w w') (hB : w.heap.size ≤ B) : RowsAt w' a T :=
  RowsIn.kept h (fun x j v hx hv => (hw.cell (p := ⟨x, j, none⟩) (by show x < B; omega)).trans hv) hw.size
theorem RowsIn.re {B : Nat} {w : World} {a : Option Addr} {T : List (List Int)} (h : RowsIn B w a T) (t : Nat → Question → Nat) (d : Nat) : RowsIn B (w.re t d) a T := h.kept (fun _ _ _ _ hv => hv) (Nat.le_refl _)
set_option maxRecDepth 100000 in
set_option maxHeartbeats 400000 in
theorem faultsIn_any (fb tick win c : Nat) (fl : Nat → Int) (w : World) (ht : tick < 20) (hw0 : 0 < win) (hw : win ≤ 20) (hc : c ≤ 100000) (hb : ∀ t, 0 ≤ fl t ∧ fl t ≤ c) (hf : ∀ t, t < 20 → w.cell? ⟨fb, t, none⟩ = some (.int .i64 (fl t))) :
    Calls Try.prog 46 #[.slice (some ⟨fb, 0, none⟩) 20 20, .int .i64 tick, .int .i64 win] w fun e w' => e = .returned (.int .i64 (fin fl tick win)) ∧ w = w' := by
  obtain ⟨a, ha⟩ : ∃ a, a = tick + 1 - win := ⟨_, rfl⟩
  have key : ∀ m, a + m ≤ tick + 1 → 0 ≤ sumR fl a m ∧ sumR fl a m ≤ 2000000 := fun m hm => by
    have := sumR_bounds hb a m
    have h2 : (m : Int) * c ≤ 20 * 100000 := by
      have h3 : m * c ≤ 20 * 100000 := Nat.mul_le_mul (by omega) hc
      have h4 : ((m * c : Nat) : Int) ≤ ((20 * 100000 : Nat) : Int) := by omega
      simpa using h4
    omega
  have hfin : Hid (fin fl tick win = sumR fl a (tick + 1 - a)) := ⟨by rw [ha]; rfl⟩
  have ha2 : a ≤ tick := by omega
  have hkey : Hid _ := ⟨key⟩
  have hhf : Hid _ := ⟨hf⟩
  have hhb : Hid _ := ⟨hb⟩
  clear key hf hb
  by_cases hle : tick + 1 ≤ win
  · have hlt : (tick : Int) - win + 1 ≤ 0 := by omega
    obtain rfl : a = 0 := by omega
    clear ha
    go_enter Try.func46, Try.ntmps46
    go_wp2
    go_loop [7, 8] (fun s t => ∃ m : Nat, m ≤ tick + 1 ∧ t = .int .i64 ((m : Nat) : Int) ∧ s = .int .i64 (sumR fl 0 m)) (fun _ t => tick + 1 - (intOf t).toNat)
    case atStart => exact ⟨0, by omega, rfl, rfl⟩
    case round =>
      obtain ⟨m, hm, rfl, rfl⟩ := hrel
      by_cases h2 : m ≤ tick
      · have hcell := hhf.out m (by omega)
        have hk1 := hkey.out m (by omega)
        have hk2 := hkey.out (m + 1) (by omega)
        have hb1 := hhb.out m
        have hsu : Hid (sumR fl 0 (m + 1) = sumR fl 0 m + fl m) := ⟨by simp [sumR]⟩
        have hk3 : 0 ≤ sumR fl 0 m + fl m ∧ sumR fl 0 m + fl m ≤ 2000000 := by rw [← hsu.out]; exact hk2
        clear hk2
        generalize sumR fl 0 m = S at *
        generalize fl m = F at *
        go_wp2
        go_round
        case rel => exact ⟨m + 1, by omega, by go_num, by rw [hsu.out]⟩
        case measure => simp [intOf]; omega
      · obtain rfl : m = tick + 1 := by omega
        go_wp2
        go_ret
        exact ⟨by rw [hfin.out]; rfl, rfl⟩
  · have hlt : 0 < (tick : Int) - win + 1 := by omega
    have e : (tick : Int) - win + 1 = (a : Int) := by omega
    have hlt2 : 0 < (a : Int) := by omega
    clear ha
    go_enter Try.func46, Try.ntmps46
    go_wp2
    go_loop [7, 8] (fun s t => ∃ p m : Nat, Hid (p = a + m) ∧ p ≤ tick + 1 ∧ t = .int .i64 (p : Int) ∧ s = .int .i64 (sumR fl a m)) (fun _ t => tick + 1 - (intOf t).toNat)
    case atStart => exact ⟨a, 0, ⟨by omega⟩, by omega, rfl, rfl⟩
    case round =>
      clear e
      obtain ⟨p, m, hp, hm, rfl, rfl⟩ := hrel
      by_cases h2 : p ≤ tick
      · have hcell := hhf.out p (by omega)
        have hk1 := hkey.out m (by have := hp.out; omega)
        have hk2 := hkey.out (m + 1) (by have := hp.out; omega)
        have hb1 := hhb.out p
        have hsu : Hid (sumR fl a (m + 1) = sumR fl a m + fl p) := ⟨by rw [hp.out]; simp [sumR]⟩
        have hk3 : 0 ≤ sumR fl a m + fl p ∧ sumR fl a m + fl p ≤ 2000000 := by rw [← hsu.out]; exact hk2
        clear hk2
        generalize sumR fl a m = S at *
        generalize fl p = F at *
        go_wp2
        go_round
        case rel => exact ⟨p + 1, m + 1, ⟨by have := hp.out; omega⟩, by omega, by go_num, by rw [hsu.out]⟩
        case measure => simp [intOf]; omega
      · obtain rfl : p = tick + 1 := by omega
        have hS : Hid (tick + 1 - a = m) := ⟨by have := hp.out; omega⟩
        go_wp2
        go_ret
        exact ⟨by rw [hfin.out, hS.out]; rfl, rfl⟩
end Go.Town.Kp
