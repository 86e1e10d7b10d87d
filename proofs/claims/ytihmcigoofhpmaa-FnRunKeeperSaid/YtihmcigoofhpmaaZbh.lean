/-
  RunKeeper, where all is valid.
  RunKeeper as a whole.
  SumsAfter.
  The reference's count of faults, and who is started again.
-/
import Derived.Test.YtihmcigoofhpmaaZbg
set_option linter.all false
namespace Go.Town.Kp
open Go Go.Conc Go.Conc.Lib Go.ConcR.Gen Go.RowKit Go.Town Go.Proofs
open Go.ConcN (upd upd_ne upd_same)
noncomputable def ops10 : Array Oper := match headC 2 body10 with | .region _ ops _ => ops | _ => #[]
section
variable {A : At} {C : Cfg} {L : Nat → Ws} {Post : Value → World → Prop} {N k : Nat} {wl : World} {i : Nat} {cs : List Frame} {slot : Nat → Option Nat} {sum starts : Nat → Int} {b₀ : Frame} {a₀ : Act} {ops₀ : Array Oper} {i₀ : Nat} {rest₀ : List Nat} {k₀ : List Item}
variable {κ : Kr} {J : List (List Int)} {tc kb rb B : Nat} {ta : Option Addr} {C₀ : Cfg} {b' o' Bd : Nat} {z0 z1 z2 z3 z4 z5 z6 z7 z8 z9 za zb zc zd ze zf zg zh zi zj : Value}
theorem st_enter' {P : Program} {main : Bool} {b : Frame} {a : Act} {k : List Item} {cs : List Frame} {ops : Array Oper} {i : Nat} {rest : List Nat} {o : Oper} {w : World} {f : FuncId} {fn : Func} {c : Code} {args : Array Operand} {ats : Array TypeId} {vs : Array Value} (ho : ops[i]? = some o) (hw : Region.wanted o (yielded ops a.tmps) = true) (hk : b.kind ≠ .early) (hop : o.op = .call { callee := .value (.func f), args, argTypes := ats })
    (hf : P.funcs[f]? = some fn) (hname : (fn.name == "runtime.NumGoroutine") = false) (hb : fn.body = some c) (ha : args.map a.eval = vs) :
    stepG P main (G (b.at a (.inRegion ops (i :: rest) :: k)) cs) w = .go (G (Frame.enter P f vs .normal) (b.at a (.inRegion ops (i :: rest) :: k) :: cs)) w #[] := by
  rw [← ha]; exact st_enter ho hw hk hop hf hname hb
theorem set4_op {w : World} {rb : Nat} {vs : List Value} (hq : Reads w rb vs) (hv : vs.length = 4) : (∃ v0 v1 v2 v3, w.cell? ⟨rb, 0, none⟩ = some v0 ∧ w.cell? ⟨rb, 1, none⟩ = some v1 ∧ w.cell? ⟨rb, 2, none⟩ = some v2 ∧ w.cell? ⟨rb, 3, none⟩ = some v3) ∧ ∀ j, j < 4 → w.frozen? ⟨rb, j, none⟩ = false := by
  obtain ⟨v0, h0⟩ := hq.ex (j := 0) (by omega)
  obtain ⟨v1, h1⟩ := hq.ex (j := 1) (by omega)
  obtain ⟨v2, h2⟩ := hq.ex (j := 2) (by omega)
  obtain ⟨v3, h3⟩ := hq.ex (j := 3) (by omega)
  exact ⟨⟨v0, v1, v2, v3, h0, h1, h2, h3⟩, fun j hj => (hq j (by omega)).2⟩
theorem st_ret {P : Program} {main : Bool} {b : Frame} {a : Act} {k : List Item} {cs : List Frame} {w : World} : stepG P main (G (b.at a (.code .ret :: k)) cs) w = .go (G { b.at a (.code .ret :: k) with mode := .returning } cs) w #[] := stepG_ret'
set_option maxRecDepth 100000 in
set_option maxHeartbeats 1000000 in
theorem rk_tail (hp : OkProg Try.prog okT) (hn4 : J.length ≤ 4) (hn1 : 0 < J.length) (hJ : TasksIn J) (hw0 : 0 < κ.win) (hw : κ.win ≤ 20) (hb : κ.bear ≤ 20) (hlen : ∀ l ∈ J, l.length ≤ 20) (hBd : Bd < 2000000000) (hL : Lay C₀ wl) (hR : RowsAt wl ta J) (hq : Reads wl rb [.slice none 0 0, .slice none 0 0, .string ⟨#[]⟩, .int .i64 0]) (hrb : rb < wl.heap.size) (hBr : B ≤ rb)
    (h : ∀ C' b₁ sa st wl', Lay C' wl' → Kin B wl wl' → wl.heap.size ≤ sa → wl.heap.size ≤ st → sa ≠ st → (∀ i, i < J.length → wl'.cell? ⟨sa, i, none⟩ = some (.int .i64 ((runT κ J (mxR J J.length) 0 St.zero).1.sum i)) ∧ wl'.frozen? ⟨sa, i, none⟩ = false) → (∀ i, i < J.length → wl'.cell? ⟨st, i, none⟩ = some (.int .i64 ((runT κ J (mxR J J.length) 0 St.zero).1.starts i)) ∧ wl'.frozen? ⟨st, i, none⟩ = false) →
      Can Try.prog C' b₁ 5 Post 0 (AloneB (Bd + 400)) wl' (G (b₀.at (a₀.put ((ops₀[i₀]?).bind (·.dst)) (.tuple #[(.agg #[.slice (some ⟨sa, 0, none⟩) J.length J.length, .slice (some ⟨st, 0, none⟩) J.length J.length, .string (endText (runT κ J (mxR J J.length) 0 St.zero).1.over), .int .i64 ((runT κ J (mxR J J.length) 0 St.zero).2 : Nat)]), .bool true])) (.inRegion ops₀ rest₀ :: k₀)) cs)) :
    Can Try.prog C₀ b' o' Post 0 (AloneB Bd) wl (G ((base 10).at ⟨#[.agg #[.string κ.rule.text, .int .i64 (κ.bear : Nat), .int .i64 (κ.win : Nat)], .slice ta J.length tc, .pointer (some ⟨kb, 0, none⟩), z3, .pointer (some ⟨rb, 0, none⟩), .bool false, z6, z7, z8, z9, za, zb, zc, zd, ze, .agg #[.string κ.rule.text, .int .i64 (κ.bear : Nat), .int .i64 (κ.win : Nat)], .slice ta J.length tc, .slice ta J.length tc, .int .i64 (mxR J J.length : Nat), zj], []⟩ [.inRegion ops10 [4, 5, 6], .code .ret]) (b₀.at a₀ (.inRegion ops₀ (i₀ :: rest₀) :: k₀) :: cs)) := by
  have hS := steady_aloneB Bd
  have hmx : mxR J J.length ≤ 20 := mxR_le hlen _
  generalize hK : [Item.code .ret] = K₁
  simp only [ops10, headC, tailC, bodyC, body10, Try.f10, Option.getD_some]
  refine Can.ctl hS hL rfl (fun _ => st_keep (p := .agg #[.string κ.rule.text, .int .i64 (κ.bear : Nat), .int .i64 (κ.win : Nat)]) (q := .slice ta J.length tc) (r := .int .i64 (mxR J J.length : Nat)) Try.func36 rfl rfl (by k_ne) rfl (by kernel_rfl)) ?_
  refine keepAll hp hn4 hn1 hJ hw0 hw hb hmx hBd hL hR ?_
  intro C' b₁ sa st wl' hL' kin h1 h2 h3 hsum hst
  walk_nrm
  have hS' := steady_aloneB (Bd + 400)
  have q' := hq.kin kin hrb
  obtain ⟨⟨v0, v1, v2, v3, c0, c1, c2, c3⟩, hf⟩ := set4_op q' rfl
  refine Can.opN (ok := okT) hS' hL' rfl rfl (by k_ne) (by kernel_rfl) (fun T d => ⟨set4 (wl'.re T d) rb (.slice (some ⟨sa, 0, none⟩) J.length J.length) (.slice (some ⟨st, 0, none⟩) J.length J.length) (.string (endText (runT κ J (mxR J J.length) 0 St.zero).1.over)) (.int .i64 ((runT κ J (mxR J J.length) 0 St.zero).2 : Nat)), ?_, fun hc => ?_⟩)
  · have c0 : (wl'.re T d).cell? ⟨rb, 0, none⟩ = some v0 := c0
    have c1 : (wl'.re T d).cell? ⟨rb, 1, none⟩ = some v1 := c1
    have c2 : (wl'.re T d).cell? ⟨rb, 2, none⟩ = some v2 := c2
    have c3 : (wl'.re T d).cell? ⟨rb, 3, none⟩ = some v3 := c3
    have f0 : (wl'.re T d).frozen? ⟨rb, 0, none⟩ = false := hf 0 (by omega)
    have f1 : (wl'.re T d).frozen? ⟨rb, 1, none⟩ = false := hf 1 (by omega)
    have f2 : (wl'.re T d).frozen? ⟨rb, 2, none⟩ = false := hf 2 (by omega)
    have f3 : (wl'.re T d).frozen? ⟨rb, 3, none⟩ = false := hf 3 (by omega)
    generalize wl'.re T d = W at *
    unfold set4
    clear hsum hst h hK
    generalize endText (runT κ J (mxR J J.length) 0 St.zero).1.over = E
    generalize (runT κ J (mxR J J.length) 0 St.zero).2 = E2
    go_simp
  walk_nrm
  have s4 := set4_cells (w := wl'.re T d) (rb := rb) (fun j hj => q'.ex (by simpa using hj)) (.slice (some ⟨sa, 0, none⟩) J.length J.length) (.slice (some ⟨st, 0, none⟩) J.length J.length) (.string (endText (runT κ J (mxR J J.length) 0 St.zero).1.over)) (.int .i64 ((runT κ J (mxR J J.length) 0 St.zero).2 : Nat))
  have kin4 : Kin B wl (set4 (wl'.re T d) rb (.slice (some ⟨sa, 0, none⟩) J.length J.length) (.slice (some ⟨st, 0, none⟩) J.length J.length) (.string (endText (runT κ J (mxR J J.length) 0 St.zero).1.over)) (.int .i64 ((runT κ J (mxR J J.length) 0 St.zero).2 : Nat))) := (((((kin.le (by omega)).re T d).set _ hBr).set _ hBr).set _ hBr).set _ hBr
  have sum4 : ∀ i, i < J.length → (set4 (wl'.re T d) rb (.slice (some ⟨sa, 0, none⟩) J.length J.length) (.slice (some ⟨st, 0, none⟩) J.length J.length) (.string (endText (runT κ J (mxR J J.length) 0 St.zero).1.over)) (.int .i64 ((runT κ J (mxR J J.length) 0 St.zero).2 : Nat))).cell? ⟨sa, i, none⟩ = some (.int .i64 ((runT κ J (mxR J J.length) 0 St.zero).1.sum i)) ∧ (set4 (wl'.re T d) rb (.slice (some ⟨sa, 0, none⟩) J.length J.length) (.slice (some ⟨st, 0, none⟩) J.length J.length) (.string (endText (runT κ J (mxR J J.length) 0 St.zero).1.over)) (.int .i64 ((runT κ J (mxR J J.length) 0 St.zero).2 : Nat))).frozen? ⟨sa, i, none⟩ = false := fun i hi => set4_far (by omega) (hsum i hi)
  have st4 : ∀ i, i < J.length → (set4 (wl'.re T d) rb (.slice (some ⟨sa, 0, none⟩) J.length J.length) (.slice (some ⟨st, 0, none⟩) J.length J.length) (.string (endText (runT κ J (mxR J J.length) 0 St.zero).1.over)) (.int .i64 ((runT κ J (mxR J J.length) 0 St.zero).2 : Nat))).cell? ⟨st, i, none⟩ = some (.int .i64 ((runT κ J (mxR J J.length) 0 St.zero).1.starts i)) ∧ (set4 (wl'.re T d) rb (.slice (some ⟨sa, 0, none⟩) J.length J.length) (.slice (some ⟨st, 0, none⟩) J.length J.length) (.string (endText (runT κ J (mxR J J.length) 0 St.zero).1.over)) (.int .i64 ((runT κ J (mxR J J.length) 0 St.zero).2 : Nat))).frozen? ⟨st, i, none⟩ = false := fun i hi => set4_far (by omega) (hst i hi)
  generalize set4 (wl'.re T d) rb (.slice (some ⟨sa, 0, none⟩) J.length J.length) (.slice (some ⟨st, 0, none⟩) J.length J.length) (.string (endText (runT κ J (mxR J J.length) 0 St.zero).1.over)) (.int .i64 ((runT κ J (mxR J J.length) 0 St.zero).2 : Nat)) = w₄ at *
  have hL₄ : Lay C' w₄ := ⟨hc, hL'.no⟩
  refine Can.op (ok := okT) hS' hL₄ rfl rfl (by k_ne) (by kernel_rfl) (fun T d => ⟨.bool true, w₄.re T d, ?_, fun _ => Can.re ?_ T d⟩)
  · go_simp
  walk_nrm
  refine Can.ctl hS' hL₄ rfl (fun _ => stepG_region_end) ?_
  subst hK
  refine Can.ctl hS' hL₄ rfl (fun _ => st_ret) ?_
  obtain ⟨s0, s1, s2, s3⟩ := s4
  exact leave10 hS' hL₄ s0 s1 s2 s3 (h C' b₁ sa st w₄ hL₄ kin4 h1 h2 h3 sum4 st4)
set_option maxRecDepth 100000 in
set_option maxHeartbeats 1000000 in
theorem rk_second (hp : OkProg Try.prog okT) (hn4 : J.length ≤ 4) (hn1 : 0 < J.length) (hJ : TasksIn J) (hw0 : 0 < κ.win) (hw : κ.win ≤ 20) (hb : κ.bear ≤ 20) (hlen : ∀ l ∈ J, l.length ≤ 20) (hBd : Bd < 2000000000) (hL : Lay C₀ wl) (hR : RowsAt wl ta J) (hq : Reads wl rb [.slice none 0 0, .slice none 0 0, .string ⟨#[]⟩, .int .i64 0]) (hrb : rb < wl.heap.size) (hBr : B ≤ rb) (hbox : BoxAt kb κ wl)
    (h : ∀ C' b₁ sa st wl', Lay C' wl' → Kin B wl wl' → wl.heap.size ≤ sa → wl.heap.size ≤ st → sa ≠ st → (∀ i, i < J.length → wl'.cell? ⟨sa, i, none⟩ = some (.int .i64 ((runT κ J (mxR J J.length) 0 St.zero).1.sum i)) ∧ wl'.frozen? ⟨sa, i, none⟩ = false) → (∀ i, i < J.length → wl'.cell? ⟨st, i, none⟩ = some (.int .i64 ((runT κ J (mxR J J.length) 0 St.zero).1.starts i)) ∧ wl'.frozen? ⟨st, i, none⟩ = false) →
      Can Try.prog C' b₁ 5 Post 0 (AloneB (Bd + 400)) wl' (G (b₀.at (a₀.put ((ops₀[i₀]?).bind (·.dst)) (.tuple #[(.agg #[.slice (some ⟨sa, 0, none⟩) J.length J.length, .slice (some ⟨st, 0, none⟩) J.length J.length, .string (endText (runT κ J (mxR J J.length) 0 St.zero).1.over), .int .i64 ((runT κ J (mxR J J.length) 0 St.zero).2 : Nat)]), .bool true])) (.inRegion ops₀ rest₀ :: k₀)) cs)) :
    Can Try.prog C₀ b' o' Post 0 (AloneB Bd) wl (G ((base 10).at ⟨#[.agg #[.string κ.rule.text, .int .i64 (κ.bear : Nat), .int .i64 (κ.win : Nat)], .slice ta J.length tc, .pointer (some ⟨kb, 0, none⟩), z3, .pointer (some ⟨rb, 0, none⟩), .bool false, z6, z7, z8, z9, za, zb, zc, zd, ze, zf, zg, zh, zi, zj], []⟩ [.code (.seq (headC 2 body10) .ret)]) (b₀.at a₀ (.inRegion ops₀ (i₀ :: rest₀) :: k₀) :: cs)) := by
  have hS := steady_aloneB Bd
  have hlt : ∀ l ∈ J, l.length ≤ 1048576 := fun l hl => by have := hlen l hl; omega
  have tail : ∀ z3 z6 z7 z8 z9 za zb zc zd ze zj : Value, Can Try.prog C₀ b' o' Post 0 (AloneB Bd) wl (G ((base 10).at ⟨#[.agg #[.string κ.rule.text, .int .i64 (κ.bear : Nat), .int .i64 (κ.win : Nat)], .slice ta J.length tc, .pointer (some ⟨kb, 0, none⟩), z3, .pointer (some ⟨rb, 0, none⟩), .bool false, z6, z7, z8, z9, za, zb, zc, zd, ze, .agg #[.string κ.rule.text, .int .i64 (κ.bear : Nat), .int .i64 (κ.win : Nat)], .slice ta J.length tc, .slice ta J.length tc, .int .i64 (mxR J J.length : Nat), zj], []⟩ [.inRegion ops10 [4, 5, 6], .code .ret]) (b₀.at a₀ (.inRegion ops₀ (i₀ :: rest₀) :: k₀) :: cs)) := by
    intro z3 z6 z7 z8 z9 za zb zc zd ze zj
    exact rk_tail hp hn4 hn1 hJ hw0 hw hb hlen hBd hL hR hq hrb hBr h
  refine Can.ctl hS hL rfl (fun _ => stepG_seq) ?_
  have e2 : headC 2 body10 = .region 3 ops10 true := by kernel_rfl
  rw [e2]
  refine Can.drawn (by kernel_rfl) hS hL ord10 ?_
  generalize hK : [Item.code .ret] = K₁ at *
  clear h
  intro p hp'
  simp only [List.mem_cons, List.mem_nil_iff, or_false] at hp'
  have call37 : ∀ {b₀ : Frame} {a₀ : Act} {ops₀ : Array Oper} {i₀ : Nat} {rest₀ : List Nat} {k₀ : List Item} {cs : List Frame}, Can Try.prog C₀ b' o' Post 0 (AloneB Bd) wl (G (b₀.at (a₀.put ((ops₀[i₀]?).bind (·.dst)) (.int .i64 (mxR J J.length : Nat))) (.inRegion ops₀ rest₀ :: k₀)) cs) → Can Try.prog C₀ b' o' Post 0 (AloneB Bd) wl (G (Frame.enter Try.prog 37 #[.slice ta J.length tc] .normal) (b₀.at a₀ (.inRegion ops₀ (i₀ :: rest₀) :: k₀) :: cs)) := by
    intro b₀ a₀ ops₀ i₀ rest₀ k₀ cs hn
    refine Can.call hp hS hL (by kernel_rfl) (by kernel_rfl) (fun T d => (longest_any ta tc J (wl.re T d) (by omega) hlt (show RowsAt (wl.re T d) ta J from hR.re T d)).mono ?_)
    rintro e w' ⟨rfl, rfl⟩
    refine ⟨_, rfl, fun _ => Can.re ?_ T d⟩
    rw [Frame.finish_at]
    exact hn
  rcases hp' with rfl | rfl | rfl | rfl | rfl | rfl | rfl | rfl | rfl | rfl | rfl | rfl
  · simp only [ops10, headC, tailC, bodyC, body10, Try.f10, Option.getD_some]
    refine Can.op (ok := okT) hS hL rfl rfl (by k_ne) (by kernel_rfl) (fun T d => ⟨.agg #[.string κ.rule.text, .int .i64 (κ.bear : Nat), .int .i64 (κ.win : Nat)], wl.re T d, ?_, fun _ => Can.re ?_ T d⟩)
    · have g0 : (wl.re T d).cell? ⟨kb, 0, none⟩ = _ := hbox.b0
      have g1 : (wl.re T d).cell? ⟨kb, 1, none⟩ = _ := hbox.b1
      have g2 : (wl.re T d).cell? ⟨kb, 2, none⟩ = _ := hbox.b2
      go_simp
    walk_nrm
    refine Can.op (ok := okT) hS hL rfl rfl (by k_ne) (by kernel_rfl) (fun T d => ⟨.slice ta J.length tc, wl.re T d, ?_, fun _ => Can.re ?_ T d⟩)
    · go_simp
    walk_nrm
    refine Can.op (ok := okT) hS hL rfl rfl (by k_ne) (by kernel_rfl) (fun T d => ⟨.slice ta J.length tc, wl.re T d, ?_, fun _ => Can.re ?_ T d⟩)
    · go_simp
    walk_nrm
    refine Can.ctl hS hL rfl (fun _ => st_enter' (vs := #[.slice ta J.length tc]) rfl rfl (by k_ne) rfl Try.func37 rfl rfl (by kernel_rfl)) ?_
    refine call37 ?_
    walk_nrm
    exact tail _ _ _ _ _ _ _ _ _ _ _
  · simp only [ops10, headC, tailC, bodyC, body10, Try.f10, Option.getD_some]
    refine Can.op (ok := okT) hS hL rfl rfl (by k_ne) (by kernel_rfl) (fun T d => ⟨.agg #[.string κ.rule.text, .int .i64 (κ.bear : Nat), .int .i64 (κ.win : Nat)], wl.re T d, ?_, fun _ => Can.re ?_ T d⟩)
    · have g0 : (wl.re T d).cell? ⟨kb, 0, none⟩ = _ := hbox.b0
      have g1 : (wl.re T d).cell? ⟨kb, 1, none⟩ = _ := hbox.b1
      have g2 : (wl.re T d).cell? ⟨kb, 2, none⟩ = _ := hbox.b2
      go_simp
    walk_nrm
    refine Can.op (ok := okT) hS hL rfl rfl (by k_ne) (by kernel_rfl) (fun T d => ⟨.slice ta J.length tc, wl.re T d, ?_, fun _ => Can.re ?_ T d⟩)
    · go_simp
    walk_nrm
    refine Can.op (ok := okT) hS hL rfl rfl (by k_ne) (by kernel_rfl) (fun T d => ⟨.slice ta J.length tc, wl.re T d, ?_, fun _ => Can.re ?_ T d⟩)
    · go_simp
    walk_nrm
    refine Can.ctl hS hL rfl (fun _ => st_enter' (vs := #[.slice ta J.length tc]) rfl rfl (by k_ne) rfl Try.func37 rfl rfl (by kernel_rfl)) ?_
    refine call37 ?_
    walk_nrm
    exact tail _ _ _ _ _ _ _ _ _ _ _
  · simp only [ops10, headC, tailC, bodyC, body10, Try.f10, Option.getD_some]
    refine Can.op (ok := okT) hS hL rfl rfl (by k_ne) (by kernel_rfl) (fun T d => ⟨.agg #[.string κ.rule.text, .int .i64 (κ.bear : Nat), .int .i64 (κ.win : Nat)], wl.re T d, ?_, fun _ => Can.re ?_ T d⟩)
    · have g0 : (wl.re T d).cell? ⟨kb, 0, none⟩ = _ := hbox.b0
      have g1 : (wl.re T d).cell? ⟨kb, 1, none⟩ = _ := hbox.b1
      have g2 : (wl.re T d).cell? ⟨kb, 2, none⟩ = _ := hbox.b2
      go_simp
    walk_nrm
    refine Can.op (ok := okT) hS hL rfl rfl (by k_ne) (by kernel_rfl) (fun T d => ⟨.slice ta J.length tc, wl.re T d, ?_, fun _ => Can.re ?_ T d⟩)
    · go_simp
    walk_nrm
    refine Can.ctl hS hL rfl (fun _ => st_enter' (vs := #[.slice ta J.length tc]) rfl rfl (by k_ne) rfl Try.func37 rfl rfl (by kernel_rfl)) ?_
    refine call37 ?_
    walk_nrm
    refine Can.op (ok := okT) hS hL rfl rfl (by k_ne) (by kernel_rfl) (fun T d => ⟨.slice ta J.length tc, wl.re T d, ?_, fun _ => Can.re ?_ T d⟩)
    · go_simp
    walk_nrm
    exact tail _ _ _ _ _ _ _ _ _ _ _
  · simp only [ops10, headC, tailC, bodyC, body10, Try.f10, Option.getD_some]
    refine Can.op (ok := okT) hS hL rfl rfl (by k_ne) (by kernel_rfl) (fun T d => ⟨.slice ta J.length tc, wl.re T d, ?_, fun _ => Can.re ?_ T d⟩)
    · go_simp
    walk_nrm
    refine Can.op (ok := okT) hS hL rfl rfl (by k_ne) (by kernel_rfl) (fun T d => ⟨.agg #[.string κ.rule.text, .int .i64 (κ.bear : Nat), .int .i64 (κ.win : Nat)], wl.re T d, ?_, fun _ => Can.re ?_ T d⟩)
    · have g0 : (wl.re T d).cell? ⟨kb, 0, none⟩ = _ := hbox.b0
      have g1 : (wl.re T d).cell? ⟨kb, 1, none⟩ = _ := hbox.b1
      have g2 : (wl.re T d).cell? ⟨kb, 2, none⟩ = _ := hbox.b2
      go_simp
    walk_nrm
    refine Can.op (ok := okT) hS hL rfl rfl (by k_ne) (by kernel_rfl) (fun T d => ⟨.slice ta J.length tc, wl.re T d, ?_, fun _ => Can.re ?_ T d⟩)
    · go_simp
    walk_nrm
    refine Can.ctl hS hL rfl (fun _ => st_enter' (vs := #[.slice ta J.length tc]) rfl rfl (by k_ne) rfl Try.func37 rfl rfl (by kernel_rfl)) ?_
    refine call37 ?_
    walk_nrm
    exact tail _ _ _ _ _ _ _ _ _ _ _
  · simp only [ops10, headC, tailC, bodyC, body10, Try.f10, Option.getD_some]
    refine Can.op (ok := okT) hS hL rfl rfl (by k_ne) (by kernel_rfl) (fun T d => ⟨.slice ta J.length tc, wl.re T d, ?_, fun _ => Can.re ?_ T d⟩)
    · go_simp
    walk_nrm
    refine Can.op (ok := okT) hS hL rfl rfl (by k_ne) (by kernel_rfl) (fun T d => ⟨.slice ta J.length tc, wl.re T d, ?_, fun _ => Can.re ?_ T d⟩)
    · go_simp
    walk_nrm
    refine Can.op (ok := okT) hS hL rfl rfl (by k_ne) (by kernel_rfl) (fun T d => ⟨.agg #[.string κ.rule.text, .int .i64 (κ.bear : Nat), .int .i64 (κ.win : Nat)], wl.re T d, ?_, fun _ => Can.re ?_ T d⟩)
    · have g0 : (wl.re T d).cell? ⟨kb, 0, none⟩ = _ := hbox.b0
      have g1 : (wl.re T d).cell? ⟨kb, 1, none⟩ = _ := hbox.b1
      have g2 : (wl.re T d).cell? ⟨kb, 2, none⟩ = _ := hbox.b2
      go_simp
    walk_nrm
    refine Can.ctl hS hL rfl (fun _ => st_enter' (vs := #[.slice ta J.length tc]) rfl rfl (by k_ne) rfl Try.func37 rfl rfl (by kernel_rfl)) ?_
    refine call37 ?_
    walk_nrm
    exact tail _ _ _ _ _ _ _ _ _ _ _
  · simp only [ops10, headC, tailC, bodyC, body10, Try.f10, Option.getD_some]
    refine Can.op (ok := okT) hS hL rfl rfl (by k_ne) (by kernel_rfl) (fun T d => ⟨.slice ta J.length tc, wl.re T d, ?_, fun _ => Can.re ?_ T d⟩)
    · go_simp
    walk_nrm
    refine Can.op (ok := okT) hS hL rfl rfl (by k_ne) (by kernel_rfl) (fun T d => ⟨.slice ta J.length tc, wl.re T d, ?_, fun _ => Can.re ?_ T d⟩)
    · go_simp
    walk_nrm
    refine Can.ctl hS hL rfl (fun _ => st_enter' (vs := #[.slice ta J.length tc]) rfl rfl (by k_ne) rfl Try.func37 rfl rfl (by kernel_rfl)) ?_
    refine call37 ?_
    walk_nrm
    refine Can.op (ok := okT) hS hL rfl rfl (by k_ne) (by kernel_rfl) (fun T d => ⟨.agg #[.string κ.rule.text, .int .i64 (κ.bear : Nat), .int .i64 (κ.win : Nat)], wl.re T d, ?_, fun _ => Can.re ?_ T d⟩)
    · have g0 : (wl.re T d).cell? ⟨kb, 0, none⟩ = _ := hbox.b0
      have g1 : (wl.re T d).cell? ⟨kb, 1, none⟩ = _ := hbox.b1
      have g2 : (wl.re T d).cell? ⟨kb, 2, none⟩ = _ := hbox.b2
      go_simp
    walk_nrm
    exact tail _ _ _ _ _ _ _ _ _ _ _
  · simp only [ops10, headC, tailC, bodyC, body10, Try.f10, Option.getD_some]
    refine Can.op (ok := okT) hS hL rfl rfl (by k_ne) (by kernel_rfl) (fun T d => ⟨.slice ta J.length tc, wl.re T d, ?_, fun _ => Can.re ?_ T d⟩)
    · go_simp
    walk_nrm
    refine Can.op (ok := okT) hS hL rfl rfl (by k_ne) (by kernel_rfl) (fun T d => ⟨.agg #[.string κ.rule.text, .int .i64 (κ.bear : Nat), .int .i64 (κ.win : Nat)], wl.re T d, ?_, fun _ => Can.re ?_ T d⟩)
    · have g0 : (wl.re T d).cell? ⟨kb, 0, none⟩ = _ := hbox.b0
      have g1 : (wl.re T d).cell? ⟨kb, 1, none⟩ = _ := hbox.b1
      have g2 : (wl.re T d).cell? ⟨kb, 2, none⟩ = _ := hbox.b2
      go_simp
    walk_nrm
    refine Can.op (ok := okT) hS hL rfl rfl (by k_ne) (by kernel_rfl) (fun T d => ⟨.slice ta J.length tc, wl.re T d, ?_, fun _ => Can.re ?_ T d⟩)
    · go_simp
    walk_nrm
    refine Can.ctl hS hL rfl (fun _ => st_enter' (vs := #[.slice ta J.length tc]) rfl rfl (by k_ne) rfl Try.func37 rfl rfl (by kernel_rfl)) ?_
    refine call37 ?_
    walk_nrm
    exact tail _ _ _ _ _ _ _ _ _ _ _
  · simp only [ops10, headC, tailC, bodyC, body10, Try.f10, Option.getD_some]
    refine Can.op (ok := okT) hS hL rfl rfl (by k_ne) (by kernel_rfl) (fun T d => ⟨.slice ta J.length tc, wl.re T d, ?_, fun _ => Can.re ?_ T d⟩)
    · go_simp
    walk_nrm
    refine Can.op (ok := okT) hS hL rfl rfl (by k_ne) (by kernel_rfl) (fun T d => ⟨.agg #[.string κ.rule.text, .int .i64 (κ.bear : Nat), .int .i64 (κ.win : Nat)], wl.re T d, ?_, fun _ => Can.re ?_ T d⟩)
    · have g0 : (wl.re T d).cell? ⟨kb, 0, none⟩ = _ := hbox.b0
      have g1 : (wl.re T d).cell? ⟨kb, 1, none⟩ = _ := hbox.b1
      have g2 : (wl.re T d).cell? ⟨kb, 2, none⟩ = _ := hbox.b2
      go_simp
    walk_nrm
    refine Can.ctl hS hL rfl (fun _ => st_enter' (vs := #[.slice ta J.length tc]) rfl rfl (by k_ne) rfl Try.func37 rfl rfl (by kernel_rfl)) ?_
    refine call37 ?_
    walk_nrm
    refine Can.op (ok := okT) hS hL rfl rfl (by k_ne) (by kernel_rfl) (fun T d => ⟨.slice ta J.length tc, wl.re T d, ?_, fun _ => Can.re ?_ T d⟩)
    · go_simp
    walk_nrm
    exact tail _ _ _ _ _ _ _ _ _ _ _
  · simp only [ops10, headC, tailC, bodyC, body10, Try.f10, Option.getD_some]
    refine Can.op (ok := okT) hS hL rfl rfl (by k_ne) (by kernel_rfl) (fun T d => ⟨.slice ta J.length tc, wl.re T d, ?_, fun _ => Can.re ?_ T d⟩)
    · go_simp
    walk_nrm
    refine Can.op (ok := okT) hS hL rfl rfl (by k_ne) (by kernel_rfl) (fun T d => ⟨.slice ta J.length tc, wl.re T d, ?_, fun _ => Can.re ?_ T d⟩)
    · go_simp
    walk_nrm
    refine Can.op (ok := okT) hS hL rfl rfl (by k_ne) (by kernel_rfl) (fun T d => ⟨.agg #[.string κ.rule.text, .int .i64 (κ.bear : Nat), .int .i64 (κ.win : Nat)], wl.re T d, ?_, fun _ => Can.re ?_ T d⟩)
    · have g0 : (wl.re T d).cell? ⟨kb, 0, none⟩ = _ := hbox.b0
      have g1 : (wl.re T d).cell? ⟨kb, 1, none⟩ = _ := hbox.b1
      have g2 : (wl.re T d).cell? ⟨kb, 2, none⟩ = _ := hbox.b2
      go_simp
    walk_nrm
    refine Can.ctl hS hL rfl (fun _ => st_enter' (vs := #[.slice ta J.length tc]) rfl rfl (by k_ne) rfl Try.func37 rfl rfl (by kernel_rfl)) ?_
    refine call37 ?_
    walk_nrm
    exact tail _ _ _ _ _ _ _ _ _ _ _
  · simp only [ops10, headC, tailC, bodyC, body10, Try.f10, Option.getD_some]
    refine Can.op (ok := okT) hS hL rfl rfl (by k_ne) (by kernel_rfl) (fun T d => ⟨.slice ta J.length tc, wl.re T d, ?_, fun _ => Can.re ?_ T d⟩)
    · go_simp
    walk_nrm
    refine Can.op (ok := okT) hS hL rfl rfl (by k_ne) (by kernel_rfl) (fun T d => ⟨.slice ta J.length tc, wl.re T d, ?_, fun _ => Can.re ?_ T d⟩)
    · go_simp
    walk_nrm
    refine Can.ctl hS hL rfl (fun _ => st_enter' (vs := #[.slice ta J.length tc]) rfl rfl (by k_ne) rfl Try.func37 rfl rfl (by kernel_rfl)) ?_
    refine call37 ?_
    walk_nrm
    refine Can.op (ok := okT) hS hL rfl rfl (by k_ne) (by kernel_rfl) (fun T d => ⟨.agg #[.string κ.rule.text, .int .i64 (κ.bear : Nat), .int .i64 (κ.win : Nat)], wl.re T d, ?_, fun _ => Can.re ?_ T d⟩)
    · have g0 : (wl.re T d).cell? ⟨kb, 0, none⟩ = _ := hbox.b0
      have g1 : (wl.re T d).cell? ⟨kb, 1, none⟩ = _ := hbox.b1
      have g2 : (wl.re T d).cell? ⟨kb, 2, none⟩ = _ := hbox.b2
      go_simp
    walk_nrm
    exact tail _ _ _ _ _ _ _ _ _ _ _
  · simp only [ops10, headC, tailC, bodyC, body10, Try.f10, Option.getD_some]
    refine Can.op (ok := okT) hS hL rfl rfl (by k_ne) (by kernel_rfl) (fun T d => ⟨.slice ta J.length tc, wl.re T d, ?_, fun _ => Can.re ?_ T d⟩)
    · go_simp
    walk_nrm
    refine Can.ctl hS hL rfl (fun _ => st_enter' (vs := #[.slice ta J.length tc]) rfl rfl (by k_ne) rfl Try.func37 rfl rfl (by kernel_rfl)) ?_
    refine call37 ?_
    walk_nrm
    refine Can.op (ok := okT) hS hL rfl rfl (by k_ne) (by kernel_rfl) (fun T d => ⟨.agg #[.string κ.rule.text, .int .i64 (κ.bear : Nat), .int .i64 (κ.win : Nat)], wl.re T d, ?_, fun _ => Can.re ?_ T d⟩)
    · have g0 : (wl.re T d).cell? ⟨kb, 0, none⟩ = _ := hbox.b0
      have g1 : (wl.re T d).cell? ⟨kb, 1, none⟩ = _ := hbox.b1
      have g2 : (wl.re T d).cell? ⟨kb, 2, none⟩ = _ := hbox.b2
      go_simp
    walk_nrm
    refine Can.op (ok := okT) hS hL rfl rfl (by k_ne) (by kernel_rfl) (fun T d => ⟨.slice ta J.length tc, wl.re T d, ?_, fun _ => Can.re ?_ T d⟩)
    · go_simp
    walk_nrm
    exact tail _ _ _ _ _ _ _ _ _ _ _
  · simp only [ops10, headC, tailC, bodyC, body10, Try.f10, Option.getD_some]
    refine Can.op (ok := okT) hS hL rfl rfl (by k_ne) (by kernel_rfl) (fun T d => ⟨.slice ta J.length tc, wl.re T d, ?_, fun _ => Can.re ?_ T d⟩)
    · go_simp
    walk_nrm
    refine Can.ctl hS hL rfl (fun _ => st_enter' (vs := #[.slice ta J.length tc]) rfl rfl (by k_ne) rfl Try.func37 rfl rfl (by kernel_rfl)) ?_
    refine call37 ?_
    walk_nrm
    refine Can.op (ok := okT) hS hL rfl rfl (by k_ne) (by kernel_rfl) (fun T d => ⟨.slice ta J.length tc, wl.re T d, ?_, fun _ => Can.re ?_ T d⟩)
    · go_simp
    walk_nrm
    refine Can.op (ok := okT) hS hL rfl rfl (by k_ne) (by kernel_rfl) (fun T d => ⟨.agg #[.string κ.rule.text, .int .i64 (κ.bear : Nat), .int .i64 (κ.win : Nat)], wl.re T d, ?_, fun _ => Can.re ?_ T d⟩)
    · have g0 : (wl.re T d).cell? ⟨kb, 0, none⟩ = _ := hbox.b0
      have g1 : (wl.re T d).cell? ⟨kb, 1, none⟩ = _ := hbox.b1
      have g2 : (wl.re T d).cell? ⟨kb, 2, none⟩ = _ := hbox.b2
      go_simp
    walk_nrm
    exact tail _ _ _ _ _ _ _ _ _ _ _
end
end Go.Town.Kp
namespace Go.Town.Kp
open Go Go.Conc Go.Conc.Lib Go.ConcR.Gen Go.RowKit Go.Town Go.Proofs
open Go.ConcN (upd upd_ne upd_same)
section
variable {A : At} {C : Cfg} {L : Nat → Ws} {Post : Value → World → Prop} {N k : Nat} {wl : World} {i : Nat} {cs : List Frame} {slot : Nat → Option Nat} {sum starts : Nat → Int} {b₀ : Frame} {a₀ : Act} {ops₀ : Array Oper} {i₀ : Nat} {rest₀ : List Nat} {k₀ : List Item}
variable {l : List UInt8} {f t : Int} {J : List (List Int)} {tc : Nat} {ta : Option Addr} {C₀ : Cfg} {b' o' Bd : Nat}
theorem text_list (r : Rule) : (⟨r.text.data.toList.toArray⟩ : ByteArray) = r.text := by cases r <;> rfl
set_option maxRecDepth 100000 in
set_option maxHeartbeats 400000 in
theorem runKeeper (hp : OkProg Try.prog okT) (hn : J.length ≤ 1048576) (hm : ∀ l ∈ J, l.length ≤ 1048576) (hBd : Bd < 2000000000) (hL : Lay C₀ wl) (hR : RowsAt wl ta J)
    (hbad : (vK l f t && vT J) = false → ∀ wl', Lay C₀ wl' → Kin wl.heap.size wl wl' → Can Try.prog C₀ b' o' Post 0 (AloneB Bd) wl' (G (b₀.at (a₀.put ((ops₀[i₀]?).bind (·.dst)) (.tuple #[(.agg #[.slice none 0 0, .slice none 0 0, .string ⟨#[]⟩, .int .i64 0]), .bool false])) (.inRegion ops₀ rest₀ :: k₀)) cs))
    (hgood : ∀ κ : Kr, l = κ.rule.text.data.toList → f = (κ.bear : Nat) → t = (κ.win : Nat) → κ.bear ≤ 20 → 0 < κ.win → κ.win ≤ 20 → vT J = true → ∀ C' b₁ sa st wl', Lay C' wl' → Kin wl.heap.size wl wl' → wl.heap.size ≤ sa → wl.heap.size ≤ st → sa ≠ st → (∀ i, i < J.length → wl'.cell? ⟨sa, i, none⟩ = some (.int .i64 ((runT κ J (mxR J J.length) 0 St.zero).1.sum i)) ∧ wl'.frozen? ⟨sa, i, none⟩ = false) → (∀ i, i < J.length → wl'.cell? ⟨st, i, none⟩ = some (.int .i64 ((runT κ J (mxR J J.length) 0 St.zero).1.starts i)) ∧ wl'.frozen? ⟨st, i, none⟩ = false) →
      Can Try.prog C' b₁ 5 Post 0 (AloneB (Bd + 400)) wl' (G (b₀.at (a₀.put ((ops₀[i₀]?).bind (·.dst)) (.tuple #[(.agg #[.slice (some ⟨sa, 0, none⟩) J.length J.length, .slice (some ⟨st, 0, none⟩) J.length J.length, .string (endText (runT κ J (mxR J J.length) 0 St.zero).1.over), .int .i64 ((runT κ J (mxR J J.length) 0 St.zero).2 : Nat)]), .bool true])) (.inRegion ops₀ rest₀ :: k₀)) cs)) :
    Can Try.prog C₀ b' o' Post 0 (AloneB Bd) wl (G ((base 10).at ⟨#[.agg #[.string ⟨l.toArray⟩, .int .i64 f, .int .i64 t], .slice ta J.length tc] ++ Array.replicate 18 undef, []⟩ [.code body10]) (b₀.at a₀ (.inRegion ops₀ (i₀ :: rest₀) :: k₀) :: cs)) := by
  refine rk_first hp hL hn hm hR hbad ?_
  intro hk hv z3 z6 z7 z8 z9 z10 z11 z12 z13 z14 z15 z16 z17 z18 z19 w₂ hL₂ G₂ r₂ q₂ z₂
  obtain ⟨κ, rfl, rfl, rfl, k1, k2, k3⟩ := vK_spec hk
  obtain ⟨v1, v2, v3, v4⟩ := vT_spec hv
  simp only [text_list] at r₂ ⊢
  refine rk_second (B := wl.heap.size) hp v2 v1 v3 k2 k3 k1 v4 hBd hL₂ (hR.kept G₂.cells G₂.size) q₂ (by omega) (by omega) ⟨(r₂ 0 (by simp)).1, (r₂ 1 (by simp)).1, (r₂ 2 (by simp)).1⟩ ?_
  intro C' b₁ sa st wl' hL' kin a1 a2 a3 hs1 hs2
  have := G₂.size
  exact hgood κ rfl rfl rfl k1 k2 k3 hv C' b₁ sa st wl' hL' (G₂.trans kin) (by omega) (by omega) a3 hs1 hs2
end
end Go.Town.Kp
namespace Go.Town.Kp
open Go Go.Conc Go.Conc.Lib Go.ConcR.Gen Go.RowKit Go.Town Go.Proofs
open Go.ConcN (upd upd_ne upd_same)
noncomputable def body14 : Code := Try.f14.body.getD .skip
noncomputable def bad14 : Code := match tailC 1 (headC 1 body14) with | .cond _ c _ => c | c => c
def vA (n : Int) : Bool := decide (0 ≤ n) && decide (n ≤ 20)
section
variable {A : At} {C : Cfg} {L : Nat → Ws} {Post : Value → World → Prop} {N k : Nat} {wl : World} {i : Nat} {cs : List Frame} {slot : Nat → Option Nat} {sum starts : Nat → Int} {b₀ : Frame} {a₀ : Act} {ops₀ : Array Oper} {i₀ : Nat} {rest₀ : List Nat} {k₀ : List Item}
variable {l : List UInt8} {f t n : Int} {J : List (List Int)} {tc : Nat} {ta : Option Addr} {C₀ : Cfg} {b' o' Bd : Nat}
end
end Go.Town.Kp
namespace Go.Town.Kp
open Go Go.Conc Go.Conc.Lib Go.ConcR.Gen Go.RowKit Go.Town Go.Proofs
open Go.ConcN (upd upd_ne upd_same)
def cntF (F : List Nat) (t : Nat) : Int := (F.count t : Nat)
def recent (F : List Nat) (tick win : Nat) : Nat := F.countP fun f => decide (tick < f + win)
theorem sumR_congr {f g : Nat → Int} (h : ∀ t, f t = g t) (a : Nat) : ∀ m, sumR f a m = sumR g a m
  | 0 => rfl
  | m + 1 => by simp only [sumR, sumR_congr h a m, h]
theorem sumR_zero (a : Nat) : ∀ m, sumR (fun _ => 0) a m = 0
  | 0 => rfl
  | m + 1 => by simp only [sumR, sumR_zero a m]; rfl
theorem sumR_add (f g : Nat → Int) (a : Nat) : ∀ m, sumR (fun t => f t + g t) a m = sumR f a m + sumR g a m
  | 0 => rfl
  | m + 1 => by simp only [sumR, sumR_add f g a m]; omega
theorem sumR_one (x a : Nat) : ∀ m, sumR (fun t => if x = t then 1 else 0) a m = if a ≤ x ∧ x < a + m then 1 else 0
  | 0 => by simp only [sumR]; rw [if_neg (by omega)]
  | m + 1 => by
    simp only [sumR, sumR_one x a m]
    by_cases h : x = a + m
    · rw [if_neg (by omega), if_pos h, if_pos (by omega)]; rfl
    · rw [if_neg h]
      by_cases h2 : a ≤ x ∧ x < a + m
      · rw [if_pos h2, if_pos (by omega)]; rfl
      · rw [if_neg h2, if_neg (by omega)]; rfl
theorem recent_fin {tick win : Nat} (hw : 0 < win) : ∀ (F : List Nat), (∀ f ∈ F, f ≤ tick) → (recent F tick win : Int) = fin (cntF F) tick win
  | [], _ => by
    unfold fin
    rw [sumR_congr (g := fun _ => 0) (fun t => by simp [cntF]), sumR_zero]
    rfl
  | x :: F, h => by
    have ih := recent_fin hw F (fun f hf => h f (by simp [hf]))
    have hx := h x (by simp)
    have e : ∀ t, cntF (x :: F) t = cntF F t + (if x = t then 1 else 0) := fun t => by
      unfold cntF
      rw [List.count_cons]
      by_cases e : x = t
      · subst e; simp
      · have e2 : (x == t) = false := by simp [e]
        simp [e, e2]
    unfold fin at ih ⊢
    rw [sumR_congr e, sumR_add, sumR_one, ← ih]
    unfold recent
    rw [List.countP_cons]
    by_cases h2 : tick < x + win
    · rw [if_pos (by simpa using h2), if_pos (by omega)]; simp
    · rw [if_neg (by simpa using h2), if_neg (by omega)]; simp
theorem cntF_append (F : List Nat) (x : Nat) : cntF (F ++ [x]) = upd (cntF F) x (cntF F x + 1) := by
  funext t
  unfold cntF
  rw [List.count_append]
  by_cases e : t = x
  · subst e; rw [upd_same]; simp
  · rw [upd_ne _ _ e]
    have e2 : (x == t) = false := by simp [Ne.symm e]
    simp [List.count_cons, e2]
theorem recent_take (F : List Nat) (tick win k : Nat) (hk : k < F.length) : recent (F.take (k + 1)) tick win = recent (F.take k) tick win + if tick < F[k] + win then 1 else 0 := by
  unfold recent
  rw [List.take_succ_eq_append_getElem hk, List.countP_append]
  simp [List.countP_cons]
theorem recent_le (F : List Nat) (tick win : Nat) : recent F tick win ≤ F.length := List.countP_le_length ..
set_option maxRecDepth 100000 in
set_option maxHeartbeats 1000000 in
theorem l9Recent_any (a : Option Addr) (c : Nat) (F : List Nat) (tick win : Nat) (w : World) (hn : F.length ≤ 1048576) (ht : tick ≤ 1000) (hw : win ≤ 1000) (hF : ∀ f ∈ F, f ≤ 1000) (hA : IntsAt w a (F.map Int.ofNat)) :
    Calls Try.prog 66 #[.slice a F.length c, .int .i64 tick, .int .i64 win] w fun e w' => e = .returned (.int .i64 (recent F tick win : Nat)) ∧ w = w' := by
  go_enter Try.func66, Try.ntmps66
  go_wp2
  go_loop [7, 8] (fun r i => ∃ k : Nat, k ≤ F.length ∧ i = .int .i64 k ∧ r = .int .i64 (recent (F.take k) tick win : Nat)) (fun _ i => F.length - (intOf i).toNat)
  case atStart => exact ⟨0, Nat.zero_le _, rfl, rfl⟩
  case round =>
    obtain ⟨k, hk, rfl, rfl⟩ := hrel
    by_cases hlt : k < F.length
    · obtain ⟨b, off, rfl, hbs, hck⟩ := hA.at (i := k) (by simpa using hlt)
      replace hck : w.cell? ⟨b, off + k, none⟩ = some (.int .i64 (F[k] : Nat)) := by rw [hck]; simp
      have hlt' : (k : Int) < (F.length : Int) := by omega
      have hfk : F[k] ≤ 1000 := hF _ (List.getElem_mem hlt)
      have hs : Hid _ := ⟨recent_take F tick win k hlt⟩
      have hrl : recent (F.take k) tick win ≤ 1048576 := Nat.le_trans (recent_le _ _ _) (by rw [List.length_take]; omega)
      generalize recent (F.take k) tick win = r at *
      generalize F[k] = x at *
      by_cases hx : tick < x + win
      · have hx' : (tick : Int) - (win : Int) < (x : Int) := by omega
        rw [if_pos hx] at hs
        go_wp2
        go_round
        case rel => exact ⟨k + 1, by omega, by go_num, by rw [hs.out]; go_num⟩
        case measure => simp [intOf]; omega
      · have hx' : ¬ (tick : Int) - (win : Int) < (x : Int) := by omega
        rw [if_neg hx] at hs
        go_wp2
        go_round
        case rel => exact ⟨k + 1, by omega, by go_num, by rw [hs.out]; rfl⟩
        case measure => simp [intOf]; omega
    · obtain rfl : k = F.length := by omega
      have hs : Hid (recent (F.take F.length) tick win = recent F tick win) := ⟨by rw [List.take_length]⟩
      go_wp2
      go_ret
      exact ⟨by rw [← hs.out]; rfl, rfl⟩
set_option maxRecDepth 100000 in
set_option maxHeartbeats 1000000 in
theorem l9Restarted_any (r : Rule) (f v : Nat) (w : World) : Calls Try.prog 67 #[.string r.text, .int .i64 f, .int .i64 v] w fun e w' => e = .returned (.bool (hits r f v)) ∧ w = w' := by
  cases r <;> simp only [Rule.text, hits]
  · go_enter Try.func67, Try.ntmps67
    go_wp2
    go_ret
    exact ⟨ret_bool (by rw [Bool.eq_iff_iff]; simp; omega), rfl⟩
  · go_enter Try.func67, Try.ntmps67
    go_wp2
    go_ret
    exact ⟨rfl, rfl⟩
  · go_enter Try.func67, Try.ntmps67
    go_wp2
    go_ret
    exact ⟨rfl, rfl⟩
end Go.Town.Kp
