/-
  tick as a whole.
  newCrew: its memory, in whatever order.
-/
import Derived.Carry
import Derived.Test.YtihmcigoofhpmaaZbb
set_option linter.all false
namespace Go.Town.Kp
open Go Go.Conc Go.Conc.Lib Go.ConcR.Gen Go.RowKit Go.Town Go.Proofs
open Go.ConcN (upd upd_ne upd_same)
section
variable {A : At} {C : Cfg} {L : Nat → Ws} {Post : Value → World → Prop} {N k : Nat} {wl : World} {i : Nat} {cs : List Frame} {slot : Nat → Option Nat} {sum starts : Nat → Int} {b₀ : Frame} {a₀ : Act} {ops₀ : Array Oper} {i₀ : Nat} {rest₀ : List Nat} {k₀ : List Item}
variable {κ : Kr} {J : List (List Int)} {tick fb kb tc B : Nat} {ta : Option Addr} {s : St}
theorem Kept.alloc (K : Kept A C L slot sum starts wl) (o : Obj) (hL : Lay C (wl.alloc o)) : Kept A C L slot sum starts (wl.alloc o) :=
  ⟨K.ok, K.mem.alloc o, let ⟨es, clock, h⟩ := K.has; ⟨es, clock, h.other ((heap_alloc_lt h.heap).trans h.heap.symm)⟩, ⟨K.chans.inj, Ch.alloc K.chans.rp _, fun l x hl hx => ⟨(K.chans.xs l x hl hx).1, Ch.alloc (K.chans.xs l x hl hx).2 _⟩⟩, hL, K.posts, K.apart, K.own, K.all⟩
set_option maxRecDepth 100000 in
set_option maxHeartbeats 1000000 in
theorem tick_loop (hp : OkProg Try.prog okT) (hn : Hid (A.n = J.length)) (hJ : TasksIn J) (F : Far A B fb kb) (ht : tick < 20) (hw0 : 0 < κ.win) (hw : κ.win ≤ 20) (hb : κ.bear ≤ 20) (hn4 : A.n ≤ 4) : ∀ (m : Nat) {z5 z7 z8 z9 za zb zc zd ze zf zg zh zi zj zk zl zm zn zo zp zq zr zs zt zu zv zw zx zy zz zA zB zC zD zE zF zG zH zI zJ zK zL zM zN : Value} {C : Cfg} {L : Nat → Ws} {N c : Nat} {wl : World} {i : Nat} {slot : Nat → Option Nat} {s : St}, J.length - i = m → i ≤ J.length → 0 < N → N + m * 4 < 2147483600 → (∀ j, N ≤ j → L j = .gone) → Kept A C L slot s.sum s.starts wl → (∀ l, l < A.n → ∃ x, slot l = some x) →
    Small c s → s.over = false → c + m ≤ 900 → FlAt fb s.fl wl → BoxAt kb κ wl → RowsIn B wl ta J →
    (∀ C' L' N' slot' wl', Kept A C' L' slot' (runW κ J tick m i s).sum (runW κ J tick m i s).starts wl' → SideF A fb wl wl' → FlAt fb (runW κ J tick m i s).fl wl' → ((runW κ J tick m i s).over = false → ∀ l, l < A.n → ∃ x, slot' l = some x) → N ≤ N' → N' ≤ N + m * 4 → (∀ j, N' ≤ j → L' j = .gone) → Can Try.prog C' A.c 5 Post 0 (Crew A.c A.rp N' L') wl' (G (b₀.at (a₀.put ((ops₀[i₀]?).bind (·.dst)) (.bool (runW κ J tick m i s).over)) (.inRegion ops₀ rest₀ :: k₀)) cs)) →
    Can Try.prog C A.c 5 Post 0 (Crew A.c A.rp N L) wl (G ((base 49).at ⟨#[.pointer (some ⟨A.c, 0, none⟩), .agg #[.string κ.rule.text, .int .i64 (κ.bear : Nat), .int .i64 (κ.win : Nat)], .slice ta J.length tc, .int .i64 (tick : Nat), .slice (some ⟨fb, 0, none⟩) 20 20, z5, .pointer (some ⟨kb, 0, none⟩), z7, z8, z9, .bool false, za, zb, .slice ta J.length tc, .int .i64 (J.length : Nat), .int .i64 (i : Nat), zc, zd, ze, zf, zg, zh, zi, zj, zk, zl, zm, zn, zo, zp, zq, zr, zs, zt, zu, zv, zw, zx, zy, zz, zA, zB, zC, zD, zE, zF, zG, zH, zI, zJ, zK, zL, zM, zN], []⟩ [.code loop49, .inLoop loop49, .inBlock 0, .code (tailC 2 body49)]) (b₀.at a₀ (.inRegion ops₀ (i₀ :: rest₀) :: k₀) :: cs)) := by
  intro m
  induction m with
  | zero =>
    intro z5 z7 z8 z9 za zb zc zd ze zf zg zh zi zj zk zl zm zn zo zp zq zr zs zt zu zv zw zx zy zz zA zB zC zD zE zF zG zH zI zJ zK zL zM zN C L N c wl i slot s hm hi hN hNb hg Kp hall hsm hover hcm hF hBox hR h
    obtain rfl : i = J.length := by omega
    clear hm
    have hle : J.length ≤ 1048576 := by rw [← hn.out]; exact Kp.ok.le
    have hS := (crew_free A.c A.rp N L).steady
    have hL := Kp.lay
    rw [loop49_eq]
    refine Can.ctl hS hL rfl (fun _ => stepG_seq) ?_
    refine Can.code' hp hS hL (okFr_at (by kernel_rfl) rfl rfl ⟨_, Try.func49⟩) ?_
    intro T d W hW B hB
    simp only [headC, tailC, bodyC, loop49, body49, Try.f49, Option.getD_some]
    go_wp2
    have hB := hB.out
    subst hB
    intro hc
    have hW := hW.out
    subst hW
    refine Can.re ?_ T d
    clear hc
    refine Can.ctl hS hL rfl (fun _ => stepG_seq) ?_
    refine Can.ctl hS hL rfl (fun _ => stepG_cond (t := false) rfl) ?_; simp only [if_true, if_false, Bool.false_eq_true, ↓reduceIte]
    refine Can.ctl hS hL rfl (fun _ => stepG_exit rfl) ?_
    refine Can.code' hp hS hL (okFr_at (by kernel_rfl) rfl rfl ⟨_, Try.func49⟩) ?_
    intro T d W hW B hB
    simp only [headC, tailC, bodyC, body49, Try.f49, Option.getD_some]
    go_wp2
    have hB := hB.out
    subst hB
    intro hc todo
    have hW := hW.out
    subst hW
    refine Can.re ?_ T d
    clear hc
    refine Can.ctl hS hL rfl (fun _ => st_leave1 rfl rfl Try.func49 rfl) ?_
    have h := h C L N slot wl Kp ((Side.refl A wl).toF fb) hF (fun _ => hall) (Nat.le_refl _) (by omega) hg
    simp only [runW, hover] at h
    exact h
  | succ m ih =>
    intro z5 z7 z8 z9 za zb zc zd ze zf zg zh zi zj zk zl zm zn zo zp zq zr zs zt zu zv zw zx zy zz zA zB zC zD zE zF zG zH zI zJ zK zL zM zN C L N c wl i slot s hm hi hN hNb hg Kp hall hsm hover hcm hF hBox hR h
    have hlt : i < J.length := by omega
    replace hm : J.length ≤ i + (m + 1) ∧ i + (m + 1) ≤ J.length := by omega
    have hle : J.length ≤ 1048576 := by rw [← hn.out]; exact Kp.ok.le
    have hS := (crew_free A.c A.rp N L).steady
    have hL := Kp.lay
    have hsm₂ := hsm.one κ hJ tick i
    rw [loop49_eq]
    refine Can.ctl hS hL rfl (fun _ => stepG_seq) ?_
    refine Can.code' hp hS hL (okFr_at (by kernel_rfl) rfl rfl ⟨_, Try.func49⟩) ?_
    intro T d W hW B hB
    simp only [headC, tailC, bodyC, loop49, body49, Try.f49, Option.getD_some]
    have hlt2 : (i : Int) < (J.length : Int) := by omega
    go_wp2
    have hB := hB.out
    subst hB
    intro hc
    have hW := hW.out
    subst hW
    refine Can.re ?_ T d
    clear hc
    refine Can.ctl hS hL rfl (fun _ => stepG_seq) ?_
    refine Can.ctl hS hL rfl (fun _ => stepG_cond (t := true) rfl) ?_; simp only [if_true, if_false, Bool.false_eq_true, ↓reduceIte]
    refine Can.ctl hS hL rfl (fun _ => stepG_skip) ?_
    refine Can.ctl hS hL rfl (fun _ => stepG_seq) ?_
    refine Can.ctl hS hL rfl (fun _ => stepG_block) ?_
    rw [← loop49_eq]
    refine tick_one (c := c) hp hn hN (by omega) hg Kp hall hsm hover (by omega) hJ F hF hBox hR ht hw0 hw hb hlt ?_ ?_
    · intro hov y5 y7 y8 y9 y11 y12 y16 y17 y18 y19 y20 y21 y22 y23 y24 y25 y26 y27 y28 y29 y30 y31 y32 y33 y34 y35 y36 y37 y38 y39 y40 y41 y42 y43 y44 y45 y46 y47 y48 y49 y50 y51 y52 y53 C' L' N' slot' w₂ K₂ sd₂ fl₂ all₂ h1 h2 hg₂
      have hS₂ := (crew_free A.c A.rp N' L').steady
      have hL₂ := K₂.lay
      have hh : runW κ J tick (m + 1) i s = runW κ J tick m (i + 1) (stepW κ J tick i s) := by
        conv => lhs; unfold runW
        rw [hov]; simp
      rw [hh] at h
      clear hh
      refine Can.code' hp hS₂ hL₂ (okFr_at (by kernel_rfl) rfl rfl ⟨_, Try.func49⟩) ?_
      intro T d W hW B hB
      simp only [headC, tailC, bodyC, loop49, body49, Try.f49, Option.getD_some]
      go_wp2
      have hB := hB.out
      subst hB
      intro hc
      have hW := hW.out
      subst hW
      refine Can.re ?_ T d
      clear hc
      refine Can.ctl hS₂ hL₂ rfl (fun _ => stepG_inLoop) ?_
      rw [show ((i : Int) + 1) = ((i + 1 : Nat) : Int) from by omega]
      refine ih (c := c + 1) (by omega) (by omega) (by omega) (by omega) hg₂ K₂ all₂ hsm₂ hov (by omega) fl₂ (hBox.side F sd₂) (hR.side F sd₂) ?_
      intro C' L' N'' slot' wl' K' sd' fl' al' h3 h4 hg'
      exact h C' L' N'' slot' wl' K' (sd₂.trans sd') fl' al' (by omega) (by omega) hg'
    · intro hov C' L' N' slot' wl' K' sd' fl' h1 h2 hg'
      have hh : runW κ J tick (m + 1) i s = stepW κ J tick i s := by
        conv => lhs; unfold runW
        rw [if_pos hov]
      rw [hh] at h
      have h := h C' L' N' slot' wl' K' sd' fl' (fun h => by rw [hov] at h; cases h) h1 (by omega) hg'
      rw [hov] at h
      exact h
set_option maxRecDepth 100000 in
set_option maxHeartbeats 1000000 in
theorem tickAll {c : Nat} (hp : OkProg Try.prog okT) (hn : Hid (A.n = J.length)) (hJ : TasksIn J) (F : ∀ kb, wl.heap.size ≤ kb → Far A B fb kb) (ht : tick < 20) (hw0 : 0 < κ.win) (hw : κ.win ≤ 20) (hb : κ.bear ≤ 20) (hn4 : A.n ≤ 4) (hN : 0 < N) (hNb : N + 16 < 2147483600) (hg : ∀ j, N ≤ j → L j = .gone) (Kp : Kept A C L slot s.sum s.starts wl) (hall : ∀ l, l < A.n → ∃ x, slot l = some x)
    (hsm : Small c s) (hover : s.over = false) (hcm : c ≤ 800) (hF : FlAt fb s.fl wl) (hR : RowsIn B wl ta J)
    (h : (∀ C' L' N' slot' wl', Kept A C' L' slot' (tickW κ J tick s).sum (tickW κ J tick s).starts wl' → SideF A fb wl wl' → FlAt fb (tickW κ J tick s).fl wl' → ((tickW κ J tick s).over = false → ∀ l, l < A.n → ∃ x, slot' l = some x) → N ≤ N' → N' ≤ N + 16 → (∀ j, N' ≤ j → L' j = .gone) → Can Try.prog C' A.c 5 Post 0 (Crew A.c A.rp N' L') wl' (G (b₀.at (a₀.put ((ops₀[i₀]?).bind (·.dst)) (.bool (tickW κ J tick s).over)) (.inRegion ops₀ rest₀ :: k₀)) cs))) :
    Can Try.prog C A.c 5 Post 0 (Crew A.c A.rp N L) wl (G ((base 49).at ⟨#[.pointer (some ⟨A.c, 0, none⟩), .agg #[.string κ.rule.text, .int .i64 (κ.bear : Nat), .int .i64 (κ.win : Nat)], .slice ta J.length tc, .int .i64 (tick : Nat), .slice (some ⟨fb, 0, none⟩) 20 20] ++ Array.replicate 49 undef, []⟩ [.code body49]) (b₀.at a₀ (.inRegion ops₀ (i₀ :: rest₀) :: k₀) :: cs)) := by
  have hS := (crew_free A.c A.rp N L).steady
  have hL := Kp.lay
  have hl4 : J.length ≤ 4 := by rw [← hn.out]; exact hn4
  have ea : (#[.pointer (some ⟨A.c, 0, none⟩), .agg #[.string κ.rule.text, .int .i64 (κ.bear : Nat), .int .i64 (κ.win : Nat)], .slice ta J.length tc, .int .i64 (tick : Nat), .slice (some ⟨fb, 0, none⟩) 20 20] ++ Array.replicate 49 undef : Array Value) = #[.pointer (some ⟨A.c, 0, none⟩), .agg #[.string κ.rule.text, .int .i64 (κ.bear : Nat), .int .i64 (κ.win : Nat)], .slice ta J.length tc, .int .i64 (tick : Nat), .slice (some ⟨fb, 0, none⟩) 20 20, undef, undef, undef, undef, undef, undef, undef, undef, undef, undef, undef, undef, undef, undef, undef, undef, undef, undef, undef, undef, undef, undef, undef, undef, undef, undef, undef, undef, undef, undef, undef, undef, undef, undef, undef, undef, undef, undef, undef, undef, undef, undef, undef, undef, undef, undef, undef, undef, undef] := by kernel_rfl
  rw [ea, body49_eq]
  refine Can.ctl hS hL rfl (fun _ => stepG_seq) ?_
  refine Can.code' hp hS hL (okFr_at (by kernel_rfl) rfl rfl ⟨_, Try.func49⟩) ?_
  intro T d W hW B hB
  simp only [headC, tailC, bodyC, body49, Try.f49, Option.getD_some]
  go_wp2
  have hB := hB.out
  subst hB
  intro hc
  have hW := hW.out
  subst hW
  have K₂ := (Kp.re T d).alloc _ ⟨hc, hL.no⟩
  have S₂ : SideF A fb wl ((wl.re T d).alloc (.cells #[.string κ.rule.text, .int .i64 (κ.bear : Nat), .int .i64 (κ.win : Nat)] 24)) := (((Side.refl A wl).re T d).alloc _).toF fb
  have hsz : (wl.re T d).heap.size = wl.heap.size := rfl
  have B₂ : BoxAt wl.heap.size κ ((wl.re T d).alloc (.cells #[.string κ.rule.text, .int .i64 (κ.bear : Nat), .int .i64 (κ.win : Nat)] 24)) := ⟨cell_new rfl, cell_new rfl, cell_new rfl⟩
  have F' := F wl.heap.size (Nat.le_refl _)
  have F₂ : FlAt fb s.fl ((wl.re T d).alloc (.cells #[.string κ.rule.text, .int .i64 (κ.bear : Nat), .int .i64 (κ.win : Nat)] 24)) := FlAt.side (A := A) hF (((Side.refl A wl).re T d).alloc _) F'.f0 F'.f1 F'.f2 F'.f3
  have R₂ := hR.side F' S₂
  simp only [hsz] at *
  generalize hkb : wl.heap.size = kb at *
  generalize (wl.re T d).alloc (.cells #[.string κ.rule.text, .int .i64 (κ.bear : Nat), .int .i64 (κ.win : Nat)] 24) = w₂ at *
  have hL₂ := K₂.lay
  clear hc
  refine Can.ctl hS hL₂ rfl (fun _ => stepG_seq) ?_
  refine Can.ctl hS hL₂ rfl (fun _ => stepG_seq) ?_
  refine Can.code' hp hS hL₂ (okFr_at (by kernel_rfl) rfl rfl ⟨_, Try.func49⟩) ?_
  intro T d W hW B hB
  simp only [headC, tailC, bodyC, body49, Try.f49, Option.getD_some]
  go_wp2
  have hB := hB.out
  subst hB
  intro hc
  have hW := hW.out
  subst hW
  refine Can.re ?_ T d
  clear hc
  refine Can.ctl hS hL₂ rfl (fun _ => stepG_block) ?_
  refine Can.ctl hS hL₂ rfl (fun _ => stepG_loop) ?_
  refine tick_loop (i := 0) (c := c) hp hn hJ F' ht hw0 hw hb hn4 J.length rfl (Nat.zero_le _) hN (by omega) hg K₂ hall hsm hover (by omega) F₂ B₂ R₂ ?_
  intro C' L' N' slot' wl' K' sd' fl' al' h1 h2 hg'
  exact h C' L' N' slot' wl' K' (S₂.trans sd') fl' al' h1 (by omega) hg'
theorem st_tick {P : Program} {main : Bool} {b : Frame} {a : Act} {k : List Item} {cs : List Frame} {ops : Array Oper} {i : Nat} {rest : List Nat} {o : Oper} {w : World} {args : Array Operand} {ats : Array TypeId} {p q r s t : Value} (hP : P.funcs[49]? = some Try.f49) (ho : ops[i]? = some o) (hw : Region.wanted o (yielded ops a.tmps) = true) (hk : b.kind ≠ .early) (hop : o.op = .call { callee := .value (.func 49), args := args, argTypes := ats }) (ha : args.map a.eval = #[p, q, r, s, t]) :
    stepG P main (G (b.at a (.inRegion ops (i :: rest) :: k)) cs) w = .go (G ((base 49).at ⟨#[p, q, r, s, t] ++ Array.replicate 49 undef, []⟩ [.code body49]) (b.at a (.inRegion ops (i :: rest) :: k) :: cs)) w #[] := by
  rw [st_call ho hw hk hop hP (c := body49) rfl rfl, ha]
  rfl
end
end Go.Town.Kp
namespace Go.Town.Kp
open Go Go.Conc Go.Conc.Lib Go.ConcR.Gen Go.RowKit Go.Town Go.Proofs
open Go.ConcN (upd upd_ne upd_same)
theorem Try.info3 : (Try.prog.info? 3).map (fun i => (i.zero, i.size, i.bytes)) = some (some (.int .i64 0), 1, 8) := by kernel_rfl
theorem Try.info95 : (Try.prog.info? 95).map (fun i => (i.zero, i.size, i.bytes)) = some (some (.chan none), 1, 8) := by kernel_rfl
theorem madeCells_one (z : Value) (hz : z.cells = #[z]) (n : Nat) : madeCells z.cells n = Array.replicate n z := by
  rw [hz]; apply Array.ext <;> simp [madeCells, Nat.mod_one]
theorem mk_ints (w : World) (n : Nat) (h : n ≤ 1048576) : (Instr.makeSlice 28 (.int .i64 (n : Int)) (.int .i64 (n : Int))).run Try.prog w = .ok (.slice (some ⟨w.heap.size, 0, none⟩) n n) (w.alloc (.cells (Array.replicate n (.int .i64 0)) 3)) := by
  obtain ⟨i0, hi, hz0, hz1, hz2⟩ := info_parts Try.info3
  have := run_make (P := Try.prog) w 28 3 i0 (.int .i64 0) Try.underlying28 hi hz0 .i64 .i64 n n (by omega) (by omega) (by rw [hz2]; omega) (by omega)
  rw [this, hz1, madeCells_one _ rfl]
  simp only [Int.toNat_natCast, Nat.mul_one]
theorem mk_chans (w : World) (n : Nat) (h : n ≤ 1048576) : (Instr.makeSlice 75 (.int .i64 (n : Int)) (.int .i64 (n : Int))).run Try.prog w = .ok (.slice (some ⟨w.heap.size, 0, none⟩) n n) (w.alloc (.cells (Array.replicate n (.chan none)) 95)) := by
  obtain ⟨i0, hi, hz0, hz1, hz2⟩ := info_parts Try.info95
  have := run_make (P := Try.prog) w 75 95 i0 (.chan none) Try.underlying75 hi hz0 .i64 .i64 n n (by omega) (by omega) (by rw [hz2]; omega) (by omega)
  rw [this, hz1, madeCells_one _ rfl]
  simp only [Int.toNat_natCast, Nat.mul_one]
theorem mk77 (w : World) : (Instr.makeChan 77 (.int .i64 0)).run Try.prog w = .ok (.chan (some w.heap.size)) (w.alloc (.chan 0 #[] false 0 0 false)) := by
  obtain ⟨i, hi⟩ : ∃ i, Try.prog.info? 110 = some i := Option.isSome_iff_exists.1 (by kernel_rfl)
  exact run_makeChan (P := Try.prog) (w := w) (t := 77) (e := 110) (dir := .both) (by kernel_rfl) hi .i64 0 (by decide) (by simp)
noncomputable def body48 : Code := Try.f48.body.getD .skip
noncomputable def ops48 : Array Oper := match headC 1 body48 with | .region _ ops _ => ops | _ => #[]
structure Ext (w w' : World) : Prop where
  heap : ∀ (r : Nat) (ob : Obj), w.heap[r]? = some ob → w'.heap[r]? = some ob
  size : w.heap.size ≤ w'.heap.size
theorem Ext.refl (w : World) : Ext w w := ⟨fun _ _ h => h, Nat.le_refl _⟩
theorem Ext.alloc {w w' : World} (h : Ext w w') (o : Obj) : Ext w (w'.alloc o) := ⟨fun r ob hr => heap_alloc_lt (h.heap r ob hr), by rw [World.size_alloc]; have := h.size; omega⟩
theorem Ext.drew {w w' : World} (h : Ext w w') : Ext w w'.drew := ⟨h.heap, h.size⟩
structure Five (n z : Nat) (l1 l2 l3 l5 l7 : Bool) (v6 v7 v8 v10 v12 : Value) (w : World) : Prop where
  s6 : if l1 then ∃ x, v6 = .slice (some ⟨x, 0, none⟩) n n ∧ z ≤ x ∧ w.heap[x]? = some (.cells (Array.replicate n (.chan none)) 95) else v6 = undef
  s7 : if l2 then ∃ x, v7 = .map (some x) ∧ z ≤ x ∧ w.heap[x]? = some (.map #[] 0) else v7 = undef
  s8 : if l3 then ∃ x, v8 = .chan (some x) ∧ z ≤ x ∧ w.heap[x]? = some (.chan 0 #[] false 0 0 false) else v8 = undef
  s10 : if l5 then ∃ x, v10 = .slice (some ⟨x, 0, none⟩) n n ∧ z ≤ x ∧ w.heap[x]? = some (.cells (Array.replicate n (.int .i64 0)) 3) else v10 = undef
  s12 : if l7 then ∃ x, v12 = .slice (some ⟨x, 0, none⟩) n n ∧ z ≤ x ∧ w.heap[x]? = some (.cells (Array.replicate n (.int .i64 0)) 3) else v12 = undef
  ne : l5 = true → l7 = true → v10 ≠ v12
  size : z ≤ w.heap.size
theorem Five.alloc {n z : Nat} {l1 l2 l3 l5 l7 : Bool} {v6 v7 v8 v10 v12 : Value} {w : World} (h : Five n z l1 l2 l3 l5 l7 v6 v7 v8 v10 v12 w) (o : Obj) : Five n z l1 l2 l3 l5 l7 v6 v7 v8 v10 v12 (w.alloc o) := by
  refine ⟨?_, ?_, ?_, ?_, ?_, h.ne, by rw [World.size_alloc]; have := h.size; omega⟩
  · have := h.s6; split <;> simp_all; obtain ⟨x, h1, h2, h3⟩ := this; exact ⟨x, h1, h2, heap_alloc_lt h3⟩
  · have := h.s7; split <;> simp_all; obtain ⟨x, h1, h2, h3⟩ := this; exact ⟨x, h1, h2, heap_alloc_lt h3⟩
  · have := h.s8; split <;> simp_all; obtain ⟨x, h1, h2, h3⟩ := this; exact ⟨x, h1, h2, heap_alloc_lt h3⟩
  · have := h.s10; split <;> simp_all; obtain ⟨x, h1, h2, h3⟩ := this; exact ⟨x, h1, h2, heap_alloc_lt h3⟩
  · have := h.s12; split <;> simp_all; obtain ⟨x, h1, h2, h3⟩ := this; exact ⟨x, h1, h2, heap_alloc_lt h3⟩
theorem alloc_self (w : World) (o : Obj) : (w.alloc o).heap[w.heap.size]? = some o := heap_alloc_new _ _
theorem ready48 : ∀ l1 l2 l3 l5 l7 : Bool, (l1 && l2 && l3 && l5 && l7) = false → Region.ready .any ops48 #[true, l1, l2, l3, true, l5, true, l7, false, false, false] ≠ [] ∧ ∀ i ∈ Region.ready .any ops48 #[true, l1, l2, l3, true, l5, true, l7, false, false, false], (i = 1 ∧ l1 = false) ∨ (i = 2 ∧ l2 = false) ∨ (i = 3 ∧ l3 = false) ∨ (i = 5 ∧ l5 = false) ∨ (i = 7 ∧ l7 = false) := by
  have : ∀ l1 l2 l3 l5 l7 : Bool, ((l1 && l2 && l3 && l5 && l7) || (!(Region.ready .any ops48 #[true, l1, l2, l3, true, l5, true, l7, false, false, false]).isEmpty && (Region.ready .any ops48 #[true, l1, l2, l3, true, l5, true, l7, false, false, false]).all fun i => (i == 1 && !l1) || (i == 2 && !l2) || (i == 3 && !l3) || (i == 5 && !l5) || (i == 7 && !l7))) = true := by
    intro l1 l2 l3 l5 l7
    cases l1 <;> cases l2 <;> cases l3 <;> cases l5 <;> cases l7 <;> kernel_rfl
  intro l1 l2 l3 l5 l7 h
  have h2 := this l1 l2 l3 l5 l7
  rw [h] at h2
  simp only [Bool.false_or, Bool.and_eq_true, Bool.not_eq_true', List.isEmpty_eq_false_iff, List.all_eq_true, Bool.or_eq_true, beq_iff_eq] at h2
  refine ⟨h2.1, fun i hi => ?_⟩
  rcases h2.2 i hi with (((h | h) | h) | h) | h
  · exact .inl h
  · exact .inr (.inl h)
  · exact .inr (.inr (.inl h))
  · exact .inr (.inr (.inr (.inl h)))
  · exact .inr (.inr (.inr (.inr h)))
def Made (n z : Nat) (w w' : World) (ta m rp sa st c : Nat) : Prop :=
  Ext w w' ∧ z ≤ ta ∧ z ≤ m ∧ z ≤ rp ∧ z ≤ sa ∧ z ≤ st ∧ z ≤ c ∧ sa ≠ st ∧ c + 1 = w'.heap.size ∧ ta < c ∧ m < c ∧ rp < c ∧ sa < c ∧ st < c ∧
  w'.heap[ta]? = some (.cells (Array.replicate n (.chan none)) 95) ∧ w'.heap[m]? = some (.map #[] 0) ∧ w'.heap[rp]? = some (.chan 0 #[] false 0 0 false) ∧ w'.heap[sa]? = some (.cells (Array.replicate n (.int .i64 0)) 3) ∧ w'.heap[st]? = some (.cells (Array.replicate n (.int .i64 0)) 3) ∧
  w'.heap[c]? = some (.cells #[.slice (some ⟨ta, 0, none⟩) n n, .map (some m), .chan (some rp), .slice (some ⟨sa, 0, none⟩) n n, .slice (some ⟨st, 0, none⟩) n n, .int .u64 0, .int .u32 0] 89)
def CrewQ (n z : Nat) (w : World) (Q : Exit → Act → World → Prop) : Prop := ∀ ta m rp sa st c v13 w', Made n z w w' ta m rp sa st c → Q .normal ⟨#[.int .i64 (n : Nat), undef, .pointer none, .pointer (some ⟨c, 0, none⟩), undef, .int .i64 (n : Nat), .slice (some ⟨ta, 0, none⟩) n n, .map (some m), .chan (some rp), .int .i64 (n : Nat), .slice (some ⟨sa, 0, none⟩) n n, .int .i64 (n : Nat), .slice (some ⟨st, 0, none⟩) n n, v13, .pointer (some ⟨c, 0, none⟩), undef, undef, undef, undef, undef, undef, undef, undef, undef], []⟩ w'
set_option maxRecDepth 100000 in
set_option maxHeartbeats 400000 in
theorem crew_last {W w : World} {n z xt xm xc xs xb : Nat} {Q : Exit → Act → World → Prop} (hQ : CrewQ n z W Q) (hE : Ext W w) (hz : z ≤ w.heap.size)
    (h6 : z ≤ xt ∧ w.heap[xt]? = some (.cells (Array.replicate n (.chan none)) 95)) (h7 : z ≤ xm ∧ w.heap[xm]? = some (.map #[] 0)) (h8 : z ≤ xc ∧ w.heap[xc]? = some (.chan 0 #[] false 0 0 false)) (h10 : z ≤ xs ∧ w.heap[xs]? = some (.cells (Array.replicate n (.int .i64 0)) 3)) (h12 : z ≤ xb ∧ w.heap[xb]? = some (.cells (Array.replicate n (.int .i64 0)) 3)) (hne : xs ≠ xb) :
    wpAny Try.prog .any ops48 Q 3 #[true, true, true, true, true, true, true, true, false, false, false] ⟨#[.int .i64 (n : Nat), undef, .pointer none, undef, undef, .int .i64 (n : Nat), .slice (some ⟨xt, 0, none⟩) n n, .map (some xm), .chan (some xc), .int .i64 (n : Nat), .slice (some ⟨xs, 0, none⟩) n n, .int .i64 (n : Nat), .slice (some ⟨xb, 0, none⟩) n n, undef, undef, undef, undef, undef, undef, undef, undef, undef, undef, undef], []⟩ w := by
  have lt : ∀ (x : Nat) (ob : Obj), w.heap[x]? = some ob → x < w.heap.size := fun x ob h => (Array.getElem?_eq_some_iff.1 h).1
  have m := hQ xt xm xc xs xb w.heap.size
    (.agg #[.slice (some ⟨xt, 0, none⟩) n n, .map (some xm), .chan (some xc), .slice (some ⟨xs, 0, none⟩) n n, .slice (some ⟨xb, 0, none⟩) n n, .int .u64 0, .int .u32 0]) (w.alloc (.cells #[.slice (some ⟨xt, 0, none⟩) n n, .map (some xm), .chan (some xc), .slice (some ⟨xs, 0, none⟩) n n, .slice (some ⟨xb, 0, none⟩) n n, .int .u64 0, .int .u32 0] 89))
    ⟨hE.alloc _, h6.1, h7.1, h8.1, h10.1, h12.1, hz, hne, by rw [World.size_alloc], lt _ _ h6.2, lt _ _ h7.2, lt _ _ h8.2, lt _ _ h10.2, lt _ _ h12.2, heap_alloc_lt h6.2, heap_alloc_lt h7.2, heap_alloc_lt h8.2, heap_alloc_lt h10.2, heap_alloc_lt h12.2, alloc_self _ _⟩
  have m : Hid _ := ⟨m⟩
  clear hQ hE hz h6 h7 h8 h10 h12 hne lt
  simp only [ops48, headC, body48, Try.f48, Option.getD_some]
  refine wpAny_ready (rs := [8]) (by kernel_rfl) (by simp) (AllReady.cons rfl (fun K' hK => ?_) AllReady.nil)
  refine (if_pos ?_).mpr ?_
  · kernel_rfl
  go_simp
  refine hK _ _ ?_
  clear hK K'
  refine wpAny_ready (rs := [9]) (by kernel_rfl) (by simp) (AllReady.cons rfl (fun K' hK => ?_) AllReady.nil)
  refine (if_pos ?_).mpr ?_
  · kernel_rfl
  go_simp
  refine hK _ _ ?_
  clear hK K'
  refine wpAny_ready (rs := [10]) (by kernel_rfl) (by simp) (AllReady.cons rfl (fun K' hK => ?_) AllReady.nil)
  refine (if_pos ?_).mpr ?_
  · kernel_rfl
  go_simp
  refine hK _ _ ?_
  clear hK K'
  exact wpAny_done (by kernel_rfl) m.out _
set_option maxRecDepth 100000 in
set_option maxHeartbeats 400000 in
theorem crew_any {W : World} {n z : Nat} {Q : Exit → Act → World → Prop} (hn : n ≤ 4) (hQ : CrewQ n z W Q) : ∀ (k : Nat) (l1 l2 l3 l5 l7 : Bool) (v6 v7 v8 v10 v12 : Value) (w : World), (!l1).toNat + (!l2).toNat + (!l3).toNat + (!l5).toNat + (!l7).toNat = k → Five n z l1 l2 l3 l5 l7 v6 v7 v8 v10 v12 w → Ext W w →
    wpAny Try.prog .any ops48 Q (k + 3) #[true, l1, l2, l3, true, l5, true, l7, false, false, false] ⟨#[.int .i64 (n : Nat), undef, .pointer none, undef, undef, .int .i64 (n : Nat), v6, v7, v8, .int .i64 (n : Nat), v10, .int .i64 (n : Nat), v12, undef, undef, undef, undef, undef, undef, undef, undef, undef, undef, undef], []⟩ w := by
  intro k
  induction k with
  | zero =>
    intro l1 l2 l3 l5 l7 v6 v7 v8 v10 v12 w hk F hE
    obtain ⟨rfl, rfl, rfl, rfl, rfl⟩ : l1 = true ∧ l2 = true ∧ l3 = true ∧ l5 = true ∧ l7 = true := by
      revert hk; cases l1 <;> cases l2 <;> cases l3 <;> cases l5 <;> cases l7 <;> simp
    obtain ⟨xt, rfl, h6⟩ := F.s6
    obtain ⟨xm, rfl, h7⟩ := F.s7
    obtain ⟨xc, rfl, h8⟩ := F.s8
    obtain ⟨xs, rfl, h10⟩ := F.s10
    obtain ⟨xb, rfl, h12⟩ := F.s12
    exact crew_last hQ hE F.size h6 h7 h8 h10 h12 (fun e => F.ne rfl rfl (by rw [e]))
  | succ k ih =>
    intro l1 l2 l3 l5 l7 v6 v7 v8 v10 v12 w hk F hE
    have hnot : (l1 && l2 && l3 && l5 && l7) = false := by
      revert hk; cases l1 <;> cases l2 <;> cases l3 <;> cases l5 <;> cases l7 <;> simp
    obtain ⟨hne, hall⟩ := ready48 l1 l2 l3 l5 l7 hnot
    refine ⟨fun h => absurd h hne, fun i hi => ?_⟩
    have F' := fun o => F.alloc o
    have hE' := fun o => hE.alloc o
    rcases hall i hi with ⟨rfl, rfl⟩ | ⟨rfl, rfl⟩ | ⟨rfl, rfl⟩ | ⟨rfl, rfl⟩ | ⟨rfl, rfl⟩
    · have hr := mk_chans w n (by omega)
      have next : Hid _ := ⟨ih true l2 l3 l5 l7 (.slice (some ⟨w.heap.size, 0, none⟩) n n) v7 v8 v10 v12 (w.alloc (.cells (Array.replicate n (.chan none)) 95)) (by simp at hk ⊢; omega) ⟨⟨_, rfl, F.size, alloc_self _ _⟩, (F' _).s7, (F' _).s8, (F' _).s10, (F' _).s12, F.ne, (F' _).size⟩ (hE' _)⟩
      clear ih F F' hE hE' hne hall hi hnot hk hQ
      simp only [ops48, headC, body48, Try.f48, Option.getD_some]
      refine wpOp_step rfl (fun K' hK => ?_)
      refine (if_pos ?_).mpr ?_
      · kernel_rfl
      go_simp
      exact hK _ _ next.out
    · have hr : (Instr.makeMap 76 none).run Try.prog w = .ok (.map (some w.heap.size)) (w.alloc (.map #[] 0)) := run_makeMap 76 w
      have next : Hid _ := ⟨ih l1 true l3 l5 l7 v6 (.map (some w.heap.size)) v8 v10 v12 (w.alloc (.map #[] 0)) (by simp at hk ⊢; omega) ⟨(F' _).s6, ⟨_, rfl, F.size, alloc_self _ _⟩, (F' _).s8, (F' _).s10, (F' _).s12, F.ne, (F' _).size⟩ (hE' _)⟩
      clear ih F F' hE hE' hne hall hi hnot hk hQ
      simp only [ops48, headC, body48, Try.f48, Option.getD_some]
      refine wpOp_step rfl (fun K' hK => ?_)
      refine (if_pos ?_).mpr ?_
      · kernel_rfl
      go_simp
      exact hK _ _ next.out
    · have hr := mk77 w
      have next : Hid _ := ⟨ih l1 l2 true l5 l7 v6 v7 (.chan (some w.heap.size)) v10 v12 (w.alloc (.chan 0 #[] false 0 0 false)) (by simp at hk ⊢; omega) ⟨(F' _).s6, (F' _).s7, ⟨_, rfl, F.size, alloc_self _ _⟩, (F' _).s10, (F' _).s12, F.ne, (F' _).size⟩ (hE' _)⟩
      clear ih F F' hE hE' hne hall hi hnot hk hQ
      simp only [ops48, headC, body48, Try.f48, Option.getD_some]
      refine wpOp_step rfl (fun K' hK => ?_)
      refine (if_pos ?_).mpr ?_
      · kernel_rfl
      go_simp
      exact hK _ _ next.out
    · have hr := mk_ints w n (by omega)
      have next : Hid _ := ⟨ih l1 l2 l3 true l7 v6 v7 v8 (.slice (some ⟨w.heap.size, 0, none⟩) n n) v12 (w.alloc (.cells (Array.replicate n (.int .i64 0)) 3)) (by simp at hk ⊢; omega) ⟨(F' _).s6, (F' _).s7, (F' _).s8, ⟨_, rfl, F.size, alloc_self _ _⟩, (F' _).s12, (fun _ h7 => by subst h7; obtain ⟨x, hx, _, hb⟩ := F.s12; rw [hx]; intro e; have := (Array.getElem?_eq_some_iff.1 hb).1; simp at e; try omega), (F' _).size⟩ (hE' _)⟩
      clear ih F F' hE hE' hne hall hi hnot hk hQ
      simp only [ops48, headC, body48, Try.f48, Option.getD_some]
      refine wpOp_step rfl (fun K' hK => ?_)
      refine (if_pos ?_).mpr ?_
      · kernel_rfl
      go_simp
      exact hK _ _ next.out
    · have hr := mk_ints w n (by omega)
      have next : Hid _ := ⟨ih l1 l2 l3 l5 true v6 v7 v8 v10 (.slice (some ⟨w.heap.size, 0, none⟩) n n) (w.alloc (.cells (Array.replicate n (.int .i64 0)) 3)) (by simp at hk ⊢; omega) ⟨(F' _).s6, (F' _).s7, (F' _).s8, (F' _).s10, ⟨_, rfl, F.size, alloc_self _ _⟩, (fun h5 _ => by subst h5; obtain ⟨x, hx, _, hb⟩ := F.s10; rw [hx]; intro e; have := (Array.getElem?_eq_some_iff.1 hb).1; simp at e; try omega), (F' _).size⟩ (hE' _)⟩
      clear ih F F' hE hE' hne hall hi hnot hk hQ
      simp only [ops48, headC, body48, Try.f48, Option.getD_some]
      refine wpOp_step rfl (fun K' hK => ?_)
      refine (if_pos ?_).mpr ?_
      · kernel_rfl
      go_simp
      exact hK _ _ next.out
set_option maxRecDepth 100000 in
set_option maxHeartbeats 400000 in
theorem crew_region {W : World} {n : Nat} {Q : Exit → Act → World → Prop} (hn : n ≤ 4) (hbl : ∀ c a w, ¬ Q (.panic c) a w) (hQ : CrewQ n W.heap.size W Q) : (headC 1 body48).wp Try.prog Q ⟨#[.int .i64 (n : Nat), undef, .pointer none, undef, undef, undef, undef, undef, undef, undef, undef, undef, undef, undef, undef, undef, undef, undef, undef, undef, undef, undef, undef, undef], []⟩ W := by
  have key : Hid _ := ⟨crew_any hn hQ 5 false false false false false undef undef undef undef undef W.drew rfl ⟨rfl, rfl, rfl, rfl, rfl, (fun h => by cases h), Nat.le_refl _⟩ (Ext.refl W).drew⟩
  clear hQ
  simp only [ops48, headC, body48, Try.f48, Option.getD_some] at key ⊢
  refine wp_region_any (by kernel_rfl) ?_
  refine wpAny_take (i := 0) (v := .int .i64 (n : Nat)) rfl (by kernel_rfl) (by kernel_rfl) (by kernel_rfl) (fun _ _ _ h => absurd h (hbl _ _ _)) (Or.inl ⟨by rfl, ?_⟩) ?_
  · intro w; go_simp
  refine wpAny_take (i := 4) (v := .int .i64 (n : Nat)) rfl (by kernel_rfl) (by kernel_rfl) (by kernel_rfl) (fun _ _ _ h => absurd h (hbl _ _ _)) (Or.inl ⟨by rfl, ?_⟩) ?_
  · intro w; go_simp
  refine wpAny_take (i := 6) (v := .int .i64 (n : Nat)) rfl (by kernel_rfl) (by kernel_rfl) (by kernel_rfl) (fun _ _ _ h => absurd h (hbl _ _ _)) (Or.inl ⟨by rfl, ?_⟩) ?_
  · intro w; go_simp
  exact key.out
end Go.Town.Kp
