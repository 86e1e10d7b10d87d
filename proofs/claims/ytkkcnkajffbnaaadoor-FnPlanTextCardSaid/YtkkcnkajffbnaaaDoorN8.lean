/-
  Drawn deeds of parties: l4Plan.
-/
import Derived.Test.YtkkcnkajffbnaaaDoorN7
namespace Go.Proofs.YtkkcnkajffbnaaaDoor
open Go.RowKit
set_option linter.all false

set_option maxRecDepth 100000 in
set_option maxHeartbeats 8000000 in
theorem l4Plan_any {g0 g p : Nat} {n : Int} {w : World} {a1 a2 : Option Addr} {zs1 zs2 : List Int} {c1 c2 : Nat} (hR : Rd w g0 g p) (hp : p ≤ 100000) (I1 : IntS w g a1 zs1) (I2 : IntS w g a2 zs2) (hn2 : n ≤ 1000) :
    Calls Tryd.prog 78 #[.pointer (some ⟨g, 0, none⟩), .slice a1 zs1.length c1, .slice a2 zs2.length c2, .int .i64 n] w (ListPost g0 g (p + 301) w) := by
  obtain ⟨i0, hi, hz0, hz1, hz2⟩ := info_parts Tryd.info47
  have hlt := hR.lt
  have hg0 := hR.le
  go_enter Tryd.func78, Tryd.ntmps78
  go_wp2_with fail
  refine (pick_new (hR.alloc _) (by omega) (by omega)).mono ?_
  rintro e w1 ⟨k0, rfl, hx, h1⟩
  have hk0 : 1 + k0 ≤ 6 := by omega
  have z1 : w.heap.size + 1 ≤ w1.heap.size := by have := h1.out.2.size; rw [World.size_alloc] at this; exact this
  have hw1 : IntKind.i64.wrap (1 + (k0 : Int)) = ((1 + k0 : Nat) : Int) := by rw [IntWalk.i64_in _ (by omega)]; omega
  have hI : Hid (DeedsI w g0 g (p + 301) (1 + k0) (.slice (some ⟨w.heap.size, 0, none⟩) 0 0) w1) :=
    ⟨p + 1, [], by simp; omega, by omega, by simp, h1.out.1, (ownsRow_empty w 47 3).kept h1.out.2 (.inr (by simp [Value.ownBlock]; omega)), (World.grownBy_alloc w _ _).trans h1.out.2⟩
  clear h1 hx
  generalize 1 + k0 = kk0 at *
  have J1 := hidP I1
  have J2 := hidP I2
  clear I1 I2
  go_wp2
  go_loopw [9, 10] (fun v i wr => ∃ k : Nat, i = .int .i64 k ∧ Hid (DeedsI w g0 g (p + 301) k v wr)) (fun _ i _ => (intOf i).toNat)
  case atStart => exact ⟨kk0, rfl, hI⟩
  case round =>
    obtain ⟨k, rfl, hO⟩ := hrel
    by_cases h0 : 0 < k
    · have h0' : (0 : Int) < (k : Int) := by omega
      obtain ⟨wo, rfl⟩ : ∃ y, y = wr := ⟨wr, rfl⟩
      obtain ⟨v, rfl⟩ : ∃ y, y = u9 := ⟨u9, rfl⟩
      obtain ⟨p', ds, q1, q2, q3, q4, q5, q6⟩ := hO.out
      have I1 := J1.out.kept q6
      have I2 := J2.out.kept q6
      go_wp2_with fail
      refine (l3One_any q4 (by omega) I1 I2).mono ?_
      rintro e w2 ⟨d, p2, rfl, hd, hp2, hR2, hg2⟩
      have hlx := q5.lt
      have s2 := hg2.size
      have s6 := q6.size
      have D0 : Hid (DeedAt w g0 g (p + 201 + 92) (k - 1) w2.heap.size v ds d (w2.alloc (.cells #[.string ⟨d.act.toArray⟩, .int .i64 d.line, .int .i64 d.word] 47))) :=
        ⟨heap_alloc_new _ _, by omega, hd, q3, ⟨p2, by omega, hR2.alloc _⟩, (q5.kept hg2 (.inr fun e => by have := (q5.lt g e).1; omega)).alloc _, (q6.trans hg2).trans (World.grownBy_alloc _ _ _), by omega, fun e => by have := (q5.lt _ e).2; omega⟩
      clear hd hR2 hg2 q5 q6 q4 q3 hO hI hlx I1 I2
      unfold deedV
      go_wp2_with fail
      rename_i K4 hK4 K3 hK3 K2 hK2 K1 hK1 K0 hK0
      have L : ∀ (X : Nat) (x18 x19 x20 x21 x22 x23 x24 x25 x26 x27 x28 x29 x30 x31 x32 x33 x34 x35 x36 x37 x38 x39 x40 x41 x42 x43 x44 x45 x46 x47 x48 x49 x50 x51 x52 x53 x54 x55 x56 x57 x58 x59 x60 x61 x62 x63 x64 x65 x66 x67 x68 x69 x70 x71 : Value) (d : Dd) (w' : World), DeedAt w g0 g (p + 301) (k - 1) X v ds d w' → K2 ⟨#[.pointer (some ⟨g, 0, none⟩), .slice a1 zs1.length c1, .slice a2 zs2.length c2, .int .i64 n, undef, undef, undef, undef, .slice none 0 0, v, .int .i64 k, .pointer (some ⟨X, 0, none⟩), .slice (some ⟨w.heap.size, 0, none⟩) 0 0, .pointer (some ⟨g, 0, none⟩), .int .i64 k0, .int .i64 kk0, .int .i64 k, .bool true, x18, x19, x20, x21, x22, x23, x24, x25, x26, x27, x28, x29, x30, x31, x32, x33, x34, x35, x36, x37, x38, x39, x40, x41, x42, x43, x44, x45, x46, x47, x48, x49, x50, x51, x52, x53, x54, x55, x56, x57, x58, x59, x60, x61, x62, x63, x64, x65, x66, x67, x68, x69, x70, x71, undef], []⟩ w' := by
        intro X x18 x19 x20 x21 x22 x23 x24 x25 x26 x27 x28 x29 x30 x31 x32 x33 x34 x35 x36 x37 x38 x39 x40 x41 x42 x43 x44 x45 x46 x47 x48 x49 x50 x51 x52 x53 x54 x55 x56 x57 x58 x59 x60 x61 x62 x63 x64 x65 x66 x67 x68 x69 x70 x71 d w' D
        clear D0
        obtain ⟨⟨f0, f1, f2⟩, y0, y1, y2⟩ := D.facts
        have hown := D.own.alloc (.cells d.cells.toArray 47)
        have hl := D.len
        have hs3 := D.grown.size
        apply hK2
        go_wp2_with (at_builtin; refine wpList_append_own_at _ rfl (.tmp 68) (.tmp 70) 30 rfl w.heap.size 47 i0 (.agg #[.string ⟨#[]⟩, .int .i64 0, .int .i64 0]) 3 32 Tryd.underlying30 hi hz0 hz1 hz2 rfl (by decide) _ ds.length _ rfl hown ⟨w'.heap.size, 0, none⟩ 1 1 d.cells rfl rfl ?c1 ?c2 ?c3 ?c4 ?c5 ?_)
        case c1 => exact cell_three_new _ _ _
        case c2 => exact three_one d
        case c3 => unfold maxLen; omega
        case c4 => omega
        case c5 => simp; omega
        intro v' w4 hown4 hgr4 _ hob
        have hlt4 := hown.lt
        have hI4 : Hid (DeedsI w g0 g (p + 301) (k - 1) v' w4) := by
          obtain ⟨p3, hp3, hR3⟩ := D.rd
          refine ⟨p3, ds ++ [d], by simp; omega, by omega, fun y hy => ?_, (hR3.alloc _).kept hgr4 (fun r e => ?_) (by have := hR3.lt; simp; omega), by rw [List.length_append, cellsOf_snoc]; exact hown4, grown_on (D.grown.trans (World.grownBy_alloc w' _ _)) hgr4 fun r e => .inr (by have := (hlt4 r e).1; omega)⟩
          · rcases List.mem_append.1 hy with h | h
            · exact D.oks y h
            · simp at h; subst h; exact D.ok
          · have := (hlt4 r e).1; omega
        clear hown4 hgr4 hob hown hlt4
        go_wp2
        go_roundw
        case rel => exact ⟨k - 1, by go_num, hI4⟩
        case measure => simp [intOf]; omega
      have kk := hidP L
      clear L hK2
      revert D0
      generalize (w2.alloc (.cells #[.string ⟨d.act.toArray⟩, .int .i64 d.line, .int .i64 d.word] 47)) = w3
      generalize w2.heap.size = X
      intro D0
      have D1 := D0.out
      obtain ⟨q93, hq93, hr93⟩ := D1.rd
      refine (pick_new hr93 (by omega) (by omega)).mono ?_
      rintro e w4 ⟨y, rfl, hy, hw4⟩
      have D2 : DeedAt w g0 g (p + 201 + 93) (k - 1) X v ds d w4 := (D1.more (by omega)).rdOn hlt hw4.out.2 ⟨q93 + 1, by omega, hw4.out.1⟩
      obtain ⟨⟨f0, f1, f2⟩, y0, y1, y2⟩ := D2.facts
      have c0 : y = 0 ∨ (y = 1 ∨ y = 2) ∨ y = 3 ∨ 3 < y := by omega
      rcases c0 with rfl | c | rfl | c
      · go_wp2_with fail
        obtain ⟨q94, hq94, hr94⟩ := D2.rd
        refine (of_new (n := 3) takes3 _ hr94 (by omega) rfl rfl (by omega) (by omega)).mono ?_
        rintro e w5 ⟨a, rfl, ha, hw5⟩
        have D3 : DeedAt w g0 g (p + 201 + 94) (k - 1) X v ds d w5 := (D2.more (by omega)).rdOn hlt hw5.out.2 ⟨q94 + 1, by omega, hw5.out.1⟩
        obtain ⟨⟨f0, f1, f2⟩, y0, y1, y2⟩ := D3.facts
        obtain ⟨s1, s2, s3⟩ := takes3_ok a ha
        go_wp2_with fail
        refine kk.out _ _ _ _ _ _ _ _ _ _ _ _ _ _ _ _ _ _ _ _ _ _ _ _ _ _ _ _ _ _ _ _ _ _ _ _ _ _ _ _ _ _ _ _ _ _ _ _ _ _ _ _ _ _ _ ⟨a, 9, 0⟩ _ ?_
        exact (D3.more (by omega)).put hg0 hlt ⟨a, 9, 0⟩ (.mk2 ⟨s1, s2, s3⟩ (by omega) (by omega))
      · have y0' : ((y : Int) == 0) = false := beq_eq_false_iff_ne.2 (by omega)
        have c1' : ((y : Int) == 1) = true ∨ ((y : Int) == 1) = false ∧ ((y : Int) == 2) = true := by
          rcases c with rfl | rfl
          · exact .inl rfl
          · exact .inr ⟨rfl, rfl⟩
        by_cases l1 : (0 : Int) < (zs1.length : Int)
        · by_cases l2 : (0 : Int) < (zs2.length : Int)
          · have I1 := J1.out.kept D2.grown
            have I2 := J2.out.kept D2.grown
            rcases c1' with e1 | ⟨e1, e2⟩
            · skip
              obtain ⟨b1, rfl, -⟩ := I1.2.2 (by omega)
              obtain ⟨b2, rfl, -⟩ := I2.2.2 (by omega)
              obtain ⟨q94, hq94, hr94⟩ := D2.rd
              go_wp2_with fail
              refine plan_12 (P := p + 301) (q := q94) (by kernel_rfl) _ _ _ _ _ _ _ _ _ _ _ _ _ _ _ _ _ _ _ _ _ _ _ _ _ _ _ _ _ _ _ _ _ _ _ _ _ _ _ _ _ _ _ _ _ _ _ _ _ _ _ _ _ _ _ _ _ _ _ _ _ _ _ _ _ _ _ _ (D2.more (by omega)) hlt hg0 (by omega) (by omega) hr94 I1 I2 (by omega) (by omega) ?_
              intro y43 y44 y45 y46 y47 y48 y49 y50 y51 y52 y53 y54 y55 y56 y57 v1 v2 W D
              simp only [Exit.inBlock, Exit.then]
              exact kk.out _ _ _ _ _ _ _ _ _ _ _ _ _ _ _ _ _ _ _ _ _ _ _ _ _ _ _ _ _ _ _ _ _ _ _ _ _ _ _ _ _ _ _ _ _ _ _ _ _ _ _ _ _ _ _ ⟨[104, 97, 110, 100], v1, v2⟩ _ D
            · skip
              obtain ⟨b1, rfl, -⟩ := I1.2.2 (by omega)
              obtain ⟨b2, rfl, -⟩ := I2.2.2 (by omega)
              obtain ⟨q94, hq94, hr94⟩ := D2.rd
              go_wp2_with fail
              refine plan_12 (P := p + 301) (q := q94) (by kernel_rfl) _ _ _ _ _ _ _ _ _ _ _ _ _ _ _ _ _ _ _ _ _ _ _ _ _ _ _ _ _ _ _ _ _ _ _ _ _ _ _ _ _ _ _ _ _ _ _ _ _ _ _ _ _ _ _ _ _ _ _ _ _ _ _ _ _ _ _ _ (D2.more (by omega)) hlt hg0 (by omega) (by omega) hr94 I1 I2 (by omega) (by omega) ?_
              intro y43 y44 y45 y46 y47 y48 y49 y50 y51 y52 y53 y54 y55 y56 y57 v1 v2 W D
              simp only [Exit.inBlock, Exit.then]
              exact kk.out _ _ _ _ _ _ _ _ _ _ _ _ _ _ _ _ _ _ _ _ _ _ _ _ _ _ _ _ _ _ _ _ _ _ _ _ _ _ _ _ _ _ _ _ _ _ _ _ _ _ _ _ _ _ _ ⟨[104, 97, 110, 100], v1, v2⟩ _ D
          · rcases c1' with e1 | ⟨e1, e2⟩
            · skip
              go_wp2_with fail
              refine kk.out _ _ _ _ _ _ _ _ _ _ _ _ _ _ _ _ _ _ _ _ _ _ _ _ _ _ _ _ _ _ _ _ _ _ _ _ _ _ _ _ _ _ _ _ _ _ _ _ _ _ _ _ _ _ _ d _ ?_
              exact (D2.more (by omega))
            · skip
              go_wp2_with fail
              refine kk.out _ _ _ _ _ _ _ _ _ _ _ _ _ _ _ _ _ _ _ _ _ _ _ _ _ _ _ _ _ _ _ _ _ _ _ _ _ _ _ _ _ _ _ _ _ _ _ _ _ _ _ _ _ _ _ d _ ?_
              exact (D2.more (by omega))
        · rcases c1' with e1 | ⟨e1, e2⟩
          · skip
            go_wp2_with fail
            refine kk.out _ _ _ _ _ _ _ _ _ _ _ _ _ _ _ _ _ _ _ _ _ _ _ _ _ _ _ _ _ _ _ _ _ _ _ _ _ _ _ _ _ _ _ _ _ _ _ _ _ _ _ _ _ _ _ d _ ?_
            exact (D2.more (by omega))
          · skip
            go_wp2_with fail
            refine kk.out _ _ _ _ _ _ _ _ _ _ _ _ _ _ _ _ _ _ _ _ _ _ _ _ _ _ _ _ _ _ _ _ _ _ _ _ _ _ _ _ _ _ _ _ _ _ _ _ _ _ _ _ _ _ _ d _ ?_
            exact (D2.more (by omega))
      · go_wp2_with fail
        obtain ⟨q94, hq94, hr94⟩ := D2.rd
        refine (pick_new hr94 (by omega) (by omega)).mono ?_
        rintro e w5 ⟨z, rfl, hz, hw5⟩
        have D3 : DeedAt w g0 g (p + 201 + 94) (k - 1) X v ds d w5 := (D2.more (by omega)).rdOn hlt hw5.out.2 ⟨q94 + 1, by omega, hw5.out.1⟩
        obtain ⟨⟨f0, f1, f2⟩, y0, y1, y2⟩ := D3.facts
        by_cases z0 : z = 0
        · subst z0
          go_wp2_with fail
          obtain ⟨q95, hq95, hr95⟩ := D3.rd
          refine (pick_new hr95 (by omega) (by omega)).mono ?_
          rintro e w6 ⟨u, rfl, hu, hw6⟩
          have D4 : DeedAt w g0 g (p + 201 + 95) (k - 1) X v ds d w6 := (D3.more (by omega)).rdOn hlt hw6.out.2 ⟨q95 + 1, by omega, hw6.out.1⟩
          obtain ⟨⟨f0, f1, f2⟩, y0, y1, y2⟩ := D4.facts
          have hu2 : u ≤ 1000 := by omega
          go_wp2_with fail
          refine kk.out _ _ _ _ _ _ _ _ _ _ _ _ _ _ _ _ _ _ _ _ _ _ _ _ _ _ _ _ _ _ _ _ _ _ _ _ _ _ _ _ _ _ _ _ _ _ _ _ _ _ _ _ _ _ _ ⟨[116, 97, 107, 101], 1 + u, 0⟩ _ ?_
          exact (D4.more (by omega)).put hg0 hlt ⟨[116, 97, 107, 101], 1 + u, 0⟩ (.mk2 (by decide) (by omega) (by omega))
        · have z0' : ((z : Int) == 0) = false := beq_eq_false_iff_ne.2 (by omega)
          go_wp2_with fail
          refine kk.out _ _ _ _ _ _ _ _ _ _ _ _ _ _ _ _ _ _ _ _ _ _ _ _ _ _ _ _ _ _ _ _ _ _ _ _ _ _ _ _ _ _ _ _ _ _ _ _ _ _ _ _ _ _ _ d _ ?_
          exact (D3.more (by omega))
      · have y0' : ((y : Int) == 0) = false := beq_eq_false_iff_ne.2 (by omega)
        have y1' : ((y : Int) == 1) = false := beq_eq_false_iff_ne.2 (by omega)
        have y2' : ((y : Int) == 2) = false := beq_eq_false_iff_ne.2 (by omega)
        have y3' : ((y : Int) == 3) = false := beq_eq_false_iff_ne.2 (by omega)
        go_wp2_with fail
        refine kk.out _ _ _ _ _ _ _ _ _ _ _ _ _ _ _ _ _ _ _ _ _ _ _ _ _ _ _ _ _ _ _ _ _ _ _ _ _ _ _ _ _ _ _ _ _ _ _ _ _ _ _ _ _ _ _ d _ ?_
        exact (D2.more (by omega))
    · obtain rfl : k = 0 := by omega
      obtain ⟨p', ds, q1, q2, q3, q4, q5, q6⟩ := hO.out
      go_wp2
      go_ret
      exact ⟨_, ds, p', rfl, by omega, q3, q5, by omega, q4, q6⟩
end Go.Proofs.YtkkcnkajffbnaaaDoor
