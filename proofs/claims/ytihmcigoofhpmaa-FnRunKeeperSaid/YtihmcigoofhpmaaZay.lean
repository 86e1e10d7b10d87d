/-
  stop as a whole.
  do: the task is sent.
  do: the report is heard.
  do: who it was.
  do: a task done; a fault.
-/
import Derived.Test.YtihmcigoofhpmaaZax
set_option linter.all false
namespace Go.Town.Kp
open Go Go.Conc Go.Conc.Lib Go.ConcR.Gen Go.RowKit Go.Town Go.Proofs
open Go.ConcN (upd upd_ne upd_same)
section
variable {A : At} {C : Cfg} {L : Nat → Ws} {Post : Value → World → Prop} {N k : Nat} {wl : World} {i : Nat} {cs : List Frame} {slot : Nat → Option Nat} {sum starts : Nat → Int} {b₀ : Frame} {a₀ : Act} {ops₀ : Array Oper} {i₀ : Nat} {rest₀ : List Nat} {k₀ : List Item}
theorem Kept.re (K : Kept A C L slot sum starts wl) (T : Nat → Question → Nat) (d : Nat) : Kept A C L slot sum starts (wl.re T d) :=
  ⟨K.ok, K.mem.re T d, let ⟨es, clock, h⟩ := K.has; ⟨es, clock, h.heap, h.keys, h.ofs, h.nd⟩, ⟨K.chans.inj, K.chans.rp, K.chans.xs⟩, ⟨K.lay.cut.re T d, K.lay.no⟩, K.posts, K.apart, K.own, K.all⟩
theorem upd_self {α : Type} {f : Nat → α} {i : Nat} {v : α} (h : f i = v) : upd f i v = f := by
  funext j
  by_cases e : j = i
  · subst e; rw [upd_same, h]
  · rw [upd_ne _ _ e]
set_option maxRecDepth 100000 in
set_option maxHeartbeats 1000000 in
theorem stop (hp : OkProg Try.prog okT) (K : Kept A C L slot sum starts wl) (hi : i < A.n)
    (h : ∀ L' wl', Kept A C L' (upd slot i none) sum starts wl' → Side A wl wl' → (∀ j, L j = .gone → L' j = .gone) →
      Can Try.prog C A.c 5 Post k (Crew A.c A.rp N L') wl' (G (b₀.at (a₀.put ((ops₀[i₀]?).bind (·.dst)) (.tuple #[])) (.inRegion ops₀ rest₀ :: k₀)) cs)) :
    Can Try.prog C A.c 5 Post k (Crew A.c A.rp N L) wl (G ((base 50).at ⟨#[.pointer (some ⟨A.c, 0, none⟩), .int .i64 i] ++ Array.replicate 34 undef, []⟩ [.code body50]) (b₀.at a₀ (.inRegion ops₀ (i₀ :: rest₀) :: k₀) :: cs)) := by
  have hA := K.ok
  cases hs : slot i with
  | none =>
    refine stop_none hp K.lay hA K.mem hi hs ?_
    rintro wl' hL' ⟨T, d, rfl⟩
    refine h L _ ?_ ((Side.refl A wl).re T d) (fun _ h => h)
    rw [upd_self hs]
    exact K.re T d
  | some x =>
    obtain ⟨j, u, hj, hlj, rfl, hsum⟩ := K.own i x hi hs
    obtain ⟨es, clock, hh⟩ := K.has
    obtain ⟨hxr, kk, hck⟩ := K.chans.xs i u.x hi hs
    obtain ⟨jj, hjj, _⟩ := hh.find K.chans.inj hi hs
    refine stop_some hp K.lay hA K.mem hi hs ?_
    rintro w1 hL1 ⟨T1, d1, e1⟩
    have m1 : Mem A slot sum starts w1 := by rw [e1]; exact K.mem.re _ _
    have sd1 : Side A wl w1 := by rw [e1]; exact (Side.refl A wl).re _ _
    have ob1 : ∀ r : Nat, w1.heap[r]? = wl.heap[r]? := fun r => by rw [e1]; rfl
    clear e1
    have hck1 := (ob1 u.x).trans hck
    refine stop_b hL1 K.posts K.apart hA m1 hi hs hj hlj hck1 ?_
    have hL2 := hL1.setChan hck1 rfl 0 #[] true kk kk false
    have m2 : Mem A slot sum starts (w1.setChan u.x 0 #[] true kk kk false) := m1.obj hck1 rfl rfl
    have sd2 : Side A wl (w1.setChan u.x 0 #[] true kk kk false) := sd1.obj hck1 rfl rfl
    have ob2 : ∀ r : Nat, r ≠ u.x → (w1.setChan u.x 0 #[] true kk kk false).heap[r]? = wl.heap[r]? := fun r hr => (setChan_other (Ne.symm hr)).trans (ob1 r)
    have hmx : A.m ≠ u.x := fun e => by rw [← e, hh.heap] at hck; cases hck
    generalize w1.setChan u.x 0 #[] true kk kk false = w2 at *
    have hh2 : Has A slot w2 es clock := hh.other (ob2 _ hmx)
    refine stop_c hp hL2 hA m2 hi hs hh2.heap hh2.chanKeys hjj ?_
    rintro w3 hL3 ⟨T3, d3, e3⟩
    have hh3 := hh2.del hi hs K.chans.inj hjj
    have m3 : Mem A slot sum starts w3 := by rw [e3]; exact (m2.obj hh2.heap rfl rfl).re _ _
    have sd3 : Side A wl w3 := by rw [e3]; exact (sd2.obj hh2.heap rfl rfl).re _ _
    have ob3 : ∀ r : Nat, r ≠ u.x → r ≠ A.m → w3.heap[r]? = wl.heap[r]? := fun r hr hr2 => by
      rw [e3]
      show (w2.heap.setIfInBounds A.m _)[r]? = _
      rw [Array.getElem?_setIfInBounds_ne (Ne.symm hr2)]; exact ob2 r hr
    have hm3 : w3.heap[A.m]? = some (.map (es.eraseIdxIfInBounds jj) clock) := by rw [e3]; exact hh3.heap
    clear e3
    refine stop_d hp hL3 hA m3 hi hs ?_
    rintro w4 hL4 ⟨T4, d4, e4⟩
    have m4 : Mem A (upd slot i none) sum starts w4 := by rw [e4]; exact (m3.setTask hA hi none).re _ _
    have sd4 : Side A wl w4 := by rw [e4]; exact (sd3.set _ (.inl rfl)).re _ _
    have ob4 : ∀ (r : Nat) (ob : Obj), isCells ob = false → w3.heap[r]? = some ob → w4.heap[r]? = some ob := fun r ob hc hr => by rw [e4]; exact heap_setCell_obj hr hc
    clear e4
    have hch : ∀ (r : Nat) (c : Bool) (s t : Nat), r ≠ u.x → wl.heap[r]? = some (.chan 0 #[] c s t false) → w4.heap[r]? = some (.chan 0 #[] c s t false) := fun r c s t hr hb => by
      have hrm : r ≠ A.m := by rintro rfl; rw [hh.heap] at hb; cases hb
      exact ob4 _ _ rfl ((ob3 r hr hrm).trans hb)
    have hasF : ∃ es clock, Has A (upd slot i none) w4 es clock := ⟨_, _, hh3.other (by rw [ob4 _ _ rfl hm3]; exact hh3.heap.symm)⟩
    have old : ∀ l y, l < A.n → upd slot i none l = some y → l ≠ i ∧ slot l = some y := fun l y hl hy => by
      by_cases e : l = i
      · subst e; rw [upd_same] at hy; cases hy
      · rw [upd_ne _ _ e] at hy; exact ⟨e, hy⟩
    refine h (upd L j .gone) w4 ⟨hA, m4, hasF, ⟨fun l l' y hl hl' hy hy' => ?_, ?_, fun l y hl hy => ?_⟩, hL4, K.posts.gone j, K.apart.gone j, fun l y hl hy => ?_, fun j' v hj' hv => ?_⟩ sd4 (fun j' hj' => ?_)
    · exact K.chans.inj l l' y hl hl' (old l y hl hy).2 (old l' y hl' hy').2
    · obtain ⟨kr, hr⟩ := K.chans.rp
      exact ⟨kr, hch _ _ _ _ (Ne.symm hxr) hr⟩
    · obtain ⟨hne, hy⟩ := old l y hl hy
      obtain ⟨h1, k', h2⟩ := K.chans.xs l y hl hy
      exact ⟨h1, k', hch _ _ _ _ (fun e => hne (K.chans.inj l i y hl hi hy (by rw [hs, e]))) h2⟩
    · obtain ⟨hne, hy⟩ := old l y hl hy
      obtain ⟨j', u', h1, h2, h3, h4⟩ := K.own l y hl hy
      refine ⟨j', u', h1, ?_, h3, h4⟩
      rw [upd_ne _ _ (fun e => ?_)]
      · exact h2
      · subst e
        rw [hlj] at h2
        cases h2
        exact hne (K.chans.inj l i y hl hi hy (by rw [hs, h3]))
    · obtain ⟨hne, hv⟩ := wd_gone hv
      obtain ⟨h1, l, h2, h3⟩ := K.all j' v hj' hv
      refine ⟨by rw [upd_ne _ _ hne]; exact h1, l, h2, ?_⟩
      rw [upd_ne _ _ (fun e => ?_)]
      · exact h3
      · subst e
        rw [hs] at h3
        exact K.apart.ne j' j v u hj' hj hne hv (by rw [hlj]; rfl) (some_inj h3).symm
    · by_cases e : j' = j
      · subst e; exact upd_same _ _ _
      · rw [upd_ne _ _ e]; exact hj'
end
end Go.Town.Kp
namespace Go.Town.Kp
open Go Go.Conc Go.Conc.Lib Go.ConcR.Gen Go.RowKit Go.Town Go.Proofs
open Go.ConcN (upd upd_ne upd_same)
noncomputable def body54 : Code := Try.f54.body.getD .skip
section
variable {A : At} {C : Cfg} {L : Nat → Ws} {Post : Value → World → Prop} {N k : Nat} {wl : World} {i : Nat} {v : Int} {cs : List Frame} {slot : Nat → Option Nat} {sum starts : Nat → Int}
set_option maxRecDepth 100000 in
set_option maxHeartbeats 400000 in
theorem do_a (hp : OkProg Try.prog okT) (hL : Lay C wl) (h : ∀ wl', Lay C wl' → (∃ T d, wl' = wl.re T d) → Can Try.prog C A.c 5 Post k (Crew A.c A.rp N L) wl' (G ((base 54).at ⟨#[.pointer (some ⟨A.c, 0, none⟩), .int .i64 i, .int .i64 v, undef, undef, undef, .bool false, undef, undef, undef, undef, undef, undef, undef, undef, undef, undef, undef, undef, undef, undef, undef, undef, undef, undef, undef, undef, undef, undef, undef, undef, undef, undef, undef, undef, undef, undef, undef, undef, undef, undef, undef], []⟩ [.code (tailC 1 body54)]) cs)) :
    Can Try.prog C A.c 5 Post k (Crew A.c A.rp N L) wl (G ((base 54).at ⟨#[.pointer (some ⟨A.c, 0, none⟩), .int .i64 i, .int .i64 v] ++ Array.replicate 39 undef, []⟩ [.code body54]) cs) := by
  have hS := (crew_free A.c A.rp N L).steady
  have ea : (#[.pointer (some ⟨A.c, 0, none⟩), .int .i64 i, .int .i64 v] ++ Array.replicate 39 undef : Array Value) = #[.pointer (some ⟨A.c, 0, none⟩), .int .i64 i, .int .i64 v, undef, undef, undef, undef, undef, undef, undef, undef, undef, undef, undef, undef, undef, undef, undef, undef, undef, undef, undef, undef, undef, undef, undef, undef, undef, undef, undef, undef, undef, undef, undef, undef, undef, undef, undef, undef, undef, undef, undef] := by kernel_rfl
  rw [ea]
  have e1 : body54 = .seq (headC 0 body54) (tailC 1 body54) := by kernel_rfl
  rw [e1]
  refine Can.ctl hS hL rfl (fun _ => stepG_seq) ?_
  refine Can.code hp hS hL (okFr_at (by kernel_rfl) rfl rfl ⟨_, Try.func54⟩) ?_
  intro T d
  generalize hB : Behind Try.prog C A.c 5 Post k (Crew A.c A.rp N L) (base 54) [.code (tailC 1 body54)] cs = B
  simp only [headC, body54, Try.f54, Option.getD_some]
  go_wp2
  subst hB
  intro hc
  exact h _ ⟨hc, hL.no⟩ ⟨_, _, rfl⟩
set_option maxRecDepth 100000 in
set_option maxHeartbeats 400000 in
theorem do_b (hL : Lay C wl) (hP : Posts C A.c L) (hD : Apart A.rp L) (hA : A.Ok) (hm : Mem A slot sum starts wl) (hi : i < A.n) {u : Wd} {j kk : Nat} (hs : slot i = some u.x) (hj : j ≠ 0) (hl : L j = .live u) (hck : wl.heap[u.x]? = some (.chan 0 #[] false kk kk false)) (hrp : ∃ k', wl.heap[A.rp]? = some (.chan 0 #[] false k' k' false))
    (h : Can Try.prog C A.c 5 Post k (Crew A.c A.rp N (upd L j (.tells ⟨u.bc, u.bt, u.x, IntKind.i64.wrap (u.s + v)⟩ (v == 0)))) (wl.setChan u.x 0 #[] false (kk + 1) (kk + 1) false) (G ((base 54).at ⟨#[.pointer (some ⟨A.c, 0, none⟩), .int .i64 i, .int .i64 v, undef, undef, undef, .bool false, undef, undef, .pointer (some ⟨A.c, 0, none⟩), .pointer (some ⟨A.c, 0, none⟩), .pointer (some ⟨A.c, 0, none⟩), .slice (some ⟨A.ta, 0, none⟩) A.n A.n, .int .i64 i, .pointer (some ⟨A.ta, i, none⟩), .chan (some u.x), .int .i64 v, undef, undef, undef, undef, undef, undef, undef, undef, undef, undef, undef, undef, undef, undef, undef, undef, undef, undef, undef, undef, undef, undef, undef, undef, undef], []⟩ [.code (tailC 2 body54)]) cs)) :
    Can Try.prog C A.c 5 Post k (Crew A.c A.rp N L) wl (G ((base 54).at ⟨#[.pointer (some ⟨A.c, 0, none⟩), .int .i64 i, .int .i64 v, undef, undef, undef, .bool false, undef, undef, undef, undef, undef, undef, undef, undef, undef, undef, undef, undef, undef, undef, undef, undef, undef, undef, undef, undef, undef, undef, undef, undef, undef, undef, undef, undef, undef, undef, undef, undef, undef, undef, undef], []⟩ [.code (tailC 1 body54)]) cs) := by
  have hS := (crew_free A.c A.rp N L).steady
  have hle := hA.le
  have e1 : tailC 1 body54 = .seq (headC 1 body54) (tailC 2 body54) := by kernel_rfl
  rw [e1]
  refine Can.ctl hS hL rfl (fun _ => stepG_seq) ?_
  generalize hK : [Item.code (tailC 2 body54)] = K at *
  simp only [headC, body54, Try.f54, Option.getD_some]
  refine Can.ctl hS hL rfl (fun _ => stepG_region) ?_; simp only [List.size_toArray, List.length_cons, List.length_nil, Nat.reduceAdd, Nat.zero_add, List.range, List.range.loop]
  refine Can.op (ok := okT) hS hL rfl rfl (by k_ne) (by kernel_rfl) (fun T d => ⟨.pointer (some ⟨A.c, 0, none⟩), wl.re T d, ?_, fun _ => Can.re ?_ T d⟩)
  · go_simp
  walk_nrm
  refine Can.op (ok := okT) hS hL rfl rfl (by k_ne) (by kernel_rfl) (fun T d => ⟨.pointer (some ⟨A.c, 0, none⟩), wl.re T d, ?_, fun _ => Can.re ?_ T d⟩)
  · go_simp
  walk_nrm
  refine Can.op (ok := okT) hS hL rfl rfl (by k_ne) (by kernel_rfl) (fun T d => ⟨.pointer (some ⟨A.c, 0, none⟩), wl.re T d, ?_, fun _ => Can.re ?_ T d⟩)
  · go_simp
  walk_nrm
  refine Can.op (ok := okT) hS hL rfl rfl (by k_ne) (by kernel_rfl) (fun T d => ⟨.slice (some ⟨A.ta, 0, none⟩) A.n A.n, wl.re T d, ?_, fun _ => Can.re ?_ T d⟩)
  · have h0 : (wl.re T d).cell? ⟨A.c, 0, none⟩ = _ := hm.c0
    go_simp
  walk_nrm
  refine Can.op (ok := okT) hS hL rfl rfl (by k_ne) (by kernel_rfl) (fun T d => ⟨.int .i64 i, wl.re T d, ?_, fun _ => Can.re ?_ T d⟩)
  · go_simp
  walk_nrm
  refine Can.op (ok := okT) hS hL rfl rfl (by k_ne) (by kernel_rfl) (fun T d => ⟨.pointer (some ⟨A.ta, i, none⟩), wl.re T d, ?_, fun _ => Can.re ?_ T d⟩)
  · go_simp
  walk_nrm
  refine Can.op (ok := okT) hS hL rfl rfl (by k_ne) (by kernel_rfl) (fun T d => ⟨.chan (some u.x), wl.re T d, ?_, fun _ => Can.re ?_ T d⟩)
  · have h5 : (wl.re T d).cell? ⟨A.ta, i, none⟩ = some (.chan (some u.x)) := (hm.tasks i hi).1.trans (by rw [hs])
    go_simp
  walk_nrm
  refine Can.op (ok := okT) hS hL rfl rfl (by k_ne) (by kernel_rfl) (fun T d => ⟨.int .i64 v, wl.re T d, ?_, fun _ => Can.re ?_ T d⟩)
  · go_simp
  walk_nrm
  refine sends hL hP hD hj hl v hck hrp (port_of rfl rfl (by k_ne) (fun w => ?_) (fun w => ?_)) ?_
  · go_simp
    exact ⟨rfl, rfl⟩
  · simp [go_sem, *]
  · rw [served_at]
    walk_nrm
    refine Can.ctl (crew_free _ _ _ _).steady (hL.setChan hck rfl _ _ _ _ _ _) rfl (fun _ => stepG_region_end) ?_
    exact h
end
end Go.Town.Kp
namespace Go.Town
open Go Go.Conc Go.Conc.Lib Go.ConcR Go.ConcR.Gen
section
variable {P : Program} {C : Cfg} {b o : Nat} {Post : Value → World → Prop} {Rs : (Nat → Prop) → (Nat → Role) → Nat → Prop} {ok : FuncId → Bool} {k : Nat} {wl : World}
theorem Can.opN (hS : Steady Rs) (hL : Lay C wl) {b₀ : Frame} {a : Act} {K : List Item} {cs : List Frame} {ops : Array Oper} {i : Nat} {rest : List Nat} {x : Oper} (ho : ops[i]? = some x) (hw : Region.wanted x (yielded ops a.tmps) = true) (hk : b₀.kind ≠ .early) (hok : okOp P ok x = true)
    (h : ∀ T d, ∃ w', (execOp a.eval x).run P (wl.re T d) = .ok .skip w' ∧ (Cut (hidOf C) (frzOf C) w' → Can P C b o Post k Rs w' (G (b₀.at (a.put x.dst undef) (.inRegion ops rest :: K)) cs))) :
    Can P C b o Post k Rs wl (G (b₀.at a (.inRegion ops (i :: rest) :: K)) cs) := by
  refine .walk hS hL fun w n U hw0 hsh => Walk.of_step rfl fun w₁ h₁ => ?_
  have hw₁ := hw0.outside hL.cut h₁
  obtain ⟨w', hr, hc⟩ := h w₁.tape w₁.drawn
  have hrr : (execOp a.eval x).runT P (wl.re w₁.tape w₁.drawn) #[] = (.ok .skip w', ((execOp a.eval x).runT P (wl.re w₁.tape w₁.drawn) #[]).2) := by
    have := Sem.runT_fst P (execOp a.eval x) (wl.re w₁.tape w₁.drawn) #[]
    rw [hr] at this
    rw [← this]
  have hwr : Weak (wl.re w₁.tape w₁.drawn) w₁ := weak_rel hw₁ _ _
  obtain ⟨w2, h3, h4⟩ := same_run (natural_execOp hok a) hwr hrr trivial (fun _ _ => rfl)
  have h5 : (execOp a.eval x).run P w₁ = .ok .skip w2 := by rw [← Sem.runT_fst P _ w₁ #[], h3]; rfl
  have h6 : (execOp a.eval x).events P w₁ #[] = ((execOp a.eval x).runT P (wl.re w₁.tape w₁.drawn) #[]).2 := by show ((execOp a.eval x).runT P w₁ #[]).2 = _; rw [h3]
  have hcut : Cut (hidOf C) (frzOf C) w' := (hL.cut.re w₁.tape w₁.drawn).upd h4.updl
  refine ⟨_, w2, _, stepG_none ho hw hk h5, ?_, .stop fun w₃ h₃ => ⟨w', h4.weak.outside hcut h₃, (hsh.re _ _).upd h4.updl, hc hcut⟩⟩
  unfold listed
  rw [h6]
  exact ⟨mov_of (hL.cut.re _ _) h4.seen hwr.size, fun hb => below_upd (hsh.re _ _) hb hwr.size h4.upd⟩
end
end Go.Town
namespace Go.Town.Kp
open Go Go.Conc Go.Conc.Lib Go.ConcR.Gen Go.RowKit Go.Town Go.Proofs
open Go.ConcN (upd upd_ne upd_same)
section
variable {A : At} {C : Cfg} {L : Nat → Ws} {Post : Value → World → Prop} {N k : Nat} {wl : World} {i : Nat} {v : Int} {cs : List Frame} {slot : Nat → Option Nat} {sum starts : Nat → Int}
set_option maxRecDepth 100000 in
set_option maxHeartbeats 400000 in
theorem do_c (hL : Lay C wl) (hP : Posts C A.c L) (hD : Apart A.rp L) (hA : A.Ok) (hm : Mem A slot sum starts wl) {u : Wd} {f : Bool} {j kk : Nat} (hj : j ≠ 0) (hl : L j = .tells u f) (hone : ∀ i v f', i ≠ 0 → L i = .tells v f' → i = j) (hck : wl.heap[A.rp]? = some (.chan 0 #[] false kk kk false)) (hx : ∃ k', wl.heap[u.x]? = some (.chan 0 #[] false k' k' false))
    (h : ∀ wl', Lay C wl' → (∃ T d, wl' = (((((wl.setChan A.rp 0 #[] false (kk + 1) (kk + 1) false).alloc (.cells #[.chan none, .int .i64 0, .bool false] 110)).setCell ⟨wl.heap.size, 0, none⟩ (.chan (some u.x))).setCell ⟨wl.heap.size, 1, none⟩ (.int .i64 u.s)).setCell ⟨wl.heap.size, 2, none⟩ (.bool f)).re T d) → Can Try.prog C A.c 5 Post k (Crew A.c A.rp N (upd L j (.live u))) wl' (G ((base 54).at ⟨#[.pointer (some ⟨A.c, 0, none⟩), .int .i64 i, .int .i64 v, undef, undef, undef, .bool false, .pointer (some ⟨wl.heap.size, 0, none⟩), undef, .pointer (some ⟨A.c, 0, none⟩), .pointer (some ⟨A.c, 0, none⟩), .pointer (some ⟨A.c, 0, none⟩), .slice (some ⟨A.ta, 0, none⟩) A.n A.n, .int .i64 i, .pointer (some ⟨A.ta, i, none⟩), .chan (some u.x), .int .i64 v, .pointer (some ⟨A.c, 0, none⟩), .pointer (some ⟨A.c, 0, none⟩), .pointer (some ⟨A.c, 2, none⟩), .chan (some A.rp), rep u.x u.s f, undef, undef, undef, undef, undef, undef, undef, undef, undef, undef, undef, undef, undef, undef, undef, undef, undef, undef, undef, undef], []⟩ [.code (tailC 3 body54)]) cs)) :
    Can Try.prog C A.c 5 Post k (Crew A.c A.rp N L) wl (G ((base 54).at ⟨#[.pointer (some ⟨A.c, 0, none⟩), .int .i64 i, .int .i64 v, undef, undef, undef, .bool false, undef, undef, .pointer (some ⟨A.c, 0, none⟩), .pointer (some ⟨A.c, 0, none⟩), .pointer (some ⟨A.c, 0, none⟩), .slice (some ⟨A.ta, 0, none⟩) A.n A.n, .int .i64 i, .pointer (some ⟨A.ta, i, none⟩), .chan (some u.x), .int .i64 v, undef, undef, undef, undef, undef, undef, undef, undef, undef, undef, undef, undef, undef, undef, undef, undef, undef, undef, undef, undef, undef, undef, undef, undef, undef], []⟩ [.code (tailC 2 body54)]) cs) := by
  have hS := (crew_free A.c A.rp N L).steady
  have e1 : tailC 2 body54 = .seq (headC 2 body54) (tailC 3 body54) := by kernel_rfl
  rw [e1]
  refine Can.ctl hS hL rfl (fun _ => stepG_seq) ?_
  generalize hK : [Item.code (tailC 3 body54)] = K at *
  simp only [headC, body54, Try.f54, Option.getD_some]
  refine Can.ctl hS hL rfl (fun _ => stepG_region) ?_; simp only [List.size_toArray, List.length_cons, List.length_nil, Nat.reduceAdd, Nat.zero_add, List.range, List.range.loop]
  refine Can.op (ok := okT) hS hL rfl rfl (by k_ne) (by kernel_rfl) (fun T d => ⟨.pointer (some ⟨A.c, 0, none⟩), wl.re T d, ?_, fun _ => Can.re ?_ T d⟩)
  · go_simp
  walk_nrm
  refine Can.op (ok := okT) hS hL rfl rfl (by k_ne) (by kernel_rfl) (fun T d => ⟨.pointer (some ⟨A.c, 0, none⟩), wl.re T d, ?_, fun _ => Can.re ?_ T d⟩)
  · go_simp
  walk_nrm
  refine Can.op (ok := okT) hS hL rfl rfl (by k_ne) (by kernel_rfl) (fun T d => ⟨.pointer (some ⟨A.c, 2, none⟩), wl.re T d, ?_, fun _ => Can.re ?_ T d⟩)
  · go_simp
  walk_nrm
  refine Can.op (ok := okT) hS hL rfl rfl (by k_ne) (by kernel_rfl) (fun T d => ⟨.chan (some A.rp), wl.re T d, ?_, fun _ => Can.re ?_ T d⟩)
  · have h2 : (wl.re T d).cell? ⟨A.c, 2, none⟩ = _ := hm.c2
    go_simp
  walk_nrm
  refine hears (z := .agg #[.chan none, .int .i64 0, .bool false]) hL hP hD hj hl hone hck hx (port_of rfl rfl (by k_ne) (fun w => ?_) (fun w => ?_)) ?_
  · go_simp
    exact ⟨rfl, rfl⟩
  · simp [go_sem, *]
  · rw [served_at]
    walk_nrm
    have hS' := (crew_free A.c A.rp N (upd L j (.live u))).steady
    have hL' := hL.setChan hck rfl 0 #[] false (kk + 1) (kk + 1) false
    have hsz : ∀ T d, (((wl.setChan A.rp 0 #[] false (kk + 1) (kk + 1) false).re T d).heap.size) = wl.heap.size := fun T d => by simp [World.re, World.setChan]
    refine Can.op (ok := okT) hS' hL' rfl rfl (by k_ne) (by kernel_rfl) (fun T d => ⟨.pointer (some ⟨wl.heap.size, 0, none⟩), ((wl.setChan A.rp 0 #[] false (kk + 1) (kk + 1) false).re T d).alloc (.cells #[.chan none, .int .i64 0, .bool false] 110), ?_, fun hc => ?_⟩)
    · rw [← hsz T d]
      go_simp
    walk_nrm
    refine Can.opN (ok := okT) hS' ⟨hc, hL.no⟩ rfl rfl (by k_ne) (by kernel_rfl) (fun T' d' => ⟨(((((wl.setChan A.rp 0 #[] false (kk + 1) (kk + 1) false).alloc (.cells #[.chan none, .int .i64 0, .bool false] 110)).setCell ⟨wl.heap.size, 0, none⟩ (.chan (some u.x))).setCell ⟨wl.heap.size, 1, none⟩ (.int .i64 u.s)).setCell ⟨wl.heap.size, 2, none⟩ (.bool f)).re T' d', ?_, fun hc' => ?_⟩)
    · simp only [rep]
      obtain ⟨B, hB⟩ : ∃ B, B = (((wl.setChan A.rp 0 #[] false (kk + 1) (kk + 1) false).re T d).alloc (.cells #[.chan none, .int .i64 0, .bool false] 110)).re T' d' := ⟨_, rfl⟩
      have c0 : B.cell? ⟨wl.heap.size, 0, none⟩ = some (.chan none) := by rw [hB, ← hsz T d]; exact cell_new rfl
      have c1 : B.cell? ⟨wl.heap.size, 1, none⟩ = some (.int .i64 0) := by rw [hB, ← hsz T d]; exact cell_new rfl
      have c2 : B.cell? ⟨wl.heap.size, 2, none⟩ = some (.bool false) := by rw [hB, ← hsz T d]; exact cell_new rfl
      have hb : B.heap[wl.heap.size]? = some (.cells #[.chan none, .int .i64 0, .bool false] 110) := by rw [hB, ← hsz T d]; exact heap_alloc_new _ _
      have f0 : ∀ j, B.frozen? ⟨wl.heap.size, j, none⟩ = false := fun j => by
        unfold World.frozen?
        simp only [hb]
        simp
      have f1 := f0 0
      have f2 := f0 1
      have f3 := f0 2
      rw [← hB]
      refine Eq.trans (b := .ok .skip (((B.setCell ⟨wl.heap.size, 0, none⟩ (.chan (some u.x))).setCell ⟨wl.heap.size, 1, none⟩ (.int .i64 u.s)).setCell ⟨wl.heap.size, 2, none⟩ (.bool f))) ?_ (by rw [hB]; rfl)
      clear hB
      go_simp
    walk_nrm
    refine Can.ctl hS' ⟨hc', hL.no⟩ rfl (fun _ => stepG_region_end) ?_
    exact h _ ⟨hc', hL.no⟩ ⟨_, _, rfl⟩
end
end Go.Town.Kp
namespace Go.Town.Kp
open Go Go.Conc Go.Conc.Lib Go.ConcR.Gen Go.RowKit Go.Town Go.Proofs
open Go.ConcN (upd upd_ne upd_same)
section
variable {A : At} {C : Cfg} {L : Nat → Ws} {Post : Value → World → Prop} {N k : Nat} {wl : World} {i bx x j : Nat} {v : Int} {r21 : Value} {cs : List Frame} {slot : Nat → Option Nat} {sum starts : Nat → Int} {es : Array MapEntry} {clock : Nat}
set_option maxRecDepth 100000 in
set_option maxHeartbeats 400000 in
theorem do_d (hp : OkProg Try.prog okT) (hL : Lay C wl) (hm : Mem A slot sum starts wl) (hb : wl.cell? ⟨bx, 0, none⟩ = some (.chan (some x))) (hh : wl.heap[A.m]? = some (.map es clock)) (hk : ChanKeys es) (hx : es.toList.findIdx? (keyIs x) = some j) (hv : ((es.toList[j]?).map (·.val)).getD undef = .int .i64 (i : Nat))
    (h : ∀ wl', Lay C wl' → (∃ T d, wl' = wl.re T d) → Can Try.prog C A.c 5 Post k (Crew A.c A.rp N L) wl' (G ((base 54).at ⟨#[.pointer (some ⟨A.c, 0, none⟩), .int .i64 i, .int .i64 v, undef, undef, undef, .bool false, .pointer (some ⟨bx, 0, none⟩), .int .i64 i, .pointer (some ⟨A.c, 0, none⟩), .pointer (some ⟨A.c, 0, none⟩), .pointer (some ⟨A.c, 0, none⟩), .slice (some ⟨A.ta, 0, none⟩) A.n A.n, .int .i64 i, .pointer (some ⟨A.ta, i, none⟩), .chan (some x), .int .i64 v, .pointer (some ⟨A.c, 0, none⟩), .pointer (some ⟨A.c, 0, none⟩), .pointer (some ⟨A.c, 2, none⟩), .chan (some A.rp), r21, .pointer (some ⟨A.c, 0, none⟩), .pointer (some ⟨A.c, 0, none⟩), .pointer (some ⟨A.c, 1, none⟩), .map (some A.m), .pointer (some ⟨bx, 0, none⟩), .chan (some x), .int .i64 i, undef, undef, undef, undef, undef, undef, undef, undef, undef, undef, undef, undef, undef], []⟩ [.code (tailC 4 body54)]) cs)) :
    Can Try.prog C A.c 5 Post k (Crew A.c A.rp N L) wl (G ((base 54).at ⟨#[.pointer (some ⟨A.c, 0, none⟩), .int .i64 i, .int .i64 v, undef, undef, undef, .bool false, .pointer (some ⟨bx, 0, none⟩), undef, .pointer (some ⟨A.c, 0, none⟩), .pointer (some ⟨A.c, 0, none⟩), .pointer (some ⟨A.c, 0, none⟩), .slice (some ⟨A.ta, 0, none⟩) A.n A.n, .int .i64 i, .pointer (some ⟨A.ta, i, none⟩), .chan (some x), .int .i64 v, .pointer (some ⟨A.c, 0, none⟩), .pointer (some ⟨A.c, 0, none⟩), .pointer (some ⟨A.c, 2, none⟩), .chan (some A.rp), r21, undef, undef, undef, undef, undef, undef, undef, undef, undef, undef, undef, undef, undef, undef, undef, undef, undef, undef, undef, undef], []⟩ [.code (tailC 3 body54)]) cs) := by
  have hS := (crew_free A.c A.rp N L).steady
  have e1 : tailC 3 body54 = .seq (headC 3 body54) (tailC 4 body54) := by kernel_rfl
  rw [e1]
  refine Can.ctl hS hL rfl (fun _ => stepG_seq) ?_
  refine Can.code hp hS hL (okFr_at (by kernel_rfl) rfl rfl ⟨_, Try.func54⟩) ?_
  intro T d
  generalize hB : Behind Try.prog C A.c 5 Post k (Crew A.c A.rp N L) (base 54) [.code (tailC 4 body54)] cs = B
  simp only [headC, body54, Try.f54, Option.getD_some]
  have h1 : (wl.re T d).cell? ⟨A.c, 1, none⟩ = _ := hm.c1
  have h2 : (wl.re T d).cell? ⟨bx, 0, none⟩ = _ := hb
  have hl : (Instr.lookup 76 (.map (some A.m)) (.chan (some x)) false).run Try.prog (wl.re T d).drew = .ok (.int .i64 (i : Nat)) (wl.re T d).drew := by
    rw [run_lookup_chan (P := Try.prog) (w := (wl.re T d).drew) (mt := 76) (kt := 95) (et := 3) (e := 3) (dir := .both) (by kernel_rfl) (by kernel_rfl) hh hk hx, hv]
  generalize hW : wl.re T d = W at *
  go_region
  subst hB
  intro hc
  subst hW
  exact h _ ⟨hc, hL.no⟩ ⟨_, _, rfl⟩
end
end Go.Town.Kp
namespace Go.Town.Kp
open Go Go.Conc Go.Conc.Lib Go.ConcR.Gen Go.RowKit Go.Town Go.Proofs
open Go.ConcN (upd upd_ne upd_same)
theorem st_stop {P : Program} {main : Bool} {b : Frame} {a : Act} {k : List Item} {cs : List Frame} {ops : Array Oper} {i : Nat} {rest : List Nat} {o : Oper} {w : World} {args : Array Operand} {ats : Array TypeId} {p q : Value} (hP : P.funcs[50]? = some Try.f50) (ho : ops[i]? = some o) (hw : Region.wanted o (yielded ops a.tmps) = true) (hk : b.kind ≠ .early) (hop : o.op = .call { callee := .value (.func 50), args := args, argTypes := ats }) (ha : args.map a.eval = #[p, q]) :
    stepG P main (G (b.at a (.inRegion ops (i :: rest) :: k)) cs) w = .go (G ((base 50).at ⟨#[p, q] ++ Array.replicate 34 undef, []⟩ [.code body50]) (b.at a (.inRegion ops (i :: rest) :: k) :: cs)) w #[] := by
  rw [st_call ho hw hk hop hP (c := body50) rfl rfl, ha]
  rfl
theorem st_start {P : Program} {main : Bool} {b : Frame} {a : Act} {k : List Item} {cs : List Frame} {ops : Array Oper} {i : Nat} {rest : List Nat} {o : Oper} {w : World} {args : Array Operand} {ats : Array TypeId} {p q : Value} (hP : P.funcs[53]? = some Try.f53) (ho : ops[i]? = some o) (hw : Region.wanted o (yielded ops a.tmps) = true) (hk : b.kind ≠ .early) (hop : o.op = .call { callee := .value (.func 53), args := args, argTypes := ats }) (ha : args.map a.eval = #[p, q]) :
    stepG P main (G (b.at a (.inRegion ops (i :: rest) :: k)) cs) w = .go (G ((base 53).at ⟨#[p, q] ++ Array.replicate 28 undef, []⟩ [.code body53]) (b.at a (.inRegion ops (i :: rest) :: k) :: cs)) w #[] := by
  rw [st_call ho hw hk hop hP (c := body53) rfl rfl, ha]
  rfl
section
variable {A : At} {C : Cfg} {L : Nat → Ws} {Post : Value → World → Prop} {N k : Nat} {wl : World} {i : Nat} {cs : List Frame} {slot : Nat → Option Nat} {sum starts : Nat → Int} {b₀ : Frame} {a₀ : Act} {ops₀ : Array Oper} {i₀ : Nat} {rest₀ : List Nat} {k₀ : List Item}
set_option maxRecDepth 100000 in
set_option maxHeartbeats 400000 in
theorem do_e0 {bx : Nat} {s : Int} {z1 z2 z3 z4 z5 z9 za zb zc zd ze zf zg zh zi zj zk zl zm zn zo zp zq zr zs : Value} (hp : OkProg Try.prog okT) (hL : Lay C wl) (hA : A.Ok) (hm : Mem A slot sum starts wl) (hi : i < A.n) (hb1 : wl.cell? ⟨bx, 1, none⟩ = some (.int .i64 s)) (hb2 : wl.cell? ⟨bx, 2, none⟩ = some (.bool false))
    (h : ∀ wl', Lay C wl' → (∃ T d, wl' = (wl.setCell ⟨A.sa, i, none⟩ (.int .i64 s)).re T d) → Can Try.prog C A.c 5 Post k (Crew A.c A.rp N L) wl' (G (b₀.at (a₀.put ((ops₀[i₀]?).bind (·.dst)) (.bool false)) (.inRegion ops₀ rest₀ :: k₀)) cs)) :
    Can Try.prog C A.c 5 Post k (Crew A.c A.rp N L) wl (G ((base 54).at ⟨#[.pointer (some ⟨A.c, 0, none⟩), z1, z2, z3, z4, z5, .bool false, .pointer (some ⟨bx, 0, none⟩), .int .i64 i, z9, za, zb, zc, zd, ze, zf, zg, zh, zi, zj, zk, zl, zm, zn, zo, zp, zq, zr, zs, undef, undef, undef, undef, undef, undef, undef, undef, undef, undef, undef, undef, undef], []⟩ [.code (tailC 4 body54)]) (b₀.at a₀ (.inRegion ops₀ (i₀ :: rest₀) :: k₀) :: cs)) := by
  have hS := (crew_free A.c A.rp N L).steady
  have e1 : tailC 4 body54 = .seq (.seq (headC 0 (headC 4 body54)) (tailC 1 (headC 4 body54))) (tailC 5 body54) := by kernel_rfl
  rw [e1]
  refine Can.ctl hS hL rfl (fun _ => stepG_seq) ?_
  refine Can.ctl hS hL rfl (fun _ => stepG_seq) ?_
  refine Can.code hp hS hL (okFr_at (by kernel_rfl) rfl rfl ⟨_, Try.func54⟩) ?_
  intro T d
  generalize hB : Behind Try.prog C A.c 5 Post k (Crew A.c A.rp N L) (base 54) [.code (tailC 1 (headC 4 body54)), .code (tailC 5 body54)] (b₀.at a₀ (.inRegion ops₀ (i₀ :: rest₀) :: k₀) :: cs) = B
  simp only [headC, body54, Try.f54, Option.getD_some]
  have h2 : (wl.re T d).cell? ⟨bx, 2, none⟩ = _ := hb2
  generalize hW : wl.re T d = W at *
  go_wp2
  subst hB
  intro hc
  subst hW
  generalize hK : [Item.code (tailC 5 body54)] = K at *
  simp only [headC, tailC, body54, Try.f54, Option.getD_some]
  refine Can.ctl hS ⟨hc, hL.no⟩ rfl (fun _ => stepG_cond (t := false) rfl) ?_; simp only [if_true, if_false, Bool.false_eq_true, ↓reduceIte]
  refine Can.ctl hS ⟨hc, hL.no⟩ rfl (fun _ => stepG_skip) ?_
  subst hK
  have e2 : tailC 5 body54 = .seq (headC 5 body54) (tailC 6 body54) := by kernel_rfl
  rw [e2]
  refine Can.ctl hS ⟨hc, hL.no⟩ rfl (fun _ => stepG_seq) ?_
  refine Can.code hp hS ⟨hc, hL.no⟩ (okFr_at (by kernel_rfl) rfl rfl ⟨_, Try.func54⟩) ?_
  intro T' d'
  generalize hB : Behind Try.prog C A.c 5 Post k (Crew A.c A.rp N L) (base 54) [.code (tailC 6 body54)] (b₀.at a₀ (.inRegion ops₀ (i₀ :: rest₀) :: k₀) :: cs) = B
  simp only [headC, body54, Try.f54, Option.getD_some]
  have hle := hA.le
  have h3 : ((wl.re T d).re T' d').cell? ⟨A.c, 3, none⟩ = _ := hm.c3
  have h1 : ((wl.re T d).re T' d').cell? ⟨bx, 1, none⟩ = _ := hb1
  have h5 : ((wl.re T d).re T' d').cell? ⟨A.sa, i, none⟩ = _ := (hm.sums i hi).1
  have h6 : ((wl.re T d).re T' d').frozen? ⟨A.sa, i, none⟩ = _ := (hm.sums i hi).2
  generalize hW : (wl.re T d).re T' d' = W at *
  go_region
  subst hB
  intro hc
  subst hW
  refine Can.code hp hS ⟨hc, hL.no⟩ (okFr_at (by kernel_rfl) rfl rfl ⟨_, Try.func54⟩) ?_
  intro T₂ d₂
  generalize hB : Behind Try.prog C A.c 5 Post k (Crew A.c A.rp N L) (base 54) [] (b₀.at a₀ (.inRegion ops₀ (i₀ :: rest₀) :: k₀) :: cs) = B
  simp only [tailC, body54, Try.f54, Option.getD_some]
  go_wp2
  subst hB
  intro hc todo
  refine Can.ctl hS ⟨hc, hL.no⟩ rfl (fun _ => st_leave1 rfl rfl Try.func54 rfl) ?_
  exact h _ ⟨hc, hL.no⟩ ⟨_, _, rfl⟩
set_option maxRecDepth 100000 in
set_option maxHeartbeats 400000 in
theorem do_e1 {bx : Nat} {z1 z2 z3 z4 z5 z9 za zb zc zd ze zf zg zh zi zj zk zl zm zn zo zp zq zr zs : Value} (hp : OkProg Try.prog okT) (K : Kept A C L slot sum starts wl) (hi : i < A.n) (hb2 : wl.cell? ⟨bx, 2, none⟩ = some (.bool true))
    (h : ∀ L' wl', Kept A C L' (upd slot i none) sum starts wl' → Side A wl wl' → (∀ j, L j = .gone → L' j = .gone) → Can Try.prog C A.c 5 Post k (Crew A.c A.rp N L') wl' (G (b₀.at (a₀.put ((ops₀[i₀]?).bind (·.dst)) (.bool true)) (.inRegion ops₀ rest₀ :: k₀)) cs)) :
    Can Try.prog C A.c 5 Post k (Crew A.c A.rp N L) wl (G ((base 54).at ⟨#[.pointer (some ⟨A.c, 0, none⟩), z1, z2, z3, z4, z5, .bool false, .pointer (some ⟨bx, 0, none⟩), .int .i64 i, z9, za, zb, zc, zd, ze, zf, zg, zh, zi, zj, zk, zl, zm, zn, zo, zp, zq, zr, zs, undef, undef, undef, undef, undef, undef, undef, undef, undef, undef, undef, undef, undef], []⟩ [.code (tailC 4 body54)]) (b₀.at a₀ (.inRegion ops₀ (i₀ :: rest₀) :: k₀) :: cs)) := by
  have hS := (crew_free A.c A.rp N L).steady
  have hL := K.lay
  have e1 : tailC 4 body54 = .seq (.seq (headC 0 (headC 4 body54)) (tailC 1 (headC 4 body54))) (tailC 5 body54) := by kernel_rfl
  rw [e1]
  refine Can.ctl hS hL rfl (fun _ => stepG_seq) ?_
  refine Can.ctl hS hL rfl (fun _ => stepG_seq) ?_
  refine Can.code hp hS hL (okFr_at (by kernel_rfl) rfl rfl ⟨_, Try.func54⟩) ?_
  intro T d
  generalize hB : Behind Try.prog C A.c 5 Post k (Crew A.c A.rp N L) (base 54) [.code (tailC 1 (headC 4 body54)), .code (tailC 5 body54)] (b₀.at a₀ (.inRegion ops₀ (i₀ :: rest₀) :: k₀) :: cs) = B
  simp only [headC, body54, Try.f54, Option.getD_some]
  have h2 : (wl.re T d).cell? ⟨bx, 2, none⟩ = _ := hb2
  generalize hW : wl.re T d = W at *
  go_wp2
  subst hB
  intro hc
  subst hW
  refine Can.re ?_ T d
  generalize hK : [Item.code (tailC 5 body54)] = K₁ at *
  simp only [headC, tailC, body54, Try.f54, Option.getD_some]
  refine Can.ctl hS hL rfl (fun _ => stepG_cond (t := true) rfl) ?_; simp only [if_true, if_false, Bool.false_eq_true, ↓reduceIte]
  refine Can.ctl hS hL rfl (fun _ => stepG_seq) ?_
  refine Can.ctl hS hL rfl (fun _ => stepG_region) ?_; simp only [List.size_toArray, List.length_cons, List.length_nil, Nat.reduceAdd, Nat.zero_add, List.range, List.range.loop]
  refine Can.op (ok := okT) hS hL rfl rfl (by k_ne) (by kernel_rfl) (fun T d => ⟨.pointer (some ⟨A.c, 0, none⟩), wl.re T d, ?_, fun _ => Can.re ?_ T d⟩)
  · go_simp
  walk_nrm
  refine Can.op (ok := okT) hS hL rfl rfl (by k_ne) (by kernel_rfl) (fun T d => ⟨.int .i64 i, wl.re T d, ?_, fun _ => Can.re ?_ T d⟩)
  · go_simp
  walk_nrm
  refine Can.ctl hS hL rfl (fun _ => st_stop (p := .pointer (some ⟨A.c, 0, none⟩)) (q := .int .i64 i) Try.func50 rfl rfl (by k_ne) rfl (by kernel_rfl)) ?_
  refine stop hp K hi ?_
  intro L' wl' K' sd hg
  walk_nrm
  have hS' := (crew_free A.c A.rp N L').steady
  refine Can.ctl hS' K'.lay rfl (fun _ => stepG_region_end) ?_
  refine Can.code hp hS' K'.lay (okFr_at (by kernel_rfl) rfl rfl ⟨_, Try.func54⟩) ?_
  intro T' d'
  generalize hB : Behind Try.prog C A.c 5 Post k (Crew A.c A.rp N L') (base 54) K₁ (b₀.at a₀ (.inRegion ops₀ (i₀ :: rest₀) :: k₀) :: cs) = B
  generalize hW : wl'.re T' d' = W at *
  go_wp2
  subst hB
  intro hc todo
  subst hW
  refine Can.re ?_ T' d'
  refine Can.ctl hS' K'.lay rfl (fun _ => st_leave1 rfl rfl Try.func54 rfl) ?_
  exact h L' _ K' sd hg
end
end Go.Town.Kp
