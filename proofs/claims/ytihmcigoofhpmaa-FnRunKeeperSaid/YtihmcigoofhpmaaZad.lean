/-
  More operations that look at nothing but what is there.
-/
import Derived.Laws.Sem
import Derived.Test.YtihmcigoofhpmaaZac
set_option linter.all false
namespace Go.Town
open Go
theorem natural_ite {α : Type} {P : Program} {c : Prop} [Decidable c] {x y : Sem α} (h1 : c → Natural P x) (h2 : ¬ c → Natural P y) : Natural P (if c then x else y) := by
  split
  · exact h1 ‹_›
  · exact h2 ‹_›
theorem natural_shape_bind {α : Type} {P : Program} (r : Nat) {k : Option (TypeId × Nat) → Sem α} (h : ∀ s, Natural P (k s)) (hn : ∀ e n n', k (some (e, n)) = k (some (e, n'))) : Natural P (shape r >>= k) := by
  intro wl w es h0 hw
  have e : ∀ u : World, (shape r >>= k).runT P u es = (k (u.shape? r)).runT P u es := fun u => by
    show ((shape r).bind k).runT P u es = _
    rw [Sem.runT_bind']; rfl
  refine ⟨by rw [e]; exact (h (wl.shape? r) wl w es h0 hw).1, fun hfine hsync => ?_⟩
  have hk : k (w.shape? r) = k (wl.shape? r) := by
    unfold World.shape?
    cases hr : wl.heap[r]? with
    | none =>
      have : w.heap[r]? = none := by
        rw [Array.getElem?_eq_none_iff] at hr ⊢; rw [← hw.size]; exact hr
      rw [this]
    | some o =>
      obtain ⟨o', h1, h2⟩ := hw.get hr
      rw [h1]
      cases h2 with
      | same => rfl
      | blind hb => cases hb <;> rfl
      | cut g1 g2 g3 => exact hn _ _ _
  rw [e] at hfine hsync
  obtain ⟨w', hs⟩ := (h (wl.shape? r) wl w es h0 hw).2 hfine hsync
  exact ⟨w', by rw [e, e, hk]; exact hs.run, by rw [e]; exact hs.weak, by rw [e]; exact hs.mono, by rw [e]; exact hs.drawn, hs.upd, by rw [e]; exact hs.updl, by rw [e]; exact hs.evs, fun hh => by rw [e]; exact hs.heap hh⟩
theorem natural_viewAt_bind {α : Type} {P : Program} (r : Nat) {f : Option (Addr × TypeId) → Sem α} (h : ∀ v, Natural P (f v)) (hs : ∀ v v', f (some v) = f (some v')) : Natural P (viewAt r >>= f) := by
  unfold viewAt
  simp only [bind_assoc]
  refine natural_shape_bind r (fun s => ?_) (fun _ _ _ => rfl)
  split
  · simp only [pure_bind]; exact h _
  · simp only [bind_assoc]
    refine natural_getObj_bind r (fun o ho => ?_) (fun o o' hb => by cases hb <;> first | exact .inl (hs _ _) | exact .inl rfl)
    split <;> (simp only [pure_bind]; exact (h _).c)
theorem natural_numberAt {P : Program} (r : Nat) : Natural P (numberAt r) := by
  unfold numberAt
  refine natural_shape_bind r (fun s => ?_) (fun _ _ _ => rfl)
  split
  · exact natural_pure' _
  · refine natural_getObj_bind r (fun o ho => ?_) (fun o o' hb => by cases hb <;> first | exact .inl rfl | exact .inr fun _ _ h => h)
    split <;> exact (natural_pure' _).c
theorem natural_behindNumber {P : Program} (a : Addr) : Natural P (behindNumber a) := natural_bind' (natural_numberAt _) fun _ => natural_pure' _
theorem natural_noView {P : Program} (a : Addr) : Natural P (noView a) := by
  unfold noView
  refine natural_viewAt_bind _ (fun b => ?_) (fun _ _ => rfl)
  split
  · exact natural_unsup _ trivial
  · exact natural_pure' _
theorem natural_byteOf {P : Program} (a : Addr) : Natural P (byteOf a) := by
  unfold byteOf
  split
  · exact natural_pure' _
  refine natural_bind' natural_prog fun p => natural_bind' (natural_noView a) fun _ => natural_shape_bind _ (fun s => ?_) (fun _ _ _ => rfl)
  split
  · simp only []
    split
    · exact natural_pure' _
    · split
      · exact natural_pure' _
      · exact natural_stuck _
  · exact natural_stuck _
theorem natural_fieldPlace {P : Program} (a : Addr) (f : Field) : Natural P (fieldPlace a f) := by
  unfold fieldPlace partAt
  refine natural_bind' (natural_sizeOf _) fun n => ?_
  split
  · exact natural_bind' (natural_byteOf _) fun _ => natural_bind' (natural_byteOf _) fun _ => natural_pure' _
  · exact natural_pure' _
theorem natural_forIn {α β : Type} {P : Program} {f : α → β → Sem (ForInStep β)} (h : ∀ a b, Natural P (f a b)) : ∀ (l : List α) (b : β), Natural P (forIn l b f)
  | [], b => by rw [List.forIn_nil]; exact natural_pure' _
  | a :: l, b => by
    rw [List.forIn_cons]
    refine natural_bind' (h a b) fun s => ?_
    cases s with
    | done b' => exact natural_pure' _
    | yield b' => exact natural_forIn h l b'
theorem natural_forInA {α β : Type} {P : Program} {f : α → β → Sem (ForInStep β)} (h : ∀ a b, Natural P (f a b)) (l : Array α) (b : β) : Natural P (forIn l b f) := by
  rw [← Array.forIn_toList]; exact natural_forIn h _ _
theorem natural_forInR {β : Type} {P : Program} {f : Nat → β → Sem (ForInStep β)} (h : ∀ a b, Natural P (f a b)) (r : Std.Legacy.Range) (b : β) : Natural P (forIn r b f) := by
  rw [Std.Legacy.Range.forIn_eq_forIn_range']; exact natural_forIn h _ _
theorem natural_mapM {α β : Type} {P : Program} {f : α → Sem β} (h : ∀ a, Natural P (f a)) : ∀ (l : List α), Natural P (l.mapM f)
  | [] => by rw [List.mapM_nil]; exact natural_pure' _
  | a :: l => by rw [List.mapM_cons]; exact natural_bind' (h a) fun _ => natural_bind' (natural_mapM h l) fun _ => natural_pure' _
theorem natural_mapMA {α β : Type} {P : Program} {f : α → Sem β} (h : ∀ a, Natural P (f a)) (l : Array α) : Natural P (l.mapM f) := by
  rw [Array.mapM_eq_mapM_toList]; exact natural_map (natural_mapM h _)
def Dead {α : Type} (P : Program) (s : Sem α) : Prop := ∀ w es, ¬ Fine (s.runT P w es).1 ∧ Ok1 (s.runT P w es).1
def Calm {α : Type} (P : Program) (s : Sem α) : Prop := ∀ w es h w', (s.runT P w es).1 ≠ .halt h w'
theorem natural_dead {α : Type} {P : Program} {s : Sem α} (h : Dead P s) : Natural P s := fun wl _ es _ _ => ⟨(h wl es).2, fun hf _ => absurd hf (h wl es).1⟩
theorem dead_unsup {α : Type} {P : Program} (a : String) : Dead P (unsupported (.resourceLimit a) : Sem α) := fun _ _ => ⟨fun h => h, trivial⟩
theorem dead_bind {α β : Type} {P : Program} {x : Sem α} {f : α → Sem β} (hx : Calm P x) (hf : ∀ a, Dead P (f a)) : Dead P (x >>= f) := by
  intro w es
  have e := Sem.runT_bind' P x f w es
  change ¬ Fine ((x.bind f).runT P w es).1 ∧ Ok1 ((x.bind f).runT P w es).1
  rw [e]
  cases hr : x.runT P w es with
  | mk r es' =>
    cases r with
    | ok a w' => exact hf a w' es'
    | halt hh w' => exact absurd (by rw [hr]) (hx w es hh w')
theorem calm_bind {α β : Type} {P : Program} {x : Sem α} {f : α → Sem β} (hx : Calm P x) (hf : ∀ a, Calm P (f a)) : Calm P (x >>= f) := by
  intro w es v w'' h
  have e := Sem.runT_bind' P x f w es
  change ((x.bind f).runT P w es).1 = _ at h
  rw [e] at h
  cases hr : x.runT P w es with
  | mk r es' =>
    rw [hr] at h
    cases r with
    | ok a w' => exact hf a w' es' v w'' h
    | halt hh w' => exact absurd (by rw [hr]) (hx w es hh w')
theorem calm_pure {α : Type} {P : Program} (a : α) : Calm P (Pure.pure a : Sem α) := fun _ _ _ _ h => by cases h
theorem calm_shape {P : Program} (r : Nat) : Calm P (shape r) := fun _ _ _ _ h => by cases h
theorem calm_frozen {P : Program} (a : Addr) : Calm P (frozen a) := fun _ _ _ _ h => by cases h
theorem calm_noRoom {P : Program} : Calm P (mark .noRoom) := fun _ _ _ _ h => by cases h
theorem calm_holdsCells {P : Program} (a : Addr) (n : Nat) : Calm P (Builtin.holdsCells a n) := by
  unfold Builtin.holdsCells
  refine calm_bind (calm_shape _) fun s => ?_
  split <;> exact calm_pure _
theorem calm_mayShare {P : Program} (a b c : Nat) (d : Option Addr) (v : Value) : Calm P (Builtin.mayShare a b c d v) := by
  unfold Builtin.mayShare
  simp only []
  repeat' first
    | with_reducible exact calm_pure _
    | with_reducible exact calm_holdsCells _ _
    | with_reducible exact calm_frozen _
    | with_reducible refine calm_bind ?_ fun _ => ?_
    | split
theorem natural_fieldAt {P : Program} (t : TypeId) (a : Value) (n : Nat) : Natural P (Instr.fieldAt t a n) := by
  unfold Instr.fieldAt
  try simp only []
  repeat' first
    | with_reducible exact natural_pure' _
    | with_reducible exact natural_pure _
    | with_reducible exact natural_stuck _
    | with_reducible exact natural_unsupE _
    | with_reducible exact natural_unsupU _
    | with_reducible exact natural_unsupR _
    | with_reducible exact natural_unsupA
    | with_reducible exact natural_goPanic _
    | with_reducible exact natural_load _
    | with_reducible exact natural_store _ _
    | with_reducible exact natural_choose _
    | with_reducible exact natural_noRoom
    | with_reducible exact natural_typeInfo _
    | with_reducible exact natural_underlying _
    | with_reducible exact natural_prog
    | with_reducible exact natural_sizeOf _
    | with_reducible exact natural_zeroValue _
    | with_reducible exact natural_isAgg _
    | with_reducible exact natural_part _ _ _
    | with_reducible exact natural_loadCells _ _
    | with_reducible exact natural_storeCells _ _ _
    | with_reducible exact natural_loadVar _ _
    | with_reducible exact natural_storeVar _ _ _
    | with_reducible exact natural_newRow _ _
    | with_reducible exact natural_newVar _ _
    | with_reducible exact natural_runtimePanic _
    | with_reducible exact natural_boundsPanic _ _ _ _
    | with_reducible exact natural_asIntOf _
    | with_reducible exact natural_asInt _
    | with_reducible exact natural_asBool _
    | with_reducible exact natural_asAgg _
    | with_reducible exact natural_asAddr _
    | with_reducible exact natural_sureAddr _
    | with_reducible exact natural_askRoom _
    | with_reducible assumption
    | with_reducible refine natural_getObj_k _ (fun _ => ?_) (fun o o' hb => by cases hb <;> first | exact .inl rfl | exact .inr fun _ _ h => h)
    | with_reducible refine natural_bind' ?_ fun _ => ?_
    | with_reducible refine natural_map ?_
    | with_reducible refine natural_ite (fun _ => ?_) (fun _ => ?_)
    | split
    | with_reducible exact natural_sliceBound _ _ _
    | with_reducible exact natural_sliceBounds _ _ _ _ _ _
    | with_reducible exact natural_slice _ _ _ _ _
    | with_reducible exact natural_intArith _ _ _ _
    | with_reducible exact natural_intDiv _ _ _ _
    | with_reducible exact natural_intCmp _ _ _
    | with_reducible exact natural_intBits _ _ _ _
    | with_reducible exact natural_shift _ _ _ _ _
    | with_reducible exact natural_stringOp _ _ _
    | with_reducible exact natural_lenOf _
    | with_reducible exact natural_firstCells _ _ _
    | with_reducible exact natural_fieldPlace _ _
    | with_reducible exact natural_numberAt _
    | with_reducible exact natural_behindNumber _
    | with_reducible exact natural_byteOf _
    | with_reducible refine natural_forInA (fun _ _ => ?_) _ _
    | with_reducible refine natural_forInR (fun _ _ => ?_) _ _
    | with_reducible refine natural_forIn (fun _ _ => ?_) _ _
    | with_reducible refine natural_mapMA (fun _ => ?_) _
theorem natural_build {P : Program} (t : TypeId) (ps : Array (Nat × Value)) : Natural P (Instr.build t ps) := by
  unfold Instr.build
  try simp only []
  repeat' first
    | with_reducible exact natural_pure' _
    | with_reducible exact natural_pure _
    | with_reducible exact natural_stuck _
    | with_reducible exact natural_unsupE _
    | with_reducible exact natural_unsupU _
    | with_reducible exact natural_unsupR _
    | with_reducible exact natural_unsupA
    | with_reducible exact natural_goPanic _
    | with_reducible exact natural_load _
    | with_reducible exact natural_store _ _
    | with_reducible exact natural_choose _
    | with_reducible exact natural_noRoom
    | with_reducible exact natural_typeInfo _
    | with_reducible exact natural_underlying _
    | with_reducible exact natural_prog
    | with_reducible exact natural_sizeOf _
    | with_reducible exact natural_zeroValue _
    | with_reducible exact natural_isAgg _
    | with_reducible exact natural_part _ _ _
    | with_reducible exact natural_loadCells _ _
    | with_reducible exact natural_storeCells _ _ _
    | with_reducible exact natural_loadVar _ _
    | with_reducible exact natural_storeVar _ _ _
    | with_reducible exact natural_newRow _ _
    | with_reducible exact natural_newVar _ _
    | with_reducible exact natural_runtimePanic _
    | with_reducible exact natural_boundsPanic _ _ _ _
    | with_reducible exact natural_asIntOf _
    | with_reducible exact natural_asInt _
    | with_reducible exact natural_asBool _
    | with_reducible exact natural_asAgg _
    | with_reducible exact natural_asAddr _
    | with_reducible exact natural_sureAddr _
    | with_reducible exact natural_askRoom _
    | with_reducible assumption
    | with_reducible refine natural_getObj_k _ (fun _ => ?_) (fun o o' hb => by cases hb <;> first | exact .inl rfl | exact .inr fun _ _ h => h)
    | with_reducible refine natural_bind' ?_ fun _ => ?_
    | with_reducible refine natural_map ?_
    | with_reducible refine natural_ite (fun _ => ?_) (fun _ => ?_)
    | split
    | with_reducible exact natural_sliceBound _ _ _
    | with_reducible exact natural_sliceBounds _ _ _ _ _ _
    | with_reducible exact natural_slice _ _ _ _ _
    | with_reducible exact natural_intArith _ _ _ _
    | with_reducible exact natural_intDiv _ _ _ _
    | with_reducible exact natural_intCmp _ _ _
    | with_reducible exact natural_intBits _ _ _ _
    | with_reducible exact natural_shift _ _ _ _ _
    | with_reducible exact natural_stringOp _ _ _
    | with_reducible exact natural_lenOf _
    | with_reducible exact natural_firstCells _ _ _
    | with_reducible exact natural_fieldPlace _ _
    | with_reducible exact natural_numberAt _
    | with_reducible exact natural_behindNumber _
    | with_reducible exact natural_byteOf _
    | with_reducible refine natural_forInA (fun _ _ => ?_) _ _
    | with_reducible refine natural_forInR (fun _ _ => ?_) _ _
    | with_reducible refine natural_forIn (fun _ _ => ?_) _ _
    | with_reducible refine natural_mapMA (fun _ => ?_) _
theorem natural_buildSlice {P : Program} (t : TypeId) (n : Nat) (ps : Array (Nat × Value)) : Natural P (Instr.buildSlice t n ps) := by
  unfold Instr.buildSlice
  try simp only []
  repeat' first
    | with_reducible exact natural_pure' _
    | with_reducible exact natural_pure _
    | with_reducible exact natural_stuck _
    | with_reducible exact natural_unsupE _
    | with_reducible exact natural_unsupU _
    | with_reducible exact natural_unsupR _
    | with_reducible exact natural_unsupA
    | with_reducible exact natural_goPanic _
    | with_reducible exact natural_load _
    | with_reducible exact natural_store _ _
    | with_reducible exact natural_choose _
    | with_reducible exact natural_noRoom
    | with_reducible exact natural_typeInfo _
    | with_reducible exact natural_underlying _
    | with_reducible exact natural_prog
    | with_reducible exact natural_sizeOf _
    | with_reducible exact natural_zeroValue _
    | with_reducible exact natural_isAgg _
    | with_reducible exact natural_part _ _ _
    | with_reducible exact natural_loadCells _ _
    | with_reducible exact natural_storeCells _ _ _
    | with_reducible exact natural_loadVar _ _
    | with_reducible exact natural_storeVar _ _ _
    | with_reducible exact natural_newRow _ _
    | with_reducible exact natural_newVar _ _
    | with_reducible exact natural_runtimePanic _
    | with_reducible exact natural_boundsPanic _ _ _ _
    | with_reducible exact natural_asIntOf _
    | with_reducible exact natural_asInt _
    | with_reducible exact natural_asBool _
    | with_reducible exact natural_asAgg _
    | with_reducible exact natural_asAddr _
    | with_reducible exact natural_sureAddr _
    | with_reducible exact natural_askRoom _
    | with_reducible assumption
    | with_reducible refine natural_getObj_k _ (fun _ => ?_) (fun o o' hb => by cases hb <;> first | exact .inl rfl | exact .inr fun _ _ h => h)
    | with_reducible refine natural_bind' ?_ fun _ => ?_
    | with_reducible refine natural_map ?_
    | with_reducible refine natural_ite (fun _ => ?_) (fun _ => ?_)
    | split
    | with_reducible exact natural_sliceBound _ _ _
    | with_reducible exact natural_sliceBounds _ _ _ _ _ _
    | with_reducible exact natural_slice _ _ _ _ _
    | with_reducible exact natural_intArith _ _ _ _
    | with_reducible exact natural_intDiv _ _ _ _
    | with_reducible exact natural_intCmp _ _ _
    | with_reducible exact natural_intBits _ _ _ _
    | with_reducible exact natural_shift _ _ _ _ _
    | with_reducible exact natural_stringOp _ _ _
    | with_reducible exact natural_lenOf _
    | with_reducible exact natural_firstCells _ _ _
    | with_reducible exact natural_fieldPlace _ _
    | with_reducible exact natural_numberAt _
    | with_reducible exact natural_behindNumber _
    | with_reducible exact natural_byteOf _
    | with_reducible refine natural_forInA (fun _ _ => ?_) _ _
    | with_reducible refine natural_forInR (fun _ _ => ?_) _ _
    | with_reducible refine natural_forIn (fun _ _ => ?_) _ _
    | with_reducible refine natural_mapMA (fun _ => ?_) _
theorem natural_makeMap {P : Program} (t : TypeId) (r : Option Value) : Natural P (Instr.makeMap t r) := by
  unfold Instr.makeMap
  cases r with
  | none => exact natural_bind' (natural_new _ rfl) fun _ => natural_pure' _
  | some h =>
    refine natural_bind' (natural_underlying _) fun d => ?_
    split
    · exact natural_bind' (natural_asInt _) fun _ => natural_bind' (natural_new _ rfl) fun _ => natural_pure' _
    · exact natural_stuck _
theorem natural_makeChan {P : Program} (t : TypeId) (v : Value) : Natural P (Instr.makeChan t v) := by
  unfold Instr.makeChan
  refine natural_bind' (natural_asInt _) fun n => natural_bind' (natural_underlying _) fun d => ?_
  split
  · refine natural_bind' (natural_typeInfo _) fun i => ?_
    split
    · exact natural_bind' (natural_runtimePanic _) fun _ => natural_bind' (natural_new _ rfl) fun _ => natural_pure' _
    · exact natural_bind' (natural_new _ rfl) fun _ => natural_pure' _
  · exact natural_stuck _
theorem natural_makeInterface {P : Program} (t : TypeId) (v : Value) : Natural P (Instr.makeInterface t v) := by
  unfold Instr.makeInterface
  refine natural_bind' (natural_underlying _) fun d => ?_
  split
  · exact natural_stuck _
  · exact natural_pure' _
theorem natural_bytesToString {P : Program} (v : Value) : Natural P (Conv.bytesToString v) := by
  unfold Conv.bytesToString
  try simp only []
  repeat' first
    | with_reducible exact natural_pure' _
    | with_reducible exact natural_pure _
    | with_reducible exact natural_stuck _
    | with_reducible exact natural_unsupE _
    | with_reducible exact natural_unsupU _
    | with_reducible exact natural_unsupR _
    | with_reducible exact natural_unsupA
    | with_reducible exact natural_goPanic _
    | with_reducible exact natural_load _
    | with_reducible exact natural_store _ _
    | with_reducible exact natural_choose _
    | with_reducible exact natural_noRoom
    | with_reducible exact natural_typeInfo _
    | with_reducible exact natural_underlying _
    | with_reducible exact natural_prog
    | with_reducible exact natural_sizeOf _
    | with_reducible exact natural_zeroValue _
    | with_reducible exact natural_isAgg _
    | with_reducible exact natural_part _ _ _
    | with_reducible exact natural_loadCells _ _
    | with_reducible exact natural_storeCells _ _ _
    | with_reducible exact natural_loadVar _ _
    | with_reducible exact natural_storeVar _ _ _
    | with_reducible exact natural_newRow _ _
    | with_reducible exact natural_newVar _ _
    | with_reducible exact natural_runtimePanic _
    | with_reducible exact natural_boundsPanic _ _ _ _
    | with_reducible exact natural_asIntOf _
    | with_reducible exact natural_asInt _
    | with_reducible exact natural_asBool _
    | with_reducible exact natural_asAgg _
    | with_reducible exact natural_asAddr _
    | with_reducible exact natural_sureAddr _
    | with_reducible exact natural_askRoom _
    | with_reducible assumption
    | with_reducible refine natural_getObj_k _ (fun _ => ?_) (fun o o' hb => by cases hb <;> first | exact .inl rfl | exact .inr fun _ _ h => h)
    | with_reducible refine natural_bind' ?_ fun _ => ?_
    | with_reducible refine natural_map ?_
    | with_reducible refine natural_ite (fun _ => ?_) (fun _ => ?_)
    | split
    | with_reducible exact natural_sliceBound _ _ _
    | with_reducible exact natural_sliceBounds _ _ _ _ _ _
    | with_reducible exact natural_slice _ _ _ _ _
    | with_reducible exact natural_intArith _ _ _ _
    | with_reducible exact natural_intDiv _ _ _ _
    | with_reducible exact natural_intCmp _ _ _
    | with_reducible exact natural_intBits _ _ _ _
    | with_reducible exact natural_shift _ _ _ _ _
    | with_reducible exact natural_stringOp _ _ _
    | with_reducible exact natural_lenOf _
    | with_reducible exact natural_firstCells _ _ _
    | with_reducible exact natural_fieldPlace _ _
    | with_reducible exact natural_numberAt _
    | with_reducible exact natural_behindNumber _
    | with_reducible exact natural_byteOf _
    | with_reducible refine natural_forInA (fun _ _ => ?_) _ _
    | with_reducible refine natural_forInR (fun _ _ => ?_) _ _
    | with_reducible refine natural_forIn (fun _ _ => ?_) _ _
    | with_reducible refine natural_mapMA (fun _ => ?_) _
def simpleD : TypeDesc → Bool
  | .bool | .int _ | .string | .chan .. => true
  | _ => false
def simpleT (P : Program) (t : TypeId) : Bool := (P.underlying t).any simpleD
theorem natural_equalIn {P : Program} {t : TypeId} (ht : simpleT P t = true) (n : Nat) (x y : Value) : Natural P (Op.equalIn (n + 1) t x y) := by
  unfold Op.equalIn
  refine natural_underlying_bind t fun d hd => ?_
  have hs : simpleD d = true := by simpa [simpleT, hd] using ht
  split <;> first
    | (simp [simpleD] at hs; done)
    | skip
  repeat' first
    | with_reducible exact natural_pure' _
    | with_reducible exact natural_pure _
    | with_reducible exact natural_stuck _
    | with_reducible exact natural_unsupE _
    | with_reducible exact natural_unsupU _
    | with_reducible exact natural_unsupR _
    | with_reducible exact natural_unsupA
    | with_reducible exact natural_goPanic _
    | with_reducible exact natural_load _
    | with_reducible exact natural_store _ _
    | with_reducible exact natural_choose _
    | with_reducible exact natural_noRoom
    | with_reducible exact natural_typeInfo _
    | with_reducible exact natural_underlying _
    | with_reducible exact natural_prog
    | with_reducible exact natural_sizeOf _
    | with_reducible exact natural_zeroValue _
    | with_reducible exact natural_isAgg _
    | with_reducible exact natural_part _ _ _
    | with_reducible exact natural_loadCells _ _
    | with_reducible exact natural_storeCells _ _ _
    | with_reducible exact natural_loadVar _ _
    | with_reducible exact natural_storeVar _ _ _
    | with_reducible exact natural_newRow _ _
    | with_reducible exact natural_newVar _ _
    | with_reducible exact natural_runtimePanic _
    | with_reducible exact natural_boundsPanic _ _ _ _
    | with_reducible exact natural_asIntOf _
    | with_reducible exact natural_asInt _
    | with_reducible exact natural_asBool _
    | with_reducible exact natural_asAgg _
    | with_reducible exact natural_asAddr _
    | with_reducible exact natural_sureAddr _
    | with_reducible exact natural_askRoom _
    | with_reducible assumption
    | with_reducible refine natural_getObj_k _ (fun _ => ?_) (fun o o' hb => by cases hb <;> first | exact .inl rfl | exact .inr fun _ _ h => h)
    | with_reducible refine natural_bind' ?_ fun _ => ?_
    | with_reducible refine natural_map ?_
    | with_reducible refine natural_ite (fun _ => ?_) (fun _ => ?_)
    | split
    | with_reducible exact natural_sliceBound _ _ _
    | with_reducible exact natural_sliceBounds _ _ _ _ _ _
    | with_reducible exact natural_slice _ _ _ _ _
    | with_reducible exact natural_intArith _ _ _ _
    | with_reducible exact natural_intDiv _ _ _ _
    | with_reducible exact natural_intCmp _ _ _
    | with_reducible exact natural_intBits _ _ _ _
    | with_reducible exact natural_shift _ _ _ _ _
    | with_reducible exact natural_stringOp _ _ _
    | with_reducible exact natural_lenOf _
    | with_reducible exact natural_firstCells _ _ _
    | with_reducible exact natural_fieldPlace _ _
    | with_reducible exact natural_numberAt _
    | with_reducible exact natural_behindNumber _
    | with_reducible exact natural_byteOf _
    | with_reducible refine natural_forInA (fun _ _ => ?_) _ _
    | with_reducible refine natural_forInR (fun _ _ => ?_) _ _
    | with_reducible refine natural_forIn (fun _ _ => ?_) _ _
    | with_reducible refine natural_mapMA (fun _ => ?_) _
theorem natural_equal {P : Program} {t : TypeId} (ht : simpleT P t = true) (x y : Value) : Natural P (Op.equal t x y) := natural_equalIn ht 9999 x y
theorem natural_checkKey {P : Program} {t : TypeId} (ht : simpleT P t = true) (b : Bool) (n : Nat) (x : Value) : Natural P (Instr.checkKey b (n + 1) t x) := by
  unfold Instr.checkKey
  refine natural_underlying_bind t fun d hd => ?_
  have hs : simpleD d = true := by simpa [simpleT, hd] using ht
  split <;> first
    | (simp [simpleD] at hs; done)
    | exact natural_pure' _
theorem natural_findAsking {P : Program} {t : TypeId} (ht : simpleT P t = true) (k : Value) : ∀ (l : List MapEntry) (i : Nat), Natural P (Instr.findAsking t k l i)
  | [], _ => natural_pure' _
  | e :: l, i => by
    unfold Instr.findAsking
    refine natural_bind' (natural_equal ht _ _) fun b => ?_
    split
    · exact natural_pure' _
    · exact natural_findAsking ht k l (i + 1)
theorem natural_findKey {P : Program} {t : TypeId} (ht : simpleT P t = true) (k : Value) (l : List MapEntry) : Natural P (Instr.findKey t k l) := by
  unfold Instr.findKey
  refine natural_bind' (natural_underlying _) fun d => ?_
  split
  · exact natural_pure' _
  · exact natural_findAsking ht k l 0
def simpleKey (P : Program) (t : TypeId) : Bool := match P.underlying t with | some (.map k _) => simpleT P k | _ => true
theorem natural_lookup {P : Program} {t : TypeId} (ht : simpleKey P t = true) (x i : Value) (b : Bool) : Natural P (Instr.lookup t x i b) := by
  unfold Instr.lookup
  refine natural_underlying_bind t fun d hd => ?_
  split
  · rename_i key elem
    have hk : simpleT P key = true := by simpa [simpleKey, hd] using ht
    repeat' first
      | with_reducible exact natural_pure' _
      | with_reducible exact natural_pure _
      | with_reducible exact natural_stuck _
      | with_reducible exact natural_unsupE _
      | with_reducible exact natural_unsupU _
      | with_reducible exact natural_unsupR _
      | with_reducible exact natural_unsupA
      | with_reducible exact natural_goPanic _
      | with_reducible exact natural_load _
      | with_reducible exact natural_store _ _
      | with_reducible exact natural_choose _
      | with_reducible exact natural_noRoom
      | with_reducible exact natural_typeInfo _
      | with_reducible exact natural_underlying _
      | with_reducible exact natural_prog
      | with_reducible exact natural_sizeOf _
      | with_reducible exact natural_zeroValue _
      | with_reducible exact natural_isAgg _
      | with_reducible exact natural_part _ _ _
      | with_reducible exact natural_loadCells _ _
      | with_reducible exact natural_storeCells _ _ _
      | with_reducible exact natural_loadVar _ _
      | with_reducible exact natural_storeVar _ _ _
      | with_reducible exact natural_newRow _ _
      | with_reducible exact natural_newVar _ _
      | with_reducible exact natural_runtimePanic _
      | with_reducible exact natural_boundsPanic _ _ _ _
      | with_reducible exact natural_asIntOf _
      | with_reducible exact natural_asInt _
      | with_reducible exact natural_asBool _
      | with_reducible exact natural_asAgg _
      | with_reducible exact natural_asAddr _
      | with_reducible exact natural_sureAddr _
      | with_reducible exact natural_askRoom _
      | with_reducible assumption
      | with_reducible refine natural_getObj_k _ (fun _ => ?_) (fun o o' hb => by cases hb <;> first | exact .inl rfl | exact .inr fun _ _ h => h)
      | with_reducible refine natural_bind' ?_ fun _ => ?_
      | with_reducible refine natural_map ?_
      | with_reducible refine natural_ite (fun _ => ?_) (fun _ => ?_)
      | split
      | with_reducible exact natural_sliceBound _ _ _
      | with_reducible exact natural_sliceBounds _ _ _ _ _ _
      | with_reducible exact natural_slice _ _ _ _ _
      | with_reducible exact natural_intArith _ _ _ _
      | with_reducible exact natural_intDiv _ _ _ _
      | with_reducible exact natural_intCmp _ _ _
      | with_reducible exact natural_intBits _ _ _ _
      | with_reducible exact natural_shift _ _ _ _ _
      | with_reducible exact natural_stringOp _ _ _
      | with_reducible exact natural_lenOf _
      | with_reducible exact natural_firstCells _ _ _
      | with_reducible exact natural_fieldPlace _ _
      | with_reducible exact natural_numberAt _
      | with_reducible exact natural_behindNumber _
      | with_reducible exact natural_byteOf _
      | with_reducible refine natural_forInA (fun _ _ => ?_) _ _
      | with_reducible refine natural_forInR (fun _ _ => ?_) _ _
      | with_reducible refine natural_forIn (fun _ _ => ?_) _ _
      | with_reducible refine natural_mapMA (fun _ => ?_) _
      | with_reducible exact natural_checkKey hk _ 9999 _
      | with_reducible exact natural_findKey hk _ _
  · exact natural_stuck _
theorem natC_bind' {α β : Type} {P : Program} {r : Nat} {x : Sem α} {f : α → Sem β} (hx : Natural P x) (hf : ∀ a, NatC P (fun w => r < w.heap.size ∧ NoChan r w) (f a)) : NatC P (fun w => r < w.heap.size ∧ NoChan r w) (x >>= f) := natC_bind (noChan_stable r) hx.c hf
theorem natC_mono {α : Type} {P : Program} {C C' : World → Prop} {s : Sem α} (h : NatC P C s) (hc : ∀ w, C' w → C w) : NatC P C' s := fun wl w es h0 => h wl w es (hc _ h0)
theorem noChan_of {r : Nat} {o : Obj} (h : isMap o = true) : ∀ w : World, w.heap[r]? = some o → r < w.heap.size ∧ NoChan r w := fun w hw => ⟨(Array.getElem?_eq_some_iff.1 hw).1, fun o' ho => by rw [hw] at ho; cases ho; exact h⟩
theorem natural_keyThatStays {P : Program} (a b : Value) : Natural P (Instr.keyThatStays a b) := by
  unfold Instr.keyThatStays
  repeat' first
    | with_reducible exact natural_pure' _
    | with_reducible exact natural_pure _
    | with_reducible exact natural_stuck _
    | with_reducible exact natural_unsupE _
    | with_reducible exact natural_unsupU _
    | with_reducible exact natural_unsupR _
    | with_reducible exact natural_unsupA
    | with_reducible exact natural_goPanic _
    | with_reducible exact natural_load _
    | with_reducible exact natural_store _ _
    | with_reducible exact natural_choose _
    | with_reducible exact natural_noRoom
    | with_reducible exact natural_typeInfo _
    | with_reducible exact natural_underlying _
    | with_reducible exact natural_prog
    | with_reducible exact natural_sizeOf _
    | with_reducible exact natural_zeroValue _
    | with_reducible exact natural_isAgg _
    | with_reducible exact natural_part _ _ _
    | with_reducible exact natural_loadCells _ _
    | with_reducible exact natural_storeCells _ _ _
    | with_reducible exact natural_loadVar _ _
    | with_reducible exact natural_storeVar _ _ _
    | with_reducible exact natural_newRow _ _
    | with_reducible exact natural_newVar _ _
    | with_reducible exact natural_runtimePanic _
    | with_reducible exact natural_boundsPanic _ _ _ _
    | with_reducible exact natural_asIntOf _
    | with_reducible exact natural_asInt _
    | with_reducible exact natural_asBool _
    | with_reducible exact natural_asAgg _
    | with_reducible exact natural_asAddr _
    | with_reducible exact natural_sureAddr _
    | with_reducible exact natural_askRoom _
    | with_reducible assumption
    | with_reducible refine natural_getObj_k _ (fun _ => ?_) (fun o o' hb => by cases hb <;> first | exact .inl rfl | exact .inr fun _ _ h => h)
    | with_reducible refine natural_bind' ?_ fun _ => ?_
    | with_reducible refine natural_map ?_
    | with_reducible refine natural_ite (fun _ => ?_) (fun _ => ?_)
    | split
    | with_reducible exact natural_sliceBound _ _ _
    | with_reducible exact natural_sliceBounds _ _ _ _ _ _
    | with_reducible exact natural_slice _ _ _ _ _
    | with_reducible exact natural_intArith _ _ _ _
    | with_reducible exact natural_intDiv _ _ _ _
    | with_reducible exact natural_intCmp _ _ _
    | with_reducible exact natural_intBits _ _ _ _
    | with_reducible exact natural_shift _ _ _ _ _
    | with_reducible exact natural_stringOp _ _ _
    | with_reducible exact natural_lenOf _
    | with_reducible exact natural_firstCells _ _ _
    | with_reducible exact natural_fieldPlace _ _
    | with_reducible exact natural_numberAt _
    | with_reducible exact natural_behindNumber _
    | with_reducible exact natural_byteOf _
    | with_reducible refine natural_forInA (fun _ _ => ?_) _ _
    | with_reducible refine natural_forInR (fun _ _ => ?_) _ _
    | with_reducible refine natural_forIn (fun _ _ => ?_) _ _
    | with_reducible refine natural_mapMA (fun _ => ?_) _
theorem natural_mapUpdate {P : Program} {t : TypeId} (ht : simpleKey P t = true) (m k v : Value) : Natural P (Instr.mapUpdate t m k v) := by
  unfold Instr.mapUpdate
  refine natural_underlying_bind t fun d hd => ?_
  split
  · rename_i key elem
    have hk : simpleT P key = true := by simpa [simpleKey, hd] using ht
    split
    · exact natural_runtimePanic _
    · rename_i r
      refine natural_getObj_bind r (fun o ho => ?_) (fun o o' hb => by cases hb <;> first | exact .inl rfl | exact .inr fun _ _ h => h)
      split
      · rename_i es clock
        refine natC_mono ?_ (noChan_of (r := r) (o := .map es clock) rfl)
        refine natC_bind' (natural_checkKey hk _ 9999 _) fun _ => natC_bind' (natural_findKey hk _ _) fun q => ?_
        split
        · exact natC_bind' (natural_keyThatStays _ _) fun _ => natC_setObj r _ rfl rfl rfl rfl
        · exact natC_setObj r _ rfl rfl rfl rfl
      · exact (natural_stuck _).c
    · exact natural_stuck _
  · exact natural_stuck _
theorem natural_delete {P : Program} {ts : Array TypeId} (ht : ∀ t, ts[0]? = some t → simpleKey P t = true) (u : TypeId) (a : Array Value) : Natural P (Builtin.delete_ ts u a) := by
  unfold Builtin.delete_
  split
  · rename_i t m k heq
    have h1 : ts[0]? = some t := (Prod.mk.inj heq).1
    refine natural_underlying_bind t fun d hd => ?_
    split
    · rename_i key elem
      have hk : simpleT P key = true := by simpa [simpleKey, hd] using ht t h1
      split
      · exact natural_bind' (natural_checkKey hk _ 9999 _) fun _ => natural_pure' _
      · rename_i r
        show Natural P ((getObj r).bind _)
        refine natural_getObj_bind r (fun o ho => ?_) (fun o o' hb => by cases hb <;> first | exact .inl rfl | exact .inr fun _ _ h => h)
        split
        · rename_i es clock
          refine natC_mono ?_ (noChan_of (r := r) (o := .map es clock) rfl)
          refine natC_bind' (natural_checkKey hk _ 9999 _) fun _ => natC_bind' (natural_findKey hk _ _) fun q => ?_
          split
          · exact natC_bind (noChan_stable r) (natC_setObj r _ rfl rfl rfl rfl) fun _ => (natural_pure' _).c
          · exact natC_bind (noChan_stable r) (natC_setObj r _ rfl rfl rfl rfl) fun _ => (natural_pure' _).c
        · exact (natural_stuck _).c
      · exact natural_stuck _
    · exact natural_stuck _
  · exact natural_stuck _
theorem natural_range {P : Program} (t : TypeId) (x : Value) : Natural P (Instr.range t x) := by
  unfold Instr.range
  refine natural_bind' (natural_underlying t) fun d => ?_
  split
  · simp only [pure_bind]; exact natural_bind' (natural_new _ rfl) fun _ => natural_pure' _
  · simp only [pure_bind]; exact natural_bind' (natural_new _ rfl) fun _ => natural_pure' _
  · refine natural_getObj_bind _ (fun o ho => ?_) (fun o o' hb => by cases hb <;> first | exact .inl rfl | exact .inr fun _ _ h => h)
    split
    · simp only [pure_bind]; exact (natural_bind' (natural_new _ rfl) fun _ => natural_pure' _).c
    · exact (natural_stuck _).c
  · exact natural_ofRun (s' := Sem.halt (.stuck "Range: string or map expected")) (fun _ _ => rfl) (natural_halt _ trivial)
theorem dead_ite {α : Type} {P : Program} {c : Prop} [Decidable c] {x y : Sem α} (h1 : Dead P x) (h2 : Dead P y) : Dead P (if c then x else y) := by
  split
  · exact h1
  · exact h2
set_option maxHeartbeats 2000000 in
theorem natural_append {P : Program} (ts : Array TypeId) (u : TypeId) (a : Array Value) : Natural P (Builtin.append_ ts u a) := by
  unfold Builtin.append_
  simp only []
  repeat' first
    | with_reducible refine natural_dead (dead_bind (calm_mayShare _ _ _ _ _) fun _ => ?_)
    | with_reducible exact dead_unsup _
    | with_reducible refine dead_ite ?_ ?_
    | with_reducible refine dead_bind calm_noRoom fun _ => ?_
    | with_reducible exact natural_pure' _
    | with_reducible exact natural_pure _
    | with_reducible exact natural_stuck _
    | with_reducible exact natural_unsupE _
    | with_reducible exact natural_unsupU _
    | with_reducible exact natural_unsupR _
    | with_reducible exact natural_unsupA
    | with_reducible exact natural_goPanic _
    | with_reducible exact natural_load _
    | with_reducible exact natural_store _ _
    | with_reducible exact natural_choose _
    | with_reducible exact natural_noRoom
    | with_reducible exact natural_typeInfo _
    | with_reducible exact natural_underlying _
    | with_reducible exact natural_prog
    | with_reducible exact natural_sizeOf _
    | with_reducible exact natural_zeroValue _
    | with_reducible exact natural_isAgg _
    | with_reducible exact natural_part _ _ _
    | with_reducible exact natural_loadCells _ _
    | with_reducible exact natural_storeCells _ _ _
    | with_reducible exact natural_loadVar _ _
    | with_reducible exact natural_storeVar _ _ _
    | with_reducible exact natural_newRow _ _
    | with_reducible exact natural_newVar _ _
    | with_reducible exact natural_runtimePanic _
    | with_reducible exact natural_boundsPanic _ _ _ _
    | with_reducible exact natural_asIntOf _
    | with_reducible exact natural_asInt _
    | with_reducible exact natural_asBool _
    | with_reducible exact natural_asAgg _
    | with_reducible exact natural_asAddr _
    | with_reducible exact natural_sureAddr _
    | with_reducible exact natural_askRoom _
    | with_reducible assumption
    | with_reducible refine natural_getObj_k _ (fun _ => ?_) (fun o o' hb => by cases hb <;> first | exact .inl rfl | exact .inr fun _ _ h => h)
    | with_reducible refine natural_bind' ?_ fun _ => ?_
    | with_reducible refine natural_map ?_
    | with_reducible refine natural_ite (fun _ => ?_) (fun _ => ?_)
    | split
    | with_reducible exact natural_sliceBound _ _ _
    | with_reducible exact natural_sliceBounds _ _ _ _ _ _
    | with_reducible exact natural_slice _ _ _ _ _
    | with_reducible exact natural_intArith _ _ _ _
    | with_reducible exact natural_intDiv _ _ _ _
    | with_reducible exact natural_intCmp _ _ _
    | with_reducible exact natural_intBits _ _ _ _
    | with_reducible exact natural_shift _ _ _ _ _
    | with_reducible exact natural_stringOp _ _ _
    | with_reducible exact natural_lenOf _
    | with_reducible exact natural_firstCells _ _ _
    | with_reducible exact natural_fieldPlace _ _
    | with_reducible exact natural_numberAt _
    | with_reducible exact natural_behindNumber _
    | with_reducible exact natural_byteOf _
    | with_reducible refine natural_forInA (fun _ _ => ?_) _ _
    | with_reducible refine natural_forInR (fun _ _ => ?_) _ _
    | with_reducible refine natural_forIn (fun _ _ => ?_) _ _
    | with_reducible refine natural_mapMA (fun _ => ?_) _
end Go.Town
