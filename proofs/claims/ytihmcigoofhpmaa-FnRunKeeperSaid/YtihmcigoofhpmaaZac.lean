/-
  Which operations look at nothing but what is there.
-/
import Derived.Test.YtihmcigoofhpmaaZab
set_option linter.all false
namespace Go.Town
open Go
theorem natural_bind' {α β : Type} {P : Program} {x : Sem α} {f : α → Sem β} (hx : Natural P x) (hf : ∀ a, Natural P (f a)) : Natural P (x >>= f) := natural_bind hx hf
theorem natural_getObj_k {α : Type} {P : Program} (r : Nat) {f : Obj → Sem α} (h : ∀ o, Natural P (f o)) (hb : ∀ o o', Blind o o' → f o' = f o ∨ ∀ w es, ¬ Fine ((f o).runT P w es).1) : Natural P (getObj r >>= f) := natural_getObj_bind r (fun o _ => (h o).c) hb
theorem natural_map {α β : Type} {P : Program} {x : Sem α} {f : α → β} (hx : Natural P x) : Natural P (Functor.map f x) := natural_bind hx (fun a => natural_pure (f a))
theorem natural_pure' {α : Type} {P : Program} (a : α) : Natural P (Pure.pure a : Sem α) := natural_pure a
theorem natural_stuck {α : Type} {P : Program} (a : String) : Natural P (stuck a : Sem α) := natural_halt _ trivial
theorem natural_unsup {α : Type} {P : Program} (a : Unsupported) (h : HaltOk (.unsupported a)) : Natural P (unsupported a : Sem α) := natural_halt _ h
theorem natural_unsupE {α : Type} {P : Program} (a : String) : Natural P (unsupported (.noEntry a) : Sem α) := natural_halt _ trivial
theorem natural_unsupU {α : Type} {P : Program} (a : String) : Natural P (unsupported (.unsafePointer a) : Sem α) := natural_halt _ trivial
theorem natural_unsupR {α : Type} {P : Program} (a : String) : Natural P (unsupported (.resourceLimit a) : Sem α) := natural_halt _ trivial
theorem natural_unsupA {α : Type} {P : Program} : Natural P (unsupported .addressObserved : Sem α) := natural_halt _ trivial
theorem natural_goPanic {α : Type} {P : Program} (a : Value) : Natural P (goPanic a : Sem α) := natural_halt _ trivial
theorem natural_prog {P : Program} : Natural P program := natural_program _ (natural_pure _)
theorem natural_ofRun {α : Type} {P : Program} {s s' : Sem α} (h : ∀ w es, s.runT P w es = s'.runT P w es) (hs : Natural P s') : Natural P s := by
  intro wl w es h0 h1
  refine ⟨by rw [h]; exact (hs wl w es h0 h1).1, fun h2 h3 => ?_⟩
  rw [h] at h2 h3
  obtain ⟨w', k⟩ := (hs wl w es h0 h1).2 h2 h3
  exact ⟨w', by rw [h, h]; exact k.run, by rw [h]; exact k.weak, by rw [h]; exact k.mono, by rw [h]; exact k.drawn, k.upd, by rw [h]; exact k.updl, by rw [h]; exact k.evs, fun hh => by rw [h]; exact k.heap hh⟩
theorem natural_typeInfo {P : Program} (t : TypeId) : Natural P (typeInfo t) := by
  unfold typeInfo
  refine natural_bind' natural_prog fun p => ?_
  split
  · exact natural_pure _
  · exact natural_halt _ trivial
theorem natural_underlying {P : Program} (t : TypeId) : Natural P (underlying t) := by
  unfold underlying
  refine natural_bind' natural_prog fun p => ?_
  split
  · exact natural_pure _
  · exact natural_halt _ trivial
theorem natural_underlying_bind {α : Type} {P : Program} (t : TypeId) {f : TypeDesc → Sem α} (h : ∀ d, P.underlying t = some d → Natural P (f d)) : Natural P (underlying t >>= f) := by
  cases hu : P.underlying t with
  | none =>
    refine natural_ofRun (s' := Sem.halt (.stuck "no such type")) (fun w es => ?_) (natural_halt _ trivial)
    show ((underlying t).bind f).runT P w es = _
    rw [Sem.runT_bind']
    have : (underlying t).runT P w es = (.halt (.stuck "no such type") w, es) := by
      show ((Sem.program Sem.pure).bind _).runT P w es = _
      simp only [Sem.bind, Sem.runT, hu]
      rfl
    rw [this]; rfl
  | some d =>
    refine natural_ofRun (s' := f d) (fun w es => ?_) (h d hu)
    show ((underlying t).bind f).runT P w es = _
    rw [Sem.runT_bind']
    have : (underlying t).runT P w es = (.ok d w, es) := by
      show ((Sem.program Sem.pure).bind _).runT P w es = _
      simp only [Sem.bind, Sem.runT, hu]
      rfl
    rw [this]
theorem natural_sizeOf {P : Program} (t : TypeId) : Natural P (sizeOf t) := natural_bind' (natural_typeInfo t) fun _ => natural_pure _
theorem natural_zeroValue {P : Program} (t : TypeId) : Natural P (zeroValue t) := by
  unfold zeroValue
  refine natural_bind' (natural_typeInfo t) fun p => ?_
  split
  · exact natural_pure _
  · exact natural_halt _ trivial
theorem natural_isAgg {P : Program} (t : TypeId) : Natural P (isAgg t) := by
  unfold isAgg
  refine natural_bind' (natural_underlying t) fun p => ?_
  split <;> exact natural_pure _
theorem natural_part {P : Program} (t : TypeId) (cs : Array Value) (off : Nat) : Natural P (part t cs off) := by
  unfold part
  refine natural_bind' (natural_isAgg t) fun b => ?_
  split
  · exact natural_bind' (natural_sizeOf t) fun _ => natural_pure _
  · split
    · exact natural_pure _
    · exact natural_halt _ trivial
theorem natural_loadCellsFrom {P : Program} (a : Addr) : ∀ (n i : Nat) (acc : Array Value), Natural P (loadCellsFrom a i n acc)
  | 0, _, _ => natural_pure _
  | n + 1, i, acc => natural_bind' (natural_load _) fun v => natural_loadCellsFrom a n (i + 1) (acc.push v)
theorem natural_loadCells {P : Program} (a : Addr) (n : Nat) : Natural P (loadCells a n) := natural_loadCellsFrom a n 0 #[]
theorem natural_storeCells {P : Program} (a : Addr) : ∀ (vs : List Value) (i : Nat), Natural P (storeCells a vs i)
  | [], _ => natural_pure _
  | _ :: rest, i => natural_bind' (natural_store _ _) fun _ => natural_storeCells a rest (i + 1)
theorem natural_loadVar {P : Program} (t : TypeId) (a : Addr) : Natural P (loadVar t a) := by
  unfold loadVar
  refine natural_bind' (natural_isAgg t) fun b => ?_
  split
  · exact natural_bind' (natural_sizeOf t) fun n => natural_bind' (natural_loadCells a n) fun _ => natural_pure _
  · exact natural_load a
theorem natural_storeVar {P : Program} (t : TypeId) (a : Addr) (v : Value) : Natural P (storeVar t a v) := by
  unfold storeVar
  refine natural_bind' (natural_sizeOf t) fun n => ?_
  split
  · exact natural_bind' (natural_halt _ trivial) fun _ => natural_storeCells a _ 0
  · exact natural_storeCells a _ 0
theorem natural_newRow {P : Program} (t : TypeId) (c : Array Value) : Natural P (newRow t c) := natural_bind' (natural_new _ rfl) fun _ => natural_pure _
theorem natural_newVar {P : Program} (t : TypeId) (v : Value) : Natural P (newVar t v) := natural_newRow t _
theorem natural_elemOf {P : Program} (t : TypeId) : Natural P (elemOf t) := by
  unfold elemOf
  refine natural_bind' (natural_underlying t) fun d => ?_
  split
  · exact natural_pure _
  · exact natural_halt _ trivial
theorem natural_runtimePanic {α : Type} {P : Program} (e : RuntimeError) : Natural P (runtimePanic e : Sem α) := by
  unfold runtimePanic
  refine natural_bind' natural_prog fun p => ?_
  cases e <;> first
    | exact natural_halt _ trivial
    | (refine natural_bind' (natural_elemOf _) fun t => natural_bind' (natural_newVar _ _) fun _ => natural_halt _ trivial)
theorem natural_boundsPanic {α : Type} {P : Program} (k : IntKind) (x y : Int) (c : BoundsCode) : Natural P (boundsPanic k x y c : Sem α) := by
  unfold boundsPanic
  simp only []
  split
  · exact natural_bind' (natural_map (natural_choose _)) fun s => natural_runtimePanic _
  · exact natural_bind' (natural_pure _) fun s => natural_runtimePanic _
theorem natural_asIntOf {P : Program} (v : Value) : Natural P (asIntOf v) := by
  unfold asIntOf
  split <;> first | exact natural_pure _ | exact natural_halt _ trivial
theorem natural_asInt {P : Program} (v : Value) : Natural P (asInt v) := natural_bind' (natural_asIntOf v) fun _ => natural_pure _
theorem natural_asBool {P : Program} (v : Value) : Natural P (asBool v) := by
  unfold asBool
  split <;> first | exact natural_pure _ | exact natural_halt _ trivial
theorem natural_asAgg {P : Program} (v : Value) : Natural P (asAgg v) := by
  unfold asAgg
  split <;> first | exact natural_pure _ | exact natural_halt _ trivial
theorem natural_asAddr {P : Program} (v : Value) : Natural P (asAddr v) := by
  unfold asAddr
  split <;> first | exact natural_pure _ | exact natural_halt _ trivial | exact natural_runtimePanic _
theorem natural_sureAddr {P : Program} (v : Value) : Natural P (Instr.sureAddr v) := by
  unfold Instr.sureAddr
  split <;> first | exact natural_pure _ | exact natural_halt _ trivial
theorem natural_askRoom {P : Program} (n : Nat) : Natural P (askRoom n) := by
  unfold askRoom
  split
  · exact natural_noRoom
  · exact natural_pure _
theorem natural_alloc {P : Program} (t : TypeId) (b : Bool) (v : Value) : Natural P (Instr.alloc t b v) := by
  unfold Instr.alloc
  try simp only []
  repeat' first
    | with_reducible exact natural_pure' _
    | with_reducible exact natural_pure _
    | with_reducible exact natural_stuck _
    | with_reducible exact natural_unsupE _
    | with_reducible exact natural_unsupU _
    | with_reducible exact natural_unsupR _
    | with_reducible exact natural_unsupA
    | with_reducible exact natural_goPanic _
    | with_reducible exact natural_load _
    | with_reducible exact natural_store _ _
    | with_reducible exact natural_choose _
    | with_reducible exact natural_noRoom
    | with_reducible exact natural_typeInfo _
    | with_reducible exact natural_underlying _
    | with_reducible exact natural_prog
    | with_reducible exact natural_sizeOf _
    | with_reducible exact natural_zeroValue _
    | with_reducible exact natural_isAgg _
    | with_reducible exact natural_part _ _ _
    | with_reducible exact natural_loadCells _ _
    | with_reducible exact natural_storeCells _ _ _
    | with_reducible exact natural_loadVar _ _
    | with_reducible exact natural_storeVar _ _ _
    | with_reducible exact natural_newRow _ _
    | with_reducible exact natural_newVar _ _
    | with_reducible exact natural_runtimePanic _
    | with_reducible exact natural_boundsPanic _ _ _ _
    | with_reducible exact natural_asIntOf _
    | with_reducible exact natural_asInt _
    | with_reducible exact natural_asBool _
    | with_reducible exact natural_asAgg _
    | with_reducible exact natural_asAddr _
    | with_reducible exact natural_sureAddr _
    | with_reducible exact natural_askRoom _
    | with_reducible assumption
    | with_reducible refine natural_getObj_k _ (fun _ => ?_) (fun o o' hb => by cases hb <;> first | exact .inl rfl | exact .inr fun _ _ h => h)
    | with_reducible refine natural_bind' ?_ fun _ => ?_
    | with_reducible refine natural_map ?_
    | split
theorem natural_box {P : Program} (t : TypeId) (v : Value) : Natural P (Instr.box t v) := by
  unfold Instr.box
  try simp only []
  repeat' first
    | with_reducible exact natural_pure' _
    | with_reducible exact natural_pure _
    | with_reducible exact natural_stuck _
    | with_reducible exact natural_unsupE _
    | with_reducible exact natural_unsupU _
    | with_reducible exact natural_unsupR _
    | with_reducible exact natural_unsupA
    | with_reducible exact natural_goPanic _
    | with_reducible exact natural_load _
    | with_reducible exact natural_store _ _
    | with_reducible exact natural_choose _
    | with_reducible exact natural_noRoom
    | with_reducible exact natural_typeInfo _
    | with_reducible exact natural_underlying _
    | with_reducible exact natural_prog
    | with_reducible exact natural_sizeOf _
    | with_reducible exact natural_zeroValue _
    | with_reducible exact natural_isAgg _
    | with_reducible exact natural_part _ _ _
    | with_reducible exact natural_loadCells _ _
    | with_reducible exact natural_storeCells _ _ _
    | with_reducible exact natural_loadVar _ _
    | with_reducible exact natural_storeVar _ _ _
    | with_reducible exact natural_newRow _ _
    | with_reducible exact natural_newVar _ _
    | with_reducible exact natural_runtimePanic _
    | with_reducible exact natural_boundsPanic _ _ _ _
    | with_reducible exact natural_asIntOf _
    | with_reducible exact natural_asInt _
    | with_reducible exact natural_asBool _
    | with_reducible exact natural_asAgg _
    | with_reducible exact natural_asAddr _
    | with_reducible exact natural_sureAddr _
    | with_reducible exact natural_askRoom _
    | with_reducible assumption
    | with_reducible refine natural_getObj_k _ (fun _ => ?_) (fun o o' hb => by cases hb <;> first | exact .inl rfl | exact .inr fun _ _ h => h)
    | with_reducible refine natural_bind' ?_ fun _ => ?_
    | with_reducible refine natural_map ?_
    | split
theorem natural_loadAt {P : Program} (t : TypeId) (v : Value) : Natural P (Instr.loadAt t v) := by
  unfold Instr.loadAt
  try simp only []
  repeat' first
    | with_reducible exact natural_pure' _
    | with_reducible exact natural_pure _
    | with_reducible exact natural_stuck _
    | with_reducible exact natural_unsupE _
    | with_reducible exact natural_unsupU _
    | with_reducible exact natural_unsupR _
    | with_reducible exact natural_unsupA
    | with_reducible exact natural_goPanic _
    | with_reducible exact natural_load _
    | with_reducible exact natural_store _ _
    | with_reducible exact natural_choose _
    | with_reducible exact natural_noRoom
    | with_reducible exact natural_typeInfo _
    | with_reducible exact natural_underlying _
    | with_reducible exact natural_prog
    | with_reducible exact natural_sizeOf _
    | with_reducible exact natural_zeroValue _
    | with_reducible exact natural_isAgg _
    | with_reducible exact natural_part _ _ _
    | with_reducible exact natural_loadCells _ _
    | with_reducible exact natural_storeCells _ _ _
    | with_reducible exact natural_loadVar _ _
    | with_reducible exact natural_storeVar _ _ _
    | with_reducible exact natural_newRow _ _
    | with_reducible exact natural_newVar _ _
    | with_reducible exact natural_runtimePanic _
    | with_reducible exact natural_boundsPanic _ _ _ _
    | with_reducible exact natural_asIntOf _
    | with_reducible exact natural_asInt _
    | with_reducible exact natural_asBool _
    | with_reducible exact natural_asAgg _
    | with_reducible exact natural_asAddr _
    | with_reducible exact natural_sureAddr _
    | with_reducible exact natural_askRoom _
    | with_reducible assumption
    | with_reducible refine natural_getObj_k _ (fun _ => ?_) (fun o o' hb => by cases hb <;> first | exact .inl rfl | exact .inr fun _ _ h => h)
    | with_reducible refine natural_bind' ?_ fun _ => ?_
    | with_reducible refine natural_map ?_
    | split
theorem natural_storeAt {P : Program} (t : TypeId) (a v : Value) : Natural P (Instr.storeAt t a v) := by
  unfold Instr.storeAt
  try simp only []
  repeat' first
    | with_reducible exact natural_pure' _
    | with_reducible exact natural_pure _
    | with_reducible exact natural_stuck _
    | with_reducible exact natural_unsupE _
    | with_reducible exact natural_unsupU _
    | with_reducible exact natural_unsupR _
    | with_reducible exact natural_unsupA
    | with_reducible exact natural_goPanic _
    | with_reducible exact natural_load _
    | with_reducible exact natural_store _ _
    | with_reducible exact natural_choose _
    | with_reducible exact natural_noRoom
    | with_reducible exact natural_typeInfo _
    | with_reducible exact natural_underlying _
    | with_reducible exact natural_prog
    | with_reducible exact natural_sizeOf _
    | with_reducible exact natural_zeroValue _
    | with_reducible exact natural_isAgg _
    | with_reducible exact natural_part _ _ _
    | with_reducible exact natural_loadCells _ _
    | with_reducible exact natural_storeCells _ _ _
    | with_reducible exact natural_loadVar _ _
    | with_reducible exact natural_storeVar _ _ _
    | with_reducible exact natural_newRow _ _
    | with_reducible exact natural_newVar _ _
    | with_reducible exact natural_runtimePanic _
    | with_reducible exact natural_boundsPanic _ _ _ _
    | with_reducible exact natural_asIntOf _
    | with_reducible exact natural_asInt _
    | with_reducible exact natural_asBool _
    | with_reducible exact natural_asAgg _
    | with_reducible exact natural_asAddr _
    | with_reducible exact natural_sureAddr _
    | with_reducible exact natural_askRoom _
    | with_reducible assumption
    | with_reducible refine natural_getObj_k _ (fun _ => ?_) (fun o o' hb => by cases hb <;> first | exact .inl rfl | exact .inr fun _ _ h => h)
    | with_reducible refine natural_bind' ?_ fun _ => ?_
    | with_reducible refine natural_map ?_
    | split
theorem natural_indexAt {P : Program} (t : TypeId) (a v : Value) : Natural P (Instr.indexAt t a v) := by
  unfold Instr.indexAt
  try simp only []
  repeat' first
    | with_reducible exact natural_pure' _
    | with_reducible exact natural_pure _
    | with_reducible exact natural_stuck _
    | with_reducible exact natural_unsupE _
    | with_reducible exact natural_unsupU _
    | with_reducible exact natural_unsupR _
    | with_reducible exact natural_unsupA
    | with_reducible exact natural_goPanic _
    | with_reducible exact natural_load _
    | with_reducible exact natural_store _ _
    | with_reducible exact natural_choose _
    | with_reducible exact natural_noRoom
    | with_reducible exact natural_typeInfo _
    | with_reducible exact natural_underlying _
    | with_reducible exact natural_prog
    | with_reducible exact natural_sizeOf _
    | with_reducible exact natural_zeroValue _
    | with_reducible exact natural_isAgg _
    | with_reducible exact natural_part _ _ _
    | with_reducible exact natural_loadCells _ _
    | with_reducible exact natural_storeCells _ _ _
    | with_reducible exact natural_loadVar _ _
    | with_reducible exact natural_storeVar _ _ _
    | with_reducible exact natural_newRow _ _
    | with_reducible exact natural_newVar _ _
    | with_reducible exact natural_runtimePanic _
    | with_reducible exact natural_boundsPanic _ _ _ _
    | with_reducible exact natural_asIntOf _
    | with_reducible exact natural_asInt _
    | with_reducible exact natural_asBool _
    | with_reducible exact natural_asAgg _
    | with_reducible exact natural_asAddr _
    | with_reducible exact natural_sureAddr _
    | with_reducible exact natural_askRoom _
    | with_reducible assumption
    | with_reducible refine natural_getObj_k _ (fun _ => ?_) (fun o o' hb => by cases hb <;> first | exact .inl rfl | exact .inr fun _ _ h => h)
    | with_reducible refine natural_bind' ?_ fun _ => ?_
    | with_reducible refine natural_map ?_
    | split
theorem natural_index {P : Program} (t : TypeId) (a v : Value) : Natural P (Instr.index t a v) := by
  unfold Instr.index
  try simp only []
  repeat' first
    | with_reducible exact natural_pure' _
    | with_reducible exact natural_pure _
    | with_reducible exact natural_stuck _
    | with_reducible exact natural_unsupE _
    | with_reducible exact natural_unsupU _
    | with_reducible exact natural_unsupR _
    | with_reducible exact natural_unsupA
    | with_reducible exact natural_goPanic _
    | with_reducible exact natural_load _
    | with_reducible exact natural_store _ _
    | with_reducible exact natural_choose _
    | with_reducible exact natural_noRoom
    | with_reducible exact natural_typeInfo _
    | with_reducible exact natural_underlying _
    | with_reducible exact natural_prog
    | with_reducible exact natural_sizeOf _
    | with_reducible exact natural_zeroValue _
    | with_reducible exact natural_isAgg _
    | with_reducible exact natural_part _ _ _
    | with_reducible exact natural_loadCells _ _
    | with_reducible exact natural_storeCells _ _ _
    | with_reducible exact natural_loadVar _ _
    | with_reducible exact natural_storeVar _ _ _
    | with_reducible exact natural_newRow _ _
    | with_reducible exact natural_newVar _ _
    | with_reducible exact natural_runtimePanic _
    | with_reducible exact natural_boundsPanic _ _ _ _
    | with_reducible exact natural_asIntOf _
    | with_reducible exact natural_asInt _
    | with_reducible exact natural_asBool _
    | with_reducible exact natural_asAgg _
    | with_reducible exact natural_asAddr _
    | with_reducible exact natural_sureAddr _
    | with_reducible exact natural_askRoom _
    | with_reducible assumption
    | with_reducible refine natural_getObj_k _ (fun _ => ?_) (fun o o' hb => by cases hb <;> first | exact .inl rfl | exact .inr fun _ _ h => h)
    | with_reducible refine natural_bind' ?_ fun _ => ?_
    | with_reducible refine natural_map ?_
    | split
theorem natural_field {P : Program} (t : TypeId) (a : Value) (n : Nat) : Natural P (Instr.field t a n) := by
  unfold Instr.field
  try simp only []
  repeat' first
    | with_reducible exact natural_pure' _
    | with_reducible exact natural_pure _
    | with_reducible exact natural_stuck _
    | with_reducible exact natural_unsupE _
    | with_reducible exact natural_unsupU _
    | with_reducible exact natural_unsupR _
    | with_reducible exact natural_unsupA
    | with_reducible exact natural_goPanic _
    | with_reducible exact natural_load _
    | with_reducible exact natural_store _ _
    | with_reducible exact natural_choose _
    | with_reducible exact natural_noRoom
    | with_reducible exact natural_typeInfo _
    | with_reducible exact natural_underlying _
    | with_reducible exact natural_prog
    | with_reducible exact natural_sizeOf _
    | with_reducible exact natural_zeroValue _
    | with_reducible exact natural_isAgg _
    | with_reducible exact natural_part _ _ _
    | with_reducible exact natural_loadCells _ _
    | with_reducible exact natural_storeCells _ _ _
    | with_reducible exact natural_loadVar _ _
    | with_reducible exact natural_storeVar _ _ _
    | with_reducible exact natural_newRow _ _
    | with_reducible exact natural_newVar _ _
    | with_reducible exact natural_runtimePanic _
    | with_reducible exact natural_boundsPanic _ _ _ _
    | with_reducible exact natural_asIntOf _
    | with_reducible exact natural_asInt _
    | with_reducible exact natural_asBool _
    | with_reducible exact natural_asAgg _
    | with_reducible exact natural_asAddr _
    | with_reducible exact natural_sureAddr _
    | with_reducible exact natural_askRoom _
    | with_reducible assumption
    | with_reducible refine natural_getObj_k _ (fun _ => ?_) (fun o o' hb => by cases hb <;> first | exact .inl rfl | exact .inr fun _ _ h => h)
    | with_reducible refine natural_bind' ?_ fun _ => ?_
    | with_reducible refine natural_map ?_
    | split
theorem natural_extract {P : Program} (a : Value) (n : Nat) : Natural P (Instr.extract a n) := by
  unfold Instr.extract
  try simp only []
  repeat' first
    | with_reducible exact natural_pure' _
    | with_reducible exact natural_pure _
    | with_reducible exact natural_stuck _
    | with_reducible exact natural_unsupE _
    | with_reducible exact natural_unsupU _
    | with_reducible exact natural_unsupR _
    | with_reducible exact natural_unsupA
    | with_reducible exact natural_goPanic _
    | with_reducible exact natural_load _
    | with_reducible exact natural_store _ _
    | with_reducible exact natural_choose _
    | with_reducible exact natural_noRoom
    | with_reducible exact natural_typeInfo _
    | with_reducible exact natural_underlying _
    | with_reducible exact natural_prog
    | with_reducible exact natural_sizeOf _
    | with_reducible exact natural_zeroValue _
    | with_reducible exact natural_isAgg _
    | with_reducible exact natural_part _ _ _
    | with_reducible exact natural_loadCells _ _
    | with_reducible exact natural_storeCells _ _ _
    | with_reducible exact natural_loadVar _ _
    | with_reducible exact natural_storeVar _ _ _
    | with_reducible exact natural_newRow _ _
    | with_reducible exact natural_newVar _ _
    | with_reducible exact natural_runtimePanic _
    | with_reducible exact natural_boundsPanic _ _ _ _
    | with_reducible exact natural_asIntOf _
    | with_reducible exact natural_asInt _
    | with_reducible exact natural_asBool _
    | with_reducible exact natural_asAgg _
    | with_reducible exact natural_asAddr _
    | with_reducible exact natural_sureAddr _
    | with_reducible exact natural_askRoom _
    | with_reducible assumption
    | with_reducible refine natural_getObj_k _ (fun _ => ?_) (fun o o' hb => by cases hb <;> first | exact .inl rfl | exact .inr fun _ _ h => h)
    | with_reducible refine natural_bind' ?_ fun _ => ?_
    | with_reducible refine natural_map ?_
    | split
theorem natural_makeSlice {P : Program} (t : TypeId) (a b : Value) : Natural P (Instr.makeSlice t a b) := by
  unfold Instr.makeSlice
  try simp only []
  repeat' first
    | with_reducible exact natural_pure' _
    | with_reducible exact natural_pure _
    | with_reducible exact natural_stuck _
    | with_reducible exact natural_unsupE _
    | with_reducible exact natural_unsupU _
    | with_reducible exact natural_unsupR _
    | with_reducible exact natural_unsupA
    | with_reducible exact natural_goPanic _
    | with_reducible exact natural_load _
    | with_reducible exact natural_store _ _
    | with_reducible exact natural_choose _
    | with_reducible exact natural_noRoom
    | with_reducible exact natural_typeInfo _
    | with_reducible exact natural_underlying _
    | with_reducible exact natural_prog
    | with_reducible exact natural_sizeOf _
    | with_reducible exact natural_zeroValue _
    | with_reducible exact natural_isAgg _
    | with_reducible exact natural_part _ _ _
    | with_reducible exact natural_loadCells _ _
    | with_reducible exact natural_storeCells _ _ _
    | with_reducible exact natural_loadVar _ _
    | with_reducible exact natural_storeVar _ _ _
    | with_reducible exact natural_newRow _ _
    | with_reducible exact natural_newVar _ _
    | with_reducible exact natural_runtimePanic _
    | with_reducible exact natural_boundsPanic _ _ _ _
    | with_reducible exact natural_asIntOf _
    | with_reducible exact natural_asInt _
    | with_reducible exact natural_asBool _
    | with_reducible exact natural_asAgg _
    | with_reducible exact natural_asAddr _
    | with_reducible exact natural_sureAddr _
    | with_reducible exact natural_askRoom _
    | with_reducible assumption
    | with_reducible refine natural_getObj_k _ (fun _ => ?_) (fun o o' hb => by cases hb <;> first | exact .inl rfl | exact .inr fun _ _ h => h)
    | with_reducible refine natural_bind' ?_ fun _ => ?_
    | with_reducible refine natural_map ?_
    | split
theorem natural_sliceBound {P : Program} (a : Value) (n : Nat) (c : BoundsCode) : Natural P (Instr.sliceBound a n c) := by
  unfold Instr.sliceBound
  try simp only []
  repeat' first
    | with_reducible exact natural_pure' _
    | with_reducible exact natural_pure _
    | with_reducible exact natural_stuck _
    | with_reducible exact natural_unsupE _
    | with_reducible exact natural_unsupU _
    | with_reducible exact natural_unsupR _
    | with_reducible exact natural_unsupA
    | with_reducible exact natural_goPanic _
    | with_reducible exact natural_load _
    | with_reducible exact natural_store _ _
    | with_reducible exact natural_choose _
    | with_reducible exact natural_noRoom
    | with_reducible exact natural_typeInfo _
    | with_reducible exact natural_underlying _
    | with_reducible exact natural_prog
    | with_reducible exact natural_sizeOf _
    | with_reducible exact natural_zeroValue _
    | with_reducible exact natural_isAgg _
    | with_reducible exact natural_part _ _ _
    | with_reducible exact natural_loadCells _ _
    | with_reducible exact natural_storeCells _ _ _
    | with_reducible exact natural_loadVar _ _
    | with_reducible exact natural_storeVar _ _ _
    | with_reducible exact natural_newRow _ _
    | with_reducible exact natural_newVar _ _
    | with_reducible exact natural_runtimePanic _
    | with_reducible exact natural_boundsPanic _ _ _ _
    | with_reducible exact natural_asIntOf _
    | with_reducible exact natural_asInt _
    | with_reducible exact natural_asBool _
    | with_reducible exact natural_asAgg _
    | with_reducible exact natural_asAddr _
    | with_reducible exact natural_sureAddr _
    | with_reducible exact natural_askRoom _
    | with_reducible assumption
    | with_reducible refine natural_getObj_k _ (fun _ => ?_) (fun o o' hb => by cases hb <;> first | exact .inl rfl | exact .inr fun _ _ h => h)
    | with_reducible refine natural_bind' ?_ fun _ => ?_
    | with_reducible refine natural_map ?_
    | split
theorem natural_sliceBounds {P : Program} (s : Bool) (l c : Nat) (x y z : Option Value) : Natural P (Instr.sliceBounds s l c x y z) := by
  unfold Instr.sliceBounds
  try simp only []
  repeat' first
    | with_reducible exact natural_pure' _
    | with_reducible exact natural_pure _
    | with_reducible exact natural_stuck _
    | with_reducible exact natural_unsupE _
    | with_reducible exact natural_unsupU _
    | with_reducible exact natural_unsupR _
    | with_reducible exact natural_unsupA
    | with_reducible exact natural_goPanic _
    | with_reducible exact natural_load _
    | with_reducible exact natural_store _ _
    | with_reducible exact natural_choose _
    | with_reducible exact natural_noRoom
    | with_reducible exact natural_typeInfo _
    | with_reducible exact natural_underlying _
    | with_reducible exact natural_prog
    | with_reducible exact natural_sizeOf _
    | with_reducible exact natural_zeroValue _
    | with_reducible exact natural_isAgg _
    | with_reducible exact natural_part _ _ _
    | with_reducible exact natural_loadCells _ _
    | with_reducible exact natural_storeCells _ _ _
    | with_reducible exact natural_loadVar _ _
    | with_reducible exact natural_storeVar _ _ _
    | with_reducible exact natural_newRow _ _
    | with_reducible exact natural_newVar _ _
    | with_reducible exact natural_runtimePanic _
    | with_reducible exact natural_boundsPanic _ _ _ _
    | with_reducible exact natural_asIntOf _
    | with_reducible exact natural_asInt _
    | with_reducible exact natural_asBool _
    | with_reducible exact natural_asAgg _
    | with_reducible exact natural_asAddr _
    | with_reducible exact natural_sureAddr _
    | with_reducible exact natural_askRoom _
    | with_reducible assumption
    | with_reducible refine natural_getObj_k _ (fun _ => ?_) (fun o o' hb => by cases hb <;> first | exact .inl rfl | exact .inr fun _ _ h => h)
    | with_reducible refine natural_bind' ?_ fun _ => ?_
    | with_reducible refine natural_map ?_
    | split
    | with_reducible exact natural_sliceBound _ _ _
theorem natural_slice {P : Program} (t : TypeId) (v : Value) (x y z : Option Value) : Natural P (Instr.slice t v x y z) := by
  unfold Instr.slice
  try simp only []
  repeat' first
    | with_reducible exact natural_pure' _
    | with_reducible exact natural_pure _
    | with_reducible exact natural_stuck _
    | with_reducible exact natural_unsupE _
    | with_reducible exact natural_unsupU _
    | with_reducible exact natural_unsupR _
    | with_reducible exact natural_unsupA
    | with_reducible exact natural_goPanic _
    | with_reducible exact natural_load _
    | with_reducible exact natural_store _ _
    | with_reducible exact natural_choose _
    | with_reducible exact natural_noRoom
    | with_reducible exact natural_typeInfo _
    | with_reducible exact natural_underlying _
    | with_reducible exact natural_prog
    | with_reducible exact natural_sizeOf _
    | with_reducible exact natural_zeroValue _
    | with_reducible exact natural_isAgg _
    | with_reducible exact natural_part _ _ _
    | with_reducible exact natural_loadCells _ _
    | with_reducible exact natural_storeCells _ _ _
    | with_reducible exact natural_loadVar _ _
    | with_reducible exact natural_storeVar _ _ _
    | with_reducible exact natural_newRow _ _
    | with_reducible exact natural_newVar _ _
    | with_reducible exact natural_runtimePanic _
    | with_reducible exact natural_boundsPanic _ _ _ _
    | with_reducible exact natural_asIntOf _
    | with_reducible exact natural_asInt _
    | with_reducible exact natural_asBool _
    | with_reducible exact natural_asAgg _
    | with_reducible exact natural_asAddr _
    | with_reducible exact natural_sureAddr _
    | with_reducible exact natural_askRoom _
    | with_reducible assumption
    | with_reducible refine natural_getObj_k _ (fun _ => ?_) (fun o o' hb => by cases hb <;> first | exact .inl rfl | exact .inr fun _ _ h => h)
    | with_reducible refine natural_bind' ?_ fun _ => ?_
    | with_reducible refine natural_map ?_
    | split
    | with_reducible exact natural_sliceBound _ _ _
    | with_reducible exact natural_sliceBounds _ _ _ _ _ _
theorem natural_sliceAt {P : Program} (t : TypeId) (v : Value) (x y z : Option Value) : Natural P (Instr.sliceAt t v x y z) := by
  unfold Instr.sliceAt
  try simp only []
  repeat' first
    | with_reducible exact natural_pure' _
    | with_reducible exact natural_pure _
    | with_reducible exact natural_stuck _
    | with_reducible exact natural_unsupE _
    | with_reducible exact natural_unsupU _
    | with_reducible exact natural_unsupR _
    | with_reducible exact natural_unsupA
    | with_reducible exact natural_goPanic _
    | with_reducible exact natural_load _
    | with_reducible exact natural_store _ _
    | with_reducible exact natural_choose _
    | with_reducible exact natural_noRoom
    | with_reducible exact natural_typeInfo _
    | with_reducible exact natural_underlying _
    | with_reducible exact natural_prog
    | with_reducible exact natural_sizeOf _
    | with_reducible exact natural_zeroValue _
    | with_reducible exact natural_isAgg _
    | with_reducible exact natural_part _ _ _
    | with_reducible exact natural_loadCells _ _
    | with_reducible exact natural_storeCells _ _ _
    | with_reducible exact natural_loadVar _ _
    | with_reducible exact natural_storeVar _ _ _
    | with_reducible exact natural_newRow _ _
    | with_reducible exact natural_newVar _ _
    | with_reducible exact natural_runtimePanic _
    | with_reducible exact natural_boundsPanic _ _ _ _
    | with_reducible exact natural_asIntOf _
    | with_reducible exact natural_asInt _
    | with_reducible exact natural_asBool _
    | with_reducible exact natural_asAgg _
    | with_reducible exact natural_asAddr _
    | with_reducible exact natural_sureAddr _
    | with_reducible exact natural_askRoom _
    | with_reducible assumption
    | with_reducible refine natural_getObj_k _ (fun _ => ?_) (fun o o' hb => by cases hb <;> first | exact .inl rfl | exact .inr fun _ _ h => h)
    | with_reducible refine natural_bind' ?_ fun _ => ?_
    | with_reducible refine natural_map ?_
    | split
    | with_reducible exact natural_sliceBound _ _ _
    | with_reducible exact natural_sliceBounds _ _ _ _ _ _
    | with_reducible exact natural_slice _ _ _ _ _
theorem natural_intArith {P : Program} (op : BinOp) (k : IntKind) (x y : Int) : Natural P (Op.intArith op k x y) := by
  unfold Op.intArith
  try simp only []
  repeat' first
    | with_reducible exact natural_pure' _
    | with_reducible exact natural_pure _
    | with_reducible exact natural_stuck _
    | with_reducible exact natural_unsupE _
    | with_reducible exact natural_unsupU _
    | with_reducible exact natural_unsupR _
    | with_reducible exact natural_unsupA
    | with_reducible exact natural_goPanic _
    | with_reducible exact natural_load _
    | with_reducible exact natural_store _ _
    | with_reducible exact natural_choose _
    | with_reducible exact natural_noRoom
    | with_reducible exact natural_typeInfo _
    | with_reducible exact natural_underlying _
    | with_reducible exact natural_prog
    | with_reducible exact natural_sizeOf _
    | with_reducible exact natural_zeroValue _
    | with_reducible exact natural_isAgg _
    | with_reducible exact natural_part _ _ _
    | with_reducible exact natural_loadCells _ _
    | with_reducible exact natural_storeCells _ _ _
    | with_reducible exact natural_loadVar _ _
    | with_reducible exact natural_storeVar _ _ _
    | with_reducible exact natural_newRow _ _
    | with_reducible exact natural_newVar _ _
    | with_reducible exact natural_runtimePanic _
    | with_reducible exact natural_boundsPanic _ _ _ _
    | with_reducible exact natural_asIntOf _
    | with_reducible exact natural_asInt _
    | with_reducible exact natural_asBool _
    | with_reducible exact natural_asAgg _
    | with_reducible exact natural_asAddr _
    | with_reducible exact natural_sureAddr _
    | with_reducible exact natural_askRoom _
    | with_reducible assumption
    | with_reducible refine natural_getObj_k _ (fun _ => ?_) (fun o o' hb => by cases hb <;> first | exact .inl rfl | exact .inr fun _ _ h => h)
    | with_reducible refine natural_bind' ?_ fun _ => ?_
    | with_reducible refine natural_map ?_
    | split
    | with_reducible exact natural_sliceBound _ _ _
    | with_reducible exact natural_sliceBounds _ _ _ _ _ _
    | with_reducible exact natural_slice _ _ _ _ _
theorem natural_intDiv {P : Program} (op : BinOp) (k : IntKind) (x y : Int) : Natural P (Op.intDiv op k x y) := by
  unfold Op.intDiv
  try simp only []
  repeat' first
    | with_reducible exact natural_pure' _
    | with_reducible exact natural_pure _
    | with_reducible exact natural_stuck _
    | with_reducible exact natural_unsupE _
    | with_reducible exact natural_unsupU _
    | with_reducible exact natural_unsupR _
    | with_reducible exact natural_unsupA
    | with_reducible exact natural_goPanic _
    | with_reducible exact natural_load _
    | with_reducible exact natural_store _ _
    | with_reducible exact natural_choose _
    | with_reducible exact natural_noRoom
    | with_reducible exact natural_typeInfo _
    | with_reducible exact natural_underlying _
    | with_reducible exact natural_prog
    | with_reducible exact natural_sizeOf _
    | with_reducible exact natural_zeroValue _
    | with_reducible exact natural_isAgg _
    | with_reducible exact natural_part _ _ _
    | with_reducible exact natural_loadCells _ _
    | with_reducible exact natural_storeCells _ _ _
    | with_reducible exact natural_loadVar _ _
    | with_reducible exact natural_storeVar _ _ _
    | with_reducible exact natural_newRow _ _
    | with_reducible exact natural_newVar _ _
    | with_reducible exact natural_runtimePanic _
    | with_reducible exact natural_boundsPanic _ _ _ _
    | with_reducible exact natural_asIntOf _
    | with_reducible exact natural_asInt _
    | with_reducible exact natural_asBool _
    | with_reducible exact natural_asAgg _
    | with_reducible exact natural_asAddr _
    | with_reducible exact natural_sureAddr _
    | with_reducible exact natural_askRoom _
    | with_reducible assumption
    | with_reducible refine natural_getObj_k _ (fun _ => ?_) (fun o o' hb => by cases hb <;> first | exact .inl rfl | exact .inr fun _ _ h => h)
    | with_reducible refine natural_bind' ?_ fun _ => ?_
    | with_reducible refine natural_map ?_
    | split
    | with_reducible exact natural_sliceBound _ _ _
    | with_reducible exact natural_sliceBounds _ _ _ _ _ _
    | with_reducible exact natural_slice _ _ _ _ _
theorem natural_intCmp {P : Program} (op : BinOp) (x y : Int) : Natural P (Op.intCmp op x y) := by
  unfold Op.intCmp
  try simp only []
  repeat' first
    | with_reducible exact natural_pure' _
    | with_reducible exact natural_pure _
    | with_reducible exact natural_stuck _
    | with_reducible exact natural_unsupE _
    | with_reducible exact natural_unsupU _
    | with_reducible exact natural_unsupR _
    | with_reducible exact natural_unsupA
    | with_reducible exact natural_goPanic _
    | with_reducible exact natural_load _
    | with_reducible exact natural_store _ _
    | with_reducible exact natural_choose _
    | with_reducible exact natural_noRoom
    | with_reducible exact natural_typeInfo _
    | with_reducible exact natural_underlying _
    | with_reducible exact natural_prog
    | with_reducible exact natural_sizeOf _
    | with_reducible exact natural_zeroValue _
    | with_reducible exact natural_isAgg _
    | with_reducible exact natural_part _ _ _
    | with_reducible exact natural_loadCells _ _
    | with_reducible exact natural_storeCells _ _ _
    | with_reducible exact natural_loadVar _ _
    | with_reducible exact natural_storeVar _ _ _
    | with_reducible exact natural_newRow _ _
    | with_reducible exact natural_newVar _ _
    | with_reducible exact natural_runtimePanic _
    | with_reducible exact natural_boundsPanic _ _ _ _
    | with_reducible exact natural_asIntOf _
    | with_reducible exact natural_asInt _
    | with_reducible exact natural_asBool _
    | with_reducible exact natural_asAgg _
    | with_reducible exact natural_asAddr _
    | with_reducible exact natural_sureAddr _
    | with_reducible exact natural_askRoom _
    | with_reducible assumption
    | with_reducible refine natural_getObj_k _ (fun _ => ?_) (fun o o' hb => by cases hb <;> first | exact .inl rfl | exact .inr fun _ _ h => h)
    | with_reducible refine natural_bind' ?_ fun _ => ?_
    | with_reducible refine natural_map ?_
    | split
    | with_reducible exact natural_sliceBound _ _ _
    | with_reducible exact natural_sliceBounds _ _ _ _ _ _
    | with_reducible exact natural_slice _ _ _ _ _
theorem natural_intBits {P : Program} (op : BinOp) (k : IntKind) (x y : Int) : Natural P (Op.intBits op k x y) := by
  unfold Op.intBits
  try simp only []
  repeat' first
    | with_reducible exact natural_pure' _
    | with_reducible exact natural_pure _
    | with_reducible exact natural_stuck _
    | with_reducible exact natural_unsupE _
    | with_reducible exact natural_unsupU _
    | with_reducible exact natural_unsupR _
    | with_reducible exact natural_unsupA
    | with_reducible exact natural_goPanic _
    | with_reducible exact natural_load _
    | with_reducible exact natural_store _ _
    | with_reducible exact natural_choose _
    | with_reducible exact natural_noRoom
    | with_reducible exact natural_typeInfo _
    | with_reducible exact natural_underlying _
    | with_reducible exact natural_prog
    | with_reducible exact natural_sizeOf _
    | with_reducible exact natural_zeroValue _
    | with_reducible exact natural_isAgg _
    | with_reducible exact natural_part _ _ _
    | with_reducible exact natural_loadCells _ _
    | with_reducible exact natural_storeCells _ _ _
    | with_reducible exact natural_loadVar _ _
    | with_reducible exact natural_storeVar _ _ _
    | with_reducible exact natural_newRow _ _
    | with_reducible exact natural_newVar _ _
    | with_reducible exact natural_runtimePanic _
    | with_reducible exact natural_boundsPanic _ _ _ _
    | with_reducible exact natural_asIntOf _
    | with_reducible exact natural_asInt _
    | with_reducible exact natural_asBool _
    | with_reducible exact natural_asAgg _
    | with_reducible exact natural_asAddr _
    | with_reducible exact natural_sureAddr _
    | with_reducible exact natural_askRoom _
    | with_reducible assumption
    | with_reducible refine natural_getObj_k _ (fun _ => ?_) (fun o o' hb => by cases hb <;> first | exact .inl rfl | exact .inr fun _ _ h => h)
    | with_reducible refine natural_bind' ?_ fun _ => ?_
    | with_reducible refine natural_map ?_
    | split
    | with_reducible exact natural_sliceBound _ _ _
    | with_reducible exact natural_sliceBounds _ _ _ _ _ _
    | with_reducible exact natural_slice _ _ _ _ _
theorem natural_shift {P : Program} (op : BinOp) (k k' : IntKind) (x y : Int) : Natural P (Op.shift op k x k' y) := by
  unfold Op.shift
  try simp only []
  repeat' first
    | with_reducible exact natural_pure' _
    | with_reducible exact natural_pure _
    | with_reducible exact natural_stuck _
    | with_reducible exact natural_unsupE _
    | with_reducible exact natural_unsupU _
    | with_reducible exact natural_unsupR _
    | with_reducible exact natural_unsupA
    | with_reducible exact natural_goPanic _
    | with_reducible exact natural_load _
    | with_reducible exact natural_store _ _
    | with_reducible exact natural_choose _
    | with_reducible exact natural_noRoom
    | with_reducible exact natural_typeInfo _
    | with_reducible exact natural_underlying _
    | with_reducible exact natural_prog
    | with_reducible exact natural_sizeOf _
    | with_reducible exact natural_zeroValue _
    | with_reducible exact natural_isAgg _
    | with_reducible exact natural_part _ _ _
    | with_reducible exact natural_loadCells _ _
    | with_reducible exact natural_storeCells _ _ _
    | with_reducible exact natural_loadVar _ _
    | with_reducible exact natural_storeVar _ _ _
    | with_reducible exact natural_newRow _ _
    | with_reducible exact natural_newVar _ _
    | with_reducible exact natural_runtimePanic _
    | with_reducible exact natural_boundsPanic _ _ _ _
    | with_reducible exact natural_asIntOf _
    | with_reducible exact natural_asInt _
    | with_reducible exact natural_asBool _
    | with_reducible exact natural_asAgg _
    | with_reducible exact natural_asAddr _
    | with_reducible exact natural_sureAddr _
    | with_reducible exact natural_askRoom _
    | with_reducible assumption
    | with_reducible refine natural_getObj_k _ (fun _ => ?_) (fun o o' hb => by cases hb <;> first | exact .inl rfl | exact .inr fun _ _ h => h)
    | with_reducible refine natural_bind' ?_ fun _ => ?_
    | with_reducible refine natural_map ?_
    | split
    | with_reducible exact natural_sliceBound _ _ _
    | with_reducible exact natural_sliceBounds _ _ _ _ _ _
    | with_reducible exact natural_slice _ _ _ _ _
theorem natural_stringOp {P : Program} (op : BinOp) (x y : ByteArray) : Natural P (Op.stringOp op x y) := by
  unfold Op.stringOp
  try simp only []
  repeat' first
    | with_reducible exact natural_pure' _
    | with_reducible exact natural_pure _
    | with_reducible exact natural_stuck _
    | with_reducible exact natural_unsupE _
    | with_reducible exact natural_unsupU _
    | with_reducible exact natural_unsupR _
    | with_reducible exact natural_unsupA
    | with_reducible exact natural_goPanic _
    | with_reducible exact natural_load _
    | with_reducible exact natural_store _ _
    | with_reducible exact natural_choose _
    | with_reducible exact natural_noRoom
    | with_reducible exact natural_typeInfo _
    | with_reducible exact natural_underlying _
    | with_reducible exact natural_prog
    | with_reducible exact natural_sizeOf _
    | with_reducible exact natural_zeroValue _
    | with_reducible exact natural_isAgg _
    | with_reducible exact natural_part _ _ _
    | with_reducible exact natural_loadCells _ _
    | with_reducible exact natural_storeCells _ _ _
    | with_reducible exact natural_loadVar _ _
    | with_reducible exact natural_storeVar _ _ _
    | with_reducible exact natural_newRow _ _
    | with_reducible exact natural_newVar _ _
    | with_reducible exact natural_runtimePanic _
    | with_reducible exact natural_boundsPanic _ _ _ _
    | with_reducible exact natural_asIntOf _
    | with_reducible exact natural_asInt _
    | with_reducible exact natural_asBool _
    | with_reducible exact natural_asAgg _
    | with_reducible exact natural_asAddr _
    | with_reducible exact natural_sureAddr _
    | with_reducible exact natural_askRoom _
    | with_reducible assumption
    | with_reducible refine natural_getObj_k _ (fun _ => ?_) (fun o o' hb => by cases hb <;> first | exact .inl rfl | exact .inr fun _ _ h => h)
    | with_reducible refine natural_bind' ?_ fun _ => ?_
    | with_reducible refine natural_map ?_
    | split
    | with_reducible exact natural_sliceBound _ _ _
    | with_reducible exact natural_sliceBounds _ _ _ _ _ _
    | with_reducible exact natural_slice _ _ _ _ _
theorem natural_unary {P : Program} (op : UnOp) (x : Value) : Natural P (Op.unary op x) := by
  unfold Op.unary
  try simp only []
  repeat' first
    | with_reducible exact natural_pure' _
    | with_reducible exact natural_pure _
    | with_reducible exact natural_stuck _
    | with_reducible exact natural_unsupE _
    | with_reducible exact natural_unsupU _
    | with_reducible exact natural_unsupR _
    | with_reducible exact natural_unsupA
    | with_reducible exact natural_goPanic _
    | with_reducible exact natural_load _
    | with_reducible exact natural_store _ _
    | with_reducible exact natural_choose _
    | with_reducible exact natural_noRoom
    | with_reducible exact natural_typeInfo _
    | with_reducible exact natural_underlying _
    | with_reducible exact natural_prog
    | with_reducible exact natural_sizeOf _
    | with_reducible exact natural_zeroValue _
    | with_reducible exact natural_isAgg _
    | with_reducible exact natural_part _ _ _
    | with_reducible exact natural_loadCells _ _
    | with_reducible exact natural_storeCells _ _ _
    | with_reducible exact natural_loadVar _ _
    | with_reducible exact natural_storeVar _ _ _
    | with_reducible exact natural_newRow _ _
    | with_reducible exact natural_newVar _ _
    | with_reducible exact natural_runtimePanic _
    | with_reducible exact natural_boundsPanic _ _ _ _
    | with_reducible exact natural_asIntOf _
    | with_reducible exact natural_asInt _
    | with_reducible exact natural_asBool _
    | with_reducible exact natural_asAgg _
    | with_reducible exact natural_asAddr _
    | with_reducible exact natural_sureAddr _
    | with_reducible exact natural_askRoom _
    | with_reducible assumption
    | with_reducible refine natural_getObj_k _ (fun _ => ?_) (fun o o' hb => by cases hb <;> first | exact .inl rfl | exact .inr fun _ _ h => h)
    | with_reducible refine natural_bind' ?_ fun _ => ?_
    | with_reducible refine natural_map ?_
    | split
    | with_reducible exact natural_sliceBound _ _ _
    | with_reducible exact natural_sliceBounds _ _ _ _ _ _
    | with_reducible exact natural_slice _ _ _ _ _
    | with_reducible exact natural_intArith _ _ _ _
    | with_reducible exact natural_intDiv _ _ _ _
    | with_reducible exact natural_intCmp _ _ _
    | with_reducible exact natural_intBits _ _ _ _
    | with_reducible exact natural_shift _ _ _ _ _
    | with_reducible exact natural_stringOp _ _ _
theorem natural_lenOf {P : Program} (x : Value) : Natural P (Builtin.lenOf x) := by
  unfold Builtin.lenOf
  try simp only []
  repeat' first
    | with_reducible exact natural_pure' _
    | with_reducible exact natural_pure _
    | with_reducible exact natural_stuck _
    | with_reducible exact natural_unsupE _
    | with_reducible exact natural_unsupU _
    | with_reducible exact natural_unsupR _
    | with_reducible exact natural_unsupA
    | with_reducible exact natural_goPanic _
    | with_reducible exact natural_load _
    | with_reducible exact natural_store _ _
    | with_reducible exact natural_choose _
    | with_reducible exact natural_noRoom
    | with_reducible exact natural_typeInfo _
    | with_reducible exact natural_underlying _
    | with_reducible exact natural_prog
    | with_reducible exact natural_sizeOf _
    | with_reducible exact natural_zeroValue _
    | with_reducible exact natural_isAgg _
    | with_reducible exact natural_part _ _ _
    | with_reducible exact natural_loadCells _ _
    | with_reducible exact natural_storeCells _ _ _
    | with_reducible exact natural_loadVar _ _
    | with_reducible exact natural_storeVar _ _ _
    | with_reducible exact natural_newRow _ _
    | with_reducible exact natural_newVar _ _
    | with_reducible exact natural_runtimePanic _
    | with_reducible exact natural_boundsPanic _ _ _ _
    | with_reducible exact natural_asIntOf _
    | with_reducible exact natural_asInt _
    | with_reducible exact natural_asBool _
    | with_reducible exact natural_asAgg _
    | with_reducible exact natural_asAddr _
    | with_reducible exact natural_sureAddr _
    | with_reducible exact natural_askRoom _
    | with_reducible assumption
    | with_reducible refine natural_getObj_k _ (fun _ => ?_) (fun o o' hb => by cases hb <;> first | exact .inl rfl | exact .inr fun _ _ h => h)
    | with_reducible refine natural_bind' ?_ fun _ => ?_
    | with_reducible refine natural_map ?_
    | split
    | with_reducible exact natural_sliceBound _ _ _
    | with_reducible exact natural_sliceBounds _ _ _ _ _ _
    | with_reducible exact natural_slice _ _ _ _ _
    | with_reducible exact natural_intArith _ _ _ _
    | with_reducible exact natural_intDiv _ _ _ _
    | with_reducible exact natural_intCmp _ _ _
    | with_reducible exact natural_intBits _ _ _ _
    | with_reducible exact natural_shift _ _ _ _ _
    | with_reducible exact natural_stringOp _ _ _
theorem natural_firstCells {P : Program} (s n : Nat) (x : Value) : Natural P (Builtin.firstCells s n x) := by
  unfold Builtin.firstCells
  try simp only []
  repeat' first
    | with_reducible exact natural_pure' _
    | with_reducible exact natural_pure _
    | with_reducible exact natural_stuck _
    | with_reducible exact natural_unsupE _
    | with_reducible exact natural_unsupU _
    | with_reducible exact natural_unsupR _
    | with_reducible exact natural_unsupA
    | with_reducible exact natural_goPanic _
    | with_reducible exact natural_load _
    | with_reducible exact natural_store _ _
    | with_reducible exact natural_choose _
    | with_reducible exact natural_noRoom
    | with_reducible exact natural_typeInfo _
    | with_reducible exact natural_underlying _
    | with_reducible exact natural_prog
    | with_reducible exact natural_sizeOf _
    | with_reducible exact natural_zeroValue _
    | with_reducible exact natural_isAgg _
    | with_reducible exact natural_part _ _ _
    | with_reducible exact natural_loadCells _ _
    | with_reducible exact natural_storeCells _ _ _
    | with_reducible exact natural_loadVar _ _
    | with_reducible exact natural_storeVar _ _ _
    | with_reducible exact natural_newRow _ _
    | with_reducible exact natural_newVar _ _
    | with_reducible exact natural_runtimePanic _
    | with_reducible exact natural_boundsPanic _ _ _ _
    | with_reducible exact natural_asIntOf _
    | with_reducible exact natural_asInt _
    | with_reducible exact natural_asBool _
    | with_reducible exact natural_asAgg _
    | with_reducible exact natural_asAddr _
    | with_reducible exact natural_sureAddr _
    | with_reducible exact natural_askRoom _
    | with_reducible assumption
    | with_reducible refine natural_getObj_k _ (fun _ => ?_) (fun o o' hb => by cases hb <;> first | exact .inl rfl | exact .inr fun _ _ h => h)
    | with_reducible refine natural_bind' ?_ fun _ => ?_
    | with_reducible refine natural_map ?_
    | split
    | with_reducible exact natural_sliceBound _ _ _
    | with_reducible exact natural_sliceBounds _ _ _ _ _ _
    | with_reducible exact natural_slice _ _ _ _ _
    | with_reducible exact natural_intArith _ _ _ _
    | with_reducible exact natural_intDiv _ _ _ _
    | with_reducible exact natural_intCmp _ _ _
    | with_reducible exact natural_intBits _ _ _ _
    | with_reducible exact natural_shift _ _ _ _ _
    | with_reducible exact natural_stringOp _ _ _
theorem natural_len {P : Program} (t : Array TypeId) (u : TypeId) (a : Array Value) : Natural P (Builtin.len_ t u a) := by
  unfold Builtin.len_
  try simp only []
  repeat' first
    | with_reducible exact natural_pure' _
    | with_reducible exact natural_pure _
    | with_reducible exact natural_stuck _
    | with_reducible exact natural_unsupE _
    | with_reducible exact natural_unsupU _
    | with_reducible exact natural_unsupR _
    | with_reducible exact natural_unsupA
    | with_reducible exact natural_goPanic _
    | with_reducible exact natural_load _
    | with_reducible exact natural_store _ _
    | with_reducible exact natural_choose _
    | with_reducible exact natural_noRoom
    | with_reducible exact natural_typeInfo _
    | with_reducible exact natural_underlying _
    | with_reducible exact natural_prog
    | with_reducible exact natural_sizeOf _
    | with_reducible exact natural_zeroValue _
    | with_reducible exact natural_isAgg _
    | with_reducible exact natural_part _ _ _
    | with_reducible exact natural_loadCells _ _
    | with_reducible exact natural_storeCells _ _ _
    | with_reducible exact natural_loadVar _ _
    | with_reducible exact natural_storeVar _ _ _
    | with_reducible exact natural_newRow _ _
    | with_reducible exact natural_newVar _ _
    | with_reducible exact natural_runtimePanic _
    | with_reducible exact natural_boundsPanic _ _ _ _
    | with_reducible exact natural_asIntOf _
    | with_reducible exact natural_asInt _
    | with_reducible exact natural_asBool _
    | with_reducible exact natural_asAgg _
    | with_reducible exact natural_asAddr _
    | with_reducible exact natural_sureAddr _
    | with_reducible exact natural_askRoom _
    | with_reducible assumption
    | with_reducible refine natural_getObj_k _ (fun _ => ?_) (fun o o' hb => by cases hb <;> first | exact .inl rfl | exact .inr fun _ _ h => h)
    | with_reducible refine natural_bind' ?_ fun _ => ?_
    | with_reducible refine natural_map ?_
    | split
    | with_reducible exact natural_sliceBound _ _ _
    | with_reducible exact natural_sliceBounds _ _ _ _ _ _
    | with_reducible exact natural_slice _ _ _ _ _
    | with_reducible exact natural_intArith _ _ _ _
    | with_reducible exact natural_intDiv _ _ _ _
    | with_reducible exact natural_intCmp _ _ _
    | with_reducible exact natural_intBits _ _ _ _
    | with_reducible exact natural_shift _ _ _ _ _
    | with_reducible exact natural_stringOp _ _ _
    | with_reducible exact natural_lenOf _
    | with_reducible exact natural_firstCells _ _ _
theorem natural_cap {P : Program} (t : Array TypeId) (u : TypeId) (a : Array Value) : Natural P (Builtin.cap_ t u a) := by
  unfold Builtin.cap_
  try simp only []
  repeat' first
    | with_reducible exact natural_pure' _
    | with_reducible exact natural_pure _
    | with_reducible exact natural_stuck _
    | with_reducible exact natural_unsupE _
    | with_reducible exact natural_unsupU _
    | with_reducible exact natural_unsupR _
    | with_reducible exact natural_unsupA
    | with_reducible exact natural_goPanic _
    | with_reducible exact natural_load _
    | with_reducible exact natural_store _ _
    | with_reducible exact natural_choose _
    | with_reducible exact natural_noRoom
    | with_reducible exact natural_typeInfo _
    | with_reducible exact natural_underlying _
    | with_reducible exact natural_prog
    | with_reducible exact natural_sizeOf _
    | with_reducible exact natural_zeroValue _
    | with_reducible exact natural_isAgg _
    | with_reducible exact natural_part _ _ _
    | with_reducible exact natural_loadCells _ _
    | with_reducible exact natural_storeCells _ _ _
    | with_reducible exact natural_loadVar _ _
    | with_reducible exact natural_storeVar _ _ _
    | with_reducible exact natural_newRow _ _
    | with_reducible exact natural_newVar _ _
    | with_reducible exact natural_runtimePanic _
    | with_reducible exact natural_boundsPanic _ _ _ _
    | with_reducible exact natural_asIntOf _
    | with_reducible exact natural_asInt _
    | with_reducible exact natural_asBool _
    | with_reducible exact natural_asAgg _
    | with_reducible exact natural_asAddr _
    | with_reducible exact natural_sureAddr _
    | with_reducible exact natural_askRoom _
    | with_reducible assumption
    | with_reducible refine natural_getObj_k _ (fun _ => ?_) (fun o o' hb => by cases hb <;> first | exact .inl rfl | exact .inr fun _ _ h => h)
    | with_reducible refine natural_bind' ?_ fun _ => ?_
    | with_reducible refine natural_map ?_
    | split
    | with_reducible exact natural_sliceBound _ _ _
    | with_reducible exact natural_sliceBounds _ _ _ _ _ _
    | with_reducible exact natural_slice _ _ _ _ _
    | with_reducible exact natural_intArith _ _ _ _
    | with_reducible exact natural_intDiv _ _ _ _
    | with_reducible exact natural_intCmp _ _ _
    | with_reducible exact natural_intBits _ _ _ _
    | with_reducible exact natural_shift _ _ _ _ _
    | with_reducible exact natural_stringOp _ _ _
    | with_reducible exact natural_lenOf _
    | with_reducible exact natural_firstCells _ _ _
theorem natural_copy {P : Program} (t : Array TypeId) (u : TypeId) (a : Array Value) : Natural P (Builtin.copy_ t u a) := by
  unfold Builtin.copy_
  try simp only []
  repeat' first
    | with_reducible exact natural_pure' _
    | with_reducible exact natural_pure _
    | with_reducible exact natural_stuck _
    | with_reducible exact natural_unsupE _
    | with_reducible exact natural_unsupU _
    | with_reducible exact natural_unsupR _
    | with_reducible exact natural_unsupA
    | with_reducible exact natural_goPanic _
    | with_reducible exact natural_load _
    | with_reducible exact natural_store _ _
    | with_reducible exact natural_choose _
    | with_reducible exact natural_noRoom
    | with_reducible exact natural_typeInfo _
    | with_reducible exact natural_underlying _
    | with_reducible exact natural_prog
    | with_reducible exact natural_sizeOf _
    | with_reducible exact natural_zeroValue _
    | with_reducible exact natural_isAgg _
    | with_reducible exact natural_part _ _ _
    | with_reducible exact natural_loadCells _ _
    | with_reducible exact natural_storeCells _ _ _
    | with_reducible exact natural_loadVar _ _
    | with_reducible exact natural_storeVar _ _ _
    | with_reducible exact natural_newRow _ _
    | with_reducible exact natural_newVar _ _
    | with_reducible exact natural_runtimePanic _
    | with_reducible exact natural_boundsPanic _ _ _ _
    | with_reducible exact natural_asIntOf _
    | with_reducible exact natural_asInt _
    | with_reducible exact natural_asBool _
    | with_reducible exact natural_asAgg _
    | with_reducible exact natural_asAddr _
    | with_reducible exact natural_sureAddr _
    | with_reducible exact natural_askRoom _
    | with_reducible assumption
    | with_reducible refine natural_getObj_k _ (fun _ => ?_) (fun o o' hb => by cases hb <;> first | exact .inl rfl | exact .inr fun _ _ h => h)
    | with_reducible refine natural_bind' ?_ fun _ => ?_
    | with_reducible refine natural_map ?_
    | split
    | with_reducible exact natural_sliceBound _ _ _
    | with_reducible exact natural_sliceBounds _ _ _ _ _ _
    | with_reducible exact natural_slice _ _ _ _ _
    | with_reducible exact natural_intArith _ _ _ _
    | with_reducible exact natural_intDiv _ _ _ _
    | with_reducible exact natural_intCmp _ _ _
    | with_reducible exact natural_intBits _ _ _ _
    | with_reducible exact natural_shift _ _ _ _ _
    | with_reducible exact natural_stringOp _ _ _
    | with_reducible exact natural_lenOf _
    | with_reducible exact natural_firstCells _ _ _
theorem natural_min2 {P : Program} (a b : Value) : Natural P (Builtin.min2 a b) := by
  unfold Builtin.min2
  try simp only []
  repeat' first
    | with_reducible exact natural_pure' _
    | with_reducible exact natural_pure _
    | with_reducible exact natural_stuck _
    | with_reducible exact natural_unsupE _
    | with_reducible exact natural_unsupU _
    | with_reducible exact natural_unsupR _
    | with_reducible exact natural_unsupA
    | with_reducible exact natural_goPanic _
    | with_reducible exact natural_load _
    | with_reducible exact natural_store _ _
    | with_reducible exact natural_choose _
    | with_reducible exact natural_noRoom
    | with_reducible exact natural_typeInfo _
    | with_reducible exact natural_underlying _
    | with_reducible exact natural_prog
    | with_reducible exact natural_sizeOf _
    | with_reducible exact natural_zeroValue _
    | with_reducible exact natural_isAgg _
    | with_reducible exact natural_part _ _ _
    | with_reducible exact natural_loadCells _ _
    | with_reducible exact natural_storeCells _ _ _
    | with_reducible exact natural_loadVar _ _
    | with_reducible exact natural_storeVar _ _ _
    | with_reducible exact natural_newRow _ _
    | with_reducible exact natural_newVar _ _
    | with_reducible exact natural_runtimePanic _
    | with_reducible exact natural_boundsPanic _ _ _ _
    | with_reducible exact natural_asIntOf _
    | with_reducible exact natural_asInt _
    | with_reducible exact natural_asBool _
    | with_reducible exact natural_asAgg _
    | with_reducible exact natural_asAddr _
    | with_reducible exact natural_sureAddr _
    | with_reducible exact natural_askRoom _
    | with_reducible assumption
    | with_reducible refine natural_getObj_k _ (fun _ => ?_) (fun o o' hb => by cases hb <;> first | exact .inl rfl | exact .inr fun _ _ h => h)
    | with_reducible refine natural_bind' ?_ fun _ => ?_
    | with_reducible refine natural_map ?_
    | split
    | with_reducible exact natural_sliceBound _ _ _
    | with_reducible exact natural_sliceBounds _ _ _ _ _ _
    | with_reducible exact natural_slice _ _ _ _ _
    | with_reducible exact natural_intArith _ _ _ _
    | with_reducible exact natural_intDiv _ _ _ _
    | with_reducible exact natural_intCmp _ _ _
    | with_reducible exact natural_intBits _ _ _ _
    | with_reducible exact natural_shift _ _ _ _ _
    | with_reducible exact natural_stringOp _ _ _
    | with_reducible exact natural_lenOf _
    | with_reducible exact natural_firstCells _ _ _
theorem natural_max2 {P : Program} (a b : Value) : Natural P (Builtin.max2 a b) := by
  unfold Builtin.max2
  try simp only []
  repeat' first
    | with_reducible exact natural_pure' _
    | with_reducible exact natural_pure _
    | with_reducible exact natural_stuck _
    | with_reducible exact natural_unsupE _
    | with_reducible exact natural_unsupU _
    | with_reducible exact natural_unsupR _
    | with_reducible exact natural_unsupA
    | with_reducible exact natural_goPanic _
    | with_reducible exact natural_load _
    | with_reducible exact natural_store _ _
    | with_reducible exact natural_choose _
    | with_reducible exact natural_noRoom
    | with_reducible exact natural_typeInfo _
    | with_reducible exact natural_underlying _
    | with_reducible exact natural_prog
    | with_reducible exact natural_sizeOf _
    | with_reducible exact natural_zeroValue _
    | with_reducible exact natural_isAgg _
    | with_reducible exact natural_part _ _ _
    | with_reducible exact natural_loadCells _ _
    | with_reducible exact natural_storeCells _ _ _
    | with_reducible exact natural_loadVar _ _
    | with_reducible exact natural_storeVar _ _ _
    | with_reducible exact natural_newRow _ _
    | with_reducible exact natural_newVar _ _
    | with_reducible exact natural_runtimePanic _
    | with_reducible exact natural_boundsPanic _ _ _ _
    | with_reducible exact natural_asIntOf _
    | with_reducible exact natural_asInt _
    | with_reducible exact natural_asBool _
    | with_reducible exact natural_asAgg _
    | with_reducible exact natural_asAddr _
    | with_reducible exact natural_sureAddr _
    | with_reducible exact natural_askRoom _
    | with_reducible assumption
    | with_reducible refine natural_getObj_k _ (fun _ => ?_) (fun o o' hb => by cases hb <;> first | exact .inl rfl | exact .inr fun _ _ h => h)
    | with_reducible refine natural_bind' ?_ fun _ => ?_
    | with_reducible refine natural_map ?_
    | split
    | with_reducible exact natural_sliceBound _ _ _
    | with_reducible exact natural_sliceBounds _ _ _ _ _ _
    | with_reducible exact natural_slice _ _ _ _ _
    | with_reducible exact natural_intArith _ _ _ _
    | with_reducible exact natural_intDiv _ _ _ _
    | with_reducible exact natural_intCmp _ _ _
    | with_reducible exact natural_intBits _ _ _ _
    | with_reducible exact natural_shift _ _ _ _ _
    | with_reducible exact natural_stringOp _ _ _
    | with_reducible exact natural_lenOf _
    | with_reducible exact natural_firstCells _ _ _
theorem natural_foldlM {α : Type} {P : Program} {f : Value → α → Sem Value} (h : ∀ x y, Natural P (f x y)) : ∀ (l : List α) (x : Value), Natural P (l.foldlM f x)
  | [], _ => natural_pure _
  | a :: l, x => by rw [List.foldlM_cons]; exact natural_bind' (h x a) fun y => natural_foldlM h l y
theorem natural_min {P : Program} (t : Array TypeId) (u : TypeId) (a : Array Value) : Natural P (Builtin.min_ t u a) := by
  unfold Builtin.min_
  split
  · exact natural_halt _ trivial
  · exact natural_foldlM natural_min2 _ _
theorem natural_max {P : Program} (t : Array TypeId) (u : TypeId) (a : Array Value) : Natural P (Builtin.max_ t u a) := by
  unfold Builtin.max_
  split
  · exact natural_halt _ trivial
  · exact natural_foldlM natural_max2 _ _
end Go.Town
