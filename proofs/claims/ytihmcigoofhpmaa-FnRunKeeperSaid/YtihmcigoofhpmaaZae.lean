/-
  The operations that a list of functions may hold, each of which looks at nothing but what is there.
-/
import Derived.Test.YtihmcigoofhpmaaZad
set_option linter.all false
namespace Go.Town
open Go
theorem natural_unsup_bind {α β : Type} {P : Program} (a : Unsupported) (f : α → Sem β) (h : HaltOk (.unsupported a)) : Natural P (unsupported a >>= f) := natural_ofRun (s' := Sem.halt (.unsupported a)) (fun _ _ => rfl) (natural_halt _ h)
theorem natural_unsupE_bind {α β : Type} {P : Program} (a : String) (f : α → Sem β) : Natural P (unsupported (.noEntry a) >>= f) := natural_unsup_bind _ _ trivial
theorem natural_unsupU_bind {α β : Type} {P : Program} (a : String) (f : α → Sem β) : Natural P (unsupported (.unsafePointer a) >>= f) := natural_unsup_bind _ _ trivial
theorem natural_unsupR_bind {α β : Type} {P : Program} (a : String) (f : α → Sem β) : Natural P (unsupported (.resourceLimit a) >>= f) := natural_unsup_bind _ _ trivial
theorem natural_unsupA_bind {α β : Type} {P : Program} (f : α → Sem β) : Natural P (unsupported .addressObserved >>= f) := natural_unsup_bind _ _ trivial
theorem natural_stuck_bind {α β : Type} {P : Program} (a : String) (f : α → Sem β) : Natural P (stuck a >>= f) := natural_ofRun (s' := Sem.halt (.stuck a)) (fun _ _ => rfl) (natural_halt _ trivial)
theorem natural_floatToInt {P : Program} (s : FloatKind) (b : Nat) (k : IntKind) : Natural P (Conv.floatToInt s b k) := by
  unfold Conv.floatToInt
  simp only []
  repeat' first
    | with_reducible exact natural_pure' _
    | with_reducible exact natural_pure _
    | with_reducible exact natural_stuck _
    | with_reducible exact natural_unsupE _
    | with_reducible exact natural_unsupU _
    | with_reducible exact natural_unsupR _
    | with_reducible exact natural_unsupA
    | with_reducible exact natural_goPanic _
    | with_reducible exact natural_load _
    | with_reducible exact natural_store _ _
    | with_reducible exact natural_choose _
    | with_reducible exact natural_noRoom
    | with_reducible exact natural_typeInfo _
    | with_reducible exact natural_underlying _
    | with_reducible exact natural_prog
    | with_reducible exact natural_sizeOf _
    | with_reducible exact natural_zeroValue _
    | with_reducible exact natural_isAgg _
    | with_reducible exact natural_part _ _ _
    | with_reducible exact natural_loadCells _ _
    | with_reducible exact natural_storeCells _ _ _
    | with_reducible exact natural_loadVar _ _
    | with_reducible exact natural_storeVar _ _ _
    | with_reducible exact natural_newRow _ _
    | with_reducible exact natural_newVar _ _
    | with_reducible exact natural_runtimePanic _
    | with_reducible exact natural_boundsPanic _ _ _ _
    | with_reducible exact natural_asIntOf _
    | with_reducible exact natural_asInt _
    | with_reducible exact natural_asBool _
    | with_reducible exact natural_asAgg _
    | with_reducible exact natural_asAddr _
    | with_reducible exact natural_sureAddr _
    | with_reducible exact natural_askRoom _
    | with_reducible assumption
    | with_reducible refine natural_getObj_k _ (fun _ => ?_) (fun o o' hb => by cases hb <;> first | exact .inl rfl | exact .inr fun _ _ h => h)
    | with_reducible refine natural_bind' ?_ fun _ => ?_
    | with_reducible refine natural_map ?_
    | with_reducible exact natural_unsupE_bind _ _
    | with_reducible exact natural_unsupU_bind _ _
    | with_reducible exact natural_unsupR_bind _ _
    | with_reducible exact natural_unsupA_bind _
    | with_reducible exact natural_stuck_bind _ _
    | with_reducible exact natural_byteOf _
    | with_reducible exact natural_behindNumber _
    | with_reducible refine natural_ite (fun _ => ?_) (fun _ => ?_)
    | split
theorem natural_convert_int {P : Program} {src dst : TypeId} {k k' : IntKind} (h1 : P.underlying src = some (.int k)) (h2 : P.underlying dst = some (.int k')) (x : Value) : Natural P (convert src dst x) := by
  unfold convert
  refine natural_underlying_bind src fun d hd => natural_underlying_bind dst fun d' hd' => ?_
  rw [h1] at hd; rw [h2] at hd'; cases hd; cases hd'
  split <;> first
    | exact natural_pure' _
    | exact natural_unsup _ trivial
    | (simp_all; done)
    | (rename_i h; cases h; done)
    | (rename_i h; cases h; exact natural_floatToInt _ _ _)
theorem natural_convert_str {P : Program} {src dst e : TypeId} (h1 : P.underlying src = some (.slice e)) (h2 : P.underlying dst = some .string) (h3 : P.underlying e = some (.int .u8)) (x : Value) : Natural P (convert src dst x) := by
  unfold convert
  refine natural_underlying_bind src fun d hd => natural_underlying_bind dst fun d' hd' => ?_
  rw [h1] at hd; rw [h2] at hd'; cases hd; cases hd'
  split
  all_goals first
    | exact natural_pure' _
    | exact natural_unsup _ trivial
    | (simp_all; done)
    | (rename_i h; cases h; done)
    | (rename_i h1' h2'; cases h1'; cases h2'; done)
    | (refine natural_underlying_bind _ fun d hd => ?_
       simp_all
       exact natural_bytesToString _)
    | skip
def okEq (P : Program) (t : TypeId) (x y : Operand) : Bool :=
  simpleT P t || (match P.underlying t with
    | some (.pointer _) => (match x, y with
      | .const (.pointer none), _ | _, .const (.pointer none) => true
      | _, _ => false)
    | some (.slice _) | some (.map _ _) => true
    | _ => false)
theorem natural_equal_ok {P : Program} {t : TypeId} {x y : Operand} (h : okEq P t x y = true) (a : Act) : Natural P (Op.equal t (a.eval x) (a.eval y)) := by
  unfold okEq at h
  rcases (Bool.or_eq_true_iff.1 h) with h | h
  · exact natural_equal h _ _
  · show Natural P (Op.equalIn (9999 + 1) t _ _)
    unfold Op.equalIn
    refine natural_underlying_bind t fun d hd => ?_
    rw [hd] at h
    cases d <;> simp only [Bool.false_eq_true] at h
    · split at h
      · simp only [Act.eval]
        split <;> first | exact natural_pure' _ | exact natural_stuck _ | (simp_all; done) | skip
      · simp only [Act.eval]
        split <;> first | exact natural_pure' _ | exact natural_stuck _ | (simp_all; done) | skip
      · cases h
    · split <;> first | exact natural_pure' _ | exact natural_stuck _ | (simp_all; done)
    · split <;> first | exact natural_pure' _ | exact natural_stuck _ | (simp_all; done)
theorem natural_eqGuardIn {P : Program} : ∀ (n : Nat) (t : TypeId) (x y : Value), Natural P (Op.eqGuardIn n t x y)
  | 0, _, _, _ => natural_unsupR _
  | n + 1, t, x, y => by
    have ih := fun t x y => natural_eqGuardIn (P := P) n t x y
    unfold Op.eqGuardIn
    repeat' first
      | with_reducible exact natural_pure' _
      | with_reducible exact natural_pure _
      | with_reducible exact natural_stuck _
      | with_reducible exact natural_unsupE _
      | with_reducible exact natural_unsupU _
      | with_reducible exact natural_unsupR _
      | with_reducible exact natural_unsupA
      | with_reducible exact natural_goPanic _
      | with_reducible exact natural_load _
      | with_reducible exact natural_store _ _
      | with_reducible exact natural_choose _
      | with_reducible exact natural_noRoom
      | with_reducible exact natural_typeInfo _
      | with_reducible exact natural_underlying _
      | with_reducible exact natural_prog
      | with_reducible exact natural_sizeOf _
      | with_reducible exact natural_zeroValue _
      | with_reducible exact natural_isAgg _
      | with_reducible exact natural_part _ _ _
      | with_reducible exact natural_loadCells _ _
      | with_reducible exact natural_storeCells _ _ _
      | with_reducible exact natural_loadVar _ _
      | with_reducible exact natural_storeVar _ _ _
      | with_reducible exact natural_newRow _ _
      | with_reducible exact natural_newVar _ _
      | with_reducible exact natural_runtimePanic _
      | with_reducible exact natural_boundsPanic _ _ _ _
      | with_reducible exact natural_asIntOf _
      | with_reducible exact natural_asInt _
      | with_reducible exact natural_asBool _
      | with_reducible exact natural_asAgg _
      | with_reducible exact natural_asAddr _
      | with_reducible exact natural_sureAddr _
      | with_reducible exact natural_askRoom _
      | with_reducible assumption
      | with_reducible refine natural_getObj_k _ (fun _ => ?_) (fun o o' hb => by cases hb <;> first | exact .inl rfl | exact .inr fun _ _ h => h)
      | with_reducible refine natural_bind' ?_ fun _ => ?_
      | with_reducible refine natural_map ?_
      | with_reducible exact natural_unsupE_bind _ _
      | with_reducible exact natural_unsupU_bind _ _
      | with_reducible exact natural_unsupR_bind _ _
      | with_reducible exact natural_unsupA_bind _
      | with_reducible exact natural_stuck_bind _ _
      | with_reducible exact natural_byteOf _
      | with_reducible exact natural_behindNumber _
      | with_reducible refine natural_ite (fun _ => ?_) (fun _ => ?_)
      | split
      | with_reducible exact ih _ _ _
      | with_reducible refine natural_forInA (fun _ _ => ?_) _ _
      | with_reducible refine natural_forInR (fun _ _ => ?_) _ _
    all_goals (dsimp only; split <;> exact natural_pure' _)
theorem natural_eqGuard {P : Program} (op : BinOp) (t : TypeId) (x y : Operand) (a b : Value) : Natural P (eqGuard op t x y a b) := by
  unfold eqGuard
  repeat' first
    | with_reducible exact natural_pure' _
    | with_reducible exact natural_pure _
    | with_reducible exact natural_stuck _
    | with_reducible exact natural_unsupE _
    | with_reducible exact natural_unsupU _
    | with_reducible exact natural_unsupR _
    | with_reducible exact natural_unsupA
    | with_reducible exact natural_goPanic _
    | with_reducible exact natural_load _
    | with_reducible exact natural_store _ _
    | with_reducible exact natural_choose _
    | with_reducible exact natural_noRoom
    | with_reducible exact natural_typeInfo _
    | with_reducible exact natural_underlying _
    | with_reducible exact natural_prog
    | with_reducible exact natural_sizeOf _
    | with_reducible exact natural_zeroValue _
    | with_reducible exact natural_isAgg _
    | with_reducible exact natural_part _ _ _
    | with_reducible exact natural_loadCells _ _
    | with_reducible exact natural_storeCells _ _ _
    | with_reducible exact natural_loadVar _ _
    | with_reducible exact natural_storeVar _ _ _
    | with_reducible exact natural_newRow _ _
    | with_reducible exact natural_newVar _ _
    | with_reducible exact natural_runtimePanic _
    | with_reducible exact natural_boundsPanic _ _ _ _
    | with_reducible exact natural_asIntOf _
    | with_reducible exact natural_asInt _
    | with_reducible exact natural_asBool _
    | with_reducible exact natural_asAgg _
    | with_reducible exact natural_asAddr _
    | with_reducible exact natural_sureAddr _
    | with_reducible exact natural_askRoom _
    | with_reducible assumption
    | with_reducible refine natural_getObj_k _ (fun _ => ?_) (fun o o' hb => by cases hb <;> first | exact .inl rfl | exact .inr fun _ _ h => h)
    | with_reducible refine natural_bind' ?_ fun _ => ?_
    | with_reducible refine natural_map ?_
    | with_reducible exact natural_unsupE_bind _ _
    | with_reducible exact natural_unsupU_bind _ _
    | with_reducible exact natural_unsupR_bind _ _
    | with_reducible exact natural_unsupA_bind _
    | with_reducible exact natural_stuck_bind _ _
    | with_reducible exact natural_byteOf _
    | with_reducible exact natural_behindNumber _
    | with_reducible refine natural_ite (fun _ => ?_) (fun _ => ?_)
    | split
    | with_reducible exact natural_eqGuardIn _ _ _ _
def okBin (P : Program) (op : BinOp) (t : TypeId) (x y : Operand) : Bool :=
  match op with
  | .eql | .neq => okEq P t x y
  | _ => match P.underlying t with
    | some (.int _) | some .string => true
    | _ => false
theorem not_unsafe {P : Program} {t : TypeId} {d : TypeDesc} (h : (match P.underlying t with | some (.int _) | some .string => true | _ => false) = true) (hd : P.underlying t = some d) : d ≠ .unsafePointer := by
  rintro rfl; rw [hd] at h; cases h
theorem natural_floatArith {P : Program} (op : BinOp) (k : FloatKind) (x y : Nat) : Natural P (Op.floatArith op k x y) := by
  unfold Op.floatArith
  simp only []
  repeat' first
    | with_reducible exact natural_pure' _
    | with_reducible exact natural_pure _
    | with_reducible exact natural_stuck _
    | with_reducible exact natural_unsupE _
    | with_reducible exact natural_unsupU _
    | with_reducible exact natural_unsupR _
    | with_reducible exact natural_unsupA
    | with_reducible exact natural_goPanic _
    | with_reducible exact natural_load _
    | with_reducible exact natural_store _ _
    | with_reducible exact natural_choose _
    | with_reducible exact natural_noRoom
    | with_reducible exact natural_typeInfo _
    | with_reducible exact natural_underlying _
    | with_reducible exact natural_prog
    | with_reducible exact natural_sizeOf _
    | with_reducible exact natural_zeroValue _
    | with_reducible exact natural_isAgg _
    | with_reducible exact natural_part _ _ _
    | with_reducible exact natural_loadCells _ _
    | with_reducible exact natural_storeCells _ _ _
    | with_reducible exact natural_loadVar _ _
    | with_reducible exact natural_storeVar _ _ _
    | with_reducible exact natural_newRow _ _
    | with_reducible exact natural_newVar _ _
    | with_reducible exact natural_runtimePanic _
    | with_reducible exact natural_boundsPanic _ _ _ _
    | with_reducible exact natural_asIntOf _
    | with_reducible exact natural_asInt _
    | with_reducible exact natural_asBool _
    | with_reducible exact natural_asAgg _
    | with_reducible exact natural_asAddr _
    | with_reducible exact natural_sureAddr _
    | with_reducible exact natural_askRoom _
    | with_reducible assumption
    | with_reducible refine natural_getObj_k _ (fun _ => ?_) (fun o o' hb => by cases hb <;> first | exact .inl rfl | exact .inr fun _ _ h => h)
    | with_reducible refine natural_bind' ?_ fun _ => ?_
    | with_reducible refine natural_map ?_
    | with_reducible exact natural_unsupE_bind _ _
    | with_reducible exact natural_unsupU_bind _ _
    | with_reducible exact natural_unsupR_bind _ _
    | with_reducible exact natural_unsupA_bind _
    | with_reducible exact natural_stuck_bind _ _
    | with_reducible exact natural_byteOf _
    | with_reducible exact natural_behindNumber _
    | with_reducible refine natural_ite (fun _ => ?_) (fun _ => ?_)
    | split
theorem natural_floatCmp {P : Program} (op : BinOp) (k : FloatKind) (x y : Nat) : Natural P (Op.floatCmp op k x y) := by
  unfold Op.floatCmp
  simp only []
  repeat' first
    | with_reducible exact natural_pure' _
    | with_reducible exact natural_pure _
    | with_reducible exact natural_stuck _
    | with_reducible exact natural_unsupE _
    | with_reducible exact natural_unsupU _
    | with_reducible exact natural_unsupR _
    | with_reducible exact natural_unsupA
    | with_reducible exact natural_goPanic _
    | with_reducible exact natural_load _
    | with_reducible exact natural_store _ _
    | with_reducible exact natural_choose _
    | with_reducible exact natural_noRoom
    | with_reducible exact natural_typeInfo _
    | with_reducible exact natural_underlying _
    | with_reducible exact natural_prog
    | with_reducible exact natural_sizeOf _
    | with_reducible exact natural_zeroValue _
    | with_reducible exact natural_isAgg _
    | with_reducible exact natural_part _ _ _
    | with_reducible exact natural_loadCells _ _
    | with_reducible exact natural_storeCells _ _ _
    | with_reducible exact natural_loadVar _ _
    | with_reducible exact natural_storeVar _ _ _
    | with_reducible exact natural_newRow _ _
    | with_reducible exact natural_newVar _ _
    | with_reducible exact natural_runtimePanic _
    | with_reducible exact natural_boundsPanic _ _ _ _
    | with_reducible exact natural_asIntOf _
    | with_reducible exact natural_asInt _
    | with_reducible exact natural_asBool _
    | with_reducible exact natural_asAgg _
    | with_reducible exact natural_asAddr _
    | with_reducible exact natural_sureAddr _
    | with_reducible exact natural_askRoom _
    | with_reducible assumption
    | with_reducible refine natural_getObj_k _ (fun _ => ?_) (fun o o' hb => by cases hb <;> first | exact .inl rfl | exact .inr fun _ _ h => h)
    | with_reducible refine natural_bind' ?_ fun _ => ?_
    | with_reducible refine natural_map ?_
    | with_reducible exact natural_unsupE_bind _ _
    | with_reducible exact natural_unsupU_bind _ _
    | with_reducible exact natural_unsupR_bind _ _
    | with_reducible exact natural_unsupA_bind _
    | with_reducible exact natural_stuck_bind _ _
    | with_reducible exact natural_byteOf _
    | with_reducible exact natural_behindNumber _
    | with_reducible refine natural_ite (fun _ => ?_) (fun _ => ?_)
    | split
theorem natural_floatToFloat {P : Program} (s : FloatKind) (x : Nat) (d : FloatKind) : Natural P (Conv.floatToFloat s x d) := by
  unfold Conv.floatToFloat
  simp only []
  repeat' first
    | with_reducible exact natural_pure' _
    | with_reducible exact natural_pure _
    | with_reducible exact natural_stuck _
    | with_reducible exact natural_unsupE _
    | with_reducible exact natural_unsupU _
    | with_reducible exact natural_unsupR _
    | with_reducible exact natural_unsupA
    | with_reducible exact natural_goPanic _
    | with_reducible exact natural_load _
    | with_reducible exact natural_store _ _
    | with_reducible exact natural_choose _
    | with_reducible exact natural_noRoom
    | with_reducible exact natural_typeInfo _
    | with_reducible exact natural_underlying _
    | with_reducible exact natural_prog
    | with_reducible exact natural_sizeOf _
    | with_reducible exact natural_zeroValue _
    | with_reducible exact natural_isAgg _
    | with_reducible exact natural_part _ _ _
    | with_reducible exact natural_loadCells _ _
    | with_reducible exact natural_storeCells _ _ _
    | with_reducible exact natural_loadVar _ _
    | with_reducible exact natural_storeVar _ _ _
    | with_reducible exact natural_newRow _ _
    | with_reducible exact natural_newVar _ _
    | with_reducible exact natural_runtimePanic _
    | with_reducible exact natural_boundsPanic _ _ _ _
    | with_reducible exact natural_asIntOf _
    | with_reducible exact natural_asInt _
    | with_reducible exact natural_asBool _
    | with_reducible exact natural_asAgg _
    | with_reducible exact natural_asAddr _
    | with_reducible exact natural_sureAddr _
    | with_reducible exact natural_askRoom _
    | with_reducible assumption
    | with_reducible refine natural_getObj_k _ (fun _ => ?_) (fun o o' hb => by cases hb <;> first | exact .inl rfl | exact .inr fun _ _ h => h)
    | with_reducible refine natural_bind' ?_ fun _ => ?_
    | with_reducible refine natural_map ?_
    | with_reducible exact natural_unsupE_bind _ _
    | with_reducible exact natural_unsupU_bind _ _
    | with_reducible exact natural_unsupR_bind _ _
    | with_reducible exact natural_unsupA_bind _
    | with_reducible exact natural_stuck_bind _ _
    | with_reducible exact natural_byteOf _
    | with_reducible exact natural_behindNumber _
    | with_reducible refine natural_ite (fun _ => ?_) (fun _ => ?_)
    | split
theorem natural_carith {P : Program} (op : BinOp) (k : FloatKind) (x y : Nat) : Natural P (Op.Complex.arith op k x y) := by
  unfold Op.Complex.arith
  refine natural_bind' (natural_floatArith _ _ _ _) fun v => ?_
  split <;> first | exact natural_pure' _ | exact natural_stuck _
theorem natural_ccmp {P : Program} (op : BinOp) (k : FloatKind) (x y : Nat) : Natural P (Op.Complex.cmp op k x y) := natural_bind' (natural_floatCmp _ _ _ _) fun v => natural_asBool _
theorem natural_cconv {P : Program} (s : FloatKind) (x : Nat) (d : FloatKind) : Natural P (Op.Complex.conv s x d) := by
  unfold Op.Complex.conv
  split
  · exact natural_pure' _
  · refine natural_bind' (natural_floatToFloat _ _ _) fun v => ?_
    split <;> first | exact natural_pure' _ | exact natural_stuck _
theorem natural_product {P : Program} (a b c d : Nat) : Natural P (Op.Complex.product a b c d) := by
  unfold Op.Complex.product Op.Complex.sub Op.Complex.add Op.Complex.mul
  repeat' first
    | with_reducible exact natural_pure' _
    | with_reducible exact natural_pure _
    | with_reducible exact natural_stuck _
    | with_reducible exact natural_unsupE _
    | with_reducible exact natural_unsupU _
    | with_reducible exact natural_unsupR _
    | with_reducible exact natural_unsupA
    | with_reducible exact natural_goPanic _
    | with_reducible exact natural_load _
    | with_reducible exact natural_store _ _
    | with_reducible exact natural_choose _
    | with_reducible exact natural_noRoom
    | with_reducible exact natural_typeInfo _
    | with_reducible exact natural_underlying _
    | with_reducible exact natural_prog
    | with_reducible exact natural_sizeOf _
    | with_reducible exact natural_zeroValue _
    | with_reducible exact natural_isAgg _
    | with_reducible exact natural_part _ _ _
    | with_reducible exact natural_loadCells _ _
    | with_reducible exact natural_storeCells _ _ _
    | with_reducible exact natural_loadVar _ _
    | with_reducible exact natural_storeVar _ _ _
    | with_reducible exact natural_newRow _ _
    | with_reducible exact natural_newVar _ _
    | with_reducible exact natural_runtimePanic _
    | with_reducible exact natural_boundsPanic _ _ _ _
    | with_reducible exact natural_asIntOf _
    | with_reducible exact natural_asInt _
    | with_reducible exact natural_asBool _
    | with_reducible exact natural_asAgg _
    | with_reducible exact natural_asAddr _
    | with_reducible exact natural_sureAddr _
    | with_reducible exact natural_askRoom _
    | with_reducible assumption
    | with_reducible refine natural_getObj_k _ (fun _ => ?_) (fun o o' hb => by cases hb <;> first | exact .inl rfl | exact .inr fun _ _ h => h)
    | with_reducible refine natural_bind' ?_ fun _ => ?_
    | with_reducible refine natural_map ?_
    | with_reducible exact natural_unsupE_bind _ _
    | with_reducible exact natural_unsupU_bind _ _
    | with_reducible exact natural_unsupR_bind _ _
    | with_reducible exact natural_unsupA_bind _
    | with_reducible exact natural_stuck_bind _ _
    | with_reducible exact natural_byteOf _
    | with_reducible exact natural_behindNumber _
    | with_reducible refine natural_ite (fun _ => ?_) (fun _ => ?_)
    | split
    | with_reducible exact natural_carith _ _ _ _
theorem natural_corrected {P : Program} (s a b c d : Nat) : Natural P (Op.Complex.corrected s a b c d) := by
  unfold Op.Complex.corrected Op.Complex.sub Op.Complex.add Op.Complex.mul
  repeat' first
    | with_reducible exact natural_pure' _
    | with_reducible exact natural_pure _
    | with_reducible exact natural_stuck _
    | with_reducible exact natural_unsupE _
    | with_reducible exact natural_unsupU _
    | with_reducible exact natural_unsupR _
    | with_reducible exact natural_unsupA
    | with_reducible exact natural_goPanic _
    | with_reducible exact natural_load _
    | with_reducible exact natural_store _ _
    | with_reducible exact natural_choose _
    | with_reducible exact natural_noRoom
    | with_reducible exact natural_typeInfo _
    | with_reducible exact natural_underlying _
    | with_reducible exact natural_prog
    | with_reducible exact natural_sizeOf _
    | with_reducible exact natural_zeroValue _
    | with_reducible exact natural_isAgg _
    | with_reducible exact natural_part _ _ _
    | with_reducible exact natural_loadCells _ _
    | with_reducible exact natural_storeCells _ _ _
    | with_reducible exact natural_loadVar _ _
    | with_reducible exact natural_storeVar _ _ _
    | with_reducible exact natural_newRow _ _
    | with_reducible exact natural_newVar _ _
    | with_reducible exact natural_runtimePanic _
    | with_reducible exact natural_boundsPanic _ _ _ _
    | with_reducible exact natural_asIntOf _
    | with_reducible exact natural_asInt _
    | with_reducible exact natural_asBool _
    | with_reducible exact natural_asAgg _
    | with_reducible exact natural_asAddr _
    | with_reducible exact natural_sureAddr _
    | with_reducible exact natural_askRoom _
    | with_reducible assumption
    | with_reducible refine natural_getObj_k _ (fun _ => ?_) (fun o o' hb => by cases hb <;> first | exact .inl rfl | exact .inr fun _ _ h => h)
    | with_reducible refine natural_bind' ?_ fun _ => ?_
    | with_reducible refine natural_map ?_
    | with_reducible exact natural_unsupE_bind _ _
    | with_reducible exact natural_unsupU_bind _ _
    | with_reducible exact natural_unsupR_bind _ _
    | with_reducible exact natural_unsupA_bind _
    | with_reducible exact natural_stuck_bind _ _
    | with_reducible exact natural_byteOf _
    | with_reducible exact natural_behindNumber _
    | with_reducible refine natural_ite (fun _ => ?_) (fun _ => ?_)
    | split
    | with_reducible exact natural_carith _ _ _ _
theorem natural_quotient {P : Program} (a b c d : Nat) : Natural P (Op.Complex.quotient a b c d) := by
  unfold Op.Complex.quotient Op.Complex.sub Op.Complex.add Op.Complex.mul Op.Complex.quo
  simp only []
  repeat' first
    | with_reducible exact natural_pure' _
    | with_reducible exact natural_pure _
    | with_reducible exact natural_stuck _
    | with_reducible exact natural_unsupE _
    | with_reducible exact natural_unsupU _
    | with_reducible exact natural_unsupR _
    | with_reducible exact natural_unsupA
    | with_reducible exact natural_goPanic _
    | with_reducible exact natural_load _
    | with_reducible exact natural_store _ _
    | with_reducible exact natural_choose _
    | with_reducible exact natural_noRoom
    | with_reducible exact natural_typeInfo _
    | with_reducible exact natural_underlying _
    | with_reducible exact natural_prog
    | with_reducible exact natural_sizeOf _
    | with_reducible exact natural_zeroValue _
    | with_reducible exact natural_isAgg _
    | with_reducible exact natural_part _ _ _
    | with_reducible exact natural_loadCells _ _
    | with_reducible exact natural_storeCells _ _ _
    | with_reducible exact natural_loadVar _ _
    | with_reducible exact natural_storeVar _ _ _
    | with_reducible exact natural_newRow _ _
    | with_reducible exact natural_newVar _ _
    | with_reducible exact natural_runtimePanic _
    | with_reducible exact natural_boundsPanic _ _ _ _
    | with_reducible exact natural_asIntOf _
    | with_reducible exact natural_asInt _
    | with_reducible exact natural_asBool _
    | with_reducible exact natural_asAgg _
    | with_reducible exact natural_asAddr _
    | with_reducible exact natural_sureAddr _
    | with_reducible exact natural_askRoom _
    | with_reducible assumption
    | with_reducible refine natural_getObj_k _ (fun _ => ?_) (fun o o' hb => by cases hb <;> first | exact .inl rfl | exact .inr fun _ _ h => h)
    | with_reducible refine natural_bind' ?_ fun _ => ?_
    | with_reducible refine natural_map ?_
    | with_reducible exact natural_unsupE_bind _ _
    | with_reducible exact natural_unsupU_bind _ _
    | with_reducible exact natural_unsupR_bind _ _
    | with_reducible exact natural_unsupA_bind _
    | with_reducible exact natural_stuck_bind _ _
    | with_reducible exact natural_byteOf _
    | with_reducible exact natural_behindNumber _
    | with_reducible refine natural_ite (fun _ => ?_) (fun _ => ?_)
    | split
    | with_reducible exact natural_carith _ _ _ _
    | with_reducible exact natural_ccmp _ _ _ _
    | with_reducible exact natural_corrected _ _ _ _ _
theorem natural_complexOp {P : Program} (op : BinOp) (k : FloatKind) (a b c d : Nat) : Natural P (Op.complexOp op k a b c d) := by
  unfold Op.complexOp
  simp only []
  repeat' first
    | with_reducible exact natural_pure' _
    | with_reducible exact natural_pure _
    | with_reducible exact natural_stuck _
    | with_reducible exact natural_unsupE _
    | with_reducible exact natural_unsupU _
    | with_reducible exact natural_unsupR _
    | with_reducible exact natural_unsupA
    | with_reducible exact natural_goPanic _
    | with_reducible exact natural_load _
    | with_reducible exact natural_store _ _
    | with_reducible exact natural_choose _
    | with_reducible exact natural_noRoom
    | with_reducible exact natural_typeInfo _
    | with_reducible exact natural_underlying _
    | with_reducible exact natural_prog
    | with_reducible exact natural_sizeOf _
    | with_reducible exact natural_zeroValue _
    | with_reducible exact natural_isAgg _
    | with_reducible exact natural_part _ _ _
    | with_reducible exact natural_loadCells _ _
    | with_reducible exact natural_storeCells _ _ _
    | with_reducible exact natural_loadVar _ _
    | with_reducible exact natural_storeVar _ _ _
    | with_reducible exact natural_newRow _ _
    | with_reducible exact natural_newVar _ _
    | with_reducible exact natural_runtimePanic _
    | with_reducible exact natural_boundsPanic _ _ _ _
    | with_reducible exact natural_asIntOf _
    | with_reducible exact natural_asInt _
    | with_reducible exact natural_asBool _
    | with_reducible exact natural_asAgg _
    | with_reducible exact natural_asAddr _
    | with_reducible exact natural_sureAddr _
    | with_reducible exact natural_askRoom _
    | with_reducible assumption
    | with_reducible refine natural_getObj_k _ (fun _ => ?_) (fun o o' hb => by cases hb <;> first | exact .inl rfl | exact .inr fun _ _ h => h)
    | with_reducible refine natural_bind' ?_ fun _ => ?_
    | with_reducible refine natural_map ?_
    | with_reducible exact natural_unsupE_bind _ _
    | with_reducible exact natural_unsupU_bind _ _
    | with_reducible exact natural_unsupR_bind _ _
    | with_reducible exact natural_unsupA_bind _
    | with_reducible exact natural_stuck_bind _ _
    | with_reducible exact natural_byteOf _
    | with_reducible exact natural_behindNumber _
    | with_reducible refine natural_ite (fun _ => ?_) (fun _ => ?_)
    | split
    | with_reducible exact natural_carith _ _ _ _
    | with_reducible exact natural_ccmp _ _ _ _
    | with_reducible exact natural_cconv _ _ _
    | with_reducible exact natural_product _ _ _ _
    | with_reducible exact natural_quotient _ _ _ _
theorem cellAtBytes_mono {p : Program} {n : Nat} {e : TypeId} {c c' off : Nat} {b : Int} {o : Nat} (h : cellAtBytes p n e c off b = some o) (hc : c ≤ c') : cellAtBytes p n e c' off b = some o := by
  unfold cellAtBytes at *
  simp only [] at *
  split at h
  · simp at h
  rename_i h1
  rw [if_neg h1]
  cases hb : byteOfCell p n e (off % p.cellsOf e) with
  | none => rw [hb] at h; simp at h
  | some q =>
    rw [hb] at h
    simp only [pure_bind, Option.bind_eq_bind, Option.bind_some] at h ⊢
    split at h
    · simp at h
    rename_i h2
    rw [if_neg (fun hh => h2 ?_)]
    · exact h
    · simp only [Bool.or_eq_true, decide_eq_true_eq] at hh ⊢
      rcases hh with hh | hh
      · exact .inl hh
      · have : Int.ofNat (c * p.bytesOf e) ≤ Int.ofNat (c' * p.bytesOf e) := by
          have := Nat.mul_le_mul_right (p.bytesOf e) hc
          exact Int.ofNat_le.2 this
        exact .inr (by omega)
theorem natural_shape_mono {α : Type} {P : Program} (r : Nat) {k : Option (TypeId × Nat) → Sem α} (h : ∀ s, Natural P (k s)) (hn : ∀ e n n', n ≤ n' → Dead P (k (some (e, n))) ∨ ∀ w es, (k (some (e, n))).runT P w es = (k (some (e, n'))).runT P w es) : Natural P (shape r >>= k) := by
  intro wl w es h0 hw
  have e : ∀ u : World, (shape r >>= k).runT P u es = (k (u.shape? r)).runT P u es := fun u => by
    show ((shape r).bind k).runT P u es = _
    rw [Sem.runT_bind']; rfl
  refine ⟨by rw [e]; exact (h (wl.shape? r) wl w es h0 hw).1, fun hfine hsync => ?_⟩
  have hk : ∀ u es, (k (w.shape? r)).runT P u es = (k (wl.shape? r)).runT P u es := by
    intro u es'
    rw [e] at hfine
    unfold World.shape? at hfine ⊢
    cases hr : wl.heap[r]? with
    | none =>
      have : w.heap[r]? = none := by
        rw [Array.getElem?_eq_none_iff] at hr ⊢; rw [← hw.size]; exact hr
      rw [this]
    | some o =>
      rw [hr] at hfine
      obtain ⟨o', h1, h2⟩ := hw.get hr
      rw [h1]
      cases h2 with
      | same => rfl
      | blind hb => cases hb <;> rfl
      | cut g1 g2 g3 =>
        rcases hn _ _ _ g1 with hd | he
        · exact absurd hfine (hd _ _).1
        · exact (he _ _).symm
  rw [e] at hfine hsync
  obtain ⟨w', hs⟩ := (h (wl.shape? r) wl w es h0 hw).2 hfine hsync
  exact ⟨w', by rw [e, e, hk]; exact hs.run, by rw [e]; exact hs.weak, by rw [e]; exact hs.mono, by rw [e]; exact hs.drawn, hs.upd, by rw [e]; exact hs.updl, by rw [e]; exact hs.evs, fun hh => by rw [e]; exact hs.heap hh⟩
theorem runT_program {α : Type} {P : Program} (k : Program → Sem α) (w : World) (es : Array Event) : (program >>= k).runT P w es = (k P).runT P w es := rfl
theorem natural_unsafeAdd {P : Program} (u : TypeId) (x y : Value) : Natural P (Builtin.unsafeAdd_ #[] u #[x, y]) := by
  cases x with
  | pointer ptr =>
    refine natural_bind' (natural_asInt y) fun n => ?_
    by_cases hn : n = 0
    · subst hn
      cases ptr with
      | none => exact natural_ofRun (s' := Sem.halt (.unsupported (.unsafePointer "Add: from nil"))) (fun _ _ => rfl) (natural_halt _ trivial)
      | some a =>
        refine natural_viewAt_bind _ (fun v => ?_) (fun _ _ => rfl)
        cases v with
        | none => exact natural_pure' _
        | some v => exact natural_ofRun (s' := Sem.halt (.unsupported (.unsafePointer "Add: at a place where no cell lies"))) (fun _ _ => rfl) (natural_halt _ trivial)
    · simp only [hn, if_false]
      by_cases hl : n < 0
      · simp only [hl, if_true]
        exact natural_ofRun (s' := Sem.halt (.unsupported (.unsafePointer "Add: a move by a count below zero"))) (fun _ _ => rfl) (natural_halt _ trivial)
      · simp only [hl, if_false]
        cases ptr with
        | none => exact natural_unsup _ trivial
        | some a =>
          refine natural_shape_mono _ (fun s => ?_) (fun e c c' hc => ?_)
          · cases s with
            | none => exact natural_unsup _ trivial
            | some q =>
              refine natural_bind' natural_prog fun p => ?_
              split
              · exact natural_pure' _
              · exact natural_unsup _ trivial
          · cases h : cellAtBytes P P.depth e (c / P.cellsOf e) a.off n with
            | none => refine .inl (fun w es => ?_); simp only [runT_program, h]; exact ⟨fun h => h, trivial⟩
            | some off => refine .inr (fun w es => ?_); simp only [runT_program, h, cellAtBytes_mono h (Nat.div_le_div_right hc)]
  | _ => exact natural_ofRun (s' := Sem.halt (.stuck "unsafe.Add: a pointer and an integer expected")) (fun _ _ => rfl) (natural_halt _ trivial)
theorem natural_movedNumber {P : Program} (t : TypeId) (x y : Value) : Natural P (movedNumber t x y) := by
  unfold movedNumber asNumber
  simp only []
  repeat' first
    | with_reducible exact natural_pure' _
    | with_reducible exact natural_pure _
    | with_reducible exact natural_stuck _
    | with_reducible exact natural_unsupE _
    | with_reducible exact natural_unsupU _
    | with_reducible exact natural_unsupR _
    | with_reducible exact natural_unsupA
    | with_reducible exact natural_goPanic _
    | with_reducible exact natural_load _
    | with_reducible exact natural_store _ _
    | with_reducible exact natural_choose _
    | with_reducible exact natural_noRoom
    | with_reducible exact natural_typeInfo _
    | with_reducible exact natural_underlying _
    | with_reducible exact natural_prog
    | with_reducible exact natural_sizeOf _
    | with_reducible exact natural_zeroValue _
    | with_reducible exact natural_isAgg _
    | with_reducible exact natural_part _ _ _
    | with_reducible exact natural_loadCells _ _
    | with_reducible exact natural_storeCells _ _ _
    | with_reducible exact natural_loadVar _ _
    | with_reducible exact natural_storeVar _ _ _
    | with_reducible exact natural_newRow _ _
    | with_reducible exact natural_newVar _ _
    | with_reducible exact natural_runtimePanic _
    | with_reducible exact natural_boundsPanic _ _ _ _
    | with_reducible exact natural_asIntOf _
    | with_reducible exact natural_asInt _
    | with_reducible exact natural_asBool _
    | with_reducible exact natural_asAgg _
    | with_reducible exact natural_asAddr _
    | with_reducible exact natural_sureAddr _
    | with_reducible exact natural_askRoom _
    | with_reducible assumption
    | with_reducible refine natural_getObj_k _ (fun _ => ?_) (fun o o' hb => by cases hb <;> first | exact .inl rfl | exact .inr fun _ _ h => h)
    | with_reducible refine natural_bind' ?_ fun _ => ?_
    | with_reducible refine natural_map ?_
    | with_reducible exact natural_unsupE_bind _ _
    | with_reducible exact natural_unsupU_bind _ _
    | with_reducible exact natural_unsupR_bind _ _
    | with_reducible exact natural_unsupA_bind _
    | with_reducible exact natural_stuck_bind _ _
    | with_reducible exact natural_byteOf _
    | with_reducible exact natural_behindNumber _
    | with_reducible refine natural_ite (fun _ => ?_) (fun _ => ?_)
    | split
    | with_reducible exact natural_unsafeAdd _ _ _
    | exact natural_new _ rfl
theorem natural_addrMod {P : Program} (k : IntKind) (a : Addr) (n : Int) : Natural P (Op.addrMod k a n) := by
  unfold Op.addrMod
  refine natural_shape_bind _ (fun s => ?_) (fun _ _ _ => rfl)
  simp only []
  repeat' first
    | with_reducible exact natural_pure' _
    | with_reducible exact natural_pure _
    | with_reducible exact natural_stuck _
    | with_reducible exact natural_unsupE _
    | with_reducible exact natural_unsupU _
    | with_reducible exact natural_unsupR _
    | with_reducible exact natural_unsupA
    | with_reducible exact natural_goPanic _
    | with_reducible exact natural_load _
    | with_reducible exact natural_store _ _
    | with_reducible exact natural_choose _
    | with_reducible exact natural_noRoom
    | with_reducible exact natural_typeInfo _
    | with_reducible exact natural_underlying _
    | with_reducible exact natural_prog
    | with_reducible exact natural_sizeOf _
    | with_reducible exact natural_zeroValue _
    | with_reducible exact natural_isAgg _
    | with_reducible exact natural_part _ _ _
    | with_reducible exact natural_loadCells _ _
    | with_reducible exact natural_storeCells _ _ _
    | with_reducible exact natural_loadVar _ _
    | with_reducible exact natural_storeVar _ _ _
    | with_reducible exact natural_newRow _ _
    | with_reducible exact natural_newVar _ _
    | with_reducible exact natural_runtimePanic _
    | with_reducible exact natural_boundsPanic _ _ _ _
    | with_reducible exact natural_asIntOf _
    | with_reducible exact natural_asInt _
    | with_reducible exact natural_asBool _
    | with_reducible exact natural_asAgg _
    | with_reducible exact natural_asAddr _
    | with_reducible exact natural_sureAddr _
    | with_reducible exact natural_askRoom _
    | with_reducible assumption
    | with_reducible refine natural_getObj_k _ (fun _ => ?_) (fun o o' hb => by cases hb <;> first | exact .inl rfl | exact .inr fun _ _ h => h)
    | with_reducible refine natural_bind' ?_ fun _ => ?_
    | with_reducible refine natural_map ?_
    | with_reducible exact natural_unsupE_bind _ _
    | with_reducible exact natural_unsupU_bind _ _
    | with_reducible exact natural_unsupR_bind _ _
    | with_reducible exact natural_unsupA_bind _
    | with_reducible exact natural_stuck_bind _ _
    | with_reducible exact natural_byteOf _
    | with_reducible exact natural_behindNumber _
    | with_reducible refine natural_ite (fun _ => ?_) (fun _ => ?_)
    | split
theorem natural_twoPlaces {P : Program} (a b : Addr) : Natural P (Op.twoPlaces a b) := by
  unfold Op.twoPlaces
  simp only []
  repeat' first
    | with_reducible exact natural_pure' _
    | with_reducible exact natural_pure _
    | with_reducible exact natural_stuck _
    | with_reducible exact natural_unsupE _
    | with_reducible exact natural_unsupU _
    | with_reducible exact natural_unsupR _
    | with_reducible exact natural_unsupA
    | with_reducible exact natural_goPanic _
    | with_reducible exact natural_load _
    | with_reducible exact natural_store _ _
    | with_reducible exact natural_choose _
    | with_reducible exact natural_noRoom
    | with_reducible exact natural_typeInfo _
    | with_reducible exact natural_underlying _
    | with_reducible exact natural_prog
    | with_reducible exact natural_sizeOf _
    | with_reducible exact natural_zeroValue _
    | with_reducible exact natural_isAgg _
    | with_reducible exact natural_part _ _ _
    | with_reducible exact natural_loadCells _ _
    | with_reducible exact natural_storeCells _ _ _
    | with_reducible exact natural_loadVar _ _
    | with_reducible exact natural_storeVar _ _ _
    | with_reducible exact natural_newRow _ _
    | with_reducible exact natural_newVar _ _
    | with_reducible exact natural_runtimePanic _
    | with_reducible exact natural_boundsPanic _ _ _ _
    | with_reducible exact natural_asIntOf _
    | with_reducible exact natural_asInt _
    | with_reducible exact natural_asBool _
    | with_reducible exact natural_asAgg _
    | with_reducible exact natural_asAddr _
    | with_reducible exact natural_sureAddr _
    | with_reducible exact natural_askRoom _
    | with_reducible assumption
    | with_reducible refine natural_getObj_k _ (fun _ => ?_) (fun o o' hb => by cases hb <;> first | exact .inl rfl | exact .inr fun _ _ h => h)
    | with_reducible refine natural_bind' ?_ fun _ => ?_
    | with_reducible refine natural_map ?_
    | with_reducible exact natural_unsupE_bind _ _
    | with_reducible exact natural_unsupU_bind _ _
    | with_reducible exact natural_unsupR_bind _ _
    | with_reducible exact natural_unsupA_bind _
    | with_reducible exact natural_stuck_bind _ _
    | with_reducible exact natural_byteOf _
    | with_reducible exact natural_behindNumber _
    | with_reducible refine natural_ite (fun _ => ?_) (fun _ => ?_)
    | split
theorem natural_addrSub {P : Program} (k : IntKind) (a b : Addr) : Natural P (Op.addrSub k a b) := natural_bind' (natural_twoPlaces _ _) fun _ => natural_pure' _
theorem natural_addrCmp {P : Program} (op : BinOp) (a b : Addr) : Natural P (Op.addrCmp op a b) := by
  unfold Op.addrCmp
  refine natural_bind' (natural_twoPlaces _ _) fun q => ?_
  cases op <;> first | exact natural_pure' _ | exact natural_unsup _ trivial
def okFn (P : Program) (f : FuncId) : Bool := match P.funcs[f]? with
  | some fn => fn.body.isSome && fn.name != "runtime.NumGoroutine"
  | none => false
theorem natural_binOp {P : Program} {op : BinOp} {t : TypeId} {x y : Operand} (h : okBin P op t x y = true) (a : Act) : Natural P (binOp op t (a.eval x) (a.eval y)) := by
  by_cases he : op = .eql ∨ op = .neq
  · have hq : okEq P t x y = true := by rcases he with rfl | rfl <;> exact h
    have hE := natural_equal_ok hq a
    revert hE
    generalize a.eval x = u; generalize a.eval y = v
    intro hE
    unfold binOp
    rcases he with rfl | rfl
    all_goals
      split <;> first
        | (simp_all; done)
        | skip
      repeat' first
        | with_reducible exact natural_pure' _
        | with_reducible exact natural_pure _
        | with_reducible exact natural_stuck _
        | with_reducible exact natural_unsupE _
        | with_reducible exact natural_unsupU _
        | with_reducible exact natural_unsupR _
        | with_reducible exact natural_unsupA
        | with_reducible exact natural_goPanic _
        | with_reducible exact natural_load _
        | with_reducible exact natural_store _ _
        | with_reducible exact natural_choose _
        | with_reducible exact natural_noRoom
        | with_reducible exact natural_typeInfo _
        | with_reducible exact natural_underlying _
        | with_reducible exact natural_prog
        | with_reducible exact natural_sizeOf _
        | with_reducible exact natural_zeroValue _
        | with_reducible exact natural_isAgg _
        | with_reducible exact natural_part _ _ _
        | with_reducible exact natural_loadCells _ _
        | with_reducible exact natural_storeCells _ _ _
        | with_reducible exact natural_loadVar _ _
        | with_reducible exact natural_storeVar _ _ _
        | with_reducible exact natural_newRow _ _
        | with_reducible exact natural_newVar _ _
        | with_reducible exact natural_runtimePanic _
        | with_reducible exact natural_boundsPanic _ _ _ _
        | with_reducible exact natural_asIntOf _
        | with_reducible exact natural_asInt _
        | with_reducible exact natural_asBool _
        | with_reducible exact natural_asAgg _
        | with_reducible exact natural_asAddr _
        | with_reducible exact natural_sureAddr _
        | with_reducible exact natural_askRoom _
        | with_reducible assumption
        | with_reducible refine natural_getObj_k _ (fun _ => ?_) (fun o o' hb => by cases hb <;> first | exact .inl rfl | exact .inr fun _ _ h => h)
        | with_reducible refine natural_bind' ?_ fun _ => ?_
        | with_reducible refine natural_map ?_
        | with_reducible exact natural_unsupE_bind _ _
        | with_reducible exact natural_unsupU_bind _ _
        | with_reducible exact natural_unsupR_bind _ _
        | with_reducible exact natural_unsupA_bind _
        | with_reducible exact natural_stuck_bind _ _
        | with_reducible exact natural_byteOf _
        | with_reducible exact natural_behindNumber _
        | with_reducible refine natural_ite (fun _ => ?_) (fun _ => ?_)
        | split
        | with_reducible exact natural_complexOp _ _ _ _ _ _
        | with_reducible exact natural_floatCmp _ _ _ _
        | with_reducible exact natural_floatArith _ _ _ _
        | with_reducible exact natural_intCmp _ _ _
        | with_reducible exact natural_intArith _ _ _ _
        | with_reducible exact natural_intDiv _ _ _ _
        | with_reducible exact natural_intBits _ _ _ _
        | with_reducible exact natural_stringOp _ _ _
        | with_reducible exact natural_shift _ _ _ _ _
        | with_reducible exact natural_movedNumber _ _ _
        | with_reducible exact natural_behindNumber _
        | with_reducible exact natural_addrSub _ _ _
        | with_reducible exact natural_addrCmp _ _ _
        | with_reducible exact natural_addrMod _ _ _
  · have ht : (match P.underlying t with | some (.int _) | some .string => true | _ => false) = true := by
      unfold okBin at h
      cases op <;> first | exact h | exact absurd (.inl rfl) he | exact absurd (.inr rfl) he
    clear h
    generalize a.eval x = u; generalize a.eval y = v
    have hmv : ∀ p q, Natural P (do if (← underlying t) matches .unsafePointer then movedPointer t p q else movedNumber t p q) := fun p q => by
      refine natural_underlying_bind t fun d hd => ?_
      have := not_unsafe ht hd
      cases d <;> first | exact natural_movedNumber _ _ _ | exact absurd rfl this
    unfold binOp
    split <;> first
      | (exact absurd (.inl rfl) he)
      | (exact absurd (.inr rfl) he)
      | exact hmv _ _
      | skip
    repeat' first
      | with_reducible exact natural_pure' _
      | with_reducible exact natural_pure _
      | with_reducible exact natural_stuck _
      | with_reducible exact natural_unsupE _
      | with_reducible exact natural_unsupU _
      | with_reducible exact natural_unsupR _
      | with_reducible exact natural_unsupA
      | with_reducible exact natural_goPanic _
      | with_reducible exact natural_load _
      | with_reducible exact natural_store _ _
      | with_reducible exact natural_choose _
      | with_reducible exact natural_noRoom
      | with_reducible exact natural_typeInfo _
      | with_reducible exact natural_underlying _
      | with_reducible exact natural_prog
      | with_reducible exact natural_sizeOf _
      | with_reducible exact natural_zeroValue _
      | with_reducible exact natural_isAgg _
      | with_reducible exact natural_part _ _ _
      | with_reducible exact natural_loadCells _ _
      | with_reducible exact natural_storeCells _ _ _
      | with_reducible exact natural_loadVar _ _
      | with_reducible exact natural_storeVar _ _ _
      | with_reducible exact natural_newRow _ _
      | with_reducible exact natural_newVar _ _
      | with_reducible exact natural_runtimePanic _
      | with_reducible exact natural_boundsPanic _ _ _ _
      | with_reducible exact natural_asIntOf _
      | with_reducible exact natural_asInt _
      | with_reducible exact natural_asBool _
      | with_reducible exact natural_asAgg _
      | with_reducible exact natural_asAddr _
      | with_reducible exact natural_sureAddr _
      | with_reducible exact natural_askRoom _
      | with_reducible assumption
      | with_reducible refine natural_getObj_k _ (fun _ => ?_) (fun o o' hb => by cases hb <;> first | exact .inl rfl | exact .inr fun _ _ h => h)
      | with_reducible refine natural_bind' ?_ fun _ => ?_
      | with_reducible refine natural_map ?_
      | with_reducible exact natural_unsupE_bind _ _
      | with_reducible exact natural_unsupU_bind _ _
      | with_reducible exact natural_unsupR_bind _ _
      | with_reducible exact natural_unsupA_bind _
      | with_reducible exact natural_stuck_bind _ _
      | with_reducible exact natural_byteOf _
      | with_reducible exact natural_behindNumber _
      | with_reducible refine natural_ite (fun _ => ?_) (fun _ => ?_)
      | split
      | with_reducible exact natural_complexOp _ _ _ _ _ _
      | with_reducible exact natural_floatCmp _ _ _ _
      | with_reducible exact natural_floatArith _ _ _ _
      | with_reducible exact natural_intCmp _ _ _
      | with_reducible exact natural_intArith _ _ _ _
      | with_reducible exact natural_intDiv _ _ _ _
      | with_reducible exact natural_intBits _ _ _ _
      | with_reducible exact natural_stringOp _ _ _
      | with_reducible exact natural_shift _ _ _ _ _
      | with_reducible exact natural_movedNumber _ _ _
      | with_reducible exact natural_addrSub _ _ _
      | with_reducible exact natural_addrCmp _ _ _
      | with_reducible exact natural_addrMod _ _ _
      | (exact absurd (.inl rfl) he)
      | (exact absurd (.inr rfl) he)
theorem natural_followBlind {P : Program} : ∀ (l : List FieldStep) (t : TypeId) (x : Option Value), Natural P (followBlind l t x)
  | [], _, _ => natural_pure' _
  | s :: l, t, x => by
    have ih := fun t x => natural_followBlind (P := P) l t x
    unfold followBlind
    repeat' first
      | with_reducible exact natural_pure' _
      | with_reducible exact natural_pure _
      | with_reducible exact natural_stuck _
      | with_reducible exact natural_unsupE _
      | with_reducible exact natural_unsupU _
      | with_reducible exact natural_unsupR _
      | with_reducible exact natural_unsupA
      | with_reducible exact natural_goPanic _
      | with_reducible exact natural_load _
      | with_reducible exact natural_store _ _
      | with_reducible exact natural_choose _
      | with_reducible exact natural_noRoom
      | with_reducible exact natural_typeInfo _
      | with_reducible exact natural_underlying _
      | with_reducible exact natural_prog
      | with_reducible exact natural_sizeOf _
      | with_reducible exact natural_zeroValue _
      | with_reducible exact natural_isAgg _
      | with_reducible exact natural_part _ _ _
      | with_reducible exact natural_loadCells _ _
      | with_reducible exact natural_storeCells _ _ _
      | with_reducible exact natural_loadVar _ _
      | with_reducible exact natural_storeVar _ _ _
      | with_reducible exact natural_newRow _ _
      | with_reducible exact natural_newVar _ _
      | with_reducible exact natural_runtimePanic _
      | with_reducible exact natural_boundsPanic _ _ _ _
      | with_reducible exact natural_asIntOf _
      | with_reducible exact natural_asInt _
      | with_reducible exact natural_asBool _
      | with_reducible exact natural_asAgg _
      | with_reducible exact natural_asAddr _
      | with_reducible exact natural_sureAddr _
      | with_reducible exact natural_askRoom _
      | with_reducible assumption
      | with_reducible refine natural_getObj_k _ (fun _ => ?_) (fun o o' hb => by cases hb <;> first | exact .inl rfl | exact .inr fun _ _ h => h)
      | with_reducible refine natural_bind' ?_ fun _ => ?_
      | with_reducible refine natural_map ?_
      | with_reducible exact natural_unsupE_bind _ _
      | with_reducible exact natural_unsupU_bind _ _
      | with_reducible exact natural_unsupR_bind _ _
      | with_reducible exact natural_unsupA_bind _
      | with_reducible exact natural_stuck_bind _ _
      | with_reducible exact natural_byteOf _
      | with_reducible exact natural_behindNumber _
      | with_reducible refine natural_ite (fun _ => ?_) (fun _ => ?_)
      | split
      | with_reducible exact ih _ _
theorem natural_nilAhead {P : Program} : ∀ (n : Nat) (t : TypeId) (v : Value) (s : String), Natural P (nilAhead n t v s)
  | 0, _, _, _ => natural_pure' _
  | n + 1, t, v, s => by
    have ih := fun t v s => natural_nilAhead (P := P) n t v s
    unfold nilAhead
    repeat' first
      | with_reducible exact natural_pure' _
      | with_reducible exact natural_pure _
      | with_reducible exact natural_stuck _
      | with_reducible exact natural_unsupE _
      | with_reducible exact natural_unsupU _
      | with_reducible exact natural_unsupR _
      | with_reducible exact natural_unsupA
      | with_reducible exact natural_goPanic _
      | with_reducible exact natural_load _
      | with_reducible exact natural_store _ _
      | with_reducible exact natural_choose _
      | with_reducible exact natural_noRoom
      | with_reducible exact natural_typeInfo _
      | with_reducible exact natural_underlying _
      | with_reducible exact natural_prog
      | with_reducible exact natural_sizeOf _
      | with_reducible exact natural_zeroValue _
      | with_reducible exact natural_isAgg _
      | with_reducible exact natural_part _ _ _
      | with_reducible exact natural_loadCells _ _
      | with_reducible exact natural_storeCells _ _ _
      | with_reducible exact natural_loadVar _ _
      | with_reducible exact natural_storeVar _ _ _
      | with_reducible exact natural_newRow _ _
      | with_reducible exact natural_newVar _ _
      | with_reducible exact natural_runtimePanic _
      | with_reducible exact natural_boundsPanic _ _ _ _
      | with_reducible exact natural_asIntOf _
      | with_reducible exact natural_asInt _
      | with_reducible exact natural_asBool _
      | with_reducible exact natural_asAgg _
      | with_reducible exact natural_asAddr _
      | with_reducible exact natural_sureAddr _
      | with_reducible exact natural_askRoom _
      | with_reducible assumption
      | with_reducible refine natural_getObj_k _ (fun _ => ?_) (fun o o' hb => by cases hb <;> first | exact .inl rfl | exact .inr fun _ _ h => h)
      | with_reducible refine natural_bind' ?_ fun _ => ?_
      | with_reducible refine natural_map ?_
      | with_reducible exact natural_unsupE_bind _ _
      | with_reducible exact natural_unsupU_bind _ _
      | with_reducible exact natural_unsupR_bind _ _
      | with_reducible exact natural_unsupA_bind _
      | with_reducible exact natural_stuck_bind _ _
      | with_reducible exact natural_byteOf _
      | with_reducible exact natural_behindNumber _
      | with_reducible refine natural_ite (fun _ => ?_) (fun _ => ?_)
      | split
      | with_reducible exact ih _ _ _
      | with_reducible exact natural_followBlind _ _ _
def okCall (P : Program) (ok : FuncId → Bool) (c : Call) : Bool :=
  match c.callee with
  | .value (.func f) => ok f && okFn P f
  | .builtin .append | .builtin .len | .builtin .cap | .builtin .copy | .builtin .min | .builtin .max => true
  | .builtin .delete => (match c.argTypes[0]? with | some t => simpleKey P t | none => true)
  | _ => false
def okOp (P : Program) (ok : FuncId → Bool) (o : Oper) : Bool :=
  match o.op with
  | .move _ | .assign _ | .pick .. | .alloc _ | .box .. | .build .. | .buildSlice .. | .load .. | .store .. | .unOp .. | .makeFunc .. | .makeMap .. | .makeChan .. | .makeSlice ..
  | .slice .. | .fieldAddr .. | .field .. | .indexAddr .. | .index .. | .range .. | .extract .. | .nilCheck _ | .makeInterface .. => true
  | .lookup t .. | .mapUpdate t .. | .insert t .. => simpleKey P t
  | .binOp op t x y _ => okBin P op t x y
  | .convert a b _ => (match P.underlying a, P.underlying b with
    | some (.int _), some (.int _) => true
    | some (.slice e), some .string => (match P.underlying e with | some (.int .u8) => true | _ => false)
    | _, _ => false)
  | .call c => okCall P ok c
  | _ => false
theorem natural_convert {P : Program} {x y : TypeId} (h : (match P.underlying x, P.underlying y with
    | some (.int _), some (.int _) => true
    | some (.slice e), some .string => (match P.underlying e with | some (.int .u8) => true | _ => false)
    | _, _ => false) = true) (v : Value) : Natural P (convert x y v) := by
  split at h
  · rename_i h1 h2; exact natural_convert_int h1 h2 v
  · rename_i e h1 h2
    split at h
    · rename_i h3; exact natural_convert_str h1 h2 h3 v
    · cases h
  · cases h
theorem natural_callFunc {P : Program} {f : FuncId} (h : okFn P f = true) (args : Array Value) : Natural P (callFunc f args) := by
  unfold okFn at h
  split at h
  · rename_i fn hfn
    simp only [Bool.and_eq_true, bne_iff_ne, ne_eq] at h
    obtain ⟨hb, hn⟩ := h
    refine natural_ofRun (s' := Sem.pure (.enter f args)) (fun w es => ?_) (natural_pure _)
    show ((Sem.program Sem.pure).bind _).runT P w es = _
    simp only [Sem.bind, Sem.runT, hfn]
    have h1 : (fn.name == "runtime.NumGoroutine") = false := by simpa using hn
    have h2 : fn.body.isNone = false := by cases hx : fn.body <;> simp [hx] at hb ⊢
    simp only [h1, h2, Bool.false_eq_true, if_false]
    rfl
  · cases h
theorem natural_call {P : Program} {ok : FuncId → Bool} {c : Call} (h : okCall P ok c = true) (t : TypeId) (a : Act) : Natural P (do let d ← resolve a.eval c t; invoke d.target d.args) := by
  obtain ⟨callee, args, argTypes⟩ := c
  cases callee with
  | value f =>
    cases f with
    | func f =>
      have hf : okFn P f = true := (Bool.and_eq_true_iff.1 h).2
      exact natural_ofRun (s' := callFunc f ((#[] ++ args.map a.eval) ++ #[])) (fun _ _ => rfl) (natural_callFunc hf _)
    | _ => cases h
  | invoke r n => cases h
  | builtin b =>
    cases b with
    | append => exact natural_ofRun (s' := (Builtin.append_ argTypes t (args.map a.eval) >>= fun v => Pure.pure (Next.value v))) (fun _ _ => rfl) (natural_bind' (natural_append _ _ _) fun _ => natural_pure' _)
    | len => exact natural_ofRun (s' := (Builtin.len_ argTypes t (args.map a.eval) >>= fun v => Pure.pure (Next.value v))) (fun _ _ => rfl) (natural_bind' (natural_len _ _ _) fun _ => natural_pure' _)
    | cap => exact natural_ofRun (s' := (Builtin.cap_ argTypes t (args.map a.eval) >>= fun v => Pure.pure (Next.value v))) (fun _ _ => rfl) (natural_bind' (natural_cap _ _ _) fun _ => natural_pure' _)
    | copy => exact natural_ofRun (s' := (Builtin.copy_ argTypes t (args.map a.eval) >>= fun v => Pure.pure (Next.value v))) (fun _ _ => rfl) (natural_bind' (natural_copy _ _ _) fun _ => natural_pure' _)
    | min => exact natural_ofRun (s' := (Builtin.min_ argTypes t (args.map a.eval) >>= fun v => Pure.pure (Next.value v))) (fun _ _ => rfl) (natural_bind' (natural_min _ _ _) fun _ => natural_pure' _)
    | max => exact natural_ofRun (s' := (Builtin.max_ argTypes t (args.map a.eval) >>= fun v => Pure.pure (Next.value v))) (fun _ _ => rfl) (natural_bind' (natural_max _ _ _) fun _ => natural_pure' _)
    | delete => exact natural_ofRun (s' := (Builtin.delete_ argTypes t (args.map a.eval) >>= fun v => Pure.pure (Next.value v))) (fun _ _ => rfl) (natural_bind' (natural_delete (fun u hu => by simp only [okCall, hu] at h; exact h) _ _) fun _ => natural_pure' _)
    | _ => cases h
theorem natural_execOp {P : Program} {ok : FuncId → Bool} {o : Oper} (h : okOp P ok o = true) (a : Act) : Natural P (execOp a.eval o) := by
  obtain ⟨dst, op, type, pos, after, guard⟩ := o
  cases op with
  | move x => exact natural_pure' _
  | assign x => exact natural_pure' _
  | pick c x y => exact natural_bind' (natural_asBool _) fun b => natural_pure' _
  | alloc e => exact natural_bind' (natural_alloc _ _ _) fun _ => natural_pure' _
  | box e x => exact natural_bind' (natural_box _ _) fun _ => natural_pure' _
  | build t ps => exact natural_bind' (natural_build _ _) fun _ => natural_pure' _
  | buildSlice t n ps => exact natural_bind' (natural_buildSlice _ _ _) fun _ => natural_pure' _
  | load t x => exact natural_bind' (natural_loadAt _ _) fun _ => natural_pure' _
  | store t x y => exact natural_bind' (natural_storeAt _ _ _) fun _ => natural_pure' _
  | unOp op t x => exact natural_bind' (natural_unary _ _) fun _ => natural_pure' _
  | makeFunc f x y => exact natural_bind' (natural_pure' _) fun _ => natural_pure' _
  | makeMap t r => exact natural_bind' (natural_makeMap _ _) fun _ => natural_pure' _
  | makeChan t s => exact natural_bind' (natural_makeChan _ _) fun _ => natural_pure' _
  | makeSlice t l c => exact natural_bind' (natural_makeSlice _ _ _) fun _ => natural_pure' _
  | slice t x l hh m => exact natural_bind' (natural_sliceAt _ _ _ _ _) fun _ => natural_pure' _
  | fieldAddr t x f => exact natural_bind' (natural_fieldAt _ _ _) fun _ => natural_pure' _
  | field t x f => exact natural_bind' (natural_field _ _ _) fun _ => natural_pure' _
  | indexAddr t x i => exact natural_bind' (natural_indexAt _ _ _) fun _ => natural_pure' _
  | index t x i => exact natural_bind' (natural_index _ _ _) fun _ => natural_pure' _
  | range t x => exact natural_bind' (natural_range _ _) fun _ => natural_pure' _
  | extract x i => exact natural_bind' (natural_extract _ _) fun _ => natural_pure' _
  | makeInterface t x => exact natural_bind' (natural_makeInterface _ _) fun _ => natural_pure' _
  | lookup t x i b => exact natural_bind' (natural_lookup h _ _ _) fun _ => natural_pure' _
  | mapUpdate t m k v => exact natural_bind' (natural_mapUpdate h _ _ _) fun _ => natural_pure' _
  | insert t m k v => exact natural_bind' (natural_mapUpdate h _ _ _) fun _ => natural_pure' _
  | binOp op t x y u => exact natural_bind' (natural_bind' (natural_eqGuard _ _ _ _ _ _) fun _ => natural_binOp h a) fun _ => natural_pure' _
  | convert x y z => exact natural_bind' (natural_convert h _) fun _ => natural_pure' _
  | nilCheck x =>
    unfold execOp
    simp only []
    generalize a.eval x = v
    repeat' first
      | with_reducible exact natural_pure' _
      | with_reducible exact natural_pure _
      | with_reducible exact natural_stuck _
      | with_reducible exact natural_unsupE _
      | with_reducible exact natural_unsupU _
      | with_reducible exact natural_unsupR _
      | with_reducible exact natural_unsupA
      | with_reducible exact natural_goPanic _
      | with_reducible exact natural_load _
      | with_reducible exact natural_store _ _
      | with_reducible exact natural_choose _
      | with_reducible exact natural_noRoom
      | with_reducible exact natural_typeInfo _
      | with_reducible exact natural_underlying _
      | with_reducible exact natural_prog
      | with_reducible exact natural_sizeOf _
      | with_reducible exact natural_zeroValue _
      | with_reducible exact natural_isAgg _
      | with_reducible exact natural_part _ _ _
      | with_reducible exact natural_loadCells _ _
      | with_reducible exact natural_storeCells _ _ _
      | with_reducible exact natural_loadVar _ _
      | with_reducible exact natural_storeVar _ _ _
      | with_reducible exact natural_newRow _ _
      | with_reducible exact natural_newVar _ _
      | with_reducible exact natural_runtimePanic _
      | with_reducible exact natural_boundsPanic _ _ _ _
      | with_reducible exact natural_asIntOf _
      | with_reducible exact natural_asInt _
      | with_reducible exact natural_asBool _
      | with_reducible exact natural_asAgg _
      | with_reducible exact natural_asAddr _
      | with_reducible exact natural_sureAddr _
      | with_reducible exact natural_askRoom _
      | with_reducible assumption
      | with_reducible refine natural_getObj_k _ (fun _ => ?_) (fun o o' hb => by cases hb <;> first | exact .inl rfl | exact .inr fun _ _ h => h)
      | with_reducible refine natural_bind' ?_ fun _ => ?_
      | with_reducible refine natural_map ?_
      | with_reducible exact natural_unsupE_bind _ _
      | with_reducible exact natural_unsupU_bind _ _
      | with_reducible exact natural_unsupR_bind _ _
      | with_reducible exact natural_unsupA_bind _
      | with_reducible exact natural_stuck_bind _ _
      | with_reducible exact natural_byteOf _
      | with_reducible exact natural_behindNumber _
      | with_reducible refine natural_ite (fun _ => ?_) (fun _ => ?_)
      | split
      | with_reducible exact natural_nilAhead _ _ _ _
  | call c => exact natural_call h _ _
  | ready g => exact absurd h (by simp [okOp])
  | waits g => exact absurd h (by simp [okOp])
  | sliceToArrayPointer d x => exact absurd h (by simp [okOp])
  | mapEntry t m k => exact absurd h (by simp [okOp])
  | entryStore t m s v => exact absurd h (by simp [okOp])
  | next i b => exact absurd h (by simp [okOp])
  | entry i => exact absurd h (by simp [okOp])
  | typeAssert x t u b => exact absurd h (by simp [okOp])
  | go c => exact absurd h (by simp [okOp])
  | defer c => exact absurd h (by simp [okOp])
  | panic x => exact absurd h (by simp [okOp])
  | send c x => exact absurd h (by simp [okOp])
  | recv t c b => exact absurd h (by simp [okOp])
  | select cs b => exact absurd h (by simp [okOp])
end Go.Town
