/- Own work, printed: the functions as Lean functions. -/
import Derived.Test.YtpmebmbfkmgjjaaAc22
import Derived.Test.YtpmebmbfkmgjjaaAc20b
import Derived.Test.YtpmebmbfkmgjjaaAc20f
import Derived.Test.YtpmebmbfkmgjjaaAc27
import Derived.Test.YtpmebmbfkmgjjaaAc28
import Derived.Test.YtpmebmbfkmgjjaaAc29
import Derived.Test.YtpmebmbfkmgjjaaAc30
import Derived.Test.YtpmebmbfkmgjjaaAc31
set_option linter.unusedVariables false
set_option linter.unusedSimpArgs false
set_option linter.unusedVariables false
set_option linter.unusedSimpArgs false
namespace Go.Ac
structure TValue where
  kind : Int
  int : Int
  str : List UInt8
  bool : Bool
def TValue.D (v : TValue) : D := .agg ([(D.i .i64) v.kind] ++ [(D.i .i64) v.int] ++ [D.s v.str] ++ [D.b v.bool])
instance : HasNc TValue.D 4 := ⟨fun _ => rfl⟩
def TValue.eqb (a b : TValue) : Bool := (decide (a.kind = b.kind) && (decide (a.int = b.int) && (decide (a.str = b.str) && ((a.bool == b.bool) && true))))
theorem TValue.eqb_iff (a b : TValue) : TValue.eqb a b = true ↔ a = b := by
  cases a; cases b; simp [TValue.eqb]
instance : DecidableEq TValue := fun a b => decidable_of_iff (TValue.eqb a b = true) (TValue.eqb_iff a b)
structure TSlot where
  var : Int
  value : TValue
def TSlot.D (v : TSlot) : D := .agg ([(D.i .i64) v.var] ++ (TValue.D v.value).cells)
instance : HasNc TSlot.D 5 := ⟨fun _ => rfl⟩
def TSlot.eqb (a b : TSlot) : Bool := (decide (a.var = b.var) && (TValue.eqb a.value b.value && true))
theorem TSlot.eqb_iff (a b : TSlot) : TSlot.eqb a b = true ↔ a = b := by
  cases a; cases b; simp [TSlot.eqb, TValue.eqb_iff]
instance : DecidableEq TSlot := fun a b => decidable_of_iff (TSlot.eqb a b = true) (TSlot.eqb_iff a b)
structure THit where
  symbol : Int
  bind : List TSlot
  frees : List TSlot
  deriving DecidableEq
def THit.D (v : THit) : D := .agg ([(D.i .i64) v.symbol] ++ [(D.l TSlot.D) v.bind] ++ [(D.l TSlot.D) v.frees])
instance : HasNc THit.D 3 := ⟨fun _ => rfl⟩
structure TConfig where
  state : Int
  vals : List TValue
  deriving DecidableEq
def TConfig.D (v : TConfig) : D := .agg ([(D.i .i64) v.state] ++ [(D.l TValue.D) v.vals])
instance : HasNc TConfig.D 2 := ⟨fun _ => rfl⟩
structure TRow where
  bind : List TSlot
  set : List TConfig
  deriving DecidableEq
def TRow.D (v : TRow) : D := .agg ([(D.l TSlot.D) v.bind] ++ [(D.l TConfig.D) v.set])
instance : HasNc TRow.D 2 := ⟨fun _ => rfl⟩
noncomputable def law26_slot (a0 : Int) (a1 : Int) : Option (TSlot) :=
  some (TSlot.mk a0 (TValue.mk 1 a1 ([] : List UInt8) false))
noncomputable def domain_NewSet_Slot_v2 : Option (Unit) :=
  some ()
noncomputable def value_Less (a0 : TValue) (a1 : TValue) : Option (Bool) :=
  iteE (!decide (a0.kind = a1.kind)) (
   some (decide (a0.kind < a1.kind))) (
   iteE (decide (a0.kind = 1)) (
    some (decide (a0.int < a1.int))) (
    iteE (decide (a0.kind = 2)) (
     some (Op.bytesLess a0.str a1.str)) (
     iteE (!a0.bool) (
      some a1.bool) (
      some false))))
noncomputable def binding_Less_l1_s (s1 : List TSlot) (s17 : List TSlot) (s18 : Int) (s19 : Int) : Option ((Int) ⊕ (Unit ⊕ Bool)) :=
  iteE (decide (s19 < s18)) (
   idxE s17 s19 fun x1 =>
   idxE s1 s19 fun x2 =>
   iteE (!decide (x1.var = x2.var)) (
    idxE s1 s19 fun x3 =>
    some (.inr (.inr (decide (x1.var < x3.var))))) (
    idxE s1 s19 fun x4 =>
    iteE (!(TValue.eqb x1.value x4.value)) (
     idxE s1 s19 fun x5 =>
     bndE (value_Less x1.value x5.value) fun r6 =>
     some (.inr (.inr r6))) (
     some (.inl (intVal .add .i64 s19 1))))) (
   some (.inr (.inl ())))
noncomputable def binding_Less_l1 (s1 : List TSlot) (s17 : List TSlot) (s18 : Int) (s19 : Int) : Option (Unit ⊕ Bool) := loopE (fun s : Int => binding_Less_l1_s s1 s17 s18 s) s19
theorem binding_Less_l1_eq (s1 : List TSlot) (s17 : List TSlot) (s18 : Int) (s19 : Int) : binding_Less_l1 s1 s17 s18 s19 = nextE (binding_Less_l1_s s1 s17 s18 s19) (fun s : Int => binding_Less_l1 s1 s17 s18 s) := loopE_eq _ _
noncomputable def binding_Less (a0 : List TSlot) (a1 : List TSlot) : Option (Bool) :=
  iteE (!decide ((a0.length : Int) = (a1.length : Int))) (
   some (decide ((a0.length : Int) < (a1.length : Int)))) (
   bndE (binding_Less_l1 a1 a0 (a0.length : Int) 0) fun o7 =>
   sumE o7 (fun o8 =>
    some false) (fun o9 =>
    some o9))
noncomputable def domain_Set_Slot_Put_1 (a0 : List TSlot) (a1 : List TSlot) (a2 : List (List TSlot)) : Option (Int) :=
  bndE (binding_Less a0 a1) fun r1 =>
  iteE (r1) (
   some (-1)) (
   bndE (binding_Less a1 a0) fun r2 =>
   iteE (r2) (
    some 1) (
    some 0))
noncomputable def slices_BinarySearchFunc_Slot_Slot_Slot_b3 (s0 : List (List TSlot)) (s1 : List TSlot) (s2 : List (List TSlot)) (s8 : Int) (s9 : Int) (s10 : Int) (s11 : Int) (s31 : Bool) : Option ((Int × Int)) :=
  iteE (s31) (
   some ((intVal .add .i64 s11 1), s10)) (
   some (s9, s11))
noncomputable def slices_BinarySearchFunc_Slot_Slot_Slot_b2 (s0 : List (List TSlot)) (s1 : List TSlot) (s2 : List (List TSlot)) (s8 : Int) (s9 : Int) (s10 : Int) : Option ((Int × Int)) :=
  idxE s0 (IntKind.wrap .i64 (intVal .shr .u64 (IntKind.wrap .u64 (intVal .add .i64 s9 s10)) 1)) fun x1 =>
  bndE (domain_Set_Slot_Put_1 x1 s1 s2) fun r2 =>
  bndE (slices_BinarySearchFunc_Slot_Slot_Slot_b3 s0 s1 s2 s8 s9 s10 (IntKind.wrap .i64 (intVal .shr .u64 (IntKind.wrap .u64 (intVal .add .i64 s9 s10)) 1)) (decide (r2 < 0))) fun o3 =>
  some (o3.1, o3.2)
noncomputable def slices_BinarySearchFunc_Slot_Slot_Slot_l1_s (s0 : List (List TSlot)) (s1 : List TSlot) (s2 : List (List TSlot)) (s8 : Int) (s9 : Int) (s10 : Int) : Option ((Int × Int) ⊕ (Int)) :=
  iteE (decide (s9 < s10)) (
   bndE (slices_BinarySearchFunc_Slot_Slot_Slot_b2 s0 s1 s2 s8 s9 s10) fun o4 =>
   some (.inl (o4.1, o4.2))) (
   some (.inr s9))
noncomputable def slices_BinarySearchFunc_Slot_Slot_Slot_l1 (s0 : List (List TSlot)) (s1 : List TSlot) (s2 : List (List TSlot)) (s8 : Int) (s9 : Int) (s10 : Int) : Option (Int) := loopE (fun s : Int × Int => slices_BinarySearchFunc_Slot_Slot_Slot_l1_s s0 s1 s2 s8 s.1 s.2) (s9, s10)
theorem slices_BinarySearchFunc_Slot_Slot_Slot_l1_eq (s0 : List (List TSlot)) (s1 : List TSlot) (s2 : List (List TSlot)) (s8 : Int) (s9 : Int) (s10 : Int) : slices_BinarySearchFunc_Slot_Slot_Slot_l1 s0 s1 s2 s8 s9 s10 = nextE (slices_BinarySearchFunc_Slot_Slot_Slot_l1_s s0 s1 s2 s8 s9 s10) (fun s : Int × Int => slices_BinarySearchFunc_Slot_Slot_Slot_l1 s0 s1 s2 s8 s.1 s.2) := loopE_eq _ _
noncomputable def slices_BinarySearchFunc_Slot_Slot_Slot (a0 : List (List TSlot)) (a1 : List TSlot) (a2 : List (List TSlot)) : Option (Int × Bool) :=
  bndE (slices_BinarySearchFunc_Slot_Slot_Slot_l1 a0 a1 a2 (a0.length : Int) 0 (a0.length : Int)) fun o5 =>
  iteE (decide (o5 < (a0.length : Int))) (
   idxE a0 o5 fun x6 =>
   bndE (domain_Set_Slot_Put_1 x6 a1 a2) fun r7 =>
   some (o5, decide (r7 = 0))) (
   some (o5, false))
def slices_Insert_Slot_Slot (i : Int) (ys : List (List TSlot)) : Option (List (List TSlot)) := insN 24 i ys
noncomputable def domain_Set_Slot_Put_v2_b1 (s1 : List TSlot) (s5 : Int) (s6 : Bool) (s20 : Bool) : Option ((List (List TSlot))) :=
  iteE (s20) (
   bndE (slices_Insert_Slot_Slot s5 [s1]) fun r2 =>
   some r2) (
   some ([] : List (List TSlot)))
noncomputable def domain_Set_Slot_Put_v2 (a1 : List TSlot) : Option (Bool × List (List TSlot)) :=
  bndE (slices_BinarySearchFunc_Slot_Slot_Slot ([] : List (List TSlot)) a1 ([] : List (List TSlot))) fun r1 =>
  bndE (domain_Set_Slot_Put_v2_b1 a1 r1.1 r1.2 (!r1.2)) fun o3 =>
  some (!r1.2, o3)
def slices_Insert_Slot_Slot_v2 (i : Int) (xs ys : List (List TSlot)) : Option (List (List TSlot)) := insE 24 i xs ys
noncomputable def domain_Set_Slot_Put_v3_b1 (s1 : List TSlot) (s5 : Int) (s6 : Bool) (s20 : Bool) (w501 : List (List TSlot)) : Option ((List (List TSlot))) :=
  iteE (s20) (
   bndE (slices_Insert_Slot_Slot_v2 s5 w501 [s1]) fun r2 =>
   some r2) (
   some w501)
noncomputable def domain_Set_Slot_Put_v3 (a1 : List TSlot) (w1 : List (List TSlot)) : Option (Bool × List (List TSlot)) :=
  bndE (slices_BinarySearchFunc_Slot_Slot_Slot w1 a1 w1) fun r1 =>
  bndE (domain_Set_Slot_Put_v3_b1 a1 r1.1 r1.2 (!r1.2) w1) fun o3 =>
  some (!r1.2, o3)
noncomputable def match_Binds_1 (a0 : List TSlot) (a1 : List TSlot) : Option (Int) :=
  bndE (binding_Less a0 a1) fun r1 =>
  iteE (r1) (
   some (-1)) (
   bndE (binding_Less a1 a0) fun r2 =>
   iteE (r2) (
    some 1) (
    some 0))
noncomputable def slices_BinarySearchFunc_Slot_Slot_Slot_v2_b3 (s0 : List (List TSlot)) (s1 : List TSlot) (s8 : Int) (s9 : Int) (s10 : Int) (s11 : Int) (s31 : Bool) : Option ((Int × Int)) :=
  iteE (s31) (
   some ((intVal .add .i64 s11 1), s10)) (
   some (s9, s11))
noncomputable def slices_BinarySearchFunc_Slot_Slot_Slot_v2_b2 (s0 : List (List TSlot)) (s1 : List TSlot) (s8 : Int) (s9 : Int) (s10 : Int) : Option ((Int × Int)) :=
  idxE s0 (IntKind.wrap .i64 (intVal .shr .u64 (IntKind.wrap .u64 (intVal .add .i64 s9 s10)) 1)) fun x1 =>
  bndE (match_Binds_1 x1 s1) fun r2 =>
  bndE (slices_BinarySearchFunc_Slot_Slot_Slot_v2_b3 s0 s1 s8 s9 s10 (IntKind.wrap .i64 (intVal .shr .u64 (IntKind.wrap .u64 (intVal .add .i64 s9 s10)) 1)) (decide (r2 < 0))) fun o3 =>
  some (o3.1, o3.2)
noncomputable def slices_BinarySearchFunc_Slot_Slot_Slot_v2_l1_s (s0 : List (List TSlot)) (s1 : List TSlot) (s8 : Int) (s9 : Int) (s10 : Int) : Option ((Int × Int) ⊕ (Int)) :=
  iteE (decide (s9 < s10)) (
   bndE (slices_BinarySearchFunc_Slot_Slot_Slot_v2_b2 s0 s1 s8 s9 s10) fun o4 =>
   some (.inl (o4.1, o4.2))) (
   some (.inr s9))
noncomputable def slices_BinarySearchFunc_Slot_Slot_Slot_v2_l1 (s0 : List (List TSlot)) (s1 : List TSlot) (s8 : Int) (s9 : Int) (s10 : Int) : Option (Int) := loopE (fun s : Int × Int => slices_BinarySearchFunc_Slot_Slot_Slot_v2_l1_s s0 s1 s8 s.1 s.2) (s9, s10)
theorem slices_BinarySearchFunc_Slot_Slot_Slot_v2_l1_eq (s0 : List (List TSlot)) (s1 : List TSlot) (s8 : Int) (s9 : Int) (s10 : Int) : slices_BinarySearchFunc_Slot_Slot_Slot_v2_l1 s0 s1 s8 s9 s10 = nextE (slices_BinarySearchFunc_Slot_Slot_Slot_v2_l1_s s0 s1 s8 s9 s10) (fun s : Int × Int => slices_BinarySearchFunc_Slot_Slot_Slot_v2_l1 s0 s1 s8 s.1 s.2) := loopE_eq _ _
noncomputable def slices_BinarySearchFunc_Slot_Slot_Slot_v2 (a0 : List (List TSlot)) (a1 : List TSlot) : Option (Int × Bool) :=
  bndE (slices_BinarySearchFunc_Slot_Slot_Slot_v2_l1 a0 a1 (a0.length : Int) 0 (a0.length : Int)) fun o5 =>
  iteE (decide (o5 < (a0.length : Int))) (
   idxE a0 o5 fun x6 =>
   bndE (match_Binds_1 x6 a1) fun r7 =>
   some (o5, decide (r7 = 0))) (
   some (o5, false))
noncomputable def match_Binds_b5 (s6 : Int) (s8 : List THit) (s9 : Int) (s10 : Int) (s22 : Bool) (w3 : List (List TSlot)) (w5 : THit) : Option ((List (List TSlot))) :=
  iteE (s22) (
   bndE (slices_Insert_Slot_Slot_v2 s6 w3 [w5.bind]) fun r8 =>
   some r8) (
   some w3)
noncomputable def match_Binds_b4 (s8 : List THit) (s9 : Int) (s10 : Int) (w3 : List (List TSlot)) : Option ((List (List TSlot))) :=
  idxE s8 s10 fun x6 =>
  bndE (slices_BinarySearchFunc_Slot_Slot_Slot_v2 w3 x6.bind) fun r7 =>
  bndE (match_Binds_b5 r7.1 s8 s9 s10 (!r7.2) w3 x6) fun o9 =>
  some o9
noncomputable def match_Binds_l1_s (s8 : List THit) (s9 : Int) (s10 : Int) (w3 : List (List TSlot)) : Option ((Int × List (List TSlot)) ⊕ ((List (List TSlot)))) :=
  iteE (decide (s10 < s9)) (
   bndE (match_Binds_b4 s8 s9 s10 w3) fun o10 =>
   some (.inl ((intVal .add .i64 s10 1), o10))) (
   some (.inr w3))
noncomputable def match_Binds_l1 (s8 : List THit) (s9 : Int) (s10 : Int) (w3 : List (List TSlot)) : Option ((List (List TSlot))) := loopE (fun s : Int × List (List TSlot) => match_Binds_l1_s s8 s9 s.1 s.2) (s10, w3)
theorem match_Binds_l1_eq (s8 : List THit) (s9 : Int) (s10 : Int) (w3 : List (List TSlot)) : match_Binds_l1 s8 s9 s10 w3 = nextE (match_Binds_l1_s s8 s9 s10 w3) (fun s : Int × List (List TSlot) => match_Binds_l1 s8 s9 s.1 s.2) := loopE_eq _ _
noncomputable def match_Binds (a0 : List THit) : Option (List (List TSlot)) :=
  bndE (match_Binds_l1 a0 (a0.length : Int) 0 ([] : List (List TSlot))) fun o11 =>
  some o11
def slices_Clone_Slot_Slot (l : List (List TSlot)) : Option (List (List TSlot)) := cloneE 24 l
noncomputable def domain_Set_Slot_All (w1 : List (List TSlot)) : Option (List (List TSlot) × List (List TSlot)) :=
  bndE (slices_Clone_Slot_Slot w1) fun r1 =>
  some (r1, w1)
def slices_Clone_Slot_Slot_v2 (l : List (List TSlot)) : Option (List (List TSlot)) := cloneE 24 l
noncomputable def domain_Set_Slot_All_v2 : Option (List (List TSlot)) :=
  bndE (slices_Clone_Slot_Slot_v2 ([] : List (List TSlot))) fun r1 =>
  some r1
def slices_Grow_Slot_Slot (n : Int) : Option (List (List TSlot)) := growE 24 n
noncomputable def slices_Concat_Slot_Slot_b3 (s0 : List (List (List TSlot))) (s3 : Int) (s9 : List (List (List TSlot))) (s10 : Int) (s11 : Int) (s20 : Bool) : Option (Unit) :=
  iteE (s20) (
   none) (
   some ())
noncomputable def slices_Concat_Slot_Slot_b2 (s0 : List (List (List TSlot))) (s3 : Int) (s9 : List (List (List TSlot))) (s10 : Int) (s11 : Int) : Option (Int) :=
  idxE s9 s11 fun x1 =>
  bndE (slices_Concat_Slot_Slot_b3 s0 (intVal .add .i64 s3 (x1.length : Int)) s9 s10 s11 (decide ((intVal .add .i64 s3 (x1.length : Int)) < 0))) fun o2 =>
  some (intVal .add .i64 s3 (x1.length : Int))
noncomputable def slices_Concat_Slot_Slot_l1_s (s0 : List (List (List TSlot))) (s9 : List (List (List TSlot))) (s10 : Int) (s3 : Int) (s11 : Int) : Option ((Int × Int) ⊕ (Int)) :=
  iteE (decide (s11 < s10)) (
   bndE (slices_Concat_Slot_Slot_b2 s0 s3 s9 s10 s11) fun o3 =>
   some (.inl (o3, (intVal .add .i64 s11 1)))) (
   some (.inr s3))
noncomputable def slices_Concat_Slot_Slot_l1 (s0 : List (List (List TSlot))) (s9 : List (List (List TSlot))) (s10 : Int) (s3 : Int) (s11 : Int) : Option (Int) := loopE (fun s : Int × Int => slices_Concat_Slot_Slot_l1_s s0 s9 s10 s.1 s.2) (s3, s11)
theorem slices_Concat_Slot_Slot_l1_eq (s0 : List (List (List TSlot))) (s9 : List (List (List TSlot))) (s10 : Int) (s3 : Int) (s11 : Int) : slices_Concat_Slot_Slot_l1 s0 s9 s10 s3 s11 = nextE (slices_Concat_Slot_Slot_l1_s s0 s9 s10 s3 s11) (fun s : Int × Int => slices_Concat_Slot_Slot_l1 s0 s9 s10 s.1 s.2) := loopE_eq _ _
noncomputable def slices_Concat_Slot_Slot_l4_s (s25 : List (List (List TSlot))) (s26 : Int) (s27 : Int) (w6 : List (List TSlot)) : Option ((Int × List (List TSlot)) ⊕ ((List (List TSlot)))) :=
  iteE (decide (s27 < s26)) (
   idxE s25 s27 fun x6 =>
   chkE (fit w6.length x6.length 24) (
    some (.inl ((intVal .add .i64 s27 1), w6 ++ x6)))) (
   some (.inr w6))
noncomputable def slices_Concat_Slot_Slot_l4 (s25 : List (List (List TSlot))) (s26 : Int) (s27 : Int) (w6 : List (List TSlot)) : Option ((List (List TSlot))) := loopE (fun s : Int × List (List TSlot) => slices_Concat_Slot_Slot_l4_s s25 s26 s.1 s.2) (s27, w6)
theorem slices_Concat_Slot_Slot_l4_eq (s25 : List (List (List TSlot))) (s26 : Int) (s27 : Int) (w6 : List (List TSlot)) : slices_Concat_Slot_Slot_l4 s25 s26 s27 w6 = nextE (slices_Concat_Slot_Slot_l4_s s25 s26 s27 w6) (fun s : Int × List (List TSlot) => slices_Concat_Slot_Slot_l4 s25 s26 s.1 s.2) := loopE_eq _ _
noncomputable def slices_Concat_Slot_Slot (a0 : List (List (List TSlot))) : Option (List (List TSlot)) :=
  bndE (slices_Concat_Slot_Slot_l1 a0 a0 (a0.length : Int) 0 0) fun o4 =>
  bndE (slices_Grow_Slot_Slot o4) fun r5 =>
  bndE (slices_Concat_Slot_Slot_l4 a0 (a0.length : Int) 0 r5) fun o7 =>
  some o7
noncomputable def extend_unions (a0 : List (List TSlot)) (a1 : List TSlot) : Option (List (List TSlot) × List TSlot) :=
  some (a0, a1)
noncomputable def binding_both (a0 : List TSlot) (a1 : List TSlot) : Option (List TSlot × List TSlot) :=
  some (a0, a1)
noncomputable def binding_Get_l1_s (s1 : Int) (s8 : List TSlot) (s9 : Int) (w4 : TValue) (s10 : Int) : Option ((Int) ⊕ (Unit ⊕ TValue)) :=
  iteE (decide (s10 < s9)) (
   idxE s8 s10 fun x1 =>
   iteE (decide (x1.var = s1)) (
    some (.inr (.inr x1.value))) (
    some (.inl (intVal .add .i64 s10 1)))) (
   some (.inr (.inl ())))
noncomputable def binding_Get_l1 (s1 : Int) (s8 : List TSlot) (s9 : Int) (w4 : TValue) (s10 : Int) : Option (Unit ⊕ TValue) := loopE (fun s : Int => binding_Get_l1_s s1 s8 s9 w4 s) s10
theorem binding_Get_l1_eq (s1 : Int) (s8 : List TSlot) (s9 : Int) (w4 : TValue) (s10 : Int) : binding_Get_l1 s1 s8 s9 w4 s10 = nextE (binding_Get_l1_s s1 s8 s9 w4 s10) (fun s : Int => binding_Get_l1 s1 s8 s9 w4 s) := loopE_eq _ _
noncomputable def binding_Get (a0 : List TSlot) (a1 : Int) : Option (TValue × Bool) :=
  bndE (binding_Get_l1 a1 a0 (a0.length : Int) (TValue.mk 0 0 ([] : List UInt8) false) 0) fun o2 =>
  sumE o2 (fun o3 =>
   some (TValue.mk 0 0 ([] : List UInt8) false, false)) (fun o4 =>
   some (o4, true))
noncomputable def binding_both_1_b2 {φ : Type} (step : φ → ((TSlot × TValue) ⊕ TSlot) → Option (φ × Bool)) (f0 : φ) (s2 : List TSlot) (s9 : List TSlot) (s10 : Int) (s11 : Int) : Option (φ ⊕ φ) :=
  idxE s9 s11 fun x1 =>
  bndE (binding_Get s2 x1.var) fun r2 =>
  iteE (r2.2) (
   yldE (step f0 (.inl (x1, r2.1))) (fun f3 =>
    some (.inl f3)) (fun f4 =>
    some (.inr f4))) (
   yldE (step f0 (.inr x1)) (fun f5 =>
    some (.inl f5)) (fun f6 =>
    some (.inr f6)))
noncomputable def binding_both_1_l1_s {φ : Type} (step : φ → ((TSlot × TValue) ⊕ TSlot) → Option (φ × Bool)) (s2 : List TSlot) (s9 : List TSlot) (s10 : Int) (f0 : φ) (s11 : Int) : Option ((φ × Int) ⊕ (φ ⊕ φ)) :=
  iteE (decide (s11 < s10)) (
   bndE (binding_both_1_b2 step f0 s2 s9 s10 s11) fun o7 =>
   sumE o7 (fun o8 =>
    some (.inl (o8, (intVal .add .i64 s11 1)))) (fun o9 =>
    some (.inr (.inr o9)))) (
   some (.inr (.inl f0)))
noncomputable def binding_both_1_l1 {φ : Type} (step : φ → ((TSlot × TValue) ⊕ TSlot) → Option (φ × Bool)) (s2 : List TSlot) (s9 : List TSlot) (s10 : Int) (f0 : φ) (s11 : Int) : Option (φ ⊕ φ) := loopE (fun s : φ × Int => binding_both_1_l1_s step s2 s9 s10 s.1 s.2) (f0, s11)
theorem binding_both_1_l1_eq {φ : Type} (step : φ → ((TSlot × TValue) ⊕ TSlot) → Option (φ × Bool)) (s2 : List TSlot) (s9 : List TSlot) (s10 : Int) (f0 : φ) (s11 : Int) : binding_both_1_l1 step s2 s9 s10 f0 s11 = nextE (binding_both_1_l1_s step s2 s9 s10 f0 s11) (fun s : φ × Int => binding_both_1_l1 step s2 s9 s10 s.1 s.2) := loopE_eq _ _
noncomputable def binding_both_1 {φ : Type} (step : φ → ((TSlot × TValue) ⊕ TSlot) → Option (φ × Bool)) (a1 : List TSlot) (a2 : List TSlot) (f0 : φ) : Option φ :=
  bndE (binding_both_1_l1 step a2 a1 (a1.length : Int) f0 0) fun o10 =>
  sumE o10 (fun o11 =>
   some o11) (fun o12 =>
   some o12)
noncomputable def binding_Fits_b2 (s9_1 : List TSlot) (s9_2 : List TSlot) (s10 : TSlot) (s11 : TValue) (w4 : Bool) (w998_1 : List TSlot) (w998_2 : List TSlot) : Option (Unit) :=
  some ()
noncomputable def binding_Fits_b4 (s9_1 : List TSlot) (s9_2 : List TSlot) (s10 : TSlot) (w4 : Bool) (w998_1 : List TSlot) (w998_2 : List TSlot) : Option (Unit) :=
  some ()
noncomputable def binding_Fits_b6 (s6 : TValue) (s9_1 : List TSlot) (s9_2 : List TSlot) (w4 : Bool) (w5 : TSlot) (w998_1 : List TSlot) (w998_2 : List TSlot) : Option (Unit ⊕ Unit) :=
  iteE (!(TValue.eqb s6 w5.value)) (
   some (.inr ())) (
   some (.inl ()))
noncomputable def binding_Fits_b7 (s9_1 : List TSlot) (s9_2 : List TSlot) (w4 : Bool) (w5 : TSlot) (w998_1 : List TSlot) (w998_2 : List TSlot) : Option (Unit) :=
  some ()
noncomputable def binding_Fits_r1_rd (s9_1 : List TSlot) (s9_2 : List TSlot) (s : Bool) (x : (TSlot × TValue) ⊕ TSlot) : Option ((Bool) ⊕ (Bool)) :=
  sumE x (fun z13 =>
   bndE (binding_Fits_b2 s9_1 s9_2 z13.1 z13.2 s s9_1 s9_2) fun o6 =>
   bndE (binding_Fits_b6 z13.2 s9_1 s9_2 s z13.1 s9_1 s9_2) fun o7 =>
   sumE o7 (fun o15 =>
    some (.inl s)) (fun o16 =>
    some (.inr false))) (fun z14 =>
   bndE (binding_Fits_b4 s9_1 s9_2 z14 s s9_1 s9_2) fun o8 =>
   bndE (binding_Fits_b7 s9_1 s9_2 s z14 s9_1 s9_2) fun o9 =>
   some (.inl s))
noncomputable def binding_Fits (a0 : List TSlot) (a1 : List TSlot) : Option (Bool) :=
  bndE (binding_both a0 a1) fun r1 =>
  bndE (binding_both_1 (stepOf (binding_Fits_r1_rd r1.1 r1.2)) r1.1 r1.2 (.inl false)) fun o10 =>
  sumE o10 (fun o11 =>
   some true) (fun o12 =>
   some o12)
def slices_Grow_Slot_Slot_v2 (n : Int) : Option (List TSlot) := growE 48 n
noncomputable def slices_Concat_Slot_Slot_v2_b3 (s0 : List (List TSlot)) (s3 : Int) (s9 : List (List TSlot)) (s10 : Int) (s11 : Int) (s20 : Bool) : Option (Unit) :=
  iteE (s20) (
   none) (
   some ())
noncomputable def slices_Concat_Slot_Slot_v2_b2 (s0 : List (List TSlot)) (s3 : Int) (s9 : List (List TSlot)) (s10 : Int) (s11 : Int) : Option (Int) :=
  idxE s9 s11 fun x1 =>
  bndE (slices_Concat_Slot_Slot_v2_b3 s0 (intVal .add .i64 s3 (x1.length : Int)) s9 s10 s11 (decide ((intVal .add .i64 s3 (x1.length : Int)) < 0))) fun o2 =>
  some (intVal .add .i64 s3 (x1.length : Int))
noncomputable def slices_Concat_Slot_Slot_v2_l1_s (s0 : List (List TSlot)) (s9 : List (List TSlot)) (s10 : Int) (s3 : Int) (s11 : Int) : Option ((Int × Int) ⊕ (Int)) :=
  iteE (decide (s11 < s10)) (
   bndE (slices_Concat_Slot_Slot_v2_b2 s0 s3 s9 s10 s11) fun o3 =>
   some (.inl (o3, (intVal .add .i64 s11 1)))) (
   some (.inr s3))
noncomputable def slices_Concat_Slot_Slot_v2_l1 (s0 : List (List TSlot)) (s9 : List (List TSlot)) (s10 : Int) (s3 : Int) (s11 : Int) : Option (Int) := loopE (fun s : Int × Int => slices_Concat_Slot_Slot_v2_l1_s s0 s9 s10 s.1 s.2) (s3, s11)
theorem slices_Concat_Slot_Slot_v2_l1_eq (s0 : List (List TSlot)) (s9 : List (List TSlot)) (s10 : Int) (s3 : Int) (s11 : Int) : slices_Concat_Slot_Slot_v2_l1 s0 s9 s10 s3 s11 = nextE (slices_Concat_Slot_Slot_v2_l1_s s0 s9 s10 s3 s11) (fun s : Int × Int => slices_Concat_Slot_Slot_v2_l1 s0 s9 s10 s.1 s.2) := loopE_eq _ _
noncomputable def slices_Concat_Slot_Slot_v2_l4_s (s25 : List (List TSlot)) (s26 : Int) (s27 : Int) (w6 : List TSlot) : Option ((Int × List TSlot) ⊕ ((List TSlot))) :=
  iteE (decide (s27 < s26)) (
   idxE s25 s27 fun x6 =>
   chkE (fit w6.length x6.length 48) (
    some (.inl ((intVal .add .i64 s27 1), w6 ++ x6)))) (
   some (.inr w6))
noncomputable def slices_Concat_Slot_Slot_v2_l4 (s25 : List (List TSlot)) (s26 : Int) (s27 : Int) (w6 : List TSlot) : Option ((List TSlot)) := loopE (fun s : Int × List TSlot => slices_Concat_Slot_Slot_v2_l4_s s25 s26 s.1 s.2) (s27, w6)
theorem slices_Concat_Slot_Slot_v2_l4_eq (s25 : List (List TSlot)) (s26 : Int) (s27 : Int) (w6 : List TSlot) : slices_Concat_Slot_Slot_v2_l4 s25 s26 s27 w6 = nextE (slices_Concat_Slot_Slot_v2_l4_s s25 s26 s27 w6) (fun s : Int × List TSlot => slices_Concat_Slot_Slot_v2_l4 s25 s26 s.1 s.2) := loopE_eq _ _
noncomputable def slices_Concat_Slot_Slot_v2 (a0 : List (List TSlot)) : Option (List TSlot) :=
  bndE (slices_Concat_Slot_Slot_v2_l1 a0 a0 (a0.length : Int) 0 0) fun o4 =>
  bndE (slices_Grow_Slot_Slot_v2 o4) fun r5 =>
  bndE (slices_Concat_Slot_Slot_v2_l4 a0 (a0.length : Int) 0 r5) fun o7 =>
  some o7
noncomputable def binding_find_1 (a0 : TSlot) (a1 : Int) : Option (Int) :=
  some (intVal .sub .i64 a0.var a1)
noncomputable def slices_BinarySearchFunc_Slot_Slot_int_b3 (s0 : List TSlot) (s1 : Int) (s8 : Int) (s9 : Int) (s10 : Int) (s11 : Int) (s31 : Bool) : Option ((Int × Int)) :=
  iteE (s31) (
   some ((intVal .add .i64 s11 1), s10)) (
   some (s9, s11))
noncomputable def slices_BinarySearchFunc_Slot_Slot_int_b2 (s0 : List TSlot) (s1 : Int) (s8 : Int) (s9 : Int) (s10 : Int) : Option ((Int × Int)) :=
  idxE s0 (IntKind.wrap .i64 (intVal .shr .u64 (IntKind.wrap .u64 (intVal .add .i64 s9 s10)) 1)) fun x1 =>
  bndE (binding_find_1 x1 s1) fun r2 =>
  bndE (slices_BinarySearchFunc_Slot_Slot_int_b3 s0 s1 s8 s9 s10 (IntKind.wrap .i64 (intVal .shr .u64 (IntKind.wrap .u64 (intVal .add .i64 s9 s10)) 1)) (decide (r2 < 0))) fun o3 =>
  some (o3.1, o3.2)
noncomputable def slices_BinarySearchFunc_Slot_Slot_int_l1_s (s0 : List TSlot) (s1 : Int) (s8 : Int) (s9 : Int) (s10 : Int) : Option ((Int × Int) ⊕ (Int)) :=
  iteE (decide (s9 < s10)) (
   bndE (slices_BinarySearchFunc_Slot_Slot_int_b2 s0 s1 s8 s9 s10) fun o4 =>
   some (.inl (o4.1, o4.2))) (
   some (.inr s9))
noncomputable def slices_BinarySearchFunc_Slot_Slot_int_l1 (s0 : List TSlot) (s1 : Int) (s8 : Int) (s9 : Int) (s10 : Int) : Option (Int) := loopE (fun s : Int × Int => slices_BinarySearchFunc_Slot_Slot_int_l1_s s0 s1 s8 s.1 s.2) (s9, s10)
theorem slices_BinarySearchFunc_Slot_Slot_int_l1_eq (s0 : List TSlot) (s1 : Int) (s8 : Int) (s9 : Int) (s10 : Int) : slices_BinarySearchFunc_Slot_Slot_int_l1 s0 s1 s8 s9 s10 = nextE (slices_BinarySearchFunc_Slot_Slot_int_l1_s s0 s1 s8 s9 s10) (fun s : Int × Int => slices_BinarySearchFunc_Slot_Slot_int_l1 s0 s1 s8 s.1 s.2) := loopE_eq _ _
noncomputable def slices_BinarySearchFunc_Slot_Slot_int (a0 : List TSlot) (a1 : Int) : Option (Int × Bool) :=
  bndE (slices_BinarySearchFunc_Slot_Slot_int_l1 a0 a1 (a0.length : Int) 0 (a0.length : Int)) fun o5 =>
  iteE (decide (o5 < (a0.length : Int))) (
   idxE a0 o5 fun x6 =>
   bndE (binding_find_1 x6 a1) fun r7 =>
   some (o5, decide (r7 = 0))) (
   some (o5, false))
noncomputable def binding_find (a0 : List TSlot) (a1 : Int) : Option (Int × Bool) :=
  bndE (slices_BinarySearchFunc_Slot_Slot_int a0 a1) fun r1 =>
  some (r1.1, r1.2)
def slices_Insert_Slot_Slot_v3 (i : Int) (ys : List TSlot) : Option (List TSlot) := insN 48 i ys
def slices_Insert_Slot_Slot_v4 (i : Int) (xs ys : List TSlot) : Option (List TSlot) := insE 48 i xs ys
noncomputable def value_Int (a0 : Int) : Option (TValue) :=
  some (TValue.mk 1 a0 ([] : List UInt8) false)
noncomputable def value_Str (a0 : List UInt8) : Option (TValue) :=
  some (TValue.mk 2 0 a0 false)
noncomputable def value_Bool (a0 : Bool) : Option (TValue) :=
  some (TValue.mk 3 0 ([] : List UInt8) a0)
noncomputable def value_Right (a0 : TValue) : Option (Bool) :=
  iteE (decide (a0.kind = 1)) (
   bndE (value_Int a0.int) fun r1 =>
   some (TValue.eqb a0 r1)) (
   iteE (decide (a0.kind = 2)) (
    bndE (value_Str a0.str) fun r2 =>
    iteE ((TValue.eqb a0 r2)) (
     some (decide ((a0.str.length : Int) ≤ 4096))) (
     some false)) (
    iteE (decide (a0.kind = 3)) (
     bndE (value_Bool a0.bool) fun r3 =>
     some (TValue.eqb a0 r3)) (
     some false)))
noncomputable def binding_Right_l1_s (s0 : List TSlot) (s5 : List TSlot) (s6 : Int) (s7 : Int) : Option ((Int) ⊕ (Unit ⊕ Unit)) :=
  iteE (decide (s7 < s6)) (
   idxE s5 s7 fun x1 =>
   iteE (decide (x1.var < 0)) (
    some (.inr (.inr ()))) (
    iteE (decide (8 ≤ x1.var)) (
     some (.inr (.inr ()))) (
     bndE (value_Right x1.value) fun r2 =>
     iteE (!r2) (
      some (.inr (.inr ()))) (
      iteE (decide (0 < s7)) (
       idxE s0 (intVal .sub .i64 s7 1) fun x3 =>
       iteE (decide (x1.var ≤ x3.var)) (
        some (.inr (.inr ()))) (
        some (.inl (intVal .add .i64 s7 1)))) (
       some (.inl (intVal .add .i64 s7 1))))))) (
   some (.inr (.inl ())))
noncomputable def binding_Right_l1 (s0 : List TSlot) (s5 : List TSlot) (s6 : Int) (s7 : Int) : Option (Unit ⊕ Unit) := loopE (fun s : Int => binding_Right_l1_s s0 s5 s6 s) s7
theorem binding_Right_l1_eq (s0 : List TSlot) (s5 : List TSlot) (s6 : Int) (s7 : Int) : binding_Right_l1 s0 s5 s6 s7 = nextE (binding_Right_l1_s s0 s5 s6 s7) (fun s : Int => binding_Right_l1 s0 s5 s6 s) := loopE_eq _ _
noncomputable def binding_Right (a0 : List TSlot) : Option (Bool) :=
  bndE (binding_Right_l1 a0 a0 (a0.length : Int) 0) fun o4 =>
  sumE o4 (fun o5 =>
   some true) (fun o6 =>
   some false)
noncomputable def binding_Of_b7 (s7 : Int) (s9 : List TSlot) (s10 : Int) (s11 : Int) (s22 : Bool) (w4 : List TSlot) (w6 : TSlot) : Option ((List TSlot) ⊕ Unit) :=
  iteE (s22) (
   bndE (slices_Insert_Slot_Slot_v4 s7 w4 [w6]) fun r16 =>
   some (.inl r16)) (
   chkE (0 ≤ s7 ∧ s7 + 1 ≤ (w4.length : Int)) (
    idxE w4 s7 fun x17 =>
    iteE (!(TSlot.eqb x17 w6)) (
     some (.inr ())) (
     some (.inl w4))))
noncomputable def binding_Of_b6 (s7 : Int) (s8 : Bool) (s9 : List TSlot) (s10 : Int) (s11 : Int) (w4 : List TSlot) (w6 : TSlot) : Option ((List TSlot) ⊕ Unit) :=
  bndE (binding_Of_b7 s7 s9 s10 s11 (!s8) w4 w6) fun o18 =>
  sumE o18 (fun o19 =>
   some (.inl o19)) (fun o20 =>
   some (.inr ()))
noncomputable def binding_Of_b5 (s9 : List TSlot) (s10 : Int) (s11 : Int) (w4 : List TSlot) : Option ((List TSlot) ⊕ Unit) :=
  idxE s9 s11 fun x14 =>
  bndE (binding_find w4 x14.var) fun r15 =>
  bndE (binding_Of_b6 r15.1 r15.2 s9 s10 s11 w4 x14) fun o21 =>
  sumE o21 (fun o22 =>
   some (.inl o22)) (fun o23 =>
   some (.inr ()))
noncomputable def binding_Of_l1_s (s9 : List TSlot) (s10 : Int) (s11 : Int) (w4 : List TSlot) : Option ((Int × List TSlot) ⊕ ((List TSlot) ⊕ Unit)) :=
  iteE (decide (s11 < s10)) (
   bndE (binding_Of_b5 s9 s10 s11 w4) fun o24 =>
   sumE o24 (fun o25 =>
    some (.inl ((intVal .add .i64 s11 1), o25))) (fun o26 =>
    some (.inr (.inr ())))) (
   some (.inr (.inl w4)))
noncomputable def binding_Of_l1 (s9 : List TSlot) (s10 : Int) (s11 : Int) (w4 : List TSlot) : Option ((List TSlot) ⊕ Unit) := loopE (fun s : Int × List TSlot => binding_Of_l1_s s9 s10 s.1 s.2) (s11, w4)
theorem binding_Of_l1_eq (s9 : List TSlot) (s10 : Int) (s11 : Int) (w4 : List TSlot) : binding_Of_l1 s9 s10 s11 w4 = nextE (binding_Of_l1_s s9 s10 s11 w4) (fun s : Int × List TSlot => binding_Of_l1 s9 s10 s.1 s.2) := loopE_eq _ _
noncomputable def binding_Of (a0 : List TSlot) : Option (List TSlot × Bool) :=
  bndE (binding_Of_l1 a0 (a0.length : Int) 0 ([] : List TSlot)) fun o27 =>
  sumE o27 (fun o28 =>
   bndE (binding_Right o28) fun r30 =>
   iteE (!r30) (
    some (([] : List TSlot), false)) (
    some (o28, true))) (fun o29 =>
   some (([] : List TSlot), false))
noncomputable def binding_Union (a0 : List TSlot) (a1 : List TSlot) : Option (List TSlot × Bool) :=
  bndE (binding_Fits a0 a1) fun r1 =>
  iteE (!r1) (
   some (([] : List TSlot), false)) (
   bndE (slices_Concat_Slot_Slot_v2 [a0, a1]) fun r2 =>
   bndE (binding_Of r2) fun r3 =>
   some (r3.1, r3.2))
noncomputable def extend_unions_1_l1_s {φ : Type} (step : φ → (List TSlot) → Option (φ × Bool)) (s2 : List TSlot) (s8 : List (List TSlot)) (s9 : Int) (f0 : φ) (s10 : Int) : Option ((φ × Int) ⊕ (φ ⊕ φ)) :=
  iteE (decide (s10 < s9)) (
   idxE s8 s10 fun x1 =>
   bndE (binding_Union x1 s2) fun r2 =>
   iteE (r2.2) (
    yldE (step f0 r2.1) (fun f3 =>
     some (.inl (f3, (intVal .add .i64 s10 1)))) (fun f4 =>
     some (.inr (.inr f4)))) (
    some (.inl (f0, (intVal .add .i64 s10 1))))) (
   some (.inr (.inl f0)))
noncomputable def extend_unions_1_l1 {φ : Type} (step : φ → (List TSlot) → Option (φ × Bool)) (s2 : List TSlot) (s8 : List (List TSlot)) (s9 : Int) (f0 : φ) (s10 : Int) : Option (φ ⊕ φ) := loopE (fun s : φ × Int => extend_unions_1_l1_s step s2 s8 s9 s.1 s.2) (f0, s10)
theorem extend_unions_1_l1_eq {φ : Type} (step : φ → (List TSlot) → Option (φ × Bool)) (s2 : List TSlot) (s8 : List (List TSlot)) (s9 : Int) (f0 : φ) (s10 : Int) : extend_unions_1_l1 step s2 s8 s9 f0 s10 = nextE (extend_unions_1_l1_s step s2 s8 s9 f0 s10) (fun s : φ × Int => extend_unions_1_l1 step s2 s8 s9 s.1 s.2) := loopE_eq _ _
noncomputable def extend_unions_1 {φ : Type} (step : φ → (List TSlot) → Option (φ × Bool)) (a1 : List (List TSlot)) (a2 : List TSlot) (f0 : φ) : Option φ :=
  bndE (extend_unions_1_l1 step a2 a1 (a1.length : Int) f0 0) fun o5 =>
  sumE o5 (fun o6 =>
   some o6) (fun o7 =>
   some o7)
def slices_Clone_Slot_Slot_v3 (l : List (List TSlot)) : Option (List (List TSlot)) := cloneE 24 l
noncomputable def domain_Set_Slot_All_v3 (w1 : List (List TSlot)) : Option (List (List TSlot) × List (List TSlot)) :=
  bndE (slices_Clone_Slot_Slot_v3 w1) fun r1 =>
  some (r1, w1)
noncomputable def slices_Equal_Slot_Slot_l1_s (s0 : List TSlot) (s1 : List TSlot) (s12 : Int) (s13 : Int) : Option ((Int) ⊕ (Unit ⊕ Unit)) :=
  iteE (decide (s13 < s12)) (
   idxE s0 s13 fun x1 =>
   idxE s1 s13 fun x2 =>
   iteE (!(TSlot.eqb x1 x2)) (
    some (.inr (.inr ()))) (
    some (.inl (intVal .add .i64 s13 1)))) (
   some (.inr (.inl ())))
noncomputable def slices_Equal_Slot_Slot_l1 (s0 : List TSlot) (s1 : List TSlot) (s12 : Int) (s13 : Int) : Option (Unit ⊕ Unit) := loopE (fun s : Int => slices_Equal_Slot_Slot_l1_s s0 s1 s12 s) s13
theorem slices_Equal_Slot_Slot_l1_eq (s0 : List TSlot) (s1 : List TSlot) (s12 : Int) (s13 : Int) : slices_Equal_Slot_Slot_l1 s0 s1 s12 s13 = nextE (slices_Equal_Slot_Slot_l1_s s0 s1 s12 s13) (fun s : Int => slices_Equal_Slot_Slot_l1 s0 s1 s12 s) := loopE_eq _ _
noncomputable def slices_Equal_Slot_Slot (a0 : List TSlot) (a1 : List TSlot) : Option (Bool) :=
  iteE (!decide ((a0.length : Int) = (a1.length : Int))) (
   some false) (
   bndE (slices_Equal_Slot_Slot_l1 a0 a1 (a0.length : Int) 0) fun o3 =>
   sumE o3 (fun o4 =>
    some true) (fun o5 =>
    some false))
noncomputable def binding_Same (a0 : List TSlot) (a1 : List TSlot) : Option (Bool) :=
  bndE (slices_Equal_Slot_Slot a0 a1) fun r1 =>
  some r1
noncomputable def extend_Grow_1_1 (a0 : List TSlot) (a1 : List TSlot) : Option (Bool) :=
  bndE (binding_Same a0 a1) fun r1 =>
  some r1
noncomputable def slices_IndexFunc_Slot_Slot_v2_l1_s (s0 : List (List TSlot)) (s1 : List TSlot) (s7 : Int) (s8 : Int) : Option ((Int) ⊕ (Unit ⊕ Int)) :=
  iteE (decide (s8 < s7)) (
   idxE s0 s8 fun x1 =>
   bndE (extend_Grow_1_1 x1 s1) fun r2 =>
   iteE (r2) (
    some (.inr (.inr s8))) (
    some (.inl (intVal .add .i64 s8 1)))) (
   some (.inr (.inl ())))
noncomputable def slices_IndexFunc_Slot_Slot_v2_l1 (s0 : List (List TSlot)) (s1 : List TSlot) (s7 : Int) (s8 : Int) : Option (Unit ⊕ Int) := loopE (fun s : Int => slices_IndexFunc_Slot_Slot_v2_l1_s s0 s1 s7 s) s8
theorem slices_IndexFunc_Slot_Slot_v2_l1_eq (s0 : List (List TSlot)) (s1 : List TSlot) (s7 : Int) (s8 : Int) : slices_IndexFunc_Slot_Slot_v2_l1 s0 s1 s7 s8 = nextE (slices_IndexFunc_Slot_Slot_v2_l1_s s0 s1 s7 s8) (fun s : Int => slices_IndexFunc_Slot_Slot_v2_l1 s0 s1 s7 s) := loopE_eq _ _
noncomputable def slices_IndexFunc_Slot_Slot_v2 (a0 : List (List TSlot)) (a1 : List TSlot) : Option (Int) :=
  bndE (slices_IndexFunc_Slot_Slot_v2_l1 a0 a1 (a0.length : Int) 0) fun o3 =>
  sumE o3 (fun o4 =>
   some (-1)) (fun o5 =>
   some o5)
noncomputable def slices_ContainsFunc_Slot_Slot (a0 : List (List TSlot)) (a1 : List TSlot) : Option (Bool) :=
  bndE (slices_IndexFunc_Slot_Slot_v2 a0 a1) fun r1 =>
  some (decide (0 ≤ r1))
noncomputable def extend_Grow_1 (a0 : List TSlot) (a1 : List (List TSlot)) : Option (Bool) :=
  bndE (slices_ContainsFunc_Slot_Slot a1 a0) fun r1 =>
  some r1
noncomputable def slices_IndexFunc_Slot_Slot_l1_s (s0 : List (List TSlot)) (s1 : List (List TSlot)) (s7 : Int) (s8 : Int) : Option ((Int) ⊕ (Unit ⊕ Int)) :=
  iteE (decide (s8 < s7)) (
   idxE s0 s8 fun x1 =>
   bndE (extend_Grow_1 x1 s1) fun r2 =>
   iteE (r2) (
    some (.inr (.inr s8))) (
    some (.inl (intVal .add .i64 s8 1)))) (
   some (.inr (.inl ())))
noncomputable def slices_IndexFunc_Slot_Slot_l1 (s0 : List (List TSlot)) (s1 : List (List TSlot)) (s7 : Int) (s8 : Int) : Option (Unit ⊕ Int) := loopE (fun s : Int => slices_IndexFunc_Slot_Slot_l1_s s0 s1 s7 s) s8
theorem slices_IndexFunc_Slot_Slot_l1_eq (s0 : List (List TSlot)) (s1 : List (List TSlot)) (s7 : Int) (s8 : Int) : slices_IndexFunc_Slot_Slot_l1 s0 s1 s7 s8 = nextE (slices_IndexFunc_Slot_Slot_l1_s s0 s1 s7 s8) (fun s : Int => slices_IndexFunc_Slot_Slot_l1 s0 s1 s7 s) := loopE_eq _ _
noncomputable def slices_IndexFunc_Slot_Slot (a0 : List (List TSlot)) (a1 : List (List TSlot)) : Option (Int) :=
  bndE (slices_IndexFunc_Slot_Slot_l1 a0 a1 (a0.length : Int) 0) fun o3 =>
  sumE o3 (fun o4 =>
   some (-1)) (fun o5 =>
   some o5)
noncomputable def slices_DeleteFunc_Slot_Slot_b3 (s1 : List (List TSlot)) (s5 : Int) (s6 : Int) (s7 : List TSlot) (s29 : Bool) (w0 : List (List TSlot)) : Option ((Int × List (List TSlot))) :=
  iteE (s29) (
   chkE (0 ≤ s5 ∧ s5 + 1 ≤ (w0.length : Int)) (
    chkE (0 ≤ s5 ∧ s5 + 1 ≤ (w0.length : Int)) (
     some ((intVal .add .i64 s5 1), w0.set s5.toNat s7)))) (
   some (s5, w0))
noncomputable def slices_DeleteFunc_Slot_Slot_b2 (s1 : List (List TSlot)) (s5 : Int) (s6 : Int) (w0 : List (List TSlot)) : Option ((Int × List (List TSlot))) :=
  chkE (0 ≤ s6 ∧ s6 + 1 ≤ (w0.length : Int)) (
   idxE w0 s6 fun x2 =>
   bndE (extend_Grow_1 x2 s1) fun r3 =>
   bndE (slices_DeleteFunc_Slot_Slot_b3 s1 s5 s6 x2 (!r3) w0) fun o4 =>
   some (o4.1, o4.2))
noncomputable def slices_DeleteFunc_Slot_Slot_l1_s (s1 : List (List TSlot)) (s5 : Int) (s6 : Int) (w0 : List (List TSlot)) : Option ((Int × Int × List (List TSlot)) ⊕ ((Int × List (List TSlot)))) :=
  iteE (decide (s6 < (w0.length : Int))) (
   bndE (slices_DeleteFunc_Slot_Slot_b2 s1 s5 s6 w0) fun o5 =>
   some (.inl (o5.1, (intVal .add .i64 s6 1), o5.2))) (
   some (.inr (s5, w0)))
noncomputable def slices_DeleteFunc_Slot_Slot_l1 (s1 : List (List TSlot)) (s5 : Int) (s6 : Int) (w0 : List (List TSlot)) : Option ((Int × List (List TSlot))) := loopE (fun s : Int × Int × List (List TSlot) => slices_DeleteFunc_Slot_Slot_l1_s s1 s.1 s.2.1 s.2.2) (s5, s6, w0)
theorem slices_DeleteFunc_Slot_Slot_l1_eq (s1 : List (List TSlot)) (s5 : Int) (s6 : Int) (w0 : List (List TSlot)) : slices_DeleteFunc_Slot_Slot_l1 s1 s5 s6 w0 = nextE (slices_DeleteFunc_Slot_Slot_l1_s s1 s5 s6 w0) (fun s : Int × Int × List (List TSlot) => slices_DeleteFunc_Slot_Slot_l1 s1 s.1 s.2.1 s.2.2) := loopE_eq _ _
noncomputable def slices_DeleteFunc_Slot_Slot (a1 : List (List TSlot)) (w0 : List (List TSlot)) : Option (List (List TSlot)) :=
  bndE (slices_IndexFunc_Slot_Slot w0 a1) fun r1 =>
  iteE (decide (r1 = (-1))) (
   some w0) (
   bndE (slices_DeleteFunc_Slot_Slot_l1 a1 r1 (intVal .add .i64 r1 1) w0) fun o6 =>
   chkE (0 ≤ o6.1 ∧ o6.1 ≤ (o6.2.length : Int)) (
    chkE (0 ≤ o6.1 ∧ o6.1 ≤ ((o6.2.take (o6.1).toNat ++ List.replicate (o6.2.length - (o6.1).toNat) ([] : List TSlot)).length : Int)) (
     some ((o6.2.take (o6.1).toNat ++ List.replicate (o6.2.length - (o6.1).toNat) ([] : List TSlot)).take (o6.1).toNat))))
noncomputable def extend_Grow_l1_s (s1 : List THit) (s2 : List (List TSlot)) (s14 : List (List TSlot)) (s15 : Int) (s16 : Int) (w600 : List (List TSlot)) : Option ((Int × List (List TSlot)) ⊕ ((List (List TSlot)))) :=
  iteE (decide (s16 < s15)) (
   idxE s14 s16 fun x5 =>
   bndE (domain_Set_Slot_Put_v3 x5 w600) fun r6 =>
   some (.inl ((intVal .add .i64 s16 1), r6.2))) (
   some (.inr w600))
noncomputable def extend_Grow_l1 (s1 : List THit) (s2 : List (List TSlot)) (s14 : List (List TSlot)) (s15 : Int) (s16 : Int) (w600 : List (List TSlot)) : Option ((List (List TSlot))) := loopE (fun s : Int × List (List TSlot) => extend_Grow_l1_s s1 s2 s14 s15 s.1 s.2) (s16, w600)
theorem extend_Grow_l1_eq (s1 : List THit) (s2 : List (List TSlot)) (s14 : List (List TSlot)) (s15 : Int) (s16 : Int) (w600 : List (List TSlot)) : extend_Grow_l1 s1 s2 s14 s15 s16 w600 = nextE (extend_Grow_l1_s s1 s2 s14 s15 s16 w600) (fun s : Int × List (List TSlot) => extend_Grow_l1 s1 s2 s14 s15 s.1 s.2) := loopE_eq _ _
noncomputable def extend_Grow_b10 (s2 : List (List TSlot)) (s25 : List (List TSlot)) (s26 : Int) (s27 : Int) (s38_1 : List (List TSlot)) (s38_2 : List TSlot) (s39 : List TSlot) (w532 : List (List TSlot)) (w534 : List (List TSlot)) (w998_1 : List (List TSlot)) (w998_2 : List (List TSlot)) (w998_3 : Int) (w998_4 : Int) (w998_5 : List (List TSlot)) (w998_6 : List TSlot) : Option (Unit) :=
  some ()
noncomputable def extend_Grow_b12 (s2 : List (List TSlot)) (s11 : List TSlot) (s25 : List (List TSlot)) (s26 : Int) (s27 : Int) (s38_1 : List (List TSlot)) (s38_2 : List TSlot) (w532 : List (List TSlot)) (w534 : List (List TSlot)) (w998_1 : List (List TSlot)) (w998_2 : List (List TSlot)) (w998_3 : Int) (w998_4 : Int) (w998_5 : List (List TSlot)) (w998_6 : List TSlot) : Option ((List (List TSlot))) :=
  bndE (domain_Set_Slot_Put_v3 s11 w534) fun r35 =>
  some r35.2
noncomputable def extend_Grow_r9_rd (s2 : List (List TSlot)) (s25 : List (List TSlot)) (s26 : Int) (s27 : Int) (s38_1 : List (List TSlot)) (s38_2 : List TSlot) (w532 : List (List TSlot)) (s : List (List TSlot)) (x : (List TSlot)) : Option ((List (List TSlot)) ⊕ (Empty)) :=
  bndE (extend_Grow_b10 s2 s25 s26 s27 s38_1 s38_2 x w532 s s2 s25 s26 s27 s38_1 s38_2) fun o34 =>
  bndE (extend_Grow_b12 s2 x s25 s26 s27 s38_1 s38_2 w532 s s2 s25 s26 s27 s38_1 s38_2) fun o36 =>
  some (.inl o36)
noncomputable def extend_Grow_l2_s (s2 : List (List TSlot)) (s25 : List (List TSlot)) (s26 : Int) (s27 : Int) (w600 : List (List TSlot)) (w601 : List (List TSlot)) : Option ((Int × List (List TSlot) × List (List TSlot)) ⊕ ((List (List TSlot)))) :=
  iteE (decide (s27 < s26)) (
   idxE s25 s27 fun x26 =>
   bndE (domain_Set_Slot_All w600) fun r27 =>
   bndE (domain_Set_Slot_All w601) fun r28 =>
   bndE (slices_Concat_Slot_Slot [r27.1, r28.1]) fun r29 =>
   bndE (extend_unions r29 x26) fun r30 =>
   bndE (extend_unions_1 (stepOf (extend_Grow_r9_rd s2 s25 s26 s27 r30.1 r30.2 r27.2)) r30.1 r30.2 (.inl r28.2)) fun o37 =>
   sumE o37 (fun o38 =>
    some (.inl ((intVal .add .i64 s27 1), r27.2, o38))) (fun o39 =>
    none)) (
   some (.inr w601))
noncomputable def extend_Grow_l2 (s2 : List (List TSlot)) (s25 : List (List TSlot)) (s26 : Int) (s27 : Int) (w600 : List (List TSlot)) (w601 : List (List TSlot)) : Option ((List (List TSlot))) := loopE (fun s : Int × List (List TSlot) × List (List TSlot) => extend_Grow_l2_s s2 s25 s26 s.1 s.2.1 s.2.2) (s27, w600, w601)
theorem extend_Grow_l2_eq (s2 : List (List TSlot)) (s25 : List (List TSlot)) (s26 : Int) (s27 : Int) (w600 : List (List TSlot)) (w601 : List (List TSlot)) : extend_Grow_l2 s2 s25 s26 s27 w600 w601 = nextE (extend_Grow_l2_s s2 s25 s26 s27 w600 w601) (fun s : Int × List (List TSlot) × List (List TSlot) => extend_Grow_l2 s2 s25 s26 s.1 s.2.1 s.2.2) := loopE_eq _ _
noncomputable def extend_Grow (a0 : List (List TSlot)) (a1 : List THit) : Option (List (List TSlot)) :=
  bndE (domain_NewSet_Slot_v2) fun r1 =>
  bndE (domain_NewSet_Slot_v2) fun r2 =>
  bndE (extend_Grow_l1 a1 a0 a0 (a0.length : Int) 0 ([] : List (List TSlot))) fun o7 =>
  bndE (match_Binds a1) fun r8 =>
  bndE (extend_Grow_l2 a0 r8 (r8.length : Int) 0 o7 ([] : List (List TSlot))) fun o40 =>
  bndE (domain_Set_Slot_All_v3 o40) fun r41 =>
  bndE (slices_DeleteFunc_Slot_Slot a0 r41.1) fun r42 =>
  some r42
noncomputable def ref05_Same_l1_s (s0 : List TSlot) (s1 : List TSlot) (s5 : Int) : Option ((Int) ⊕ (Unit ⊕ Unit)) :=
  iteE (decide (s5 < (s0.length : Int))) (
   idxE s0 s5 fun x1 =>
   idxE s1 s5 fun x2 =>
   iteE (!(TSlot.eqb x1 x2)) (
    some (.inr (.inr ()))) (
    some (.inl (intVal .add .i64 s5 1)))) (
   some (.inr (.inl ())))
noncomputable def ref05_Same_l1 (s0 : List TSlot) (s1 : List TSlot) (s5 : Int) : Option (Unit ⊕ Unit) := loopE (fun s : Int => ref05_Same_l1_s s0 s1 s) s5
theorem ref05_Same_l1_eq (s0 : List TSlot) (s1 : List TSlot) (s5 : Int) : ref05_Same_l1 s0 s1 s5 = nextE (ref05_Same_l1_s s0 s1 s5) (fun s : Int => ref05_Same_l1 s0 s1 s) := loopE_eq _ _
noncomputable def ref05_Same (a0 : List TSlot) (a1 : List TSlot) : Option (Bool) :=
  iteE (!decide ((a0.length : Int) = (a1.length : Int))) (
   some false) (
   bndE (ref05_Same_l1 a0 a1 0) fun o3 =>
   sumE o3 (fun o4 =>
    some true) (fun o5 =>
    some false))
noncomputable def law26_awake : Option (Bool) :=
  bndE (law26_slot 1 7) fun r1 =>
  bndE (law26_slot 0 5) fun r2 =>
  bndE (law26_slot 0 6) fun r3 =>
  bndE (extend_Grow ([([] : List TSlot), [r1]]) ([THit.mk 0 [r2] ([] : List TSlot), THit.mk 1 [r3] ([] : List TSlot)])) fun r4 =>
  iteE (decide ((r4.length : Int) = 4)) (
   idxE r4 1 fun x5 =>
   bndE (law26_slot 0 6) fun r6 =>
   bndE (ref05_Same x5 [r6]) fun r7 =>
   iteE (r7) (
    idxE r4 2 fun x8 =>
    iteE (decide ((x8.length : Int) = 2)) (
     idxE r4 2 fun x9 =>
     idxE x9 1 fun x10 =>
     bndE (law26_slot 1 7) fun r11 =>
     some (TSlot.eqb x10 r11)) (
     some false)) (
    some false)) (
   some false)
noncomputable def ref03_Right (a0 : TValue) : Option (Bool) :=
  iteE (decide (a0.kind = 1)) (
   iteE (decide (a0.str = ([] : List UInt8))) (
    some (!a0.bool)) (
    some false)) (
   iteE (decide (a0.kind = 2)) (
    iteE (decide (a0.int = 0)) (
     iteE (!a0.bool) (
      some (decide ((a0.str.length : Int) ≤ 4096))) (
      some false)) (
     some false)) (
    iteE (decide (a0.kind = 3)) (
     iteE (decide (a0.int = 0)) (
      some (decide (a0.str = ([] : List UInt8)))) (
      some false)) (
     some false)))
noncomputable def ref05_Right_l1_s (s0 : List TSlot) (s3 : Int) : Option ((Int) ⊕ (Unit ⊕ Unit)) :=
  iteE (decide (s3 < (s0.length : Int))) (
   idxE s0 s3 fun x1 =>
   iteE (decide (x1.var < 0)) (
    some (.inr (.inr ()))) (
    idxE s0 s3 fun x2 =>
    iteE (decide (7 < x2.var)) (
     some (.inr (.inr ()))) (
     idxE s0 s3 fun x3 =>
     bndE (ref03_Right x3.value) fun r4 =>
     iteE (!r4) (
      some (.inr (.inr ()))) (
      iteE (decide (0 < s3)) (
       idxE s0 s3 fun x5 =>
       idxE s0 (intVal .sub .i64 s3 1) fun x6 =>
       iteE (decide (x5.var ≤ x6.var)) (
        some (.inr (.inr ()))) (
        some (.inl (intVal .add .i64 s3 1)))) (
       some (.inl (intVal .add .i64 s3 1))))))) (
   some (.inr (.inl ())))
noncomputable def ref05_Right_l1 (s0 : List TSlot) (s3 : Int) : Option (Unit ⊕ Unit) := loopE (fun s : Int => ref05_Right_l1_s s0 s) s3
theorem ref05_Right_l1_eq (s0 : List TSlot) (s3 : Int) : ref05_Right_l1 s0 s3 = nextE (ref05_Right_l1_s s0 s3) (fun s : Int => ref05_Right_l1 s0 s) := loopE_eq _ _
noncomputable def ref05_Right (a0 : List TSlot) : Option (Bool) :=
  bndE (ref05_Right_l1 a0 0) fun o7 =>
  sumE o7 (fun o8 =>
   some true) (fun o9 =>
   some false)
noncomputable def law26_right_l2_s (s0 : List (List TSlot)) (s3 : Int) (s4 : Int) : Option ((Int) ⊕ (Unit ⊕ Unit)) :=
  idxE s0 s3 fun x4 =>
  iteE (decide (s4 < (x4.length : Int))) (
   idxE s0 s3 fun x5 =>
   idxE x5 s4 fun x6 =>
   iteE (decide (100 < (x6.value.str.length : Int))) (
    some (.inr (.inr ()))) (
    some (.inl (intVal .add .i64 s4 1)))) (
   some (.inr (.inl ())))
noncomputable def law26_right_l2 (s0 : List (List TSlot)) (s3 : Int) (s4 : Int) : Option (Unit ⊕ Unit) := loopE (fun s : Int => law26_right_l2_s s0 s3 s) s4
theorem law26_right_l2_eq (s0 : List (List TSlot)) (s3 : Int) (s4 : Int) : law26_right_l2 s0 s3 s4 = nextE (law26_right_l2_s s0 s3 s4) (fun s : Int => law26_right_l2 s0 s3 s) := loopE_eq _ _
noncomputable def law26_right_l1_s (s0 : List (List TSlot)) (s3 : Int) : Option ((Int) ⊕ (Unit ⊕ Unit)) :=
  iteE (decide (s3 < (s0.length : Int))) (
   idxE s0 s3 fun x1 =>
   iteE (decide (8 < (x1.length : Int))) (
    some (.inr (.inr ()))) (
    idxE s0 s3 fun x2 =>
    bndE (ref05_Right x2) fun r3 =>
    iteE (!r3) (
     some (.inr (.inr ()))) (
     bndE (law26_right_l2 s0 s3 0) fun o7 =>
     sumE o7 (fun o8 =>
      some (.inl (intVal .add .i64 s3 1))) (fun o9 =>
      some (.inr (.inr ())))))) (
   some (.inr (.inl ())))
noncomputable def law26_right_l1 (s0 : List (List TSlot)) (s3 : Int) : Option (Unit ⊕ Unit) := loopE (fun s : Int => law26_right_l1_s s0 s) s3
theorem law26_right_l1_eq (s0 : List (List TSlot)) (s3 : Int) : law26_right_l1 s0 s3 = nextE (law26_right_l1_s s0 s3) (fun s : Int => law26_right_l1 s0 s) := loopE_eq _ _
noncomputable def law26_right (a0 : List (List TSlot)) : Option (Bool) :=
  bndE (law26_right_l1 a0 0) fun o10 =>
  sumE o10 (fun o11 =>
   some true) (fun o12 =>
   some false)
noncomputable def law26_hits_l1_s (s0 : List (List TSlot)) (s4 : Int) (w3 : List THit) : Option ((Int × List THit) ⊕ ((List THit))) :=
  iteE (decide (s4 < (s0.length : Int))) (
   idxE s0 s4 fun x2 =>
   chkE (fit w3.length ([THit.mk s4 x2 ([] : List TSlot)]).length 56) (
    some (.inl ((intVal .add .i64 s4 1), w3 ++ ([THit.mk s4 x2 ([] : List TSlot)]))))) (
   some (.inr w3))
noncomputable def law26_hits_l1 (s0 : List (List TSlot)) (s4 : Int) (w3 : List THit) : Option ((List THit)) := loopE (fun s : Int × List THit => law26_hits_l1_s s0 s.1 s.2) (s4, w3)
theorem law26_hits_l1_eq (s0 : List (List TSlot)) (s4 : Int) (w3 : List THit) : law26_hits_l1 s0 s4 w3 = nextE (law26_hits_l1_s s0 s4 w3) (fun s : Int × List THit => law26_hits_l1 s0 s.1 s.2) := loopE_eq _ _
noncomputable def law26_hits (a0 : List (List TSlot)) : Option (List THit) :=
  bndE (law26_hits_l1 a0 0 ([] : List THit)) fun o3 =>
  some o3
noncomputable def binding_Under_b2 (s9_1 : List TSlot) (s9_2 : List TSlot) (s10 : TSlot) (s11 : TValue) (w4 : Bool) (w998_1 : List TSlot) (w998_2 : List TSlot) : Option (Unit) :=
  some ()
noncomputable def binding_Under_b4 (s9_1 : List TSlot) (s9_2 : List TSlot) (s10 : TSlot) (w4 : Bool) (w998_1 : List TSlot) (w998_2 : List TSlot) : Option (Unit) :=
  some ()
noncomputable def binding_Under_b6 (s6 : TValue) (s9_1 : List TSlot) (s9_2 : List TSlot) (w4 : Bool) (w5 : TSlot) (w998_1 : List TSlot) (w998_2 : List TSlot) : Option (Unit ⊕ Unit) :=
  iteE (!(TValue.eqb s6 w5.value)) (
   some (.inr ())) (
   some (.inl ()))
noncomputable def binding_Under_b7 (s9_1 : List TSlot) (s9_2 : List TSlot) (w4 : Bool) (w5 : TSlot) (w998_1 : List TSlot) (w998_2 : List TSlot) : Option (Unit) :=
  some ()
noncomputable def binding_Under_r1_rd (s9_1 : List TSlot) (s9_2 : List TSlot) (s : Bool) (x : (TSlot × TValue) ⊕ TSlot) : Option ((Bool) ⊕ (Bool)) :=
  sumE x (fun z13 =>
   bndE (binding_Under_b2 s9_1 s9_2 z13.1 z13.2 s s9_1 s9_2) fun o6 =>
   bndE (binding_Under_b6 z13.2 s9_1 s9_2 s z13.1 s9_1 s9_2) fun o7 =>
   sumE o7 (fun o15 =>
    some (.inl s)) (fun o16 =>
    some (.inr false))) (fun z14 =>
   bndE (binding_Under_b4 s9_1 s9_2 z14 s s9_1 s9_2) fun o8 =>
   bndE (binding_Under_b7 s9_1 s9_2 s z14 s9_1 s9_2) fun o9 =>
   some (.inr false))
noncomputable def binding_Under (a0 : List TSlot) (a1 : List TSlot) : Option (Bool) :=
  bndE (binding_both a0 a1) fun r1 =>
  bndE (binding_both_1 (stepOf (binding_Under_r1_rd r1.1 r1.2)) r1.1 r1.2 (.inl false)) fun o10 =>
  sumE o10 (fun o11 =>
   some true) (fun o12 =>
   some o12)
noncomputable def extend_Greatest_1 (a0 : TRow) (a1 : TRow) : Option (Bool) :=
  iteE (decide ((a1.bind.length : Int) < (a0.bind.length : Int))) (
   bndE (binding_Under a1.bind a0.bind) fun r1 =>
   some r1) (
   some false)
noncomputable def slices_IndexFunc_Row_Row_l1_s (s0 : List TRow) (s1 : TRow) (s7 : Int) (s8 : Int) : Option ((Int) ⊕ (Unit ⊕ Int)) :=
  iteE (decide (s8 < s7)) (
   idxE s0 s8 fun x1 =>
   bndE (extend_Greatest_1 x1 s1) fun r2 =>
   iteE (r2) (
    some (.inr (.inr s8))) (
    some (.inl (intVal .add .i64 s8 1)))) (
   some (.inr (.inl ())))
noncomputable def slices_IndexFunc_Row_Row_l1 (s0 : List TRow) (s1 : TRow) (s7 : Int) (s8 : Int) : Option (Unit ⊕ Int) := loopE (fun s : Int => slices_IndexFunc_Row_Row_l1_s s0 s1 s7 s) s8
theorem slices_IndexFunc_Row_Row_l1_eq (s0 : List TRow) (s1 : TRow) (s7 : Int) (s8 : Int) : slices_IndexFunc_Row_Row_l1 s0 s1 s7 s8 = nextE (slices_IndexFunc_Row_Row_l1_s s0 s1 s7 s8) (fun s : Int => slices_IndexFunc_Row_Row_l1 s0 s1 s7 s) := loopE_eq _ _
noncomputable def slices_IndexFunc_Row_Row (a0 : List TRow) (a1 : TRow) : Option (Int) :=
  bndE (slices_IndexFunc_Row_Row_l1 a0 a1 (a0.length : Int) 0) fun o3 =>
  sumE o3 (fun o4 =>
   some (-1)) (fun o5 =>
   some o5)
noncomputable def slices_ContainsFunc_Row_Row (a0 : List TRow) (a1 : TRow) : Option (Bool) :=
  bndE (slices_IndexFunc_Row_Row a0 a1) fun r1 =>
  some (decide (0 ≤ r1))
noncomputable def extend_Greatest_b5 (s1 : List TSlot) (s12 : List TRow) (s13 : Int) (s14 : Int) (s21 : Bool) (w5 : List TRow) (w8 : TRow) : Option ((List TRow)) :=
  iteE (s21) (
   chkE (fit w5.length [w8].length 48) (
    some (w5 ++ [w8]))) (
   some w5)
noncomputable def extend_Greatest_b4 (s1 : List TSlot) (s12 : List TRow) (s13 : Int) (s14 : Int) (w5 : List TRow) : Option ((List TRow)) :=
  idxE s12 s14 fun x5 =>
  bndE (binding_Under x5.bind s1) fun r6 =>
  bndE (extend_Greatest_b5 s1 s12 s13 s14 r6 w5 x5) fun o7 =>
  some o7
noncomputable def extend_Greatest_l1_s (s1 : List TSlot) (s12 : List TRow) (s13 : Int) (s14 : Int) (w5 : List TRow) : Option ((Int × List TRow) ⊕ ((List TRow))) :=
  iteE (decide (s14 < s13)) (
   bndE (extend_Greatest_b4 s1 s12 s13 s14 w5) fun o8 =>
   some (.inl ((intVal .add .i64 s14 1), o8))) (
   some (.inr w5))
noncomputable def extend_Greatest_l1 (s1 : List TSlot) (s12 : List TRow) (s13 : Int) (s14 : Int) (w5 : List TRow) : Option ((List TRow)) := loopE (fun s : Int × List TRow => extend_Greatest_l1_s s1 s12 s13 s.1 s.2) (s14, w5)
theorem extend_Greatest_l1_eq (s1 : List TSlot) (s12 : List TRow) (s13 : Int) (s14 : Int) (w5 : List TRow) : extend_Greatest_l1 s1 s12 s13 s14 w5 = nextE (extend_Greatest_l1_s s1 s12 s13 s14 w5) (fun s : Int × List TRow => extend_Greatest_l1 s1 s12 s13 s.1 s.2) := loopE_eq _ _
noncomputable def extend_Greatest_b10 (s28 : Int) (s29 : Int) (s37 : Bool) (w5 : List TRow) (w6 : List TRow) (w10 : TRow) : Option ((List TRow)) :=
  iteE (s37) (
   chkE (fit w6.length [w10].length 48) (
    some (w6 ++ [w10]))) (
   some w6)
noncomputable def extend_Greatest_b9 (s28 : Int) (s29 : Int) (w5 : List TRow) (w6 : List TRow) : Option ((List TRow)) :=
  idxE w5 s29 fun x14 =>
  bndE (slices_ContainsFunc_Row_Row w5 x14) fun r15 =>
  bndE (extend_Greatest_b10 s28 s29 (!r15) w5 w6 x14) fun o16 =>
  some o16
noncomputable def extend_Greatest_l6_s (s28 : Int) (w5 : List TRow) (s29 : Int) (w6 : List TRow) : Option ((Int × List TRow) ⊕ ((List TRow))) :=
  iteE (decide (s29 < s28)) (
   bndE (extend_Greatest_b9 s28 s29 w5 w6) fun o17 =>
   some (.inl ((intVal .add .i64 s29 1), o17))) (
   some (.inr w6))
noncomputable def extend_Greatest_l6 (s28 : Int) (w5 : List TRow) (s29 : Int) (w6 : List TRow) : Option ((List TRow)) := loopE (fun s : Int × List TRow => extend_Greatest_l6_s s28 w5 s.1 s.2) (s29, w6)
theorem extend_Greatest_l6_eq (s28 : Int) (w5 : List TRow) (s29 : Int) (w6 : List TRow) : extend_Greatest_l6 s28 w5 s29 w6 = nextE (extend_Greatest_l6_s s28 w5 s29 w6) (fun s : Int × List TRow => extend_Greatest_l6 s28 w5 s.1 s.2) := loopE_eq _ _
noncomputable def extend_Greatest (a0 : List TRow) (a1 : List TSlot) : Option (List TRow) :=
  bndE (extend_Greatest_l1 a1 a0 (a0.length : Int) 0 ([] : List TRow)) fun o9 =>
  bndE (extend_Greatest_l6 (o9.length : Int) o9 0 ([] : List TRow)) fun o18 =>
  some o18
def slices_Clone_Config_Config (l : List TConfig) : Option (List TConfig) := cloneE 32 l
noncomputable def extend_Copy (a0 : List TRow) (a1 : List TSlot) : Option (List TConfig × Bool) :=
  bndE (extend_Greatest a0 a1) fun r1 =>
  iteE (decide ((r1.length : Int) = 0)) (
   some (([] : List TConfig), false)) (
   idxE r1 0 fun x2 =>
   bndE (slices_Clone_Config_Config x2.set) fun r3 =>
   some (r3, true))
noncomputable def extend_New_l1_s (s0 : List TRow) (s1 : List THit) (s13 : List TRow) (s14 : Int) (s15 : Int) (w5 : List (List TSlot)) : Option ((Int × List (List TSlot)) ⊕ ((List (List TSlot)))) :=
  iteE (decide (s15 < s14)) (
   idxE s13 s15 fun x2 =>
   chkE (fit w5.length [x2.bind].length 24) (
    some (.inl ((intVal .add .i64 s15 1), w5 ++ [x2.bind])))) (
   some (.inr w5))
noncomputable def extend_New_l1 (s0 : List TRow) (s1 : List THit) (s13 : List TRow) (s14 : Int) (s15 : Int) (w5 : List (List TSlot)) : Option ((List (List TSlot))) := loopE (fun s : Int × List (List TSlot) => extend_New_l1_s s0 s1 s13 s14 s.1 s.2) (s15, w5)
theorem extend_New_l1_eq (s0 : List TRow) (s1 : List THit) (s13 : List TRow) (s14 : Int) (s15 : Int) (w5 : List (List TSlot)) : extend_New_l1 s0 s1 s13 s14 s15 w5 = nextE (extend_New_l1_s s0 s1 s13 s14 s15 w5) (fun s : Int × List (List TSlot) => extend_New_l1 s0 s1 s13 s14 s.1 s.2) := loopE_eq _ _
noncomputable def extend_New_l2_s (s0 : List TRow) (s27 : List (List TSlot)) (s28 : Int) (s29 : Int) (w8 : List TRow) : Option ((Int × List TRow) ⊕ ((List TRow))) :=
  iteE (decide (s29 < s28)) (
   idxE s27 s29 fun x7 =>
   bndE (extend_Copy s0 x7) fun r8 =>
   chkE (fit w8.length [TRow.mk x7 r8.1].length 48) (
    some (.inl ((intVal .add .i64 s29 1), w8 ++ [TRow.mk x7 r8.1])))) (
   some (.inr w8))
noncomputable def extend_New_l2 (s0 : List TRow) (s27 : List (List TSlot)) (s28 : Int) (s29 : Int) (w8 : List TRow) : Option ((List TRow)) := loopE (fun s : Int × List TRow => extend_New_l2_s s0 s27 s28 s.1 s.2) (s29, w8)
theorem extend_New_l2_eq (s0 : List TRow) (s27 : List (List TSlot)) (s28 : Int) (s29 : Int) (w8 : List TRow) : extend_New_l2 s0 s27 s28 s29 w8 = nextE (extend_New_l2_s s0 s27 s28 s29 w8) (fun s : Int × List TRow => extend_New_l2 s0 s27 s28 s.1 s.2) := loopE_eq _ _
noncomputable def extend_New (a0 : List TRow) (a1 : List THit) : Option (List TRow) :=
  bndE (extend_New_l1 a0 a1 a0 (a0.length : Int) 0 ([] : List (List TSlot))) fun o3 =>
  bndE (extend_Grow o3 a1) fun r4 =>
  bndE (extend_New_l2 a0 r4 (r4.length : Int) 0 ([] : List TRow)) fun o9 =>
  some o9
noncomputable def ref03_Below_l1_s (s0 : List UInt8) (s1 : List UInt8) (s5 : Int) : Option ((Int) ⊕ (Unit ⊕ Bool)) :=
  iteE (decide (s5 < (s0.length : Int))) (
   iteE (decide (s5 < (s1.length : Int))) (
    idxE s0 s5 fun x1 =>
    idxE s1 s5 fun x2 =>
    iteE (!decide ((x1.toNat : Int) = (x2.toNat : Int))) (
     idxE s0 s5 fun x3 =>
     idxE s1 s5 fun x4 =>
     some (.inr (.inr (decide ((x3.toNat : Int) < (x4.toNat : Int)))))) (
     some (.inl (intVal .add .i64 s5 1)))) (
    some (.inr (.inl ())))) (
   some (.inr (.inl ())))
noncomputable def ref03_Below_l1 (s0 : List UInt8) (s1 : List UInt8) (s5 : Int) : Option (Unit ⊕ Bool) := loopE (fun s : Int => ref03_Below_l1_s s0 s1 s) s5
theorem ref03_Below_l1_eq (s0 : List UInt8) (s1 : List UInt8) (s5 : Int) : ref03_Below_l1 s0 s1 s5 = nextE (ref03_Below_l1_s s0 s1 s5) (fun s : Int => ref03_Below_l1 s0 s1 s) := loopE_eq _ _
noncomputable def ref03_Below (a0 : List UInt8) (a1 : List UInt8) : Option (Bool) :=
  bndE (ref03_Below_l1 a0 a1 0) fun o5 =>
  sumE o5 (fun o6 =>
   some (decide ((a0.length : Int) < (a1.length : Int)))) (fun o7 =>
   some o7)
noncomputable def ref03_Less (a0 : TValue) (a1 : TValue) : Option (Bool) :=
  iteE (!decide (a0.kind = a1.kind)) (
   some (decide (a0.kind < a1.kind))) (
   iteE (decide (a0.kind = 1)) (
    some (decide (a0.int < a1.int))) (
    iteE (decide (a0.kind = 2)) (
     bndE (ref03_Below a0.str a1.str) fun r1 =>
     some r1) (
     iteE (!a0.bool) (
      some a1.bool) (
      some false))))
noncomputable def ref05_Less_l1_s (s0 : List TSlot) (s1 : List TSlot) (s5 : Int) : Option ((Int) ⊕ (Unit ⊕ Bool)) :=
  iteE (decide (s5 < (s0.length : Int))) (
   idxE s0 s5 fun x1 =>
   idxE s1 s5 fun x2 =>
   iteE (!decide (x1.var = x2.var)) (
    idxE s0 s5 fun x3 =>
    idxE s1 s5 fun x4 =>
    some (.inr (.inr (decide (x3.var < x4.var))))) (
    idxE s0 s5 fun x5 =>
    idxE s1 s5 fun x6 =>
    iteE (!(TValue.eqb x5.value x6.value)) (
     idxE s0 s5 fun x7 =>
     idxE s1 s5 fun x8 =>
     bndE (ref03_Less x7.value x8.value) fun r9 =>
     some (.inr (.inr r9))) (
     some (.inl (intVal .add .i64 s5 1))))) (
   some (.inr (.inl ())))
noncomputable def ref05_Less_l1 (s0 : List TSlot) (s1 : List TSlot) (s5 : Int) : Option (Unit ⊕ Bool) := loopE (fun s : Int => ref05_Less_l1_s s0 s1 s) s5
theorem ref05_Less_l1_eq (s0 : List TSlot) (s1 : List TSlot) (s5 : Int) : ref05_Less_l1 s0 s1 s5 = nextE (ref05_Less_l1_s s0 s1 s5) (fun s : Int => ref05_Less_l1 s0 s1 s) := loopE_eq _ _
noncomputable def ref05_Less (a0 : List TSlot) (a1 : List TSlot) : Option (Bool) :=
  iteE (!decide ((a0.length : Int) = (a1.length : Int))) (
   some (decide ((a0.length : Int) < (a1.length : Int)))) (
   bndE (ref05_Less_l1 a0 a1 0) fun o10 =>
   sumE o10 (fun o11 =>
    some false) (fun o12 =>
    some o12))
noncomputable def ref24_Insert_l1_s (s0 : List TRow) (w3 : TRow) (s5 : Int) : Option ((Int) ⊕ (Int)) :=
  iteE (decide (0 < s5)) (
   idxE s0 (intVal .sub .i64 s5 1) fun x1 =>
   bndE (ref05_Less w3.bind x1.bind) fun r2 =>
   iteE (r2) (
    some (.inl (intVal .sub .i64 s5 1))) (
    some (.inr s5))) (
   some (.inr s5))
noncomputable def ref24_Insert_l1 (s0 : List TRow) (w3 : TRow) (s5 : Int) : Option (Int) := loopE (fun s : Int => ref24_Insert_l1_s s0 w3 s) s5
theorem ref24_Insert_l1_eq (s0 : List TRow) (w3 : TRow) (s5 : Int) : ref24_Insert_l1 s0 w3 s5 = nextE (ref24_Insert_l1_s s0 w3 s5) (fun s : Int => ref24_Insert_l1 s0 w3 s) := loopE_eq _ _
noncomputable def ref24_Insert (a0 : List TRow) (a1 : TRow) : Option (List TRow) :=
  bndE (ref24_Insert_l1 a0 a1 (a0.length : Int)) fun o3 =>
  chkE ((0 : Int) ≤ 0 ∧ (0 : Int) ≤ o3 ∧ o3 ≤ (a0.length : Int)) (
   chkE (fit ([] : List TRow).length (sub a0 0 o3).length 48) (
    chkE (fit (([] : List TRow) ++ (sub a0 0 o3)).length [a1].length 48) (
     chkE ((0 : Int) ≤ o3 ∧ (o3 : Int) ≤ (a0.length : Int) ∧ (a0.length : Int) ≤ (a0.length : Int)) (
      chkE (fit ((([] : List TRow) ++ (sub a0 0 o3)) ++ [a1]).length (sub a0 o3 (a0.length : Int)).length 48) (
       some (((([] : List TRow) ++ (sub a0 0 o3)) ++ [a1]) ++ (sub a0 o3 (a0.length : Int))))))))
noncomputable def ref26_Binds_l1_s (s0 : List TRow) (s4 : Int) (w3 : List (List TSlot)) : Option ((Int × List (List TSlot)) ⊕ ((List (List TSlot)))) :=
  iteE (decide (s4 < (s0.length : Int))) (
   idxE s0 s4 fun x2 =>
   chkE (fit w3.length [x2.bind].length 24) (
    some (.inl ((intVal .add .i64 s4 1), w3 ++ [x2.bind])))) (
   some (.inr w3))
noncomputable def ref26_Binds_l1 (s0 : List TRow) (s4 : Int) (w3 : List (List TSlot)) : Option ((List (List TSlot))) := loopE (fun s : Int × List (List TSlot) => ref26_Binds_l1_s s0 s.1 s.2) (s4, w3)
theorem ref26_Binds_l1_eq (s0 : List TRow) (s4 : Int) (w3 : List (List TSlot)) : ref26_Binds_l1 s0 s4 w3 = nextE (ref26_Binds_l1_s s0 s4 w3) (fun s : Int × List (List TSlot) => ref26_Binds_l1 s0 s.1 s.2) := loopE_eq _ _
noncomputable def ref26_Binds (a0 : List TRow) : Option (List (List TSlot)) :=
  bndE (ref26_Binds_l1 a0 0 ([] : List (List TSlot))) fun o3 =>
  some o3
noncomputable def ref05_Get_l1_s (s0 : List TSlot) (s1 : Int) (w4 : TValue) (s6 : Int) : Option ((Int) ⊕ (Unit ⊕ TValue)) :=
  iteE (decide (s6 < (s0.length : Int))) (
   idxE s0 s6 fun x1 =>
   iteE (decide (x1.var = s1)) (
    idxE s0 s6 fun x2 =>
    some (.inr (.inr x2.value))) (
    some (.inl (intVal .add .i64 s6 1)))) (
   some (.inr (.inl ())))
noncomputable def ref05_Get_l1 (s0 : List TSlot) (s1 : Int) (w4 : TValue) (s6 : Int) : Option (Unit ⊕ TValue) := loopE (fun s : Int => ref05_Get_l1_s s0 s1 w4 s) s6
theorem ref05_Get_l1_eq (s0 : List TSlot) (s1 : Int) (w4 : TValue) (s6 : Int) : ref05_Get_l1 s0 s1 w4 s6 = nextE (ref05_Get_l1_s s0 s1 w4 s6) (fun s : Int => ref05_Get_l1 s0 s1 w4 s) := loopE_eq _ _
noncomputable def ref05_Get (a0 : List TSlot) (a1 : Int) : Option (TValue × Bool) :=
  bndE (ref05_Get_l1 a0 a1 (TValue.mk 0 0 ([] : List UInt8) false) 0) fun o3 =>
  sumE o3 (fun o4 =>
   some (TValue.mk 0 0 ([] : List UInt8) false, false)) (fun o5 =>
   some (o5, true))
noncomputable def ref05_Fits_l1_s (s0 : List TSlot) (s1 : List TSlot) (s5 : Int) : Option ((Int) ⊕ (Unit ⊕ Unit)) :=
  iteE (decide (s5 < (s0.length : Int))) (
   idxE s0 s5 fun x1 =>
   bndE (ref05_Get s1 x1.var) fun r2 =>
   iteE (r2.2) (
    idxE s0 s5 fun x3 =>
    iteE (!(TValue.eqb r2.1 x3.value)) (
     some (.inr (.inr ()))) (
     some (.inl (intVal .add .i64 s5 1)))) (
    some (.inl (intVal .add .i64 s5 1)))) (
   some (.inr (.inl ())))
noncomputable def ref05_Fits_l1 (s0 : List TSlot) (s1 : List TSlot) (s5 : Int) : Option (Unit ⊕ Unit) := loopE (fun s : Int => ref05_Fits_l1_s s0 s1 s) s5
theorem ref05_Fits_l1_eq (s0 : List TSlot) (s1 : List TSlot) (s5 : Int) : ref05_Fits_l1 s0 s1 s5 = nextE (ref05_Fits_l1_s s0 s1 s5) (fun s : Int => ref05_Fits_l1 s0 s1 s) := loopE_eq _ _
noncomputable def ref05_Fits (a0 : List TSlot) (a1 : List TSlot) : Option (Bool) :=
  bndE (ref05_Fits_l1 a0 a1 0) fun o4 =>
  sumE o4 (fun o5 =>
   some true) (fun o6 =>
   some false)
noncomputable def ref05_Union_b7 (s0 : List TSlot) (s1 : List TSlot) (s6 : Int) (s34 : Bool) (w5 : List TSlot) (w9 : TValue) : Option ((List TSlot)) :=
  iteE (s34) (
   chkE (fit w5.length [TSlot.mk s6 w9].length 48) (
    some (w5 ++ [TSlot.mk s6 w9]))) (
   some w5)
noncomputable def ref05_Union_b6 (s0 : List TSlot) (s1 : List TSlot) (s6 : Int) (s10 : Bool) (s27 : Bool) (w5 : List TSlot) (w7 : TValue) (w9 : TValue) : Option ((List TSlot)) :=
  iteE (s27) (
   chkE (fit w5.length [TSlot.mk s6 w7].length 48) (
    some (w5 ++ [TSlot.mk s6 w7]))) (
   bndE (ref05_Union_b7 s0 s1 s6 s10 w5 w9) fun o8 =>
   some o8)
noncomputable def ref05_Union_b5 (s0 : List TSlot) (s1 : List TSlot) (s6 : Int) (w5 : List TSlot) : Option ((List TSlot)) :=
  bndE (ref05_Get s0 s6) fun r6 =>
  bndE (ref05_Get s1 s6) fun r7 =>
  bndE (ref05_Union_b6 s0 s1 s6 r7.2 r6.2 w5 r6.1 r7.1) fun o9 =>
  some o9
noncomputable def ref05_Union_l1_s (s0 : List TSlot) (s1 : List TSlot) (s6 : Int) (w5 : List TSlot) : Option ((Int × List TSlot) ⊕ ((List TSlot))) :=
  iteE (decide (s6 < 8)) (
   bndE (ref05_Union_b5 s0 s1 s6 w5) fun o10 =>
   some (.inl ((intVal .add .i64 s6 1), o10))) (
   some (.inr w5))
noncomputable def ref05_Union_l1 (s0 : List TSlot) (s1 : List TSlot) (s6 : Int) (w5 : List TSlot) : Option ((List TSlot)) := loopE (fun s : Int × List TSlot => ref05_Union_l1_s s0 s1 s.1 s.2) (s6, w5)
theorem ref05_Union_l1_eq (s0 : List TSlot) (s1 : List TSlot) (s6 : Int) (w5 : List TSlot) : ref05_Union_l1 s0 s1 s6 w5 = nextE (ref05_Union_l1_s s0 s1 s6 w5) (fun s : Int × List TSlot => ref05_Union_l1 s0 s1 s.1 s.2) := loopE_eq _ _
noncomputable def ref05_Union (a0 : List TSlot) (a1 : List TSlot) : Option (List TSlot) :=
  bndE (ref05_Union_l1 a0 a1 0 ([] : List TSlot)) fun o11 =>
  some o11
noncomputable def ref05_Has_l1_s (s0 : List (List TSlot)) (s1 : List TSlot) (s5 : Int) : Option ((Int) ⊕ (Unit ⊕ Unit)) :=
  iteE (decide (s5 < (s0.length : Int))) (
   idxE s0 s5 fun x1 =>
   bndE (ref05_Same x1 s1) fun r2 =>
   iteE (r2) (
    some (.inr (.inr ()))) (
    some (.inl (intVal .add .i64 s5 1)))) (
   some (.inr (.inl ())))
noncomputable def ref05_Has_l1 (s0 : List (List TSlot)) (s1 : List TSlot) (s5 : Int) : Option (Unit ⊕ Unit) := loopE (fun s : Int => ref05_Has_l1_s s0 s1 s) s5
theorem ref05_Has_l1_eq (s0 : List (List TSlot)) (s1 : List TSlot) (s5 : Int) : ref05_Has_l1 s0 s1 s5 = nextE (ref05_Has_l1_s s0 s1 s5) (fun s : Int => ref05_Has_l1 s0 s1 s) := loopE_eq _ _
noncomputable def ref05_Has (a0 : List (List TSlot)) (a1 : List TSlot) : Option (Bool) :=
  bndE (ref05_Has_l1 a0 a1 0) fun o3 =>
  sumE o3 (fun o4 =>
   some false) (fun o5 =>
   some true)
noncomputable def law26_closed_l2_s (s0 : List (List TSlot)) (s3 : Int) (s4 : Int) : Option ((Int) ⊕ (Unit ⊕ Unit)) :=
  iteE (decide (s4 < s3)) (
   idxE s0 s3 fun x1 =>
   idxE s0 s4 fun x2 =>
   bndE (ref05_Fits x1 x2) fun r3 =>
   iteE (r3) (
    idxE s0 s3 fun x4 =>
    idxE s0 s4 fun x5 =>
    bndE (ref05_Union x4 x5) fun r6 =>
    bndE (ref05_Has s0 r6) fun r7 =>
    iteE (!r7) (
     some (.inr (.inr ()))) (
     some (.inl (intVal .add .i64 s4 1)))) (
    some (.inl (intVal .add .i64 s4 1)))) (
   some (.inr (.inl ())))
noncomputable def law26_closed_l2 (s0 : List (List TSlot)) (s3 : Int) (s4 : Int) : Option (Unit ⊕ Unit) := loopE (fun s : Int => law26_closed_l2_s s0 s3 s) s4
theorem law26_closed_l2_eq (s0 : List (List TSlot)) (s3 : Int) (s4 : Int) : law26_closed_l2 s0 s3 s4 = nextE (law26_closed_l2_s s0 s3 s4) (fun s : Int => law26_closed_l2 s0 s3 s) := loopE_eq _ _
noncomputable def law26_closed_l1_s (s0 : List (List TSlot)) (s3 : Int) : Option ((Int) ⊕ (Unit ⊕ Unit)) :=
  iteE (decide (s3 < (s0.length : Int))) (
   bndE (law26_closed_l2 s0 s3 0) fun o8 =>
   sumE o8 (fun o9 =>
    some (.inl (intVal .add .i64 s3 1))) (fun o10 =>
    some (.inr (.inr ())))) (
   some (.inr (.inl ())))
noncomputable def law26_closed_l1 (s0 : List (List TSlot)) (s3 : Int) : Option (Unit ⊕ Unit) := loopE (fun s : Int => law26_closed_l1_s s0 s) s3
theorem law26_closed_l1_eq (s0 : List (List TSlot)) (s3 : Int) : law26_closed_l1 s0 s3 = nextE (law26_closed_l1_s s0 s3) (fun s : Int => law26_closed_l1 s0 s) := loopE_eq _ _
noncomputable def law26_closed (a0 : List (List TSlot)) : Option (Bool) :=
  bndE (law26_closed_l1 a0 0) fun o11 =>
  sumE o11 (fun o12 =>
   some true) (fun o13 =>
   some false)
noncomputable def law26_ExtendClosed_l3_s (s0 : List (List (List TSlot))) (s1 : List TSlot) (s6 : Int) (s7 : List TRow) (s5 : List TRow) (s8 : Int) : Option ((List TRow × Int) ⊕ ((List TRow))) :=
  iteE (decide (s8 < (s7.length : Int))) (
   idxE s7 s8 fun x29 =>
   bndE (ref24_Insert s5 x29) fun r30 =>
   some (.inl (r30, (intVal .add .i64 s8 1)))) (
   some (.inr s5))
noncomputable def law26_ExtendClosed_l3 (s0 : List (List (List TSlot))) (s1 : List TSlot) (s6 : Int) (s7 : List TRow) (s5 : List TRow) (s8 : Int) : Option ((List TRow)) := loopE (fun s : List TRow × Int => law26_ExtendClosed_l3_s s0 s1 s6 s7 s.1 s.2) (s5, s8)
theorem law26_ExtendClosed_l3_eq (s0 : List (List (List TSlot))) (s1 : List TSlot) (s6 : Int) (s7 : List TRow) (s5 : List TRow) (s8 : Int) : law26_ExtendClosed_l3 s0 s1 s6 s7 s5 s8 = nextE (law26_ExtendClosed_l3_s s0 s1 s6 s7 s5 s8) (fun s : List TRow × Int => law26_ExtendClosed_l3 s0 s1 s6 s7 s.1 s.2) := loopE_eq _ _
noncomputable def law26_ExtendClosed_l1_s (s0 : List (List (List TSlot))) (s1 : List TSlot) (s5 : List TRow) (s6 : Int) : Option ((List TRow × Int) ⊕ (Unit ⊕ Bool)) :=
  iteE (decide (s6 < (s0.length : Int))) (
   idxE s0 s6 fun x21 =>
   iteE (decide (3 < (x21.length : Int))) (
    bndE (law26_awake) fun r22 =>
    some (.inr (.inr r22))) (
    idxE s0 s6 fun x23 =>
    bndE (law26_right x23) fun r24 =>
    iteE (!r24) (
     bndE (law26_awake) fun r25 =>
     some (.inr (.inr r25))) (
     idxE s0 s6 fun x26 =>
     bndE (law26_hits x26) fun r27 =>
     bndE (extend_New s5 r27) fun r28 =>
     bndE (law26_ExtendClosed_l3 s0 s1 s6 r28 s5 0) fun o31 =>
     iteE (decide (60 < (o31.length : Int))) (
      bndE (law26_awake) fun r32 =>
      some (.inr (.inr r32))) (
      bndE (extend_Greatest o31 s1) fun r33 =>
      iteE (!decide ((r33.length : Int) = 1)) (
       some (.inr (.inr false))) (
       bndE (ref26_Binds o31) fun r34 =>
       bndE (law26_closed r34) fun r35 =>
       iteE (!r35) (
        some (.inr (.inr false))) (
        some (.inl (o31, (intVal .add .i64 s6 1))))))))) (
   some (.inr (.inl ())))
noncomputable def law26_ExtendClosed_l1 (s0 : List (List (List TSlot))) (s1 : List TSlot) (s5 : List TRow) (s6 : Int) : Option (Unit ⊕ Bool) := loopE (fun s : List TRow × Int => law26_ExtendClosed_l1_s s0 s1 s.1 s.2) (s5, s6)
theorem law26_ExtendClosed_l1_eq (s0 : List (List (List TSlot))) (s1 : List TSlot) (s5 : List TRow) (s6 : Int) : law26_ExtendClosed_l1 s0 s1 s5 s6 = nextE (law26_ExtendClosed_l1_s s0 s1 s5 s6) (fun s : List TRow × Int => law26_ExtendClosed_l1 s0 s1 s.1 s.2) := loopE_eq _ _
noncomputable def law26_ExtendClosed (a0 : List (List (List TSlot))) (a1 : List TSlot) : Option (Bool) :=
  iteE (decide (4 < (a0.length : Int))) (
   bndE (law26_awake) fun r1 =>
   some r1) (
   bndE (law26_right [a1]) fun r2 =>
   iteE (!r2) (
    bndE (law26_awake) fun r3 =>
    some r3) (
    bndE (law26_ExtendClosed_l1 a0 a1 ([TRow.mk ([] : List TSlot) ([TConfig.mk 0 ([] : List TValue)])]) 0) fun o36 =>
    sumE o36 (fun o37 =>
     bndE (law26_awake) fun r39 =>
     some r39) (fun o38 =>
     some o38)))
end Go.Ac
