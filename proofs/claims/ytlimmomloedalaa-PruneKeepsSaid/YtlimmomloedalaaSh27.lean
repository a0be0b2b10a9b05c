/-
  Part of a proof: the functions of the seat as functions over lists and numbers (printed by a program).
-/
import Derived.Test.YtlimmomloedalaaAc22
import Derived.Test.YtlimmomloedalaaAc20b
import Derived.Test.YtlimmomloedalaaAc20f
import Derived.Test.YtlimmomloedalaaAc27
import Derived.Test.YtlimmomloedalaaAc28
set_option linter.unusedVariables false
set_option linter.unusedSimpArgs false
set_option linter.unusedVariables false
set_option linter.unusedSimpArgs false
namespace Go.Ac
structure TValue where
  kind : Int
  int : Int
  str : List UInt8
  bool : Bool
def TValue.D (v : TValue) : D := .agg ([(D.i .i64) v.kind] ++ [(D.i .i64) v.int] ++ [D.s v.str] ++ [D.b v.bool])
instance : HasNc TValue.D 4 := ⟨fun _ => rfl⟩
def TValue.eqb (a b : TValue) : Bool := (decide (a.kind = b.kind) && (decide (a.int = b.int) && (decide (a.str = b.str) && ((a.bool == b.bool) && true))))
theorem TValue.eqb_iff (a b : TValue) : TValue.eqb a b = true ↔ a = b := by
  cases a; cases b; simp [TValue.eqb]
instance : DecidableEq TValue := fun a b => decidable_of_iff (TValue.eqb a b = true) (TValue.eqb_iff a b)
structure TSlot where
  var : Int
  value : TValue
def TSlot.D (v : TSlot) : D := .agg ([(D.i .i64) v.var] ++ (TValue.D v.value).cells)
instance : HasNc TSlot.D 5 := ⟨fun _ => rfl⟩
def TSlot.eqb (a b : TSlot) : Bool := (decide (a.var = b.var) && (TValue.eqb a.value b.value && true))
theorem TSlot.eqb_iff (a b : TSlot) : TSlot.eqb a b = true ↔ a = b := by
  cases a; cases b; simp [TSlot.eqb, TValue.eqb_iff]
instance : DecidableEq TSlot := fun a b => decidable_of_iff (TSlot.eqb a b = true) (TSlot.eqb_iff a b)
structure TConfig where
  state : Int
  vals : List TValue
  deriving DecidableEq
def TConfig.D (v : TConfig) : D := .agg ([(D.i .i64) v.state] ++ [(D.l TValue.D) v.vals])
instance : HasNc TConfig.D 2 := ⟨fun _ => rfl⟩
structure TRow where
  bind : List TSlot
  set : List TConfig
  deriving DecidableEq
def TRow.D (v : TRow) : D := .agg ([(D.l TSlot.D) v.bind] ++ [(D.l TConfig.D) v.set])
instance : HasNc TRow.D 2 := ⟨fun _ => rfl⟩
structure Tproctorlaw27_Seed where
  bind : List TSlot
  state : UInt8
  deriving DecidableEq
def Tproctorlaw27_Seed.D (v : Tproctorlaw27_Seed) : D := .agg ([(D.l TSlot.D) v.bind] ++ [dbyte v.state])
instance : HasNc Tproctorlaw27_Seed.D 2 := ⟨fun _ => rfl⟩
/-- proctorref03.Right -/
noncomputable def ref03_Right (a0 : TValue) : Option (Bool) :=
  iteE (decide (a0.kind = 1)) (
   iteE (decide (a0.str = ([] : List UInt8))) (
    some (!a0.bool)) (
    some false)) (
   iteE (decide (a0.kind = 2)) (
    iteE (decide (a0.int = 0)) (
     iteE (!a0.bool) (
      some (decide ((a0.str.length : Int) ≤ 4096))) (
      some false)) (
     some false)) (
    iteE (decide (a0.kind = 3)) (
     iteE (decide (a0.int = 0)) (
      some (decide (a0.str = ([] : List UInt8)))) (
      some false)) (
     some false)))
noncomputable def ref05_Right_l1_s (s0 : List TSlot) (s3 : Int) : Option ((Int) ⊕ (Unit ⊕ Unit)) :=
  iteE (decide (s3 < (s0.length : Int))) (
   idxE s0 s3 fun x1 =>
   iteE (decide (x1.var < 0)) (
    some (.inr (.inr ()))) (
    idxE s0 s3 fun x2 =>
    iteE (decide (7 < x2.var)) (
     some (.inr (.inr ()))) (
     idxE s0 s3 fun x3 =>
     bndE (ref03_Right x3.value) fun r4 =>
     iteE (!r4) (
      some (.inr (.inr ()))) (
      iteE (decide (0 < s3)) (
       idxE s0 s3 fun x5 =>
       idxE s0 (intVal .sub .i64 s3 1) fun x6 =>
       iteE (decide (x5.var ≤ x6.var)) (
        some (.inr (.inr ()))) (
        some (.inl (intVal .add .i64 s3 1)))) (
       some (.inl (intVal .add .i64 s3 1))))))) (
   some (.inr (.inl ())))
noncomputable def ref05_Right_l1 (s0 : List TSlot) (s3 : Int) : Option (Unit ⊕ Unit) := loopE (fun s : Int => ref05_Right_l1_s s0 s) s3
theorem ref05_Right_l1_eq (s0 : List TSlot) (s3 : Int) : ref05_Right_l1 s0 s3 = nextE (ref05_Right_l1_s s0 s3) (fun s : Int => ref05_Right_l1 s0 s) := loopE_eq _ _
/-- proctorref05.Right -/
noncomputable def ref05_Right (a0 : List TSlot) : Option (Bool) :=
  bndE (ref05_Right_l1 a0 0) fun o7 =>
  sumE o7 (fun o8 =>
   some true) (fun o9 =>
   some false)
noncomputable def ref26_Binds_l1_s (s0 : List TRow) (s4 : Int) (w3 : List (List TSlot)) : Option ((Int × List (List TSlot)) ⊕ ((List (List TSlot)))) :=
  iteE (decide (s4 < (s0.length : Int))) (
   idxE s0 s4 fun x2 =>
   chkE (fit w3.length [x2.bind].length 24) (
    some (.inl ((intVal .add .i64 s4 1), w3 ++ [x2.bind])))) (
   some (.inr w3))
noncomputable def ref26_Binds_l1 (s0 : List TRow) (s4 : Int) (w3 : List (List TSlot)) : Option ((List (List TSlot))) := loopE (fun s : Int × List (List TSlot) => ref26_Binds_l1_s s0 s.1 s.2) (s4, w3)
theorem ref26_Binds_l1_eq (s0 : List TRow) (s4 : Int) (w3 : List (List TSlot)) : ref26_Binds_l1 s0 s4 w3 = nextE (ref26_Binds_l1_s s0 s4 w3) (fun s : Int × List (List TSlot) => ref26_Binds_l1 s0 s.1 s.2) := loopE_eq _ _
/-- proctorref26.Binds -/
noncomputable def ref26_Binds (a0 : List TRow) : Option (List (List TSlot)) :=
  bndE (ref26_Binds_l1 a0 0 ([] : List (List TSlot))) fun o3 =>
  some o3
noncomputable def ref05_Same_l1_s (s0 : List TSlot) (s1 : List TSlot) (s5 : Int) : Option ((Int) ⊕ (Unit ⊕ Unit)) :=
  iteE (decide (s5 < (s0.length : Int))) (
   idxE s0 s5 fun x1 =>
   idxE s1 s5 fun x2 =>
   iteE (!(TSlot.eqb x1 x2)) (
    some (.inr (.inr ()))) (
    some (.inl (intVal .add .i64 s5 1)))) (
   some (.inr (.inl ())))
noncomputable def ref05_Same_l1 (s0 : List TSlot) (s1 : List TSlot) (s5 : Int) : Option (Unit ⊕ Unit) := loopE (fun s : Int => ref05_Same_l1_s s0 s1 s) s5
theorem ref05_Same_l1_eq (s0 : List TSlot) (s1 : List TSlot) (s5 : Int) : ref05_Same_l1 s0 s1 s5 = nextE (ref05_Same_l1_s s0 s1 s5) (fun s : Int => ref05_Same_l1 s0 s1 s) := loopE_eq _ _
/-- proctorref05.Same -/
noncomputable def ref05_Same (a0 : List TSlot) (a1 : List TSlot) : Option (Bool) :=
  iteE (!decide ((a0.length : Int) = (a1.length : Int))) (
   some false) (
   bndE (ref05_Same_l1 a0 a1 0) fun o3 =>
   sumE o3 (fun o4 =>
    some true) (fun o5 =>
    some false))
noncomputable def ref05_Has_l1_s (s0 : List (List TSlot)) (s1 : List TSlot) (s5 : Int) : Option ((Int) ⊕ (Unit ⊕ Unit)) :=
  iteE (decide (s5 < (s0.length : Int))) (
   idxE s0 s5 fun x1 =>
   bndE (ref05_Same x1 s1) fun r2 =>
   iteE (r2) (
    some (.inr (.inr ()))) (
    some (.inl (intVal .add .i64 s5 1)))) (
   some (.inr (.inl ())))
noncomputable def ref05_Has_l1 (s0 : List (List TSlot)) (s1 : List TSlot) (s5 : Int) : Option (Unit ⊕ Unit) := loopE (fun s : Int => ref05_Has_l1_s s0 s1 s) s5
theorem ref05_Has_l1_eq (s0 : List (List TSlot)) (s1 : List TSlot) (s5 : Int) : ref05_Has_l1 s0 s1 s5 = nextE (ref05_Has_l1_s s0 s1 s5) (fun s : Int => ref05_Has_l1 s0 s1 s) := loopE_eq _ _
/-- proctorref05.Has -/
noncomputable def ref05_Has (a0 : List (List TSlot)) (a1 : List TSlot) : Option (Bool) :=
  bndE (ref05_Has_l1 a0 a1 0) fun o3 =>
  sumE o3 (fun o4 =>
   some false) (fun o5 =>
   some true)
noncomputable def ref03_Below_l1_s (s0 : List UInt8) (s1 : List UInt8) (s5 : Int) : Option ((Int) ⊕ (Unit ⊕ Bool)) :=
  iteE (decide (s5 < (s0.length : Int))) (
   iteE (decide (s5 < (s1.length : Int))) (
    idxE s0 s5 fun x1 =>
    idxE s1 s5 fun x2 =>
    iteE (!decide ((x1.toNat : Int) = (x2.toNat : Int))) (
     idxE s0 s5 fun x3 =>
     idxE s1 s5 fun x4 =>
     some (.inr (.inr (decide ((x3.toNat : Int) < (x4.toNat : Int)))))) (
     some (.inl (intVal .add .i64 s5 1)))) (
    some (.inr (.inl ())))) (
   some (.inr (.inl ())))
noncomputable def ref03_Below_l1 (s0 : List UInt8) (s1 : List UInt8) (s5 : Int) : Option (Unit ⊕ Bool) := loopE (fun s : Int => ref03_Below_l1_s s0 s1 s) s5
theorem ref03_Below_l1_eq (s0 : List UInt8) (s1 : List UInt8) (s5 : Int) : ref03_Below_l1 s0 s1 s5 = nextE (ref03_Below_l1_s s0 s1 s5) (fun s : Int => ref03_Below_l1 s0 s1 s) := loopE_eq _ _
/-- proctorref03.Below -/
noncomputable def ref03_Below (a0 : List UInt8) (a1 : List UInt8) : Option (Bool) :=
  bndE (ref03_Below_l1 a0 a1 0) fun o5 =>
  sumE o5 (fun o6 =>
   some (decide ((a0.length : Int) < (a1.length : Int)))) (fun o7 =>
   some o7)
/-- proctorref03.Less -/
noncomputable def ref03_Less (a0 : TValue) (a1 : TValue) : Option (Bool) :=
  iteE (!decide (a0.kind = a1.kind)) (
   some (decide (a0.kind < a1.kind))) (
   iteE (decide (a0.kind = 1)) (
    some (decide (a0.int < a1.int))) (
    iteE (decide (a0.kind = 2)) (
     bndE (ref03_Below a0.str a1.str) fun r1 =>
     some r1) (
     iteE (!a0.bool) (
      some a1.bool) (
      some false))))
noncomputable def ref05_Less_l1_s (s0 : List TSlot) (s1 : List TSlot) (s5 : Int) : Option ((Int) ⊕ (Unit ⊕ Bool)) :=
  iteE (decide (s5 < (s0.length : Int))) (
   idxE s0 s5 fun x1 =>
   idxE s1 s5 fun x2 =>
   iteE (!decide (x1.var = x2.var)) (
    idxE s0 s5 fun x3 =>
    idxE s1 s5 fun x4 =>
    some (.inr (.inr (decide (x3.var < x4.var))))) (
    idxE s0 s5 fun x5 =>
    idxE s1 s5 fun x6 =>
    iteE (!(TValue.eqb x5.value x6.value)) (
     idxE s0 s5 fun x7 =>
     idxE s1 s5 fun x8 =>
     bndE (ref03_Less x7.value x8.value) fun r9 =>
     some (.inr (.inr r9))) (
     some (.inl (intVal .add .i64 s5 1))))) (
   some (.inr (.inl ())))
noncomputable def ref05_Less_l1 (s0 : List TSlot) (s1 : List TSlot) (s5 : Int) : Option (Unit ⊕ Bool) := loopE (fun s : Int => ref05_Less_l1_s s0 s1 s) s5
theorem ref05_Less_l1_eq (s0 : List TSlot) (s1 : List TSlot) (s5 : Int) : ref05_Less_l1 s0 s1 s5 = nextE (ref05_Less_l1_s s0 s1 s5) (fun s : Int => ref05_Less_l1 s0 s1 s) := loopE_eq _ _
/-- proctorref05.Less -/
noncomputable def ref05_Less (a0 : List TSlot) (a1 : List TSlot) : Option (Bool) :=
  iteE (!decide ((a0.length : Int) = (a1.length : Int))) (
   some (decide ((a0.length : Int) < (a1.length : Int)))) (
   bndE (ref05_Less_l1 a0 a1 0) fun o10 =>
   sumE o10 (fun o11 =>
    some false) (fun o12 =>
    some o12))
noncomputable def ref24_Insert_l1_s (s0 : List TRow) (w3 : TRow) (s5 : Int) : Option ((Int) ⊕ (Int)) :=
  iteE (decide (0 < s5)) (
   idxE s0 (intVal .sub .i64 s5 1) fun x1 =>
   bndE (ref05_Less w3.bind x1.bind) fun r2 =>
   iteE (r2) (
    some (.inl (intVal .sub .i64 s5 1))) (
    some (.inr s5))) (
   some (.inr s5))
noncomputable def ref24_Insert_l1 (s0 : List TRow) (w3 : TRow) (s5 : Int) : Option (Int) := loopE (fun s : Int => ref24_Insert_l1_s s0 w3 s) s5
theorem ref24_Insert_l1_eq (s0 : List TRow) (w3 : TRow) (s5 : Int) : ref24_Insert_l1 s0 w3 s5 = nextE (ref24_Insert_l1_s s0 w3 s5) (fun s : Int => ref24_Insert_l1 s0 w3 s) := loopE_eq _ _
/-- proctorref24.Insert -/
noncomputable def ref24_Insert (a0 : List TRow) (a1 : TRow) : Option (List TRow) :=
  bndE (ref24_Insert_l1 a0 a1 (a0.length : Int)) fun o3 =>
  chkE ((0 : Int) ≤ 0 ∧ (0 : Int) ≤ o3 ∧ o3 ≤ (a0.length : Int)) (
   chkE (fit ([] : List TRow).length (sub a0 0 o3).length 48) (
    chkE (fit (([] : List TRow) ++ (sub a0 0 o3)).length [a1].length 48) (
     chkE ((0 : Int) ≤ o3 ∧ (o3 : Int) ≤ (a0.length : Int) ∧ (a0.length : Int) ≤ (a0.length : Int)) (
      chkE (fit ((([] : List TRow) ++ (sub a0 0 o3)) ++ [a1]).length (sub a0 o3 (a0.length : Int)).length 48) (
       some (((([] : List TRow) ++ (sub a0 0 o3)) ++ [a1]) ++ (sub a0 o3 (a0.length : Int))))))))
noncomputable def law27_rows_l6_s (s0 : List Tproctorlaw27_Seed) (s3 : List TRow) (s4 : Int) (s5 : Int) : Option ((Int) ⊕ (Unit ⊕ Unit)) :=
  idxE s0 s4 fun x23 =>
  iteE (decide (s5 < (x23.bind.length : Int))) (
   idxE s0 s4 fun x24 =>
   idxE x24.bind s5 fun x25 =>
   iteE (decide (100 < (x25.value.str.length : Int))) (
    some (.inr (.inr ()))) (
    some (.inl (intVal .add .i64 s5 1)))) (
   some (.inr (.inl ())))
noncomputable def law27_rows_l6 (s0 : List Tproctorlaw27_Seed) (s3 : List TRow) (s4 : Int) (s5 : Int) : Option (Unit ⊕ Unit) := loopE (fun s : Int => law27_rows_l6_s s0 s3 s4 s) s5
theorem law27_rows_l6_eq (s0 : List Tproctorlaw27_Seed) (s3 : List TRow) (s4 : Int) (s5 : Int) : law27_rows_l6 s0 s3 s4 s5 = nextE (law27_rows_l6_s s0 s3 s4 s5) (fun s : Int => law27_rows_l6 s0 s3 s4 s) := loopE_eq _ _
noncomputable def law27_rows_b7 (s0 : List Tproctorlaw27_Seed) (s3 : List TRow) (s4 : Int) (s62 : Bool) : Option ((List TRow)) :=
  iteE (s62) (
   idxE s0 s4 fun x32 =>
   idxE s0 s4 fun x33 =>
   chkE (((3 : UInt8).toNat : Int) ≠ 0) (
    bndE (ref24_Insert s3 (TRow.mk x32.bind ([TConfig.mk ((u8i (intVal .rem .u8 (x33.state.toNat : Int) ((3 : UInt8).toNat : Int))).toNat : Int) ([] : List TValue)]))) fun r34 =>
    some r34)) (
   some s3)
noncomputable def law27_rows_b5 (s0 : List Tproctorlaw27_Seed) (s3 : List TRow) (s4 : Int) : Option ((List TRow) ⊕ Unit) :=
  idxE s0 s4 fun x20 =>
  iteE (decide (8 < (x20.bind.length : Int))) (
   some (.inr ())) (
   idxE s0 s4 fun x21 =>
   bndE (ref05_Right x21.bind) fun r22 =>
   iteE (!r22) (
    some (.inr ())) (
    bndE (law27_rows_l6 s0 s3 s4 0) fun o26 =>
    sumE o26 (fun o27 =>
     bndE (ref26_Binds s3) fun r29 =>
     idxE s0 s4 fun x30 =>
     bndE (ref05_Has r29 x30.bind) fun r31 =>
     bndE (law27_rows_b7 s0 s3 s4 (!r31)) fun o35 =>
     some (.inl o35)) (fun o28 =>
     some (.inr ()))))
noncomputable def law27_rows_l1_s (s0 : List Tproctorlaw27_Seed) (s3 : List TRow) (s4 : Int) : Option ((List TRow × Int) ⊕ ((List TRow) ⊕ Unit)) :=
  iteE (decide (s4 < (s0.length : Int))) (
   iteE (decide (s4 < 12)) (
    bndE (law27_rows_b5 s0 s3 s4) fun o36 =>
    sumE o36 (fun o37 =>
     some (.inl (o37, (intVal .add .i64 s4 1)))) (fun o38 =>
     some (.inr (.inr ())))) (
    some (.inr (.inl s3)))) (
   some (.inr (.inl s3)))
noncomputable def law27_rows_l1 (s0 : List Tproctorlaw27_Seed) (s3 : List TRow) (s4 : Int) : Option ((List TRow) ⊕ Unit) := loopE (fun s : List TRow × Int => law27_rows_l1_s s0 s.1 s.2) (s3, s4)
theorem law27_rows_l1_eq (s0 : List Tproctorlaw27_Seed) (s3 : List TRow) (s4 : Int) : law27_rows_l1 s0 s3 s4 = nextE (law27_rows_l1_s s0 s3 s4) (fun s : List TRow × Int => law27_rows_l1 s0 s.1 s.2) := loopE_eq _ _
/-- proctorlaw27.rows -/
noncomputable def law27_rows (a0 : List Tproctorlaw27_Seed) : Option (List TRow) :=
  bndE (law27_rows_l1 a0 ([] : List TRow) 0) fun o39 =>
  sumE o39 (fun o40 =>
   some o40) (fun o41 =>
   some ([] : List TRow))
/-- slices.Clone[[]api.Row,api.Row] -/
def slices_Clone_Row_Row (l : List TRow) : Option (List TRow) := cloneE 48 l
noncomputable def slices_Equal_Slot_Slot_l1_s (s0 : List TSlot) (s1 : List TSlot) (s12 : Int) (s13 : Int) : Option ((Int) ⊕ (Unit ⊕ Unit)) :=
  iteE (decide (s13 < s12)) (
   idxE s0 s13 fun x1 =>
   idxE s1 s13 fun x2 =>
   iteE (!(TSlot.eqb x1 x2)) (
    some (.inr (.inr ()))) (
    some (.inl (intVal .add .i64 s13 1)))) (
   some (.inr (.inl ())))
noncomputable def slices_Equal_Slot_Slot_l1 (s0 : List TSlot) (s1 : List TSlot) (s12 : Int) (s13 : Int) : Option (Unit ⊕ Unit) := loopE (fun s : Int => slices_Equal_Slot_Slot_l1_s s0 s1 s12 s) s13
theorem slices_Equal_Slot_Slot_l1_eq (s0 : List TSlot) (s1 : List TSlot) (s12 : Int) (s13 : Int) : slices_Equal_Slot_Slot_l1 s0 s1 s12 s13 = nextE (slices_Equal_Slot_Slot_l1_s s0 s1 s12 s13) (fun s : Int => slices_Equal_Slot_Slot_l1 s0 s1 s12 s) := loopE_eq _ _
/-- slices.Equal[[]api.Slot,api.Slot] -/
noncomputable def slices_Equal_Slot_Slot (a0 : List TSlot) (a1 : List TSlot) : Option (Bool) :=
  iteE (!decide ((a0.length : Int) = (a1.length : Int))) (
   some false) (
   bndE (slices_Equal_Slot_Slot_l1 a0 a1 (a0.length : Int) 0) fun o3 =>
   sumE o3 (fun o4 =>
    some true) (fun o5 =>
    some false))
/-- binding.Same -/
noncomputable def binding_Same (a0 : List TSlot) (a1 : List TSlot) : Option (Bool) :=
  bndE (slices_Equal_Slot_Slot a0 a1) fun r1 =>
  some r1
/-- prune.Below$1 -/
noncomputable def prune_Below_1 (a0 : TRow) (a1 : List TSlot) : Option (Bool) :=
  bndE (binding_Same a0.bind a1) fun r1 =>
  some (!r1)
noncomputable def prune_keep_Row_b5 (s1 : List TSlot) (s8 : List TRow) (s9 : Int) (s10 : Int) (s16 : Bool) (w5 : List TRow) (w7 : TRow) : Option ((List TRow)) :=
  iteE (s16) (
   chkE (fit w5.length [w7].length 48) (
    some (w5 ++ [w7]))) (
   some w5)
noncomputable def prune_keep_Row_b4 (s1 : List TSlot) (s8 : List TRow) (s9 : Int) (s10 : Int) (w5 : List TRow) : Option ((List TRow)) :=
  idxE s8 s10 fun x5 =>
  bndE (prune_Below_1 x5 s1) fun r6 =>
  bndE (prune_keep_Row_b5 s1 s8 s9 s10 r6 w5 x5) fun o7 =>
  some o7
noncomputable def prune_keep_Row_l1_s (s1 : List TSlot) (s8 : List TRow) (s9 : Int) (s10 : Int) (w5 : List TRow) : Option ((Int × List TRow) ⊕ ((List TRow))) :=
  iteE (decide (s10 < s9)) (
   bndE (prune_keep_Row_b4 s1 s8 s9 s10 w5) fun o8 =>
   some (.inl ((intVal .add .i64 s10 1), o8))) (
   some (.inr w5))
noncomputable def prune_keep_Row_l1 (s1 : List TSlot) (s8 : List TRow) (s9 : Int) (s10 : Int) (w5 : List TRow) : Option ((List TRow)) := loopE (fun s : Int × List TRow => prune_keep_Row_l1_s s1 s8 s9 s.1 s.2) (s10, w5)
theorem prune_keep_Row_l1_eq (s1 : List TSlot) (s8 : List TRow) (s9 : Int) (s10 : Int) (w5 : List TRow) : prune_keep_Row_l1 s1 s8 s9 s10 w5 = nextE (prune_keep_Row_l1_s s1 s8 s9 s10 w5) (fun s : Int × List TRow => prune_keep_Row_l1 s1 s8 s9 s.1 s.2) := loopE_eq _ _
/-- prune.keep[api.Row] -/
noncomputable def prune_keep_Row (a0 : List TRow) (a1 : List TSlot) : Option (List TRow) :=
  bndE (prune_keep_Row_l1 a1 a0 (a0.length : Int) 0 ([] : List TRow)) fun o9 =>
  some o9
/-- binding.both -/
noncomputable def binding_both (a0 : List TSlot) (a1 : List TSlot) : Option (List TSlot × List TSlot) :=
  some (a0, a1)
noncomputable def binding_Get_l1_s (s1 : Int) (s8 : List TSlot) (s9 : Int) (w4 : TValue) (s10 : Int) : Option ((Int) ⊕ (Unit ⊕ TValue)) :=
  iteE (decide (s10 < s9)) (
   idxE s8 s10 fun x1 =>
   iteE (decide (x1.var = s1)) (
    some (.inr (.inr x1.value))) (
    some (.inl (intVal .add .i64 s10 1)))) (
   some (.inr (.inl ())))
noncomputable def binding_Get_l1 (s1 : Int) (s8 : List TSlot) (s9 : Int) (w4 : TValue) (s10 : Int) : Option (Unit ⊕ TValue) := loopE (fun s : Int => binding_Get_l1_s s1 s8 s9 w4 s) s10
theorem binding_Get_l1_eq (s1 : Int) (s8 : List TSlot) (s9 : Int) (w4 : TValue) (s10 : Int) : binding_Get_l1 s1 s8 s9 w4 s10 = nextE (binding_Get_l1_s s1 s8 s9 w4 s10) (fun s : Int => binding_Get_l1 s1 s8 s9 w4 s) := loopE_eq _ _
/-- binding.Get -/
noncomputable def binding_Get (a0 : List TSlot) (a1 : Int) : Option (TValue × Bool) :=
  bndE (binding_Get_l1 a1 a0 (a0.length : Int) (TValue.mk 0 0 ([] : List UInt8) false) 0) fun o2 =>
  sumE o2 (fun o3 =>
   some (TValue.mk 0 0 ([] : List UInt8) false, false)) (fun o4 =>
   some (o4, true))
noncomputable def binding_both_1_b2 {φ : Type} (step : φ → ((TSlot × TValue) ⊕ TSlot) → Option (φ × Bool)) (f0 : φ) (s2 : List TSlot) (s9 : List TSlot) (s10 : Int) (s11 : Int) : Option (φ ⊕ φ) :=
  idxE s9 s11 fun x1 =>
  bndE (binding_Get s2 x1.var) fun r2 =>
  iteE (r2.2) (
   yldE (step f0 (.inl (x1, r2.1))) (fun f3 =>
    some (.inl f3)) (fun f4 =>
    some (.inr f4))) (
   yldE (step f0 (.inr x1)) (fun f5 =>
    some (.inl f5)) (fun f6 =>
    some (.inr f6)))
noncomputable def binding_both_1_l1_s {φ : Type} (step : φ → ((TSlot × TValue) ⊕ TSlot) → Option (φ × Bool)) (s2 : List TSlot) (s9 : List TSlot) (s10 : Int) (f0 : φ) (s11 : Int) : Option ((φ × Int) ⊕ (φ ⊕ φ)) :=
  iteE (decide (s11 < s10)) (
   bndE (binding_both_1_b2 step f0 s2 s9 s10 s11) fun o7 =>
   sumE o7 (fun o8 =>
    some (.inl (o8, (intVal .add .i64 s11 1)))) (fun o9 =>
    some (.inr (.inr o9)))) (
   some (.inr (.inl f0)))
noncomputable def binding_both_1_l1 {φ : Type} (step : φ → ((TSlot × TValue) ⊕ TSlot) → Option (φ × Bool)) (s2 : List TSlot) (s9 : List TSlot) (s10 : Int) (f0 : φ) (s11 : Int) : Option (φ ⊕ φ) := loopE (fun s : φ × Int => binding_both_1_l1_s step s2 s9 s10 s.1 s.2) (f0, s11)
theorem binding_both_1_l1_eq {φ : Type} (step : φ → ((TSlot × TValue) ⊕ TSlot) → Option (φ × Bool)) (s2 : List TSlot) (s9 : List TSlot) (s10 : Int) (f0 : φ) (s11 : Int) : binding_both_1_l1 step s2 s9 s10 f0 s11 = nextE (binding_both_1_l1_s step s2 s9 s10 f0 s11) (fun s : φ × Int => binding_both_1_l1 step s2 s9 s10 s.1 s.2) := loopE_eq _ _
/-- binding.both$1 -/
noncomputable def binding_both_1 {φ : Type} (step : φ → ((TSlot × TValue) ⊕ TSlot) → Option (φ × Bool)) (a1 : List TSlot) (a2 : List TSlot) (f0 : φ) : Option φ :=
  bndE (binding_both_1_l1 step a2 a1 (a1.length : Int) f0 0) fun o10 =>
  sumE o10 (fun o11 =>
   some o11) (fun o12 =>
   some o12)
noncomputable def binding_Under_b2 (s9_1 : List TSlot) (s9_2 : List TSlot) (s10 : TSlot) (s11 : TValue) (w4 : Bool) (w998_1 : List TSlot) (w998_2 : List TSlot) : Option (Unit) :=
  some ()
noncomputable def binding_Under_b4 (s9_1 : List TSlot) (s9_2 : List TSlot) (s10 : TSlot) (w4 : Bool) (w998_1 : List TSlot) (w998_2 : List TSlot) : Option (Unit) :=
  some ()
noncomputable def binding_Under_b6 (s6 : TValue) (s9_1 : List TSlot) (s9_2 : List TSlot) (w4 : Bool) (w5 : TSlot) (w998_1 : List TSlot) (w998_2 : List TSlot) : Option (Unit ⊕ Unit) :=
  iteE (!(TValue.eqb s6 w5.value)) (
   some (.inr ())) (
   some (.inl ()))
noncomputable def binding_Under_b7 (s9_1 : List TSlot) (s9_2 : List TSlot) (w4 : Bool) (w5 : TSlot) (w998_1 : List TSlot) (w998_2 : List TSlot) : Option (Unit) :=
  some ()
noncomputable def binding_Under_r1_rd (s9_1 : List TSlot) (s9_2 : List TSlot) (s : Bool) (x : (TSlot × TValue) ⊕ TSlot) : Option ((Bool) ⊕ (Bool)) :=
  sumE x (fun z13 =>
   bndE (binding_Under_b2 s9_1 s9_2 z13.1 z13.2 s s9_1 s9_2) fun o6 =>
   bndE (binding_Under_b6 z13.2 s9_1 s9_2 s z13.1 s9_1 s9_2) fun o7 =>
   sumE o7 (fun o15 =>
    some (.inl s)) (fun o16 =>
    some (.inr false))) (fun z14 =>
   bndE (binding_Under_b4 s9_1 s9_2 z14 s s9_1 s9_2) fun o8 =>
   bndE (binding_Under_b7 s9_1 s9_2 s z14 s9_1 s9_2) fun o9 =>
   some (.inr false))
/-- binding.Under -/
noncomputable def binding_Under (a0 : List TSlot) (a1 : List TSlot) : Option (Bool) :=
  bndE (binding_both a0 a1) fun r1 =>
  bndE (binding_both_1 (stepOf (binding_Under_r1_rd r1.1 r1.2)) r1.1 r1.2 (.inl false)) fun o10 =>
  sumE o10 (fun o11 =>
   some true) (fun o12 =>
   some o12)
/-- extend.Greatest$1 -/
noncomputable def extend_Greatest_1 (a0 : TRow) (a1 : TRow) : Option (Bool) :=
  iteE (decide ((a1.bind.length : Int) < (a0.bind.length : Int))) (
   bndE (binding_Under a1.bind a0.bind) fun r1 =>
   some r1) (
   some false)
noncomputable def slices_IndexFunc_Row_Row_l1_s (s0 : List TRow) (s1 : TRow) (s7 : Int) (s8 : Int) : Option ((Int) ⊕ (Unit ⊕ Int)) :=
  iteE (decide (s8 < s7)) (
   idxE s0 s8 fun x1 =>
   bndE (extend_Greatest_1 x1 s1) fun r2 =>
   iteE (r2) (
    some (.inr (.inr s8))) (
    some (.inl (intVal .add .i64 s8 1)))) (
   some (.inr (.inl ())))
noncomputable def slices_IndexFunc_Row_Row_l1 (s0 : List TRow) (s1 : TRow) (s7 : Int) (s8 : Int) : Option (Unit ⊕ Int) := loopE (fun s : Int => slices_IndexFunc_Row_Row_l1_s s0 s1 s7 s) s8
theorem slices_IndexFunc_Row_Row_l1_eq (s0 : List TRow) (s1 : TRow) (s7 : Int) (s8 : Int) : slices_IndexFunc_Row_Row_l1 s0 s1 s7 s8 = nextE (slices_IndexFunc_Row_Row_l1_s s0 s1 s7 s8) (fun s : Int => slices_IndexFunc_Row_Row_l1 s0 s1 s7 s) := loopE_eq _ _
/-- slices.IndexFunc[[]api.Row,api.Row] -/
noncomputable def slices_IndexFunc_Row_Row (a0 : List TRow) (a1 : TRow) : Option (Int) :=
  bndE (slices_IndexFunc_Row_Row_l1 a0 a1 (a0.length : Int) 0) fun o3 =>
  sumE o3 (fun o4 =>
   some (-1)) (fun o5 =>
   some o5)
/-- slices.ContainsFunc[[]api.Row,api.Row] -/
noncomputable def slices_ContainsFunc_Row_Row (a0 : List TRow) (a1 : TRow) : Option (Bool) :=
  bndE (slices_IndexFunc_Row_Row a0 a1) fun r1 =>
  some (decide (0 ≤ r1))
noncomputable def extend_Greatest_b5 (s1 : List TSlot) (s12 : List TRow) (s13 : Int) (s14 : Int) (s21 : Bool) (w5 : List TRow) (w8 : TRow) : Option ((List TRow)) :=
  iteE (s21) (
   chkE (fit w5.length [w8].length 48) (
    some (w5 ++ [w8]))) (
   some w5)
noncomputable def extend_Greatest_b4 (s1 : List TSlot) (s12 : List TRow) (s13 : Int) (s14 : Int) (w5 : List TRow) : Option ((List TRow)) :=
  idxE s12 s14 fun x5 =>
  bndE (binding_Under x5.bind s1) fun r6 =>
  bndE (extend_Greatest_b5 s1 s12 s13 s14 r6 w5 x5) fun o7 =>
  some o7
noncomputable def extend_Greatest_l1_s (s1 : List TSlot) (s12 : List TRow) (s13 : Int) (s14 : Int) (w5 : List TRow) : Option ((Int × List TRow) ⊕ ((List TRow))) :=
  iteE (decide (s14 < s13)) (
   bndE (extend_Greatest_b4 s1 s12 s13 s14 w5) fun o8 =>
   some (.inl ((intVal .add .i64 s14 1), o8))) (
   some (.inr w5))
noncomputable def extend_Greatest_l1 (s1 : List TSlot) (s12 : List TRow) (s13 : Int) (s14 : Int) (w5 : List TRow) : Option ((List TRow)) := loopE (fun s : Int × List TRow => extend_Greatest_l1_s s1 s12 s13 s.1 s.2) (s14, w5)
theorem extend_Greatest_l1_eq (s1 : List TSlot) (s12 : List TRow) (s13 : Int) (s14 : Int) (w5 : List TRow) : extend_Greatest_l1 s1 s12 s13 s14 w5 = nextE (extend_Greatest_l1_s s1 s12 s13 s14 w5) (fun s : Int × List TRow => extend_Greatest_l1 s1 s12 s13 s.1 s.2) := loopE_eq _ _
noncomputable def extend_Greatest_b10 (s28 : Int) (s29 : Int) (s37 : Bool) (w5 : List TRow) (w6 : List TRow) (w10 : TRow) : Option ((List TRow)) :=
  iteE (s37) (
   chkE (fit w6.length [w10].length 48) (
    some (w6 ++ [w10]))) (
   some w6)
noncomputable def extend_Greatest_b9 (s28 : Int) (s29 : Int) (w5 : List TRow) (w6 : List TRow) : Option ((List TRow)) :=
  idxE w5 s29 fun x14 =>
  bndE (slices_ContainsFunc_Row_Row w5 x14) fun r15 =>
  bndE (extend_Greatest_b10 s28 s29 (!r15) w5 w6 x14) fun o16 =>
  some o16
noncomputable def extend_Greatest_l6_s (s28 : Int) (w5 : List TRow) (s29 : Int) (w6 : List TRow) : Option ((Int × List TRow) ⊕ ((List TRow))) :=
  iteE (decide (s29 < s28)) (
   bndE (extend_Greatest_b9 s28 s29 w5 w6) fun o17 =>
   some (.inl ((intVal .add .i64 s29 1), o17))) (
   some (.inr w6))
noncomputable def extend_Greatest_l6 (s28 : Int) (w5 : List TRow) (s29 : Int) (w6 : List TRow) : Option ((List TRow)) := loopE (fun s : Int × List TRow => extend_Greatest_l6_s s28 w5 s.1 s.2) (s29, w6)
theorem extend_Greatest_l6_eq (s28 : Int) (w5 : List TRow) (s29 : Int) (w6 : List TRow) : extend_Greatest_l6 s28 w5 s29 w6 = nextE (extend_Greatest_l6_s s28 w5 s29 w6) (fun s : Int × List TRow => extend_Greatest_l6 s28 w5 s.1 s.2) := loopE_eq _ _
/-- extend.Greatest -/
noncomputable def extend_Greatest (a0 : List TRow) (a1 : List TSlot) : Option (List TRow) :=
  bndE (extend_Greatest_l1 a1 a0 (a0.length : Int) 0 ([] : List TRow)) fun o9 =>
  bndE (extend_Greatest_l6 (o9.length : Int) o9 0 ([] : List TRow)) fun o18 =>
  some o18
/-- prune.Below -/
noncomputable def prune_Below (a0 : List TRow) (a1 : Int) : Option (List TRow) :=
  iteE (decide (a1 < 0)) (
   some ([] : List TRow)) (
   iteE (decide ((a0.length : Int) ≤ a1)) (
    some ([] : List TRow)) (
    idxE a0 a1 fun x1 =>
    bndE (prune_keep_Row a0 x1.bind) fun r2 =>
    bndE (extend_Greatest r2 x1.bind) fun r3 =>
    some r3))
noncomputable def slices_Equal_Value_Value_l1_s (s0 : List TValue) (s1 : List TValue) (s12 : Int) (s13 : Int) : Option ((Int) ⊕ (Unit ⊕ Unit)) :=
  iteE (decide (s13 < s12)) (
   idxE s0 s13 fun x1 =>
   idxE s1 s13 fun x2 =>
   iteE (!(TValue.eqb x1 x2)) (
    some (.inr (.inr ()))) (
    some (.inl (intVal .add .i64 s13 1)))) (
   some (.inr (.inl ())))
noncomputable def slices_Equal_Value_Value_l1 (s0 : List TValue) (s1 : List TValue) (s12 : Int) (s13 : Int) : Option (Unit ⊕ Unit) := loopE (fun s : Int => slices_Equal_Value_Value_l1_s s0 s1 s12 s) s13
theorem slices_Equal_Value_Value_l1_eq (s0 : List TValue) (s1 : List TValue) (s12 : Int) (s13 : Int) : slices_Equal_Value_Value_l1 s0 s1 s12 s13 = nextE (slices_Equal_Value_Value_l1_s s0 s1 s12 s13) (fun s : Int => slices_Equal_Value_Value_l1 s0 s1 s12 s) := loopE_eq _ _
/-- slices.Equal[[]api.Value,api.Value] -/
noncomputable def slices_Equal_Value_Value (a0 : List TValue) (a1 : List TValue) : Option (Bool) :=
  iteE (!decide ((a0.length : Int) = (a1.length : Int))) (
   some false) (
   bndE (slices_Equal_Value_Value_l1 a0 a1 (a0.length : Int) 0) fun o3 =>
   sumE o3 (fun o4 =>
    some true) (fun o5 =>
    some false))
/-- config.one -/
noncomputable def config_one (a0 : TConfig) (a1 : TConfig) : Option (Bool) :=
  iteE (decide (a0.state = a1.state)) (
   bndE (slices_Equal_Value_Value a0.vals a1.vals) fun r1 =>
   some r1) (
   some false)
noncomputable def slices_EqualFunc_Config_Config_Config_Config_l1_s (s1 : List TConfig) (s15 : List TConfig) (s16 : Int) (s17 : Int) : Option ((Int) ⊕ (Unit ⊕ Unit)) :=
  iteE (decide (s17 < s16)) (
   idxE s15 s17 fun x1 =>
   idxE s1 s17 fun x2 =>
   bndE (config_one x1 x2) fun r3 =>
   iteE (!r3) (
    some (.inr (.inr ()))) (
    some (.inl (intVal .add .i64 s17 1)))) (
   some (.inr (.inl ())))
noncomputable def slices_EqualFunc_Config_Config_Config_Config_l1 (s1 : List TConfig) (s15 : List TConfig) (s16 : Int) (s17 : Int) : Option (Unit ⊕ Unit) := loopE (fun s : Int => slices_EqualFunc_Config_Config_Config_Config_l1_s s1 s15 s16 s) s17
theorem slices_EqualFunc_Config_Config_Config_Config_l1_eq (s1 : List TConfig) (s15 : List TConfig) (s16 : Int) (s17 : Int) : slices_EqualFunc_Config_Config_Config_Config_l1 s1 s15 s16 s17 = nextE (slices_EqualFunc_Config_Config_Config_Config_l1_s s1 s15 s16 s17) (fun s : Int => slices_EqualFunc_Config_Config_Config_Config_l1 s1 s15 s16 s) := loopE_eq _ _
/-- slices.EqualFunc[[]api.Config,[]api.Config,api.Config,api.Config] -/
noncomputable def slices_EqualFunc_Config_Config_Config_Config (a0 : List TConfig) (a1 : List TConfig) : Option (Bool) :=
  iteE (!decide ((a0.length : Int) = (a1.length : Int))) (
   some false) (
   bndE (slices_EqualFunc_Config_Config_Config_Config_l1 a1 a0 (a0.length : Int) 0) fun o4 =>
   sumE o4 (fun o5 =>
    some true) (fun o6 =>
    some false))
/-- config.Same -/
noncomputable def config_Same (a0 : List TConfig) (a1 : List TConfig) : Option (Bool) :=
  bndE (slices_EqualFunc_Config_Config_Config_Config a0 a1) fun r1 =>
  some r1
/-- prune.sameSet -/
noncomputable def prune_sameSet (a0 : TRow) (a1 : TRow) : Option (Bool) :=
  bndE (config_Same a0.set a1.set) fun r1 =>
  some r1
/-- prune.alike[api.Row]$1 -/
noncomputable def prune_alike_Row_1 (a0 : TRow) (a2 : TRow) : Option (Bool) :=
  bndE (prune_sameSet a2 a0) fun r1 =>
  some (!r1)
noncomputable def slices_IndexFunc_Row_Row_v2_l1_s (s0 : List TRow) (s1 : TRow) (s7 : Int) (s8 : Int) : Option ((Int) ⊕ (Unit ⊕ Int)) :=
  iteE (decide (s8 < s7)) (
   idxE s0 s8 fun x1 =>
   bndE (prune_alike_Row_1 x1 s1) fun r2 =>
   iteE (r2) (
    some (.inr (.inr s8))) (
    some (.inl (intVal .add .i64 s8 1)))) (
   some (.inr (.inl ())))
noncomputable def slices_IndexFunc_Row_Row_v2_l1 (s0 : List TRow) (s1 : TRow) (s7 : Int) (s8 : Int) : Option (Unit ⊕ Int) := loopE (fun s : Int => slices_IndexFunc_Row_Row_v2_l1_s s0 s1 s7 s) s8
theorem slices_IndexFunc_Row_Row_v2_l1_eq (s0 : List TRow) (s1 : TRow) (s7 : Int) (s8 : Int) : slices_IndexFunc_Row_Row_v2_l1 s0 s1 s7 s8 = nextE (slices_IndexFunc_Row_Row_v2_l1_s s0 s1 s7 s8) (fun s : Int => slices_IndexFunc_Row_Row_v2_l1 s0 s1 s7 s) := loopE_eq _ _
/-- slices.IndexFunc[[]api.Row,api.Row] -/
noncomputable def slices_IndexFunc_Row_Row_v2 (a0 : List TRow) (a1 : TRow) : Option (Int) :=
  bndE (slices_IndexFunc_Row_Row_v2_l1 a0 a1 (a0.length : Int) 0) fun o3 =>
  sumE o3 (fun o4 =>
   some (-1)) (fun o5 =>
   some o5)
/-- slices.ContainsFunc[[]api.Row,api.Row] -/
noncomputable def slices_ContainsFunc_Row_Row_v2 (a0 : List TRow) (a1 : TRow) : Option (Bool) :=
  bndE (slices_IndexFunc_Row_Row_v2 a0 a1) fun r1 =>
  some (decide (0 ≤ r1))
/-- prune.alike[api.Row] -/
noncomputable def prune_alike_Row (a0 : List TRow) (a1 : TRow) : Option (Bool) :=
  bndE (slices_ContainsFunc_Row_Row_v2 a0 a1) fun r1 =>
  some (!r1)
/-- prune.Spare -/
noncomputable def prune_Spare (a0 : List TRow) (a1 : Int) : Option (Bool) :=
  bndE (prune_Below a0 a1) fun r1 =>
  iteE (decide (0 < (r1.length : Int))) (
   idxE a0 a1 fun x2 =>
   bndE (prune_alike_Row r1 x2) fun r3 =>
   some r3) (
   some false)
/-- slices.Delete[[]api.Row,api.Row] -/
def slices_Delete_Row_Row (a b : Int) (l : List TRow) : Option (List TRow) := delE a b l
noncomputable def prune_All_b3 (s4 : Int) (s16 : Bool) (w3 : List TRow) : Option ((List TRow)) :=
  iteE (s16) (
   bndE (slices_Delete_Row_Row s4 (intVal .add .i64 s4 1) w3) fun r3 =>
   some r3) (
   some w3)
noncomputable def prune_All_b2 (s4 : Int) (w3 : List TRow) : Option ((List TRow)) :=
  bndE (prune_Spare w3 s4) fun r2 =>
  bndE (prune_All_b3 s4 r2 w3) fun o4 =>
  some o4
noncomputable def prune_All_l1_s (s4 : Int) (w3 : List TRow) : Option ((Int × List TRow) ⊕ ((List TRow))) :=
  iteE (decide (0 ≤ s4)) (
   bndE (prune_All_b2 s4 w3) fun o5 =>
   some (.inl ((intVal .sub .i64 s4 1), o5))) (
   some (.inr w3))
noncomputable def prune_All_l1 (s4 : Int) (w3 : List TRow) : Option ((List TRow)) := loopE (fun s : Int × List TRow => prune_All_l1_s s.1 s.2) (s4, w3)
theorem prune_All_l1_eq (s4 : Int) (w3 : List TRow) : prune_All_l1 s4 w3 = nextE (prune_All_l1_s s4 w3) (fun s : Int × List TRow => prune_All_l1 s.1 s.2) := loopE_eq _ _
/-- prune.All -/
noncomputable def prune_All (a0 : List TRow) : Option (List TRow) :=
  bndE (slices_Clone_Row_Row a0) fun r1 =>
  bndE (prune_All_l1 (intVal .sub .i64 (r1.length : Int) 1) r1) fun o6 =>
  some o6
noncomputable def ref05_Get_l1_s (s0 : List TSlot) (s1 : Int) (w4 : TValue) (s6 : Int) : Option ((Int) ⊕ (Unit ⊕ TValue)) :=
  iteE (decide (s6 < (s0.length : Int))) (
   idxE s0 s6 fun x1 =>
   iteE (decide (x1.var = s1)) (
    idxE s0 s6 fun x2 =>
    some (.inr (.inr x2.value))) (
    some (.inl (intVal .add .i64 s6 1)))) (
   some (.inr (.inl ())))
noncomputable def ref05_Get_l1 (s0 : List TSlot) (s1 : Int) (w4 : TValue) (s6 : Int) : Option (Unit ⊕ TValue) := loopE (fun s : Int => ref05_Get_l1_s s0 s1 w4 s) s6
theorem ref05_Get_l1_eq (s0 : List TSlot) (s1 : Int) (w4 : TValue) (s6 : Int) : ref05_Get_l1 s0 s1 w4 s6 = nextE (ref05_Get_l1_s s0 s1 w4 s6) (fun s : Int => ref05_Get_l1 s0 s1 w4 s) := loopE_eq _ _
/-- proctorref05.Get -/
noncomputable def ref05_Get (a0 : List TSlot) (a1 : Int) : Option (TValue × Bool) :=
  bndE (ref05_Get_l1 a0 a1 (TValue.mk 0 0 ([] : List UInt8) false) 0) fun o3 =>
  sumE o3 (fun o4 =>
   some (TValue.mk 0 0 ([] : List UInt8) false, false)) (fun o5 =>
   some (o5, true))
noncomputable def ref05_Under_l1_s (s0 : List TSlot) (s1 : List TSlot) (s5 : Int) : Option ((Int) ⊕ (Unit ⊕ Unit)) :=
  iteE (decide (s5 < (s0.length : Int))) (
   idxE s0 s5 fun x1 =>
   bndE (ref05_Get s1 x1.var) fun r2 =>
   iteE (!r2.2) (
    some (.inr (.inr ()))) (
    idxE s0 s5 fun x3 =>
    iteE (!(TValue.eqb r2.1 x3.value)) (
     some (.inr (.inr ()))) (
     some (.inl (intVal .add .i64 s5 1))))) (
   some (.inr (.inl ())))
noncomputable def ref05_Under_l1 (s0 : List TSlot) (s1 : List TSlot) (s5 : Int) : Option (Unit ⊕ Unit) := loopE (fun s : Int => ref05_Under_l1_s s0 s1 s) s5
theorem ref05_Under_l1_eq (s0 : List TSlot) (s1 : List TSlot) (s5 : Int) : ref05_Under_l1 s0 s1 s5 = nextE (ref05_Under_l1_s s0 s1 s5) (fun s : Int => ref05_Under_l1 s0 s1 s) := loopE_eq _ _
/-- proctorref05.Under -/
noncomputable def ref05_Under (a0 : List TSlot) (a1 : List TSlot) : Option (Bool) :=
  bndE (ref05_Under_l1 a0 a1 0) fun o4 =>
  sumE o4 (fun o5 =>
   some true) (fun o6 =>
   some false)
noncomputable def ref26_Most_b5 (s0 : List TRow) (s1 : List TSlot) (s2 : Bool) (s8 : Int) (s40 : Bool) (w7 : List Int) : Option ((List Int)) :=
  iteE (s40) (
   chkE (fit w7.length [s8].length 8) (
    some (w7 ++ [s8]))) (
   some w7)
noncomputable def ref26_Most_b4 (s0 : List TRow) (s1 : List TSlot) (s2 : Bool) (s8 : Int) (w7 : List Int) : Option ((List Int)) :=
  idxE s0 s8 fun x9 =>
  bndE (ref05_Under x9.bind s1) fun r10 =>
  iteE (r10) (
   iteE (s2) (
    idxE s0 s8 fun x11 =>
    bndE (ref05_Same x11.bind s1) fun r12 =>
    bndE (ref26_Most_b5 s0 s1 s2 s8 (!r12) w7) fun o13 =>
    some o13) (
    bndE (ref26_Most_b5 s0 s1 s2 s8 true w7) fun o14 =>
    some o14)) (
   bndE (ref26_Most_b5 s0 s1 s2 s8 false w7) fun o15 =>
   some o15)
noncomputable def ref26_Most_l1_s (s0 : List TRow) (s1 : List TSlot) (s2 : Bool) (s8 : Int) (w7 : List Int) : Option ((Int × List Int) ⊕ ((List Int))) :=
  iteE (decide (s8 < (s0.length : Int))) (
   bndE (ref26_Most_b4 s0 s1 s2 s8 w7) fun o16 =>
   some (.inl ((intVal .add .i64 s8 1), o16))) (
   some (.inr w7))
noncomputable def ref26_Most_l1 (s0 : List TRow) (s1 : List TSlot) (s2 : Bool) (s8 : Int) (w7 : List Int) : Option ((List Int)) := loopE (fun s : Int × List Int => ref26_Most_l1_s s0 s1 s2 s.1 s.2) (s8, w7)
theorem ref26_Most_l1_eq (s0 : List TRow) (s1 : List TSlot) (s2 : Bool) (s8 : Int) (w7 : List Int) : ref26_Most_l1 s0 s1 s2 s8 w7 = nextE (ref26_Most_l1_s s0 s1 s2 s8 w7) (fun s : Int × List Int => ref26_Most_l1 s0 s1 s2 s.1 s.2) := loopE_eq _ _
noncomputable def ref26_Most_b15 (s0 : List TRow) (s10 : Int) (s11 : Bool) (s12 : Int) (s82 : Bool) (w7 : List Int) (w9 : List Int) : Option (Bool) :=
  iteE (s82) (
   some false) (
   some s11)
noncomputable def ref26_Most_b14 (s0 : List TRow) (s10 : Int) (s11 : Bool) (s12 : Int) (w7 : List Int) (w9 : List Int) : Option (Bool) :=
  idxE w7 s10 fun x30 =>
  idxE s0 x30 fun x31 =>
  idxE w7 s12 fun x32 =>
  idxE s0 x32 fun x33 =>
  iteE (decide ((x31.bind.length : Int) < (x33.bind.length : Int))) (
   bndE (ref05_Under x31.bind x33.bind) fun r34 =>
   bndE (ref26_Most_b15 s0 s10 s11 s12 r34 w7 w9) fun o35 =>
   some o35) (
   bndE (ref26_Most_b15 s0 s10 s11 s12 false w7 w9) fun o36 =>
   some o36)
noncomputable def ref26_Most_l13_s (s0 : List TRow) (s10 : Int) (w7 : List Int) (w9 : List Int) (s11 : Bool) (s12 : Int) : Option ((Bool × Int) ⊕ (Bool)) :=
  iteE (decide (s12 < (w7.length : Int))) (
   bndE (ref26_Most_b14 s0 s10 s11 s12 w7 w9) fun o37 =>
   some (.inl (o37, (intVal .add .i64 s12 1)))) (
   some (.inr s11))
noncomputable def ref26_Most_l13 (s0 : List TRow) (s10 : Int) (w7 : List Int) (w9 : List Int) (s11 : Bool) (s12 : Int) : Option (Bool) := loopE (fun s : Bool × Int => ref26_Most_l13_s s0 s10 w7 w9 s.1 s.2) (s11, s12)
theorem ref26_Most_l13_eq (s0 : List TRow) (s10 : Int) (w7 : List Int) (w9 : List Int) (s11 : Bool) (s12 : Int) : ref26_Most_l13 s0 s10 w7 w9 s11 s12 = nextE (ref26_Most_l13_s s0 s10 w7 w9 s11 s12) (fun s : Bool × Int => ref26_Most_l13 s0 s10 w7 w9 s.1 s.2) := loopE_eq _ _
noncomputable def ref26_Most_b16 (s0 : List TRow) (s10 : Int) (s83 : Bool) (w7 : List Int) (w9 : List Int) : Option ((List Int)) :=
  iteE (s83) (
   idxE w7 s10 fun x39 =>
   chkE (fit w9.length [x39].length 8) (
    some (w9 ++ [x39]))) (
   some w9)
noncomputable def ref26_Most_b12 (s0 : List TRow) (s10 : Int) (w7 : List Int) (w9 : List Int) : Option ((List Int)) :=
  bndE (ref26_Most_l13 s0 s10 w7 w9 true 0) fun o38 =>
  bndE (ref26_Most_b16 s0 s10 o38 w7 w9) fun o40 =>
  some o40
noncomputable def ref26_Most_l6_s (s0 : List TRow) (w7 : List Int) (s10 : Int) (w9 : List Int) : Option ((Int × List Int) ⊕ ((List Int))) :=
  iteE (decide (s10 < (w7.length : Int))) (
   bndE (ref26_Most_b12 s0 s10 w7 w9) fun o41 =>
   some (.inl ((intVal .add .i64 s10 1), o41))) (
   some (.inr w9))
noncomputable def ref26_Most_l6 (s0 : List TRow) (w7 : List Int) (s10 : Int) (w9 : List Int) : Option ((List Int)) := loopE (fun s : Int × List Int => ref26_Most_l6_s s0 w7 s.1 s.2) (s10, w9)
theorem ref26_Most_l6_eq (s0 : List TRow) (w7 : List Int) (s10 : Int) (w9 : List Int) : ref26_Most_l6 s0 w7 s10 w9 = nextE (ref26_Most_l6_s s0 w7 s10 w9) (fun s : Int × List Int => ref26_Most_l6 s0 w7 s.1 s.2) := loopE_eq _ _
/-- proctorref26.Most -/
noncomputable def ref26_Most (a0 : List TRow) (a1 : List TSlot) (a2 : Bool) : Option (List Int) :=
  bndE (ref26_Most_l1 a0 a1 a2 0 ([] : List Int)) fun o17 =>
  bndE (ref26_Most_l6 a0 o17 0 ([] : List Int)) fun o42 =>
  some o42
noncomputable def ref18_Less_l1_s (w2 : TConfig) (w3 : TConfig) (s5 : Int) : Option ((Int) ⊕ (Unit ⊕ Bool)) :=
  iteE (decide (s5 < (w2.vals.length : Int))) (
   iteE (decide (s5 < (w3.vals.length : Int))) (
    idxE w2.vals s5 fun x1 =>
    idxE w3.vals s5 fun x2 =>
    iteE (!(TValue.eqb x1 x2)) (
     idxE w2.vals s5 fun x3 =>
     idxE w3.vals s5 fun x4 =>
     bndE (ref03_Less x3 x4) fun r5 =>
     some (.inr (.inr r5))) (
     some (.inl (intVal .add .i64 s5 1)))) (
    some (.inr (.inl ())))) (
   some (.inr (.inl ())))
noncomputable def ref18_Less_l1 (w2 : TConfig) (w3 : TConfig) (s5 : Int) : Option (Unit ⊕ Bool) := loopE (fun s : Int => ref18_Less_l1_s w2 w3 s) s5
theorem ref18_Less_l1_eq (w2 : TConfig) (w3 : TConfig) (s5 : Int) : ref18_Less_l1 w2 w3 s5 = nextE (ref18_Less_l1_s w2 w3 s5) (fun s : Int => ref18_Less_l1 w2 w3 s) := loopE_eq _ _
/-- proctorref18.Less -/
noncomputable def ref18_Less (a0 : TConfig) (a1 : TConfig) : Option (Bool) :=
  iteE (!decide (a0.state = a1.state)) (
   some (decide (a0.state < a1.state))) (
   bndE (ref18_Less_l1 a0 a1 0) fun o6 =>
   sumE o6 (fun o7 =>
    some (decide ((a0.vals.length : Int) < (a1.vals.length : Int)))) (fun o8 =>
    some o8))
/-- proctorref18.One -/
noncomputable def ref18_One (a0 : TConfig) (a1 : TConfig) : Option (Bool) :=
  bndE (ref18_Less a0 a1) fun r1 =>
  iteE (!r1) (
   bndE (ref18_Less a1 a0) fun r2 =>
   some (!r2)) (
   some false)
noncomputable def ref18_Same_l1_s (s0 : List TConfig) (s1 : List TConfig) (s5 : Int) : Option ((Int) ⊕ (Unit ⊕ Unit)) :=
  iteE (decide (s5 < (s0.length : Int))) (
   idxE s0 s5 fun x1 =>
   idxE s1 s5 fun x2 =>
   bndE (ref18_One x1 x2) fun r3 =>
   iteE (!r3) (
    some (.inr (.inr ()))) (
    some (.inl (intVal .add .i64 s5 1)))) (
   some (.inr (.inl ())))
noncomputable def ref18_Same_l1 (s0 : List TConfig) (s1 : List TConfig) (s5 : Int) : Option (Unit ⊕ Unit) := loopE (fun s : Int => ref18_Same_l1_s s0 s1 s) s5
theorem ref18_Same_l1_eq (s0 : List TConfig) (s1 : List TConfig) (s5 : Int) : ref18_Same_l1 s0 s1 s5 = nextE (ref18_Same_l1_s s0 s1 s5) (fun s : Int => ref18_Same_l1 s0 s1 s) := loopE_eq _ _
/-- proctorref18.Same -/
noncomputable def ref18_Same (a0 : List TConfig) (a1 : List TConfig) : Option (Bool) :=
  iteE (!decide ((a0.length : Int) = (a1.length : Int))) (
   some false) (
   bndE (ref18_Same_l1 a0 a1 0) fun o4 =>
   sumE o4 (fun o5 =>
    some true) (fun o6 =>
    some false))
noncomputable def ref27_Spare_l1_s (s0 : List TRow) (s1 : Int) (s5 : List Int) (s6 : Int) : Option ((Int) ⊕ (Unit ⊕ Unit)) :=
  iteE (decide (s6 < (s5.length : Int))) (
   idxE s5 s6 fun x3 =>
   idxE s0 x3 fun x4 =>
   idxE s0 s1 fun x5 =>
   bndE (ref18_Same x4.set x5.set) fun r6 =>
   iteE (!r6) (
    some (.inr (.inr ()))) (
    some (.inl (intVal .add .i64 s6 1)))) (
   some (.inr (.inl ())))
noncomputable def ref27_Spare_l1 (s0 : List TRow) (s1 : Int) (s5 : List Int) (s6 : Int) : Option (Unit ⊕ Unit) := loopE (fun s : Int => ref27_Spare_l1_s s0 s1 s5 s) s6
theorem ref27_Spare_l1_eq (s0 : List TRow) (s1 : Int) (s5 : List Int) (s6 : Int) : ref27_Spare_l1 s0 s1 s5 s6 = nextE (ref27_Spare_l1_s s0 s1 s5 s6) (fun s : Int => ref27_Spare_l1 s0 s1 s5 s) := loopE_eq _ _
/-- proctorref27.Spare -/
noncomputable def ref27_Spare (a0 : List TRow) (a1 : Int) : Option (Bool) :=
  idxE a0 a1 fun x1 =>
  bndE (ref26_Most a0 x1.bind true) fun r2 =>
  bndE (ref27_Spare_l1 a0 a1 r2 0) fun o7 =>
  sumE o7 (fun o8 =>
   some (decide (0 < (r2.length : Int)))) (fun o9 =>
   some false)
noncomputable def ref27_All_b3 (s4 : Int) (s18 : Bool) (w3 : List TRow) : Option ((List TRow)) :=
  iteE (s18) (
   chkE ((0 : Int) ≤ 0 ∧ (0 : Int) ≤ s4 ∧ s4 ≤ (w3.length : Int)) (
    chkE (fit ([] : List TRow).length (sub w3 0 s4).length 48) (
     chkE ((0 : Int) ≤ (intVal .add .i64 s4 1) ∧ ((intVal .add .i64 s4 1) : Int) ≤ (w3.length : Int) ∧ (w3.length : Int) ≤ (w3.length : Int)) (
      chkE (fit (([] : List TRow) ++ (sub w3 0 s4)).length (sub w3 (intVal .add .i64 s4 1) (w3.length : Int)).length 48) (
       some ((([] : List TRow) ++ (sub w3 0 s4)) ++ (sub w3 (intVal .add .i64 s4 1) (w3.length : Int)))))))) (
   some w3)
noncomputable def ref27_All_b2 (s4 : Int) (w3 : List TRow) : Option ((List TRow)) :=
  bndE (ref27_Spare w3 s4) fun r1 =>
  bndE (ref27_All_b3 s4 r1 w3) fun o2 =>
  some o2
noncomputable def ref27_All_l1_s (s4 : Int) (w3 : List TRow) : Option ((Int × List TRow) ⊕ ((List TRow))) :=
  iteE (decide (0 ≤ s4)) (
   bndE (ref27_All_b2 s4 w3) fun o3 =>
   some (.inl ((intVal .sub .i64 s4 1), o3))) (
   some (.inr w3))
noncomputable def ref27_All_l1 (s4 : Int) (w3 : List TRow) : Option ((List TRow)) := loopE (fun s : Int × List TRow => ref27_All_l1_s s.1 s.2) (s4, w3)
theorem ref27_All_l1_eq (s4 : Int) (w3 : List TRow) : ref27_All_l1 s4 w3 = nextE (ref27_All_l1_s s4 w3) (fun s : Int × List TRow => ref27_All_l1 s.1 s.2) := loopE_eq _ _
/-- proctorref27.All -/
noncomputable def ref27_All (a0 : List TRow) : Option (List TRow) :=
  chkE (fit ([] : List TRow).length a0.length 48) (
   bndE (ref27_All_l1 (intVal .sub .i64 ((([] : List TRow) ++ a0).length : Int) 1) (([] : List TRow) ++ a0)) fun o4 =>
   some o4)
noncomputable def ref24_Same_l1_s (s0 : List TRow) (s1 : List TRow) (s5 : Int) : Option ((Int) ⊕ (Unit ⊕ Unit)) :=
  iteE (decide (s5 < (s0.length : Int))) (
   idxE s0 s5 fun x1 =>
   idxE s1 s5 fun x2 =>
   bndE (ref05_Same x1.bind x2.bind) fun r3 =>
   iteE (!r3) (
    some (.inr (.inr ()))) (
    idxE s0 s5 fun x4 =>
    idxE s1 s5 fun x5 =>
    bndE (ref18_Same x4.set x5.set) fun r6 =>
    iteE (!r6) (
     some (.inr (.inr ()))) (
     some (.inl (intVal .add .i64 s5 1))))) (
   some (.inr (.inl ())))
noncomputable def ref24_Same_l1 (s0 : List TRow) (s1 : List TRow) (s5 : Int) : Option (Unit ⊕ Unit) := loopE (fun s : Int => ref24_Same_l1_s s0 s1 s) s5
theorem ref24_Same_l1_eq (s0 : List TRow) (s1 : List TRow) (s5 : Int) : ref24_Same_l1 s0 s1 s5 = nextE (ref24_Same_l1_s s0 s1 s5) (fun s : Int => ref24_Same_l1 s0 s1 s) := loopE_eq _ _
/-- proctorref24.Same -/
noncomputable def ref24_Same (a0 : List TRow) (a1 : List TRow) : Option (Bool) :=
  iteE (!decide ((a0.length : Int) = (a1.length : Int))) (
   some false) (
   bndE (ref24_Same_l1 a0 a1 0) fun o7 =>
   sumE o7 (fun o8 =>
    some true) (fun o9 =>
    some false))
/-- prune.Below -/
noncomputable def prune_Below_v2 (a0 : List TRow) (a1 : Int) : Option (List TRow) :=
  iteE (decide (a1 < 0)) (
   some ([] : List TRow)) (
   iteE (decide ((a0.length : Int) ≤ a1)) (
    some ([] : List TRow)) (
    idxE a0 a1 fun x1 =>
    bndE (prune_keep_Row a0 x1.bind) fun r2 =>
    bndE (extend_Greatest r2 x1.bind) fun r3 =>
    some r3))
/-- prune.Spare -/
noncomputable def prune_Spare_v2 (a0 : List TRow) (a1 : Int) : Option (Bool) :=
  bndE (prune_Below_v2 a0 a1) fun r1 =>
  iteE (decide (0 < (r1.length : Int))) (
   idxE a0 a1 fun x2 =>
   bndE (prune_alike_Row r1 x2) fun r3 =>
   some r3) (
   some false)
noncomputable def ref27_Spare_v2_l1_s (s0 : List TRow) (s1 : Int) (s5 : List Int) (s6 : Int) : Option ((Int) ⊕ (Unit ⊕ Unit)) :=
  iteE (decide (s6 < (s5.length : Int))) (
   idxE s5 s6 fun x3 =>
   idxE s0 x3 fun x4 =>
   idxE s0 s1 fun x5 =>
   bndE (ref18_Same x4.set x5.set) fun r6 =>
   iteE (!r6) (
    some (.inr (.inr ()))) (
    some (.inl (intVal .add .i64 s6 1)))) (
   some (.inr (.inl ())))
noncomputable def ref27_Spare_v2_l1 (s0 : List TRow) (s1 : Int) (s5 : List Int) (s6 : Int) : Option (Unit ⊕ Unit) := loopE (fun s : Int => ref27_Spare_v2_l1_s s0 s1 s5 s) s6
theorem ref27_Spare_v2_l1_eq (s0 : List TRow) (s1 : Int) (s5 : List Int) (s6 : Int) : ref27_Spare_v2_l1 s0 s1 s5 s6 = nextE (ref27_Spare_v2_l1_s s0 s1 s5 s6) (fun s : Int => ref27_Spare_v2_l1 s0 s1 s5 s) := loopE_eq _ _
/-- proctorref27.Spare -/
noncomputable def ref27_Spare_v2 (a0 : List TRow) (a1 : Int) : Option (Bool) :=
  idxE a0 a1 fun x1 =>
  bndE (ref26_Most a0 x1.bind true) fun r2 =>
  bndE (ref27_Spare_v2_l1 a0 a1 r2 0) fun o7 =>
  sumE o7 (fun o8 =>
   some (decide (0 < (r2.length : Int)))) (fun o9 =>
   some false)
/-- proctorlaw27.slot -/
noncomputable def law27_slot (a0 : Int) (a1 : Int) : Option (TSlot) :=
  some (TSlot.mk a0 (TValue.mk 1 a1 ([] : List UInt8) false))
/-- proctorlaw27.awake -/
noncomputable def law27_awake : Option (Bool) :=
  bndE (law27_slot 0 5) fun r1 =>
  bndE (law27_slot 0 5) fun r2 =>
  bndE (law27_slot 1 6) fun r3 =>
  bndE (prune_All ([TRow.mk ([] : List TSlot) ([TConfig.mk 0 ([] : List TValue)]), TRow.mk [r1] ([TConfig.mk 0 ([] : List TValue)]), TRow.mk [r2, r3] ([TConfig.mk 0 ([] : List TValue)])])) fun r4 =>
  iteE (decide ((r4.length : Int) = 1)) (
   idxE r4 0 fun x5 =>
   some (decide ((x5.bind.length : Int) = 0))) (
   some false)
noncomputable def law27_PruneAll_l1_s (s1 : Int) (s5 : List TRow) (s6 : Int) : Option ((Int) ⊕ (Unit ⊕ Unit)) :=
  iteE (decide (s6 < (s5.length : Int))) (
   bndE (prune_Spare_v2 s5 s6) fun r5 =>
   bndE (ref27_Spare_v2 s5 s6) fun r6 =>
   iteE (!(r5 == r6)) (
    some (.inr (.inr ()))) (
    some (.inl (intVal .add .i64 s6 1)))) (
   some (.inr (.inl ())))
noncomputable def law27_PruneAll_l1 (s1 : Int) (s5 : List TRow) (s6 : Int) : Option (Unit ⊕ Unit) := loopE (fun s : Int => law27_PruneAll_l1_s s1 s5 s) s6
theorem law27_PruneAll_l1_eq (s1 : Int) (s5 : List TRow) (s6 : Int) : law27_PruneAll_l1 s1 s5 s6 = nextE (law27_PruneAll_l1_s s1 s5 s6) (fun s : Int => law27_PruneAll_l1 s1 s5 s) := loopE_eq _ _
noncomputable def law27_PruneAll_l2_s (s5 : List TRow) (s7 : List TRow) (s8 : List Int) (s9 : Int) : Option ((Int) ⊕ (Unit ⊕ Unit)) :=
  iteE (decide (s9 < (s7.length : Int))) (
   chkE ((0 : Int) ≤ s9 ∧ (s9 : Int) ≤ (intVal .add .i64 s9 1) ∧ (intVal .add .i64 s9 1) ≤ (s7.length : Int)) (
    idxE s8 s9 fun x17 =>
    idxE s8 s9 fun x18 =>
    chkE ((0 : Int) ≤ x17 ∧ (x17 : Int) ≤ (intVal .add .i64 x18 1) ∧ (intVal .add .i64 x18 1) ≤ (s5.length : Int)) (
     bndE (ref24_Same (sub s7 s9 (intVal .add .i64 s9 1)) (sub s5 x17 (intVal .add .i64 x18 1))) fun r19 =>
     iteE (!r19) (
      some (.inr (.inr ()))) (
      some (.inl (intVal .add .i64 s9 1)))))) (
   some (.inr (.inl ())))
noncomputable def law27_PruneAll_l2 (s5 : List TRow) (s7 : List TRow) (s8 : List Int) (s9 : Int) : Option (Unit ⊕ Unit) := loopE (fun s : Int => law27_PruneAll_l2_s s5 s7 s8 s) s9
theorem law27_PruneAll_l2_eq (s5 : List TRow) (s7 : List TRow) (s8 : List Int) (s9 : Int) : law27_PruneAll_l2 s5 s7 s8 s9 = nextE (law27_PruneAll_l2_s s5 s7 s8 s9) (fun s : Int => law27_PruneAll_l2 s5 s7 s8 s) := loopE_eq _ _
/-- proctorlaw27.PruneAll -/
noncomputable def law27_PruneAll (a0 : List Tproctorlaw27_Seed) (a1 : Int) : Option (Bool) :=
  bndE (law27_rows a0) fun r1 =>
  bndE (prune_All r1) fun r2 =>
  bndE (ref27_All r1) fun r3 =>
  bndE (ref24_Same r2 r3) fun r4 =>
  iteE (!r4) (
   some false) (
   bndE (law27_PruneAll_l1 a1 r1 0) fun o7 =>
   sumE o7 (fun o8 =>
    bndE (prune_Below r1 a1) fun r10 =>
    iteE (decide (a1 < 0)) (
     iteE (decide ((r10.length : Int) = 0)) (
      bndE (prune_Spare r1 a1) fun r11 =>
      iteE (!r11) (
       bndE (law27_awake) fun r12 =>
       some r12) (
       some false)) (
      some false)) (
     iteE (decide ((r1.length : Int) ≤ a1)) (
      iteE (decide ((r10.length : Int) = 0)) (
       bndE (prune_Spare r1 a1) fun r13 =>
       iteE (!r13) (
        bndE (law27_awake) fun r14 =>
        some r14) (
        some false)) (
       some false)) (
      idxE r1 a1 fun x15 =>
      bndE (ref26_Most r1 x15.bind true) fun r16 =>
      iteE (!decide ((r10.length : Int) = (r16.length : Int))) (
       some false) (
       bndE (law27_PruneAll_l2 r1 r10 r16 0) fun o20 =>
       sumE o20 (fun o21 =>
        bndE (law27_awake) fun r23 =>
        some r23) (fun o22 =>
        some false))))) (fun o9 =>
    some false))
/-- prune.Agree -/
noncomputable def prune_Agree (a0 : List TRow) (a1 : List TSlot) : Option (Bool) :=
  bndE (extend_Greatest a0 a1) fun r1 =>
  iteE (decide ((r1.length : Int) = 0)) (
   some true) (
   idxE r1 0 fun x2 =>
   bndE (prune_alike_Row r1 x2) fun r3 =>
   some r3)
noncomputable def law27_agree_l1_s (s0 : List TRow) (s5 : List Int) (s6 : Int) : Option ((Int) ⊕ (Unit ⊕ Unit)) :=
  iteE (decide (s6 < (s5.length : Int))) (
   idxE s5 s6 fun x2 =>
   idxE s0 x2 fun x3 =>
   idxE s5 0 fun x4 =>
   idxE s0 x4 fun x5 =>
   bndE (ref18_Same x3.set x5.set) fun r6 =>
   iteE (!r6) (
    some (.inr (.inr ()))) (
    some (.inl (intVal .add .i64 s6 1)))) (
   some (.inr (.inl ())))
noncomputable def law27_agree_l1 (s0 : List TRow) (s5 : List Int) (s6 : Int) : Option (Unit ⊕ Unit) := loopE (fun s : Int => law27_agree_l1_s s0 s5 s) s6
theorem law27_agree_l1_eq (s0 : List TRow) (s5 : List Int) (s6 : Int) : law27_agree_l1 s0 s5 s6 = nextE (law27_agree_l1_s s0 s5 s6) (fun s : Int => law27_agree_l1 s0 s5 s) := loopE_eq _ _
/-- proctorlaw27.agree -/
noncomputable def law27_agree (a0 : List TRow) (a1 : List TSlot) : Option (Bool) :=
  bndE (ref26_Most a0 a1 false) fun r1 =>
  bndE (law27_agree_l1 a0 r1 1) fun o7 =>
  sumE o7 (fun o8 =>
   some true) (fun o9 =>
   some false)
noncomputable def law27_all_v2_l5_s (self : (List TRow) → (List TSlot) → Int → Option Bool) (s0 : List TRow) (s1 : List TSlot) (s2 : Int) (s8 : Int) (s10 : Bool) (w7 : List TValue) (w9 : TValue) (s11 : Bool) (s12 : Int) : Option ((Bool × Int) ⊕ (Bool)) :=
  iteE (decide (s12 < (w7.length : Int))) (
   iteE (s11) (
    some (.inl (true, (intVal .add .i64 s12 1)))) (
    idxE w7 s12 fun x13 =>
    some (.inl ((TValue.eqb x13 w9), (intVal .add .i64 s12 1))))) (
   some (.inr s11))
noncomputable def law27_all_v2_l5 (self : (List TRow) → (List TSlot) → Int → Option Bool) (s0 : List TRow) (s1 : List TSlot) (s2 : Int) (s8 : Int) (s10 : Bool) (w7 : List TValue) (w9 : TValue) (s11 : Bool) (s12 : Int) : Option (Bool) := loopE (fun s : Bool × Int => law27_all_v2_l5_s self s0 s1 s2 s8 s10 w7 w9 s.1 s.2) (s11, s12)
theorem law27_all_v2_l5_eq (self : (List TRow) → (List TSlot) → Int → Option Bool) (s0 : List TRow) (s1 : List TSlot) (s2 : Int) (s8 : Int) (s10 : Bool) (w7 : List TValue) (w9 : TValue) (s11 : Bool) (s12 : Int) : law27_all_v2_l5 self s0 s1 s2 s8 s10 w7 w9 s11 s12 = nextE (law27_all_v2_l5_s self s0 s1 s2 s8 s10 w7 w9 s11 s12) (fun s : Bool × Int => law27_all_v2_l5 self s0 s1 s2 s8 s10 w7 w9 s.1 s.2) := loopE_eq _ _
noncomputable def law27_all_v2_b4 (self : (List TRow) → (List TSlot) → Int → Option Bool) (s0 : List TRow) (s1 : List TSlot) (s2 : Int) (s8 : Int) (w7 : List TValue) : Option ((List TValue) ⊕ Unit) :=
  idxE s0 s8 fun x11 =>
  bndE (ref05_Get x11.bind s2) fun r12 =>
  bndE (law27_all_v2_l5 self s0 s1 s2 s8 r12.2 w7 r12.1 false 0) fun o14 =>
  iteE (!r12.2) (
   some (.inl w7)) (
   iteE (o14) (
    some (.inl w7)) (
    chkE (fit w7.length [r12.1].length 40) (
     chkE (fit ([] : List TSlot).length s1.length 48) (
      chkE (fit (([] : List TSlot) ++ s1).length [TSlot.mk s2 r12.1].length 48) (
       bndE (self s0 ((([] : List TSlot) ++ s1) ++ [TSlot.mk s2 r12.1]) (intVal .add .i64 s2 1)) fun r15 =>
       iteE (!r15) (
        some (.inr ())) (
        some (.inl (w7 ++ [r12.1]))))))))
noncomputable def law27_all_v2_l1_s (self : (List TRow) → (List TSlot) → Int → Option Bool) (s0 : List TRow) (s1 : List TSlot) (s2 : Int) (s8 : Int) (w7 : List TValue) : Option ((Int × List TValue) ⊕ (Unit ⊕ Unit)) :=
  iteE (decide (s8 < (s0.length : Int))) (
   bndE (law27_all_v2_b4 self s0 s1 s2 s8 w7) fun o16 =>
   sumE o16 (fun o17 =>
    some (.inl ((intVal .add .i64 s8 1), o17))) (fun o18 =>
    some (.inr (.inr ())))) (
   some (.inr (.inl ())))
noncomputable def law27_all_v2_l1 (self : (List TRow) → (List TSlot) → Int → Option Bool) (s0 : List TRow) (s1 : List TSlot) (s2 : Int) (s8 : Int) (w7 : List TValue) : Option (Unit ⊕ Unit) := loopE (fun s : Int × List TValue => law27_all_v2_l1_s self s0 s1 s2 s.1 s.2) (s8, w7)
theorem law27_all_v2_l1_eq (self : (List TRow) → (List TSlot) → Int → Option Bool) (s0 : List TRow) (s1 : List TSlot) (s2 : Int) (s8 : Int) (w7 : List TValue) : law27_all_v2_l1 self s0 s1 s2 s8 w7 = nextE (law27_all_v2_l1_s self s0 s1 s2 s8 w7) (fun s : Int × List TValue => law27_all_v2_l1 self s0 s1 s2 s.1 s.2) := loopE_eq _ _
noncomputable def law27_all_v2_F (self : (List TRow) → (List TSlot) → Int → Option Bool) (a0 : List TRow) (a1 : List TSlot) (a2 : Int) : Option (Bool) :=
  iteE (decide (3 < a2)) (
   bndE (law27_agree a0 a1) fun r1 =>
   some r1) (
   bndE (self a0 a1 (intVal .add .i64 a2 1)) fun r2 =>
   iteE (!r2) (
    some false) (
    bndE (law27_all_v2_l1 self a0 a1 a2 0 ([] : List TValue)) fun o19 =>
    sumE o19 (fun o20 =>
     some true) (fun o21 =>
     some false)))
noncomputable def law27_all_v2_n : Nat → (List TRow) → (List TSlot) → Int → Option Bool
  | 0 => fun _ _ _  => none
  | n + 1 => fun a0 a1 a2 => law27_all_v2_F (law27_all_v2_n n) a0 a1 a2
/-- proctorlaw27.all -/
noncomputable def law27_all_v2 (a0 : List TRow) (a1 : List TSlot) (a2 : Int) : Option (Bool) := law27_all_v2_n 100000 a0 a1 a2
noncomputable def ref05_Get_v2_l1_s (s0 : List TSlot) (s1 : Int) (w4 : TValue) (s6 : Int) : Option ((Int) ⊕ (Unit ⊕ TValue)) :=
  iteE (decide (s6 < (s0.length : Int))) (
   idxE s0 s6 fun x1 =>
   iteE (decide (x1.var = s1)) (
    idxE s0 s6 fun x2 =>
    some (.inr (.inr x2.value))) (
    some (.inl (intVal .add .i64 s6 1)))) (
   some (.inr (.inl ())))
noncomputable def ref05_Get_v2_l1 (s0 : List TSlot) (s1 : Int) (w4 : TValue) (s6 : Int) : Option (Unit ⊕ TValue) := loopE (fun s : Int => ref05_Get_v2_l1_s s0 s1 w4 s) s6
theorem ref05_Get_v2_l1_eq (s0 : List TSlot) (s1 : Int) (w4 : TValue) (s6 : Int) : ref05_Get_v2_l1 s0 s1 w4 s6 = nextE (ref05_Get_v2_l1_s s0 s1 w4 s6) (fun s : Int => ref05_Get_v2_l1 s0 s1 w4 s) := loopE_eq _ _
/-- proctorref05.Get -/
noncomputable def ref05_Get_v2 (a0 : List TSlot) (a1 : Int) : Option (TValue × Bool) :=
  bndE (ref05_Get_v2_l1 a0 a1 (TValue.mk 0 0 ([] : List UInt8) false) 0) fun o3 =>
  sumE o3 (fun o4 =>
   some (TValue.mk 0 0 ([] : List UInt8) false, false)) (fun o5 =>
   some (o5, true))
noncomputable def law27_all_l5_s (s0 : List TRow) (s1 : List TSlot) (s2 : Int) (s8 : Int) (s10 : Bool) (w7 : List TValue) (w9 : TValue) (s11 : Bool) (s12 : Int) : Option ((Bool × Int) ⊕ (Bool)) :=
  iteE (decide (s12 < (w7.length : Int))) (
   iteE (s11) (
    some (.inl (true, (intVal .add .i64 s12 1)))) (
    idxE w7 s12 fun x13 =>
    some (.inl ((TValue.eqb x13 w9), (intVal .add .i64 s12 1))))) (
   some (.inr s11))
noncomputable def law27_all_l5 (s0 : List TRow) (s1 : List TSlot) (s2 : Int) (s8 : Int) (s10 : Bool) (w7 : List TValue) (w9 : TValue) (s11 : Bool) (s12 : Int) : Option (Bool) := loopE (fun s : Bool × Int => law27_all_l5_s s0 s1 s2 s8 s10 w7 w9 s.1 s.2) (s11, s12)
theorem law27_all_l5_eq (s0 : List TRow) (s1 : List TSlot) (s2 : Int) (s8 : Int) (s10 : Bool) (w7 : List TValue) (w9 : TValue) (s11 : Bool) (s12 : Int) : law27_all_l5 s0 s1 s2 s8 s10 w7 w9 s11 s12 = nextE (law27_all_l5_s s0 s1 s2 s8 s10 w7 w9 s11 s12) (fun s : Bool × Int => law27_all_l5 s0 s1 s2 s8 s10 w7 w9 s.1 s.2) := loopE_eq _ _
noncomputable def law27_all_b4 (s0 : List TRow) (s1 : List TSlot) (s2 : Int) (s8 : Int) (w7 : List TValue) : Option ((List TValue) ⊕ Unit) :=
  idxE s0 s8 fun x11 =>
  bndE (ref05_Get_v2 x11.bind s2) fun r12 =>
  bndE (law27_all_l5 s0 s1 s2 s8 r12.2 w7 r12.1 false 0) fun o14 =>
  iteE (!r12.2) (
   some (.inl w7)) (
   iteE (o14) (
    some (.inl w7)) (
    chkE (fit w7.length [r12.1].length 40) (
     chkE (fit ([] : List TSlot).length s1.length 48) (
      chkE (fit (([] : List TSlot) ++ s1).length [TSlot.mk s2 r12.1].length 48) (
       bndE (law27_all_v2 s0 ((([] : List TSlot) ++ s1) ++ [TSlot.mk s2 r12.1]) (intVal .add .i64 s2 1)) fun r15 =>
       iteE (!r15) (
        some (.inr ())) (
        some (.inl (w7 ++ [r12.1]))))))))
noncomputable def law27_all_l1_s (s0 : List TRow) (s1 : List TSlot) (s2 : Int) (s8 : Int) (w7 : List TValue) : Option ((Int × List TValue) ⊕ (Unit ⊕ Unit)) :=
  iteE (decide (s8 < (s0.length : Int))) (
   bndE (law27_all_b4 s0 s1 s2 s8 w7) fun o16 =>
   sumE o16 (fun o17 =>
    some (.inl ((intVal .add .i64 s8 1), o17))) (fun o18 =>
    some (.inr (.inr ())))) (
   some (.inr (.inl ())))
noncomputable def law27_all_l1 (s0 : List TRow) (s1 : List TSlot) (s2 : Int) (s8 : Int) (w7 : List TValue) : Option (Unit ⊕ Unit) := loopE (fun s : Int × List TValue => law27_all_l1_s s0 s1 s2 s.1 s.2) (s8, w7)
theorem law27_all_l1_eq (s0 : List TRow) (s1 : List TSlot) (s2 : Int) (s8 : Int) (w7 : List TValue) : law27_all_l1 s0 s1 s2 s8 w7 = nextE (law27_all_l1_s s0 s1 s2 s8 w7) (fun s : Int × List TValue => law27_all_l1 s0 s1 s2 s.1 s.2) := loopE_eq _ _
/-- proctorlaw27.all -/
noncomputable def law27_all (a0 : List TRow) (a1 : List TSlot) (a2 : Int) : Option (Bool) :=
  iteE (decide (3 < a2)) (
   bndE (law27_agree a0 a1) fun r1 =>
   some r1) (
   bndE (law27_all_v2 a0 a1 (intVal .add .i64 a2 1)) fun r2 =>
   iteE (!r2) (
    some false) (
    bndE (law27_all_l1 a0 a1 a2 0 ([] : List TValue)) fun o19 =>
    sumE o19 (fun o20 =>
     some true) (fun o21 =>
     some false)))
/-- proctorref26.Copy -/
noncomputable def ref26_Copy (a0 : List TRow) (a1 : List TSlot) : Option (List TConfig × Bool) :=
  bndE (ref26_Most a0 a1 false) fun r1 =>
  iteE (decide ((r1.length : Int) = 0)) (
   some (([] : List TConfig), false)) (
   idxE r1 0 fun x2 =>
   idxE a0 x2 fun x3 =>
   some (x3.set, true))
noncomputable def law27_PruneKeeps_l1_s (s1 : List TSlot) (s5 : List TRow) (s6 : Int) : Option ((Int) ⊕ (Unit ⊕ Bool)) :=
  iteE (decide (s6 < (s5.length : Int))) (
   idxE s5 s6 fun x6 =>
   iteE (decide (0 < (x6.bind.length : Int))) (
    idxE s5 s6 fun x7 =>
    idxE s5 s6 fun x8 =>
    idxE x7.bind (intVal .sub .i64 (x8.bind.length : Int) 1) fun x9 =>
    iteE (decide (3 < x9.var)) (
     bndE (law27_awake) fun r10 =>
     some (.inr (.inr r10))) (
     some (.inl (intVal .add .i64 s6 1)))) (
    some (.inl (intVal .add .i64 s6 1)))) (
   some (.inr (.inl ())))
noncomputable def law27_PruneKeeps_l1 (s1 : List TSlot) (s5 : List TRow) (s6 : Int) : Option (Unit ⊕ Bool) := loopE (fun s : Int => law27_PruneKeeps_l1_s s1 s5 s) s6
theorem law27_PruneKeeps_l1_eq (s1 : List TSlot) (s5 : List TRow) (s6 : Int) : law27_PruneKeeps_l1 s1 s5 s6 = nextE (law27_PruneKeeps_l1_s s1 s5 s6) (fun s : Int => law27_PruneKeeps_l1 s1 s5 s) := loopE_eq _ _
/-- proctorlaw27.PruneKeeps -/
noncomputable def law27_PruneKeeps (a0 : List Tproctorlaw27_Seed) (a1 : List TSlot) : Option (Bool) :=
  iteE (decide (6 < (a0.length : Int))) (
   bndE (law27_awake) fun r1 =>
   some r1) (
   iteE (decide (8 < (a1.length : Int))) (
    bndE (law27_awake) fun r2 =>
    some r2) (
    bndE (ref05_Right a1) fun r3 =>
    iteE (!r3) (
     bndE (law27_awake) fun r4 =>
     some r4) (
     bndE (law27_rows a0) fun r5 =>
     bndE (law27_PruneKeeps_l1 a1 r5 0) fun o11 =>
     sumE o11 (fun o12 =>
      bndE (prune_Agree r5 a1) fun r14 =>
      bndE (law27_agree r5 a1) fun r15 =>
      iteE (!(r14 == r15)) (
       some false) (
       bndE (law27_all r5 ([] : List TSlot) 0) fun r16 =>
       iteE (!r16) (
        bndE (law27_awake) fun r17 =>
        some r17) (
        bndE (prune_All r5) fun r18 =>
        bndE (ref26_Copy r5 a1) fun r19 =>
        bndE (ref26_Copy r18 a1) fun r20 =>
        iteE ((r19.2 == r20.2)) (
         bndE (ref18_Same r19.1 r20.1) fun r21 =>
         iteE (r21) (
          bndE (prune_Agree r18 a1) fun r22 =>
          iteE (r22) (
           bndE (law27_awake) fun r23 =>
           some r23) (
           some false)) (
          some false)) (
         some false)))) (fun o13 =>
      some o13))))
end Go.Ac
