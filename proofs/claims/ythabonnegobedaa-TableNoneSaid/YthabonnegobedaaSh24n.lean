/- Own work, printed: the functions as Lean functions. -/
import Derived.Test.YthabonnegobedaaAc22
import Derived.Test.YthabonnegobedaaAc20b
import Derived.Test.YthabonnegobedaaAc20f
import Derived.Test.YthabonnegobedaaAc28
import Derived.Test.YthabonnegobedaaAc32
set_option linter.unusedVariables false
set_option linter.unusedSimpArgs false
set_option linter.unusedVariables false
set_option linter.unusedSimpArgs false
namespace Go.Ac
structure TValue where
  kind : Int
  int : Int
  str : List UInt8
  bool : Bool
def TValue.D (v : TValue) : D := .agg ([(D.i .i64) v.kind] ++ [(D.i .i64) v.int] ++ [D.s v.str] ++ [D.b v.bool])
instance : HasNc TValue.D 4 := ⟨fun _ => rfl⟩
def TValue.eqb (a b : TValue) : Bool := (decide (a.kind = b.kind) && (decide (a.int = b.int) && (decide (a.str = b.str) && ((a.bool == b.bool) && true))))
theorem TValue.eqb_iff (a b : TValue) : TValue.eqb a b = true ↔ a = b := by
  cases a; cases b; simp [TValue.eqb]
instance : DecidableEq TValue := fun a b => decidable_of_iff (TValue.eqb a b = true) (TValue.eqb_iff a b)
structure TSlot where
  var : Int
  value : TValue
def TSlot.D (v : TSlot) : D := .agg ([(D.i .i64) v.var] ++ (TValue.D v.value).cells)
instance : HasNc TSlot.D 5 := ⟨fun _ => rfl⟩
def TSlot.eqb (a b : TSlot) : Bool := (decide (a.var = b.var) && (TValue.eqb a.value b.value && true))
theorem TSlot.eqb_iff (a b : TSlot) : TSlot.eqb a b = true ↔ a = b := by
  cases a; cases b; simp [TSlot.eqb, TValue.eqb_iff]
instance : DecidableEq TSlot := fun a b => decidable_of_iff (TSlot.eqb a b = true) (TSlot.eqb_iff a b)
structure Tproctorlaw24_Act where
  kind : Int
  iD : Int
  bind : List TSlot
  state : Int
  deriving DecidableEq
def Tproctorlaw24_Act.D (v : Tproctorlaw24_Act) : D := .agg ([(D.i .i64) v.kind] ++ [(D.i .i64) v.iD] ++ [(D.l TSlot.D) v.bind] ++ [(D.i .i64) v.state])
instance : HasNc Tproctorlaw24_Act.D 4 := ⟨fun _ => rfl⟩
structure TConfig where
  state : Int
  vals : List TValue
  deriving DecidableEq
def TConfig.D (v : TConfig) : D := .agg ([(D.i .i64) v.state] ++ [(D.l TValue.D) v.vals])
instance : HasNc TConfig.D 2 := ⟨fun _ => rfl⟩
structure TRow where
  bind : List TSlot
  set : List TConfig
  deriving DecidableEq
def TRow.D (v : TRow) : D := .agg ([(D.l TSlot.D) v.bind] ++ [(D.l TConfig.D) v.set])
instance : HasNc TRow.D 2 := ⟨fun _ => rfl⟩
noncomputable def ref03_Right (a0 : TValue) : Option (Bool) :=
  iteE (decide (a0.kind = 1)) (
   iteE (decide (a0.str = ([] : List UInt8))) (
    some (!a0.bool)) (
    some false)) (
   iteE (decide (a0.kind = 2)) (
    iteE (decide (a0.int = 0)) (
     iteE (!a0.bool) (
      some (decide ((a0.str.length : Int) ≤ 4096))) (
      some false)) (
     some false)) (
    iteE (decide (a0.kind = 3)) (
     iteE (decide (a0.int = 0)) (
      some (decide (a0.str = ([] : List UInt8)))) (
      some false)) (
     some false)))
noncomputable def ref05_Right_l1_s (s0 : List TSlot) (s3 : Int) : Option ((Int) ⊕ (Unit ⊕ Unit)) :=
  iteE (decide (s3 < (s0.length : Int))) (
   idxE s0 s3 fun x1 =>
   iteE (decide (x1.var < 0)) (
    some (.inr (.inr ()))) (
    idxE s0 s3 fun x2 =>
    iteE (decide (7 < x2.var)) (
     some (.inr (.inr ()))) (
     idxE s0 s3 fun x3 =>
     bndE (ref03_Right x3.value) fun r4 =>
     iteE (!r4) (
      some (.inr (.inr ()))) (
      iteE (decide (0 < s3)) (
       idxE s0 s3 fun x5 =>
       idxE s0 (intVal .sub .i64 s3 1) fun x6 =>
       iteE (decide (x5.var ≤ x6.var)) (
        some (.inr (.inr ()))) (
        some (.inl (intVal .add .i64 s3 1)))) (
       some (.inl (intVal .add .i64 s3 1))))))) (
   some (.inr (.inl ())))
noncomputable def ref05_Right_l1 (s0 : List TSlot) (s3 : Int) : Option (Unit ⊕ Unit) := loopE (fun s : Int => ref05_Right_l1_s s0 s) s3
theorem ref05_Right_l1_eq (s0 : List TSlot) (s3 : Int) : ref05_Right_l1 s0 s3 = nextE (ref05_Right_l1_s s0 s3) (fun s : Int => ref05_Right_l1 s0 s) := loopE_eq _ _
noncomputable def ref05_Right (a0 : List TSlot) : Option (Bool) :=
  bndE (ref05_Right_l1 a0 0) fun o7 =>
  sumE o7 (fun o8 =>
   some true) (fun o9 =>
   some false)
noncomputable def law24_few_l2_s (s0 : List Tproctorlaw24_Act) (s3 : Int) (s4 : Int) : Option ((Int) ⊕ (Unit ⊕ Unit)) :=
  idxE s0 s3 fun x6 =>
  iteE (decide (s4 < (x6.bind.length : Int))) (
   idxE s0 s3 fun x7 =>
   idxE x7.bind s4 fun x8 =>
   iteE (decide (100 < (x8.value.str.length : Int))) (
    some (.inr (.inr ()))) (
    some (.inl (intVal .add .i64 s4 1)))) (
   some (.inr (.inl ())))
noncomputable def law24_few_l2 (s0 : List Tproctorlaw24_Act) (s3 : Int) (s4 : Int) : Option (Unit ⊕ Unit) := loopE (fun s : Int => law24_few_l2_s s0 s3 s) s4
theorem law24_few_l2_eq (s0 : List Tproctorlaw24_Act) (s3 : Int) (s4 : Int) : law24_few_l2 s0 s3 s4 = nextE (law24_few_l2_s s0 s3 s4) (fun s : Int => law24_few_l2 s0 s3 s) := loopE_eq _ _
noncomputable def law24_few_l1_s (s0 : List Tproctorlaw24_Act) (s3 : Int) : Option ((Int) ⊕ (Unit ⊕ Unit)) :=
  iteE (decide (s3 < (s0.length : Int))) (
   idxE s0 s3 fun x1 =>
   iteE (decide (8 < (x1.bind.length : Int))) (
    some (.inr (.inr ()))) (
    idxE s0 s3 fun x2 =>
    bndE (ref05_Right x2.bind) fun r3 =>
    iteE (!r3) (
     some (.inr (.inr ()))) (
     idxE s0 s3 fun x4 =>
     iteE (decide (x4.state < 0)) (
      some (.inr (.inr ()))) (
      idxE s0 s3 fun x5 =>
      iteE (decide (31 < x5.state)) (
       some (.inr (.inr ()))) (
       bndE (law24_few_l2 s0 s3 0) fun o9 =>
       sumE o9 (fun o10 =>
        some (.inl (intVal .add .i64 s3 1))) (fun o11 =>
        some (.inr (.inr ())))))))) (
   some (.inr (.inl ())))
noncomputable def law24_few_l1 (s0 : List Tproctorlaw24_Act) (s3 : Int) : Option (Unit ⊕ Unit) := loopE (fun s : Int => law24_few_l1_s s0 s) s3
theorem law24_few_l1_eq (s0 : List Tproctorlaw24_Act) (s3 : Int) : law24_few_l1 s0 s3 = nextE (law24_few_l1_s s0 s3) (fun s : Int => law24_few_l1 s0 s) := loopE_eq _ _
noncomputable def law24_few (a0 : List Tproctorlaw24_Act) : Option (Bool) :=
  iteE (decide (60 < (a0.length : Int))) (
   some false) (
   bndE (law24_few_l1 a0 0) fun o12 =>
   sumE o12 (fun o13 =>
    some true) (fun o14 =>
    some false))
noncomputable def table_New_v2 (a0 : Int) : Option (Int × Int × MP Int TRow × MP (List UInt8) Int) :=
  some ((minE (maxE a0 1) 4096), 0, (mnewE : MP Int TRow), (mnewE : MP (List UInt8) Int))
noncomputable def value_Int (a0 : Int) : Option (TValue) :=
  some (TValue.mk 1 a0 ([] : List UInt8) false)
noncomputable def value_Str (a0 : List UInt8) : Option (TValue) :=
  some (TValue.mk 2 0 a0 false)
noncomputable def value_Bool (a0 : Bool) : Option (TValue) :=
  some (TValue.mk 3 0 ([] : List UInt8) a0)
noncomputable def value_Right (a0 : TValue) : Option (Bool) :=
  iteE (decide (a0.kind = 1)) (
   bndE (value_Int a0.int) fun r1 =>
   some (TValue.eqb a0 r1)) (
   iteE (decide (a0.kind = 2)) (
    bndE (value_Str a0.str) fun r2 =>
    iteE ((TValue.eqb a0 r2)) (
     some (decide ((a0.str.length : Int) ≤ 4096))) (
     some false)) (
    iteE (decide (a0.kind = 3)) (
     bndE (value_Bool a0.bool) fun r3 =>
     some (TValue.eqb a0 r3)) (
     some false)))
noncomputable def key_number_l1_s (s3 : Int) (s10 : Int) (w4 : List UInt8) : Option ((Int × List UInt8) ⊕ ((List UInt8))) :=
  iteE (decide (s10 < 8)) (
   chkE (0 ≤ (intVal .mul .i64 8 (intVal .sub .i64 7 s10))) (
    chkE (0 ≤ s10 ∧ s10 + 1 ≤ 8) (
     chkE (0 ≤ s10 ∧ s10 + 1 ≤ (w4.length : Int)) (
      some (.inl ((intVal .add .i64 s10 1), w4.set s10.toNat (u8w (intVal .shr .u64 s3 (intVal .mul .i64 8 (intVal .sub .i64 7 s10)))))))))) (
   some (.inr w4))
noncomputable def key_number_l1 (s3 : Int) (s10 : Int) (w4 : List UInt8) : Option ((List UInt8)) := loopE (fun s : Int × List UInt8 => key_number_l1_s s3 s.1 s.2) (s10, w4)
theorem key_number_l1_eq (s3 : Int) (s10 : Int) (w4 : List UInt8) : key_number_l1 s3 s10 w4 = nextE (key_number_l1_s s3 s10 w4) (fun s : Int × List UInt8 => key_number_l1 s3 s.1 s.2) := loopE_eq _ _
noncomputable def key_number (a0 : Int) : Option (List UInt8) :=
  bndE (key_number_l1 (intVal .xor .u64 (IntKind.wrap .u64 a0) 9223372036854775808) 0 (List.replicate 8 (0 : UInt8))) fun o1 =>
  chkE (0 ≤ (8 : Int) ∧ fit 0 (8 : Int).toNat 1) (
   chkE (o1.length = 8) (
    some (o1.take (List.replicate (8 : Int).toNat (0 : UInt8)).length ++ (List.replicate (8 : Int).toNat (0 : UInt8)).drop o1.length)))
noncomputable def key_text_b3 (s0 : List UInt8) (s6 : Int) (s7 : Int) (s19 : Bool) (w3 : List UInt8) : Option ((List UInt8)) :=
  iteE (s19) (
   chkE (fit w3.length [(255 : UInt8)].length 1) (
    some (w3 ++ [(255 : UInt8)]))) (
   some w3)
noncomputable def key_text_b4 (s0 : List UInt8) (s6 : Int) (s7 : Int) (w3 : List UInt8) : Option ((List UInt8)) :=
  idxE s0 s7 fun x5 =>
  chkE (fit w3.length [x5].length 1) (
   idxE s0 s7 fun x6 =>
   bndE (key_text_b3 s0 s6 s7 (decide ((x6.toNat : Int) = ((0 : UInt8).toNat : Int))) (w3 ++ [x5])) fun o7 =>
   some o7)
noncomputable def key_text_l1_s (s0 : List UInt8) (s6 : Int) (s7 : Int) (w3 : List UInt8) : Option ((Int × List UInt8) ⊕ ((List UInt8))) :=
  iteE (decide (s7 < s6)) (
   bndE (key_text_b4 s0 s6 s7 w3) fun o8 =>
   some (.inl ((intVal .add .i64 s7 1), o8))) (
   some (.inr w3))
noncomputable def key_text_l1 (s0 : List UInt8) (s6 : Int) (s7 : Int) (w3 : List UInt8) : Option ((List UInt8)) := loopE (fun s : Int × List UInt8 => key_text_l1_s s0 s6 s.1 s.2) (s7, w3)
theorem key_text_l1_eq (s0 : List UInt8) (s6 : Int) (s7 : Int) (w3 : List UInt8) : key_text_l1 s0 s6 s7 w3 = nextE (key_text_l1_s s0 s6 s7 w3) (fun s : Int × List UInt8 => key_text_l1 s0 s6 s.1 s.2) := loopE_eq _ _
noncomputable def key_text (a0 : List UInt8) : Option (List UInt8) :=
  bndE (key_text_l1 a0 (a0.length : Int) 0 ([] : List UInt8)) fun o9 =>
  chkE (fit o9.length [(0 : UInt8), (1 : UInt8)].length 1) (
   some (o9 ++ [(0 : UInt8), (1 : UInt8)]))
noncomputable def key_one (a0 : TValue) : Option (List UInt8) :=
  iteE (decide (a0.kind = 1)) (
   bndE (key_number a0.int) fun r1 =>
   chkE (fit [u8w a0.kind].length r1.length 1) (
    some ([u8w a0.kind] ++ r1))) (
   iteE (decide (a0.kind = 2)) (
    bndE (key_text a0.str) fun r2 =>
    chkE (fit [u8w a0.kind].length r2.length 1) (
     some ([u8w a0.kind] ++ r2))) (
    iteE (a0.bool) (
     chkE (fit [u8w a0.kind].length [(1 : UInt8)].length 1) (
      some ([u8w a0.kind] ++ [(1 : UInt8)]))) (
     chkE (fit [u8w a0.kind].length [(0 : UInt8)].length 1) (
      some ([u8w a0.kind] ++ [(0 : UInt8)])))))
noncomputable def key_Of_l1_s (s6 : List TValue) (s7 : Int) (s8 : Int) (w3 : List UInt8) : Option ((Int × List UInt8) ⊕ ((List UInt8) ⊕ Unit)) :=
  iteE (decide (s8 < s7)) (
   idxE s6 s8 fun x4 =>
   bndE (value_Right x4) fun r5 =>
   iteE (!r5) (
    some (.inr (.inr ()))) (
    bndE (key_one x4) fun r6 =>
    chkE (fit w3.length r6.length 1) (
     some (.inl ((intVal .add .i64 s8 1), w3 ++ r6))))) (
   some (.inr (.inl w3)))
noncomputable def key_Of_l1 (s6 : List TValue) (s7 : Int) (s8 : Int) (w3 : List UInt8) : Option ((List UInt8) ⊕ Unit) := loopE (fun s : Int × List UInt8 => key_Of_l1_s s6 s7 s.1 s.2) (s8, w3)
theorem key_Of_l1_eq (s6 : List TValue) (s7 : Int) (s8 : Int) (w3 : List UInt8) : key_Of_l1 s6 s7 s8 w3 = nextE (key_Of_l1_s s6 s7 s8 w3) (fun s : Int × List UInt8 => key_Of_l1 s6 s7 s.1 s.2) := loopE_eq _ _
noncomputable def key_Of (a0 : List TValue) : Option (List UInt8) :=
  bndE (key_Of_l1 a0 (a0.length : Int) 0 ([] : List UInt8)) fun o7 =>
  sumE o7 (fun o8 =>
   some o8) (fun o9 =>
   some ([] : List UInt8))
noncomputable def binding_Key_l1_s (s6 : List TSlot) (s7 : Int) (s8 : Int) (w3 : List UInt8) : Option ((Int × List UInt8) ⊕ ((List UInt8))) :=
  iteE (decide (s8 < s7)) (
   idxE s6 s8 fun x3 =>
   chkE (fit w3.length [u8w (intVal .add .i64 x3.var 16)].length 1) (
    bndE (key_Of [x3.value]) fun r4 =>
    chkE (fit (w3 ++ [u8w (intVal .add .i64 x3.var 16)]).length r4.length 1) (
     some (.inl ((intVal .add .i64 s8 1), (w3 ++ [u8w (intVal .add .i64 x3.var 16)]) ++ r4))))) (
   some (.inr w3))
noncomputable def binding_Key_l1 (s6 : List TSlot) (s7 : Int) (s8 : Int) (w3 : List UInt8) : Option ((List UInt8)) := loopE (fun s : Int × List UInt8 => binding_Key_l1_s s6 s7 s.1 s.2) (s8, w3)
theorem binding_Key_l1_eq (s6 : List TSlot) (s7 : Int) (s8 : Int) (w3 : List UInt8) : binding_Key_l1 s6 s7 s8 w3 = nextE (binding_Key_l1_s s6 s7 s8 w3) (fun s : Int × List UInt8 => binding_Key_l1 s6 s7 s.1 s.2) := loopE_eq _ _
noncomputable def binding_Key (a0 : List TSlot) : Option (List UInt8) :=
  bndE (binding_Key_l1 a0 (a0.length : Int) 0 ([] : List UInt8)) fun o5 =>
  some o5
def slices_Clone_Slot_Slot (l : List TSlot) : Option (List TSlot) := cloneE 48 l
def slices_Clone_Config_Config (l : List TConfig) : Option (List TConfig) := cloneE 32 l
noncomputable def table_copied (a0 : List TSlot) (a1 : List TConfig) : Option (TRow) :=
  bndE (slices_Clone_Slot_Slot a0) fun r1 =>
  bndE (slices_Clone_Config_Config a1) fun r2 =>
  some (TRow.mk r1 r2)
noncomputable def table_Table_Put_v2 (a1 : List TSlot) (a2 : List TConfig) (w0_1 : Int) (w0_2 : Int) (w1 : MP Int TRow) (w2 : MP (List UInt8) Int) : Option (Int × Int × Int × Int × MP Int TRow × MP (List UInt8) Int) :=
  bndE (binding_Key a1) fun r1 =>
  iteE ((mgetE 0 w2 r1).2) (
   some (0, 10, w0_1, w0_2, w1, w2)) (
   chkE ((w1.es.length : Int) ≤ 4611686018427387904) (
    iteE (decide ((w1.es.length : Int) = w0_1)) (
     some (0, 19, w0_1, w0_2, w1, w2)) (
     bndE (table_copied a1 a2) fun r2 =>
     chkE (mesE (TRow.mk ([] : List TSlot) ([] : List TConfig)) w1 (intVal .add .i64 w0_2 1) ≤ 4611686018427387904) (
      chkE (mhasE (mentE (TRow.mk ([] : List TSlot) ([] : List TConfig)) w1 (intVal .add .i64 w0_2 1)) ((mesE (TRow.mk ([] : List TSlot) ([] : List TConfig)) w1 (intVal .add .i64 w0_2 1) : Nat) : Int) = true) (
       chkE (mesE 0 w2 r1 ≤ 4611686018427387904) (
        chkE (mhasE (mentE 0 w2 r1) ((mesE 0 w2 r1 : Nat) : Int) = true) (
         some ((intVal .add .i64 w0_2 1), 0, w0_1, (intVal .add .i64 w0_2 1), mstoE (mentE (TRow.mk ([] : List TSlot) ([] : List TConfig)) w1 (intVal .add .i64 w0_2 1)) ((mesE (TRow.mk ([] : List TSlot) ([] : List TConfig)) w1 (intVal .add .i64 w0_2 1) : Nat) : Int) r2, mstoE (mentE 0 w2 r1) ((mesE 0 w2 r1 : Nat) : Int) (intVal .add .i64 w0_2 1)))))))))
noncomputable def table_Table_Len_v2 (w0_1 : Int) (w0_2 : Int) (w1 : MP Int TRow) (w2 : MP (List UInt8) Int) : Option (Int × Int × Int × MP Int TRow × MP (List UInt8) Int) :=
  chkE ((w1.es.length : Int) ≤ 4611686018427387904) (
   some ((w1.es.length : Int), w0_1, w0_2, w1, w2))
noncomputable def law24_awake : Option (Bool) :=
  bndE (table_New_v2 1) fun r1 =>
  bndE (table_Table_Put_v2 ([] : List TSlot) ([] : List TConfig) r1.1 r1.2.1 r1.2.2.1 r1.2.2.2) fun r2 =>
  bndE (table_Table_Put_v2 ([TSlot.mk 0 (TValue.mk 1 0 ([] : List UInt8) false)]) ([] : List TConfig) r2.2.2.1 r2.2.2.2.1 r2.2.2.2.2.1 r2.2.2.2.2.2) fun r3 =>
  iteE (decide (r2.1 = 1)) (
   iteE (decide (r2.2.1 = 0)) (
    iteE (decide (r3.2.1 = 19)) (
     bndE (table_Table_Len_v2 r3.2.2.1 r3.2.2.2.1 r3.2.2.2.2.1 r3.2.2.2.2.2) fun r4 =>
     some (decide (r4.1 = 1))) (
     some false)) (
    some false)) (
   some false)
noncomputable def table_Table_Put_v4 (a1 : List TSlot) (a2 : List TConfig) : Option (Int × Int) :=
  some (0, 19)
noncomputable def table_Table_Find (a1 : List TSlot) : Option (Int × Bool) :=
  some (0, false)
noncomputable def table_Table_Get (a1 : Int) : Option (TRow × Bool) :=
  some (TRow.mk ([] : List TSlot) ([] : List TConfig), false)
noncomputable def table_Table_Reset : Option (Unit) :=
  some ()
noncomputable def table_Table_Len_v3 : Option (Int) :=
  some 0
noncomputable def table_Table_Room : Option (Int) :=
  some 0
noncomputable def table_Table_Set (a1 : Int) (a2 : List TConfig) : Option (Bool) :=
  some false
noncomputable def table_Table_Drop (a1 : Int) : Option (Bool) :=
  some false
noncomputable def table_Table_IDs : Option (List Int) :=
  some ([] : List Int)
noncomputable def table_Table_Rows : Option (List TRow) :=
  some ([] : List TRow)
noncomputable def law24_TableNone (a0 : Tproctorlaw24_Act) : Option (Bool) :=
  bndE (law24_few [a0]) fun r1 =>
  iteE (!r1) (
   bndE (law24_awake) fun r2 =>
   some r2) (
   bndE (table_Table_Put_v4 a0.bind ([] : List TConfig)) fun r3 =>
   bndE (table_Table_Find a0.bind) fun r4 =>
   bndE (table_Table_Get a0.iD) fun r5 =>
   bndE (table_Table_Reset) fun r6 =>
   bndE (table_Table_Len_v3) fun r7 =>
   bndE (table_Table_Room) fun r8 =>
   iteE (decide ((intVal .add .i64 (intVal .add .i64 (intVal .add .i64 r3.1 r4.1) r7) r8) = 0)) (
    iteE (decide (r3.2 = 19)) (
     iteE (!r4.2) (
      iteE (!r5.2) (
       bndE (table_Table_Set a0.iD ([] : List TConfig)) fun r9 =>
       iteE (!r9) (
        bndE (table_Table_Drop a0.iD) fun r10 =>
        iteE (!r10) (
         bndE (table_Table_IDs) fun r11 =>
         iteE (decide ((r11.length : Int) = 0)) (
          bndE (table_Table_Rows) fun r12 =>
          iteE (decide ((r12.length : Int) = 0)) (
           bndE (law24_awake) fun r13 =>
           some r13) (
           some false)) (
          some false)) (
         some false)) (
        some false)) (
       some false)) (
      some false)) (
     some false)) (
    some false))
end Go.Ac
