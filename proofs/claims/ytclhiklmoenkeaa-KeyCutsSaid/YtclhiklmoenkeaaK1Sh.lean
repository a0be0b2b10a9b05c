/-
  Part of a proof: the functions of the seat as functions over lists and numbers (printed by a program).
-/
import Derived.Test.YtclhiklmoenkeaaAc22
set_option linter.unusedVariables false
set_option linter.unusedSimpArgs false
namespace Go.Ac
structure TValue where
  kind : Int
  int : Int
  str : List UInt8
  bool : Bool
def TValue.D (v : TValue) : D := .agg ([(D.i .i64) v.kind] ++ [(D.i .i64) v.int] ++ [D.s v.str] ++ [D.b v.bool])
instance : HasNc TValue.D 4 := ⟨fun _ => rfl⟩
def TValue.eqb (a b : TValue) : Bool := (decide (a.kind = b.kind) && (decide (a.int = b.int) && (decide (a.str = b.str) && ((a.bool == b.bool) && true))))
theorem TValue.eqb_iff (a b : TValue) : TValue.eqb a b = true ↔ a = b := by
  cases a; cases b; simp [TValue.eqb]
instance : DecidableEq TValue := fun a b => decidable_of_iff (TValue.eqb a b = true) (TValue.eqb_iff a b)
/-- proctorref03.Right -/
noncomputable def ref03_Right (a0 : TValue) : Option (Bool) :=
  iteE (decide (a0.kind = 1)) (
   iteE (decide (a0.str = ([] : List UInt8))) (
    some (!a0.bool)) (
    some false)) (
   iteE (decide (a0.kind = 2)) (
    iteE (decide (a0.int = 0)) (
     iteE (!a0.bool) (
      some (decide ((a0.str.length : Int) ≤ 4096))) (
      some false)) (
     some false)) (
    iteE (decide (a0.kind = 3)) (
     iteE (decide (a0.int = 0)) (
      some (decide (a0.str = ([] : List UInt8)))) (
      some false)) (
     some false)))
noncomputable def law04_right_b3 (s0 : List TValue) (s3 : Int) (s4 : Int) (s26 : Bool) : Option (Int) :=
  iteE (s26) (
   some 0) (
   some s3)
noncomputable def law04_right_b2 (s0 : List TValue) (s3 : Int) (s4 : Int) : Option (Int ⊕ Unit) :=
  idxE s0 s4 fun x1 =>
  iteE (decide (5000 < (x1.str.length : Int))) (
   some (.inr ())) (
   idxE s0 s4 fun x2 =>
   bndE (ref03_Right x2) fun r3 =>
   bndE (law04_right_b3 s0 s3 s4 (!r3)) fun o4 =>
   some (.inl o4))
noncomputable def law04_right_l1_s (s0 : List TValue) (s3 : Int) (s4 : Int) : Option ((Int × Int) ⊕ (Int ⊕ Unit)) :=
  iteE (decide (s4 < (s0.length : Int))) (
   bndE (law04_right_b2 s0 s3 s4) fun o5 =>
   sumE o5 (fun o6 =>
    some (.inl (o6, (intVal .add .i64 s4 1)))) (fun o7 =>
    some (.inr (.inr ())))) (
   some (.inr (.inl s3)))
noncomputable def law04_right_l1 (s0 : List TValue) (s3 : Int) (s4 : Int) : Option (Int ⊕ Unit) := loopE (fun s : Int × Int => law04_right_l1_s s0 s.1 s.2) (s3, s4)
theorem law04_right_l1_eq (s0 : List TValue) (s3 : Int) (s4 : Int) : law04_right_l1 s0 s3 s4 = nextE (law04_right_l1_s s0 s3 s4) (fun s : Int × Int => law04_right_l1 s0 s.1 s.2) := loopE_eq _ _
/-- proctorlaw04.right -/
noncomputable def law04_right (a0 : List TValue) : Option (Int) :=
  iteE (decide (10 < (a0.length : Int))) (
   some (-1)) (
   bndE (law04_right_l1 a0 1 0) fun o8 =>
   sumE o8 (fun o9 =>
    some o9) (fun o10 =>
    some (-1)))
/-- value.Int -/
noncomputable def value_Int (a0 : Int) : Option (TValue) :=
  some (TValue.mk 1 a0 ([] : List UInt8) false)
/-- value.Str -/
noncomputable def value_Str (a0 : List UInt8) : Option (TValue) :=
  some (TValue.mk 2 0 a0 false)
/-- value.Bool -/
noncomputable def value_Bool (a0 : Bool) : Option (TValue) :=
  some (TValue.mk 3 0 ([] : List UInt8) a0)
/-- value.Right -/
noncomputable def value_Right (a0 : TValue) : Option (Bool) :=
  iteE (decide (a0.kind = 1)) (
   bndE (value_Int a0.int) fun r1 =>
   some (TValue.eqb a0 r1)) (
   iteE (decide (a0.kind = 2)) (
    bndE (value_Str a0.str) fun r2 =>
    iteE ((TValue.eqb a0 r2)) (
     some (decide ((a0.str.length : Int) ≤ 4096))) (
     some false)) (
    iteE (decide (a0.kind = 3)) (
     bndE (value_Bool a0.bool) fun r3 =>
     some (TValue.eqb a0 r3)) (
     some false)))
noncomputable def key_number_l1_s (s3 : Int) (s10 : Int) (w4 : List UInt8) : Option ((Int × List UInt8) ⊕ ((List UInt8))) :=
  iteE (decide (s10 < 8)) (
   chkE (0 ≤ (intVal .mul .i64 8 (intVal .sub .i64 7 s10))) (
    chkE (0 ≤ s10 ∧ s10 + 1 ≤ 8) (
     chkE (0 ≤ s10 ∧ s10 + 1 ≤ (w4.length : Int)) (
      some (.inl ((intVal .add .i64 s10 1), w4.set s10.toNat (u8w (intVal .shr .u64 s3 (intVal .mul .i64 8 (intVal .sub .i64 7 s10)))))))))) (
   some (.inr w4))
noncomputable def key_number_l1 (s3 : Int) (s10 : Int) (w4 : List UInt8) : Option ((List UInt8)) := loopE (fun s : Int × List UInt8 => key_number_l1_s s3 s.1 s.2) (s10, w4)
theorem key_number_l1_eq (s3 : Int) (s10 : Int) (w4 : List UInt8) : key_number_l1 s3 s10 w4 = nextE (key_number_l1_s s3 s10 w4) (fun s : Int × List UInt8 => key_number_l1 s3 s.1 s.2) := loopE_eq _ _
/-- key.number -/
noncomputable def key_number (a0 : Int) : Option (List UInt8) :=
  bndE (key_number_l1 (intVal .xor .u64 (IntKind.wrap .u64 a0) 9223372036854775808) 0 (List.replicate 8 (0 : UInt8))) fun o1 =>
  chkE (0 ≤ (8 : Int) ∧ fit 0 (8 : Int).toNat 1) (
   chkE (o1.length = 8) (
    some (o1.take (List.replicate (8 : Int).toNat (0 : UInt8)).length ++ (List.replicate (8 : Int).toNat (0 : UInt8)).drop o1.length)))
noncomputable def key_text_b3 (s0 : List UInt8) (s6 : Int) (s7 : Int) (s19 : Bool) (w3 : List UInt8) : Option ((List UInt8)) :=
  iteE (s19) (
   chkE (fit w3.length [(255 : UInt8)].length 1) (
    some (w3 ++ [(255 : UInt8)]))) (
   some w3)
noncomputable def key_text_b4 (s0 : List UInt8) (s6 : Int) (s7 : Int) (w3 : List UInt8) : Option ((List UInt8)) :=
  idxE s0 s7 fun x5 =>
  chkE (fit w3.length [x5].length 1) (
   idxE s0 s7 fun x6 =>
   bndE (key_text_b3 s0 s6 s7 (decide ((x6.toNat : Int) = ((0 : UInt8).toNat : Int))) (w3 ++ [x5])) fun o7 =>
   some o7)
noncomputable def key_text_l1_s (s0 : List UInt8) (s6 : Int) (s7 : Int) (w3 : List UInt8) : Option ((Int × List UInt8) ⊕ ((List UInt8))) :=
  iteE (decide (s7 < s6)) (
   bndE (key_text_b4 s0 s6 s7 w3) fun o8 =>
   some (.inl ((intVal .add .i64 s7 1), o8))) (
   some (.inr w3))
noncomputable def key_text_l1 (s0 : List UInt8) (s6 : Int) (s7 : Int) (w3 : List UInt8) : Option ((List UInt8)) := loopE (fun s : Int × List UInt8 => key_text_l1_s s0 s6 s.1 s.2) (s7, w3)
theorem key_text_l1_eq (s0 : List UInt8) (s6 : Int) (s7 : Int) (w3 : List UInt8) : key_text_l1 s0 s6 s7 w3 = nextE (key_text_l1_s s0 s6 s7 w3) (fun s : Int × List UInt8 => key_text_l1 s0 s6 s.1 s.2) := loopE_eq _ _
/-- key.text -/
noncomputable def key_text (a0 : List UInt8) : Option (List UInt8) :=
  bndE (key_text_l1 a0 (a0.length : Int) 0 ([] : List UInt8)) fun o9 =>
  chkE (fit o9.length [(0 : UInt8), (1 : UInt8)].length 1) (
   some (o9 ++ [(0 : UInt8), (1 : UInt8)]))
/-- key.one -/
noncomputable def key_one (a0 : TValue) : Option (List UInt8) :=
  iteE (decide (a0.kind = 1)) (
   bndE (key_number a0.int) fun r1 =>
   chkE (fit [u8w a0.kind].length r1.length 1) (
    some ([u8w a0.kind] ++ r1))) (
   iteE (decide (a0.kind = 2)) (
    bndE (key_text a0.str) fun r2 =>
    chkE (fit [u8w a0.kind].length r2.length 1) (
     some ([u8w a0.kind] ++ r2))) (
    iteE (a0.bool) (
     chkE (fit [u8w a0.kind].length [(1 : UInt8)].length 1) (
      some ([u8w a0.kind] ++ [(1 : UInt8)]))) (
     chkE (fit [u8w a0.kind].length [(0 : UInt8)].length 1) (
      some ([u8w a0.kind] ++ [(0 : UInt8)])))))
noncomputable def key_Of_l1_s (s6 : List TValue) (s7 : Int) (s8 : Int) (w3 : List UInt8) : Option ((Int × List UInt8) ⊕ ((List UInt8) ⊕ Unit)) :=
  iteE (decide (s8 < s7)) (
   idxE s6 s8 fun x4 =>
   bndE (value_Right x4) fun r5 =>
   iteE (!r5) (
    some (.inr (.inr ()))) (
    bndE (key_one x4) fun r6 =>
    chkE (fit w3.length r6.length 1) (
     some (.inl ((intVal .add .i64 s8 1), w3 ++ r6))))) (
   some (.inr (.inl w3)))
noncomputable def key_Of_l1 (s6 : List TValue) (s7 : Int) (s8 : Int) (w3 : List UInt8) : Option ((List UInt8) ⊕ Unit) := loopE (fun s : Int × List UInt8 => key_Of_l1_s s6 s7 s.1 s.2) (s8, w3)
theorem key_Of_l1_eq (s6 : List TValue) (s7 : Int) (s8 : Int) (w3 : List UInt8) : key_Of_l1 s6 s7 s8 w3 = nextE (key_Of_l1_s s6 s7 s8 w3) (fun s : Int × List UInt8 => key_Of_l1 s6 s7 s.1 s.2) := loopE_eq _ _
/-- key.Of -/
noncomputable def key_Of (a0 : List TValue) : Option (List UInt8) :=
  bndE (key_Of_l1 a0 (a0.length : Int) 0 ([] : List UInt8)) fun o7 =>
  sumE o7 (fun o8 =>
   some o8) (fun o9 =>
   some ([] : List UInt8))
/-- proctorlaw04.awake -/
noncomputable def law04_awake : Option (Bool) :=
  bndE (key_Of ([TValue.mk 3 0 ([] : List UInt8) true])) fun r1 =>
  bndE (key_Of ([TValue.mk 1 1 ([] : List UInt8) false])) fun r2 =>
  iteE (decide (r1 = ([3, 1] : List UInt8))) (
   some (decide (r2 = ([1, 128, 0, 0, 0, 0, 0, 0, 1] : List UInt8)))) (
   some false)
noncomputable def ref03_Below_l1_s (s0 : List UInt8) (s1 : List UInt8) (s5 : Int) : Option ((Int) ⊕ (Unit ⊕ Bool)) :=
  iteE (decide (s5 < (s0.length : Int))) (
   iteE (decide (s5 < (s1.length : Int))) (
    idxE s0 s5 fun x1 =>
    idxE s1 s5 fun x2 =>
    iteE (!decide ((x1.toNat : Int) = (x2.toNat : Int))) (
     idxE s0 s5 fun x3 =>
     idxE s1 s5 fun x4 =>
     some (.inr (.inr (decide ((x3.toNat : Int) < (x4.toNat : Int)))))) (
     some (.inl (intVal .add .i64 s5 1)))) (
    some (.inr (.inl ())))) (
   some (.inr (.inl ())))
noncomputable def ref03_Below_l1 (s0 : List UInt8) (s1 : List UInt8) (s5 : Int) : Option (Unit ⊕ Bool) := loopE (fun s : Int => ref03_Below_l1_s s0 s1 s) s5
theorem ref03_Below_l1_eq (s0 : List UInt8) (s1 : List UInt8) (s5 : Int) : ref03_Below_l1 s0 s1 s5 = nextE (ref03_Below_l1_s s0 s1 s5) (fun s : Int => ref03_Below_l1 s0 s1 s) := loopE_eq _ _
/-- proctorref03.Below -/
noncomputable def ref03_Below (a0 : List UInt8) (a1 : List UInt8) : Option (Bool) :=
  bndE (ref03_Below_l1 a0 a1 0) fun o5 =>
  sumE o5 (fun o6 =>
   some (decide ((a0.length : Int) < (a1.length : Int)))) (fun o7 =>
   some o7)
/-- proctorref03.Less -/
noncomputable def ref03_Less (a0 : TValue) (a1 : TValue) : Option (Bool) :=
  iteE (!decide (a0.kind = a1.kind)) (
   some (decide (a0.kind < a1.kind))) (
   iteE (decide (a0.kind = 1)) (
    some (decide (a0.int < a1.int))) (
    iteE (decide (a0.kind = 2)) (
     bndE (ref03_Below a0.str a1.str) fun r1 =>
     some r1) (
     iteE (!a0.bool) (
      some a1.bool) (
      some false))))
noncomputable def law04_below_l1_s (s0 : List TValue) (s1 : List TValue) (s5 : Int) : Option ((Int) ⊕ (Unit ⊕ Bool)) :=
  iteE (decide (s5 < (s0.length : Int))) (
   iteE (decide (s5 < (s1.length : Int))) (
    idxE s0 s5 fun x1 =>
    idxE s1 s5 fun x2 =>
    iteE (!(TValue.eqb x1 x2)) (
     idxE s0 s5 fun x3 =>
     idxE s1 s5 fun x4 =>
     bndE (ref03_Less x3 x4) fun r5 =>
     some (.inr (.inr r5))) (
     some (.inl (intVal .add .i64 s5 1)))) (
    some (.inr (.inl ())))) (
   some (.inr (.inl ())))
noncomputable def law04_below_l1 (s0 : List TValue) (s1 : List TValue) (s5 : Int) : Option (Unit ⊕ Bool) := loopE (fun s : Int => law04_below_l1_s s0 s1 s) s5
theorem law04_below_l1_eq (s0 : List TValue) (s1 : List TValue) (s5 : Int) : law04_below_l1 s0 s1 s5 = nextE (law04_below_l1_s s0 s1 s5) (fun s : Int => law04_below_l1 s0 s1 s) := loopE_eq _ _
/-- proctorlaw04.below -/
noncomputable def law04_below (a0 : List TValue) (a1 : List TValue) : Option (Bool) :=
  bndE (law04_below_l1 a0 a1 0) fun o6 =>
  sumE o6 (fun o7 =>
   some (decide ((a0.length : Int) < (a1.length : Int)))) (fun o8 =>
   some o8)
noncomputable def law04_same_l1_s (s0 : List TValue) (s1 : List TValue) (s5 : Int) : Option ((Int) ⊕ (Unit ⊕ Unit)) :=
  iteE (decide (s5 < (s0.length : Int))) (
   idxE s0 s5 fun x1 =>
   idxE s1 s5 fun x2 =>
   iteE (!(TValue.eqb x1 x2)) (
    some (.inr (.inr ()))) (
    some (.inl (intVal .add .i64 s5 1)))) (
   some (.inr (.inl ())))
noncomputable def law04_same_l1 (s0 : List TValue) (s1 : List TValue) (s5 : Int) : Option (Unit ⊕ Unit) := loopE (fun s : Int => law04_same_l1_s s0 s1 s) s5
theorem law04_same_l1_eq (s0 : List TValue) (s1 : List TValue) (s5 : Int) : law04_same_l1 s0 s1 s5 = nextE (law04_same_l1_s s0 s1 s5) (fun s : Int => law04_same_l1 s0 s1 s) := loopE_eq _ _
/-- proctorlaw04.same -/
noncomputable def law04_same (a0 : List TValue) (a1 : List TValue) : Option (Bool) :=
  iteE (!decide ((a0.length : Int) = (a1.length : Int))) (
   some false) (
   bndE (law04_same_l1 a0 a1 0) fun o3 =>
   sumE o3 (fun o4 =>
    some true) (fun o5 =>
    some false))
/-- proctorlaw04.KeyOrder -/
noncomputable def law04_KeyOrder (a0 : List TValue) (a1 : List TValue) : Option (Bool) :=
  bndE (law04_right a0) fun r1 =>
  iteE (!decide (r1 = 1)) (
   bndE (law04_awake) fun r2 =>
   some r2) (
   bndE (law04_right a1) fun r3 =>
   iteE (!decide (r3 = 1)) (
    bndE (law04_awake) fun r4 =>
    some r4) (
    bndE (key_Of a0) fun r5 =>
    bndE (key_Of a1) fun r6 =>
    bndE (ref03_Below r5 r6) fun r7 =>
    bndE (law04_below a0 a1) fun r8 =>
    iteE ((r7 == r8)) (
     bndE (law04_same a0 a1) fun r9 =>
     iteE (((decide (r5 = r6)) == r9)) (
      bndE (law04_awake) fun r10 =>
      some r10) (
      some false)) (
     some false)))
noncomputable def key_cutText_b7 (s0 : List UInt8) (s5 : Int) (s10 : Bool) (w4 : List UInt8) : Option ((Int × List UInt8) ⊕ (Unit ⊕ Unit)) :=
  iteE (s10) (
   idxE s0 s5 fun x22 =>
   chkE (fit w4.length [x22].length 1) (
    some (.inl ((intVal .add .i64 s5 1), w4 ++ [x22])))) (
   iteE (decide ((intVal .add .i64 s5 1) < (s0.length : Int))) (
    idxE s0 (intVal .add .i64 s5 1) fun x23 =>
    iteE (decide ((x23.toNat : Int) = ((255 : UInt8).toNat : Int))) (
     chkE (fit w4.length [(0 : UInt8)].length 1) (
      some (.inl ((intVal .add .i64 s5 2), w4 ++ [(0 : UInt8)])))) (
     iteE (decide ((intVal .add .i64 s5 1) < (s0.length : Int))) (
      idxE s0 (intVal .add .i64 s5 1) fun x24 =>
      iteE (decide ((x24.toNat : Int) = ((1 : UInt8).toNat : Int))) (
       some (.inr (.inr ()))) (
       some (.inr (.inl ())))) (
      some (.inr (.inl ()))))) (
    iteE (decide ((intVal .add .i64 s5 1) < (s0.length : Int))) (
     idxE s0 (intVal .add .i64 s5 1) fun x25 =>
     iteE (decide ((x25.toNat : Int) = ((1 : UInt8).toNat : Int))) (
      some (.inr (.inr ()))) (
      some (.inr (.inl ())))) (
     some (.inr (.inl ())))))
noncomputable def key_cutText_b6 (s0 : List UInt8) (s5 : Int) (w4 : List UInt8) : Option ((Int × List UInt8) ⊕ (Unit ⊕ Unit)) :=
  idxE s0 s5 fun x21 =>
  bndE (key_cutText_b7 s0 s5 (!decide ((x21.toNat : Int) = ((0 : UInt8).toNat : Int))) w4) fun o26 =>
  sumE o26 (fun o27 =>
   some (.inl (o27.1, o27.2))) (fun o28 =>
   sumE o28 (fun o29 =>
    some (.inr (.inl ()))) (fun o30 =>
    some (.inr (.inr ()))))
noncomputable def key_cutText_b5 (s0 : List UInt8) (s5 : Int) (w4 : List UInt8) : Option ((Int × List UInt8) ⊕ (Unit ⊕ Unit)) :=
  bndE (key_cutText_b6 s0 s5 w4) fun o31 =>
  sumE o31 (fun o32 =>
   some (.inl (o32.1, o32.2))) (fun o33 =>
   sumE o33 (fun o34 =>
    some (.inr (.inl ()))) (fun o35 =>
    some (.inr (.inr ()))))
noncomputable def key_cutText_l1_s (s0 : List UInt8) (s5 : Int) (w4 : List UInt8) : Option ((Int × List UInt8) ⊕ (Unit ⊕ (List UInt8 × Int))) :=
  iteE (decide (s5 < (s0.length : Int))) (
   bndE (key_cutText_b5 s0 s5 w4) fun o36 =>
   sumE o36 (fun o37 =>
    some (.inl (o37.1, o37.2))) (fun o38 =>
    sumE o38 (fun o39 =>
     some (.inr (.inl ()))) (fun o40 =>
     some (.inr (.inr (w4, (intVal .add .i64 s5 2))))))) (
   some (.inr (.inl ())))
noncomputable def key_cutText_l1 (s0 : List UInt8) (s5 : Int) (w4 : List UInt8) : Option (Unit ⊕ (List UInt8 × Int)) := loopE (fun s : Int × List UInt8 => key_cutText_l1_s s0 s.1 s.2) (s5, w4)
theorem key_cutText_l1_eq (s0 : List UInt8) (s5 : Int) (w4 : List UInt8) : key_cutText_l1 s0 s5 w4 = nextE (key_cutText_l1_s s0 s5 w4) (fun s : Int × List UInt8 => key_cutText_l1 s0 s.1 s.2) := loopE_eq _ _
/-- key.cutText -/
noncomputable def key_cutText (a0 : List UInt8) : Option (List UInt8 × Int) :=
  bndE (key_cutText_l1 a0 0 ([] : List UInt8)) fun o41 =>
  sumE o41 (fun o42 =>
   some (([] : List UInt8), 0)) (fun o43 =>
   some (o43.1, o43.2))
noncomputable def key_cut_l5_s (s53 : List UInt8) (s54 : Int) (w2 : TValue) (s6 : Int) (s55 : Int) : Option ((Int × Int) ⊕ (Int)) :=
  iteE (decide (s55 < s54)) (
   idxE s53 s55 fun x7 =>
   some (.inl ((intVal .or .u64 (intVal .shl .u64 s6 8) (x7.toNat : Int)), (intVal .add .i64 s55 1)))) (
   some (.inr s6))
noncomputable def key_cut_l5 (s53 : List UInt8) (s54 : Int) (w2 : TValue) (s6 : Int) (s55 : Int) : Option (Int) := loopE (fun s : Int × Int => key_cut_l5_s s53 s54 w2 s.1 s.2) (s6, s55)
theorem key_cut_l5_eq (s53 : List UInt8) (s54 : Int) (w2 : TValue) (s6 : Int) (s55 : Int) : key_cut_l5 s53 s54 w2 s6 s55 = nextE (key_cut_l5_s s53 s54 w2 s6 s55) (fun s : Int × Int => key_cut_l5 s53 s54 w2 s.1 s.2) := loopE_eq _ _
noncomputable def key_cut_b4 (s0 : List UInt8) (s47 : Bool) (w2 : TValue) : Option (Unit ⊕ TValue) :=
  iteE (s47) (
   iteE (decide (8 < (s0.length : Int))) (
    chkE ((0 : Int) ≤ 1 ∧ (1 : Int) ≤ 9 ∧ 9 ≤ (s0.length : Int)) (
     bndE (key_cut_l5 (sub s0 1 9) ((sub s0 1 9).length : Int) w2 0 0) fun o8 =>
     bndE (value_Int (IntKind.wrap .i64 (intVal .xor .u64 o8 9223372036854775808))) fun r9 =>
     some (.inr r9))) (
    some (.inl ()))) (
   some (.inl ()))
noncomputable def key_cut_b3 (s0 : List UInt8) (s16 : Int) (s28 : Bool) (w2 : TValue) : Option (Unit ⊕ (Int × TValue)) :=
  iteE (s28) (
   chkE ((0 : Int) ≤ 1 ∧ (1 : Int) ≤ (s0.length : Int) ∧ (s0.length : Int) ≤ (s0.length : Int)) (
    bndE (key_cutText (sub s0 1 (s0.length : Int))) fun r5 =>
    iteE (decide (0 < r5.2)) (
     iteE (decide ((r5.1.length : Int) ≤ 4096)) (
      bndE (value_Str r5.1) fun r6 =>
      some (.inr ((intVal .add .i64 r5.2 1), r6))) (
      some (.inl ()))) (
     some (.inl ())))) (
   bndE (key_cut_b4 s0 (decide (s16 = 1)) w2) fun o10 =>
   sumE o10 (fun o11 =>
    some (.inl ())) (fun o12 =>
    some (.inr (9, o12))))
noncomputable def key_cut_b2 (s0 : List UInt8) (s16 : Int) (s17 : Bool) (w2 : TValue) : Option (Unit ⊕ (Int × TValue)) :=
  iteE (s17) (
   idxE s0 1 fun x2 =>
   iteE (decide ((x2.toNat : Int) ≤ ((1 : UInt8).toNat : Int))) (
    idxE s0 1 fun x3 =>
    bndE (value_Bool (decide ((x3.toNat : Int) = ((1 : UInt8).toNat : Int)))) fun r4 =>
    some (.inr (2, r4))) (
    some (.inl ()))) (
   bndE (key_cut_b3 s0 s16 (decide (s16 = 2)) w2) fun o13 =>
   sumE o13 (fun o14 =>
    some (.inl ())) (fun o15 =>
    some (.inr (o15.1, o15.2))))
noncomputable def key_cut_b1 (s0 : List UInt8) (s16 : Int) (w2 : TValue) : Option (Unit ⊕ (Int × TValue)) :=
  bndE (key_cut_b2 s0 s16 (decide (s16 = 3)) w2) fun o16 =>
  sumE o16 (fun o17 =>
   some (.inl ())) (fun o18 =>
   some (.inr (o18.1, o18.2)))
/-- key.cut -/
noncomputable def key_cut (a0 : List UInt8) : Option (TValue × Int) :=
  iteE (decide ((a0.length : Int) < 2)) (
   some (TValue.mk 0 0 ([] : List UInt8) false, 0)) (
   idxE a0 0 fun x1 =>
   bndE (key_cut_b1 a0 (x1.toNat : Int) (TValue.mk 0 0 ([] : List UInt8) false)) fun o19 =>
   sumE o19 (fun o20 =>
    some (TValue.mk 0 0 ([] : List UInt8) false, 0)) (fun o21 =>
    some (o21.2, o21.1)))
/-- key.Cut -/
noncomputable def key_Cut (a0 : List UInt8) : Option (TValue × Int × Bool) :=
  bndE (key_cut a0) fun r1 =>
  some (r1.1, r1.2, decide (0 < r1.2))
noncomputable def ref04_Read_l1_s (s0 : List UInt8) (w2 : TValue) (s5 : Int) (s6 : Int) : Option ((Int × Int) ⊕ (Int)) :=
  iteE (decide (s6 < 9)) (
   idxE s0 s6 fun x5 =>
   some (.inl ((intVal .add .u64 (intVal .mul .u64 256 s5) (x5.toNat : Int)), (intVal .add .i64 s6 1)))) (
   some (.inr s5))
noncomputable def ref04_Read_l1 (s0 : List UInt8) (w2 : TValue) (s5 : Int) (s6 : Int) : Option (Int) := loopE (fun s : Int × Int => ref04_Read_l1_s s0 w2 s.1 s.2) (s5, s6)
theorem ref04_Read_l1_eq (s0 : List UInt8) (w2 : TValue) (s5 : Int) (s6 : Int) : ref04_Read_l1 s0 w2 s5 s6 = nextE (ref04_Read_l1_s s0 w2 s5 s6) (fun s : Int × Int => ref04_Read_l1 s0 w2 s.1 s.2) := loopE_eq _ _
noncomputable def ref04_Read_b4 (s0 : List UInt8) (s8 : Int) (w2 : TValue) (w4 : TValue) (w7 : List UInt8) : Option ((Int × List UInt8) ⊕ (Int × TValue)) :=
  idxE s0 s8 fun x17 =>
  iteE (!decide ((x17.toNat : Int) = ((0 : UInt8).toNat : Int))) (
   idxE s0 s8 fun x18 =>
   chkE (fit w7.length [x18].length 1) (
    some (.inl (s8, w7 ++ [x18])))) (
   iteE (decide (s8 = (intVal .sub .i64 (s0.length : Int) 1))) (
    some (.inr (0, w4))) (
    idxE s0 (intVal .add .i64 s8 1) fun x19 =>
    iteE (!decide ((x19.toNat : Int) = ((255 : UInt8).toNat : Int))) (
     idxE s0 (intVal .add .i64 s8 1) fun x20 =>
     iteE (!decide ((x20.toNat : Int) = ((1 : UInt8).toNat : Int))) (
      some (.inr (0, w4))) (
      idxE s0 (intVal .add .i64 s8 1) fun x21 =>
      iteE (decide ((x21.toNat : Int) = ((1 : UInt8).toNat : Int))) (
       iteE (decide (4096 < (w7.length : Int))) (
        some (.inr (0, w4))) (
        some (.inr ((intVal .add .i64 s8 2), TValue.mk 2 0 w7 false)))) (
       chkE (fit w7.length [(0 : UInt8)].length 1) (
        some (.inl ((intVal .add .i64 s8 1), w7 ++ [(0 : UInt8)])))))) (
     idxE s0 (intVal .add .i64 s8 1) fun x22 =>
     iteE (decide ((x22.toNat : Int) = ((1 : UInt8).toNat : Int))) (
      iteE (decide (4096 < (w7.length : Int))) (
       some (.inr (0, w4))) (
       some (.inr ((intVal .add .i64 s8 2), TValue.mk 2 0 w7 false)))) (
      chkE (fit w7.length [(0 : UInt8)].length 1) (
       some (.inl ((intVal .add .i64 s8 1), w7 ++ [(0 : UInt8)])))))))
noncomputable def ref04_Read_l2_s (s0 : List UInt8) (w2 : TValue) (w4 : TValue) (s8 : Int) (w7 : List UInt8) : Option ((Int × List UInt8) ⊕ (Unit ⊕ (Int × TValue))) :=
  iteE (decide (s8 < (s0.length : Int))) (
   bndE (ref04_Read_b4 s0 s8 w2 w4 w7) fun o23 =>
   sumE o23 (fun o24 =>
    some (.inl ((intVal .add .i64 o24.1 1), o24.2))) (fun o25 =>
    some (.inr (.inr (o25.1, o25.2))))) (
   some (.inr (.inl ())))
noncomputable def ref04_Read_l2 (s0 : List UInt8) (w2 : TValue) (w4 : TValue) (s8 : Int) (w7 : List UInt8) : Option (Unit ⊕ (Int × TValue)) := loopE (fun s : Int × List UInt8 => ref04_Read_l2_s s0 w2 w4 s.1 s.2) (s8, w7)
theorem ref04_Read_l2_eq (s0 : List UInt8) (w2 : TValue) (w4 : TValue) (s8 : Int) (w7 : List UInt8) : ref04_Read_l2 s0 w2 w4 s8 w7 = nextE (ref04_Read_l2_s s0 w2 w4 s8 w7) (fun s : Int × List UInt8 => ref04_Read_l2 s0 w2 w4 s.1 s.2) := loopE_eq _ _
/-- proctorref04.Read -/
noncomputable def ref04_Read (a0 : List UInt8) : Option (TValue × Int) :=
  iteE (decide ((a0.length : Int) = 0)) (
   some (TValue.mk 0 0 ([] : List UInt8) false, 0)) (
   idxE a0 0 fun x1 =>
   iteE (decide ((x1.toNat : Int) = ((3 : UInt8).toNat : Int))) (
    iteE (decide ((a0.length : Int) < 2)) (
     some (TValue.mk 0 0 ([] : List UInt8) false, 0)) (
     idxE a0 1 fun x2 =>
     iteE (decide (((1 : UInt8).toNat : Int) < (x2.toNat : Int))) (
      some (TValue.mk 0 0 ([] : List UInt8) false, 0)) (
      idxE a0 1 fun x3 =>
      some (TValue.mk 3 0 ([] : List UInt8) (decide ((x3.toNat : Int) = ((1 : UInt8).toNat : Int))), 2)))) (
    idxE a0 0 fun x4 =>
    iteE (decide ((x4.toNat : Int) = ((1 : UInt8).toNat : Int))) (
     iteE (decide ((a0.length : Int) < 9)) (
      some (TValue.mk 0 0 ([] : List UInt8) false, 0)) (
      bndE (ref04_Read_l1 a0 (TValue.mk 0 0 ([] : List UInt8) false) 0 1) fun o6 =>
      some (TValue.mk 1 (IntKind.wrap .i64 (intVal .sub .u64 o6 9223372036854775808)) ([] : List UInt8) false, 9))) (
     idxE a0 0 fun x7 =>
     iteE (!decide ((x7.toNat : Int) = ((2 : UInt8).toNat : Int))) (
      some (TValue.mk 0 0 ([] : List UInt8) false, 0)) (
      bndE (ref04_Read_l2 a0 (TValue.mk 0 0 ([] : List UInt8) false) (TValue.mk 0 0 ([] : List UInt8) false) 1 ([] : List UInt8)) fun o26 =>
      sumE o26 (fun o27 =>
       some ((TValue.mk 0 0 ([] : List UInt8) false), 0)) (fun o28 =>
       some (o28.2, o28.1))))))
/-- proctorlaw04.KeyCuts -/
noncomputable def law04_KeyCuts (a0 : List UInt8) : Option (Bool) :=
  iteE (decide (10000 < (a0.length : Int))) (
   bndE (law04_awake) fun r1 =>
   some r1) (
   bndE (key_Cut a0) fun r2 =>
   bndE (ref04_Read a0) fun r3 =>
   iteE ((TValue.eqb r2.1 r3.1)) (
    iteE (decide (r2.2.1 = r3.2)) (
     iteE ((r2.2.2 == (decide (0 < r3.2)))) (
      iteE (!r2.2.2) (
       bndE (law04_awake) fun r4 =>
       some r4) (
       bndE (key_Of [r2.1]) fun r5 =>
       chkE ((0 : Int) ≤ 0 ∧ (0 : Int) ≤ r3.2 ∧ r3.2 ≤ (a0.length : Int)) (
        iteE (decide (r5 = sub a0 0 r3.2)) (
         bndE (law04_awake) fun r6 =>
         some r6) (
         some false)))) (
      some false)) (
     some false)) (
    some false))
noncomputable def key_Read_l1_s (s0 : List UInt8) (w4 : List TValue) : Option ((List UInt8 × List TValue) ⊕ ((List TValue) ⊕ Unit)) :=
  iteE (decide (0 < (s0.length : Int))) (
   bndE (key_cut s0) fun r2 =>
   iteE (decide (r2.2 = 0)) (
    some (.inr (.inr ()))) (
    chkE (fit w4.length [r2.1].length 40) (
     chkE ((0 : Int) ≤ r2.2 ∧ (r2.2 : Int) ≤ (s0.length : Int) ∧ (s0.length : Int) ≤ (s0.length : Int)) (
      some (.inl (sub s0 r2.2 (s0.length : Int), w4 ++ [r2.1])))))) (
   some (.inr (.inl w4)))
noncomputable def key_Read_l1 (s0 : List UInt8) (w4 : List TValue) : Option ((List TValue) ⊕ Unit) := loopE (fun s : List UInt8 × List TValue => key_Read_l1_s s.1 s.2) (s0, w4)
theorem key_Read_l1_eq (s0 : List UInt8) (w4 : List TValue) : key_Read_l1 s0 w4 = nextE (key_Read_l1_s s0 w4) (fun s : List UInt8 × List TValue => key_Read_l1 s.1 s.2) := loopE_eq _ _
/-- key.Read -/
noncomputable def key_Read (a0 : List UInt8) : Option (List TValue × Bool) :=
  bndE (key_Read_l1 a0 ([] : List TValue)) fun o3 =>
  sumE o3 (fun o4 =>
   some (o4, true)) (fun o5 =>
   some (([] : List TValue), false))
noncomputable def ref04_Key_b3 (s4 : Int) (s44 : Bool) (w1 : TValue) (w3 : List UInt8) : Option ((List UInt8)) :=
  iteE (s44) (
   chkE (fit w3.length [(255 : UInt8)].length 1) (
    some (w3 ++ [(255 : UInt8)]))) (
   some w3)
noncomputable def ref04_Key_b2 (s4 : Int) (w1 : TValue) (w3 : List UInt8) : Option ((List UInt8)) :=
  idxE w1.str s4 fun x1 =>
  chkE (fit w3.length [x1].length 1) (
   idxE w1.str s4 fun x2 =>
   bndE (ref04_Key_b3 s4 (decide ((x2.toNat : Int) = ((0 : UInt8).toNat : Int))) w1 (w3 ++ [x1])) fun o3 =>
   some o3)
noncomputable def ref04_Key_l1_s (w1 : TValue) (s4 : Int) (w3 : List UInt8) : Option ((Int × List UInt8) ⊕ ((List UInt8))) :=
  iteE (decide (s4 < (w1.str.length : Int))) (
   bndE (ref04_Key_b2 s4 w1 w3) fun o4 =>
   some (.inl ((intVal .add .i64 s4 1), o4))) (
   some (.inr w3))
noncomputable def ref04_Key_l1 (w1 : TValue) (s4 : Int) (w3 : List UInt8) : Option ((List UInt8)) := loopE (fun s : Int × List UInt8 => ref04_Key_l1_s w1 s.1 s.2) (s4, w3)
theorem ref04_Key_l1_eq (w1 : TValue) (s4 : Int) (w3 : List UInt8) : ref04_Key_l1 w1 s4 w3 = nextE (ref04_Key_l1_s w1 s4 w3) (fun s : Int × List UInt8 => ref04_Key_l1 w1 s.1 s.2) := loopE_eq _ _
noncomputable def ref04_Key_l4_s (s5 : Int) (s6 : Int) (s7 : Int) (w3 : List UInt8) : Option ((Int × Int × List UInt8) ⊕ ((List UInt8))) :=
  iteE (decide (s7 < 8)) (
   chkE (s6 ≠ 0) (
    chkE (fit w3.length [u8w (intVal .rem .u64 (intVal .quo .u64 s5 s6) 256)].length 1) (
     some (.inl ((intVal .quo .u64 s6 256), (intVal .add .i64 s7 1), w3 ++ [u8w (intVal .rem .u64 (intVal .quo .u64 s5 s6) 256)]))))) (
   some (.inr w3))
noncomputable def ref04_Key_l4 (s5 : Int) (s6 : Int) (s7 : Int) (w3 : List UInt8) : Option ((List UInt8)) := loopE (fun s : Int × Int × List UInt8 => ref04_Key_l4_s s5 s.1 s.2.1 s.2.2) (s6, s7, w3)
theorem ref04_Key_l4_eq (s5 : Int) (s6 : Int) (s7 : Int) (w3 : List UInt8) : ref04_Key_l4 s5 s6 s7 w3 = nextE (ref04_Key_l4_s s5 s6 s7 w3) (fun s : Int × Int × List UInt8 => ref04_Key_l4 s5 s.1 s.2.1 s.2.2) := loopE_eq _ _
/-- proctorref04.Key -/
noncomputable def ref04_Key (a0 : TValue) : Option (List UInt8) :=
  iteE (decide (a0.kind = 3)) (
   iteE (a0.bool) (
    chkE (fit [u8w a0.kind].length [(1 : UInt8)].length 1) (
     some ([u8w a0.kind] ++ [(1 : UInt8)]))) (
    chkE (fit [u8w a0.kind].length [(0 : UInt8)].length 1) (
     some ([u8w a0.kind] ++ [(0 : UInt8)])))) (
   iteE (decide (a0.kind = 2)) (
    bndE (ref04_Key_l1 a0 0 [u8w a0.kind]) fun o5 =>
    chkE (fit o5.length [(0 : UInt8), (1 : UInt8)].length 1) (
     some (o5 ++ [(0 : UInt8), (1 : UInt8)]))) (
    bndE (ref04_Key_l4 (intVal .add .u64 (IntKind.wrap .u64 a0.int) 9223372036854775808) 72057594037927936 0 [u8w a0.kind]) fun o6 =>
    some o6))
noncomputable def ref04_Keys_l1_s (s0 : List TValue) (s4 : Int) (w3 : List UInt8) : Option ((Int × List UInt8) ⊕ ((List UInt8))) :=
  iteE (decide (s4 < (s0.length : Int))) (
   idxE s0 s4 fun x3 =>
   bndE (ref04_Key x3) fun r4 =>
   chkE (fit w3.length r4.length 1) (
    some (.inl ((intVal .add .i64 s4 1), w3 ++ r4)))) (
   some (.inr w3))
noncomputable def ref04_Keys_l1 (s0 : List TValue) (s4 : Int) (w3 : List UInt8) : Option ((List UInt8)) := loopE (fun s : Int × List UInt8 => ref04_Keys_l1_s s0 s.1 s.2) (s4, w3)
theorem ref04_Keys_l1_eq (s0 : List TValue) (s4 : Int) (w3 : List UInt8) : ref04_Keys_l1 s0 s4 w3 = nextE (ref04_Keys_l1_s s0 s4 w3) (fun s : Int × List UInt8 => ref04_Keys_l1 s0 s.1 s.2) := loopE_eq _ _
/-- proctorref04.Keys -/
noncomputable def ref04_Keys (a0 : List TValue) : Option (List UInt8) :=
  bndE (ref04_Keys_l1 a0 0 ([] : List UInt8)) fun o5 =>
  some o5
/-- proctorlaw04.KeyOf -/
noncomputable def law04_KeyOf (a0 : List TValue) : Option (Bool) :=
  bndE (law04_right a0) fun r1 =>
  iteE (decide (r1 < 0)) (
   bndE (law04_awake) fun r2 =>
   some r2) (
   bndE (key_Of a0) fun r3 =>
   iteE (decide (r1 = 0)) (
    iteE (decide ((r3.length : Int) = 0)) (
     bndE (law04_awake) fun r4 =>
     some r4) (
     some false)) (
    bndE (key_Read r3) fun r5 =>
    bndE (ref04_Keys a0) fun r6 =>
    iteE (decide (r3 = r6)) (
     iteE (r5.2) (
      bndE (law04_same a0 r5.1) fun r7 =>
      iteE (r7) (
       bndE (law04_awake) fun r8 =>
       some r8) (
       some false)) (
      some false)) (
     some false)))
noncomputable def law04_KeyReads_l1_s (s0 : List UInt8) (s3 : List TValue) (s4 : Bool) (s6 : Int) (s7 : Bool) (w5 : List TValue) : Option ((Int × Bool × List TValue) ⊕ ((Bool × List TValue))) :=
  iteE (decide (s6 < (s0.length : Int))) (
   iteE (s7) (
    chkE ((0 : Int) ≤ s6 ∧ (s6 : Int) ≤ (s0.length : Int) ∧ (s0.length : Int) ≤ (s0.length : Int)) (
     bndE (ref04_Read (sub s0 s6 (s0.length : Int))) fun r4 =>
     chkE (fit w5.length [r4.1].length 40) (
      some (.inl ((intVal .add .i64 s6 r4.2), decide (0 < r4.2), w5 ++ [r4.1]))))) (
    some (.inr (s7, w5)))) (
   some (.inr (s7, w5)))
noncomputable def law04_KeyReads_l1 (s0 : List UInt8) (s3 : List TValue) (s4 : Bool) (s6 : Int) (s7 : Bool) (w5 : List TValue) : Option ((Bool × List TValue)) := loopE (fun s : Int × Bool × List TValue => law04_KeyReads_l1_s s0 s3 s4 s.1 s.2.1 s.2.2) (s6, s7, w5)
theorem law04_KeyReads_l1_eq (s0 : List UInt8) (s3 : List TValue) (s4 : Bool) (s6 : Int) (s7 : Bool) (w5 : List TValue) : law04_KeyReads_l1 s0 s3 s4 s6 s7 w5 = nextE (law04_KeyReads_l1_s s0 s3 s4 s6 s7 w5) (fun s : Int × Bool × List TValue => law04_KeyReads_l1 s0 s3 s4 s.1 s.2.1 s.2.2) := loopE_eq _ _
/-- proctorlaw04.KeyReads -/
noncomputable def law04_KeyReads (a0 : List UInt8) : Option (Bool) :=
  iteE (decide (10000 < (a0.length : Int))) (
   bndE (law04_awake) fun r1 =>
   some r1) (
   bndE (key_Read a0) fun r2 =>
   bndE (law04_KeyReads_l1 a0 r2.1 r2.2 0 true ([] : List TValue)) fun o5 =>
   iteE (!o5.1) (
    iteE (decide ((r2.1.length : Int) = 0)) (
     iteE (!r2.2) (
      bndE (law04_awake) fun r6 =>
      some r6) (
      some false)) (
     some false)) (
    iteE (r2.2) (
     bndE (law04_same r2.1 o5.2) fun r7 =>
     iteE (r7) (
      bndE (law04_awake) fun r8 =>
      some r8) (
      some false)) (
     some false)))
end Go.Ac
