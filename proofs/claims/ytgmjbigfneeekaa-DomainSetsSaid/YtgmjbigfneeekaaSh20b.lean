/-
  Part of a proof: the functions of the seat as functions over lists and numbers (printed by a program).
-/
import Derived.Test.YtgmjbigfneeekaaAc22
import Derived.Test.YtgmjbigfneeekaaAc20b
import Derived.Test.YtgmjbigfneeekaaAc20f
import Derived.Test.YtgmjbigfneeekaaAc27
import Derived.Test.YtgmjbigfneeekaaAc28
import Derived.Test.YtgmjbigfneeekaaAc29
import Derived.Test.YtgmjbigfneeekaaAc30
set_option linter.unusedVariables false
set_option linter.unusedSimpArgs false
set_option linter.unusedVariables false
set_option linter.unusedSimpArgs false
namespace Go.Ac
structure TValue where
  kind : Int
  int : Int
  str : List UInt8
  bool : Bool
def TValue.D (v : TValue) : D := .agg ([(D.i .i64) v.kind] ++ [(D.i .i64) v.int] ++ [D.s v.str] ++ [D.b v.bool])
instance : HasNc TValue.D 4 := ⟨fun _ => rfl⟩
def TValue.eqb (a b : TValue) : Bool := (decide (a.kind = b.kind) && (decide (a.int = b.int) && (decide (a.str = b.str) && ((a.bool == b.bool) && true))))
theorem TValue.eqb_iff (a b : TValue) : TValue.eqb a b = true ↔ a = b := by
  cases a; cases b; simp [TValue.eqb]
instance : DecidableEq TValue := fun a b => decidable_of_iff (TValue.eqb a b = true) (TValue.eqb_iff a b)
structure TSlot where
  var : Int
  value : TValue
def TSlot.D (v : TSlot) : D := .agg ([(D.i .i64) v.var] ++ (TValue.D v.value).cells)
instance : HasNc TSlot.D 5 := ⟨fun _ => rfl⟩
def TSlot.eqb (a b : TSlot) : Bool := (decide (a.var = b.var) && (TValue.eqb a.value b.value && true))
theorem TSlot.eqb_iff (a b : TSlot) : TSlot.eqb a b = true ↔ a = b := by
  cases a; cases b; simp [TSlot.eqb, TValue.eqb_iff]
instance : DecidableEq TSlot := fun a b => decidable_of_iff (TSlot.eqb a b = true) (TSlot.eqb_iff a b)
/-- proctorlaw20.one -/
noncomputable def law20_one (a0 : Int) : Option (TValue) :=
  some (TValue.mk 1 a0 ([] : List UInt8) false)
noncomputable def domain_Many_b3 (s1 : Bool) (s5 : Int) (s8 : Int) (s9 : List (List TValue)) (s10 : Int) (s11 : Int) (s17 : Bool) : Option (Int) :=
  iteE (s17) (
   some (intVal .add .i64 s8 1)) (
   some s8)
noncomputable def domain_Many_b2 (s1 : Bool) (s5 : Int) (s9 : List (List TValue)) (s10 : Int) (s11 : Int) : Option (Int) :=
  idxE s9 s11 fun x1 =>
  bndE (domain_Many_b3 s1 s5 (x1.length : Int) s9 s10 s11 s1) fun o2 =>
  some (minE (intVal .mul .i64 s5 (minE o2 1000000)) 1000000)
noncomputable def domain_Many_l1_s (s1 : Bool) (s9 : List (List TValue)) (s10 : Int) (s5 : Int) (s11 : Int) : Option ((Int × Int) ⊕ (Int)) :=
  iteE (decide (s11 < s10)) (
   bndE (domain_Many_b2 s1 s5 s9 s10 s11) fun o3 =>
   some (.inl (o3, (intVal .add .i64 s11 1)))) (
   some (.inr s5))
noncomputable def domain_Many_l1 (s1 : Bool) (s9 : List (List TValue)) (s10 : Int) (s5 : Int) (s11 : Int) : Option (Int) := loopE (fun s : Int × Int => domain_Many_l1_s s1 s9 s10 s.1 s.2) (s5, s11)
theorem domain_Many_l1_eq (s1 : Bool) (s9 : List (List TValue)) (s10 : Int) (s5 : Int) (s11 : Int) : domain_Many_l1 s1 s9 s10 s5 s11 = nextE (domain_Many_l1_s s1 s9 s10 s5 s11) (fun s : Int × Int => domain_Many_l1 s1 s9 s10 s.1 s.2) := loopE_eq _ _
/-- domain.Many -/
noncomputable def domain_Many (a0 : List (List TValue)) (a1 : Bool) : Option (Int) :=
  bndE (domain_Many_l1 a1 a0 (a0.length : Int) 1 0) fun o4 =>
  some o4
/-- domain.bindings -/
noncomputable def domain_bindings (a0 : List (List TValue)) (a1 : Int) (a2 : List TSlot) (a3 : Bool) : Option (Int × List (List TValue) × List TSlot × Bool) :=
  some (a1, a0, a2, a3)
/-- slices.Clone[[]api.Slot,api.Slot] -/
def slices_Clone_Slot_Slot (l : List TSlot) : Option (List TSlot) := cloneE 48 l
/-- domain.bindings -/
noncomputable def domain_bindings_v2 (a0 : List (List TValue)) (a1 : Int) (a2 : List TSlot) (a3 : Bool) : Option (Int × List (List TValue) × List TSlot × Bool) :=
  some (a1, a0, a2, a3)
/-- slices.Clone[[]api.Slot,api.Slot] -/
def slices_Clone_Slot_Slot_v2 (l : List TSlot) : Option (List TSlot) := cloneE 48 l
noncomputable def domain_bindings_1_v2_b3 (self : ∀ ψ : Type, (ψ → (List TSlot) → Option (ψ × Bool)) → Int → (List (List TValue)) → (List TSlot) → Bool → ψ → Option ψ) {φ : Type} (step : φ → (List TSlot) → Option (φ × Bool)) (f0 : φ) (s1 : Int) (s2 : List (List TValue)) (s3 : List TSlot) (s4 : Bool) (s25_1 : Int) (s25_2 : List (List TValue)) (s25_3 : List TSlot) (s25_4 : Bool) (s26 : List TSlot) (w998_1 : Int) (w998_2 : List (List TValue)) (w998_3 : List TSlot) (w998_4 : Bool) (w998_5 : Int) (w998_6 : List (List TValue)) (w998_7 : List TSlot) (w998_8 : Bool) : Option (Unit) :=
  some ()
noncomputable def domain_bindings_1_v2_b5 (self : ∀ ψ : Type, (ψ → (List TSlot) → Option (ψ × Bool)) → Int → (List (List TValue)) → (List TSlot) → Bool → ψ → Option ψ) {φ : Type} (step : φ → (List TSlot) → Option (φ × Bool)) (f0 : φ) (s1 : Int) (s2 : List (List TValue)) (s3 : List TSlot) (s4 : Bool) (s6 : List TSlot) (s25_1 : Int) (s25_2 : List (List TValue)) (s25_3 : List TSlot) (s25_4 : Bool) (w998_1 : Int) (w998_2 : List (List TValue)) (w998_3 : List TSlot) (w998_4 : Bool) (w998_5 : Int) (w998_6 : List (List TValue)) (w998_7 : List TSlot) (w998_8 : Bool) : Option (φ ⊕ φ) :=
  yldE (step f0 s6) (fun f10 =>
   some (.inl f10)) (fun f11 =>
   some (.inr f11))
noncomputable def domain_bindings_1_v2_r2_rd (self : ∀ ψ : Type, (ψ → (List TSlot) → Option (ψ × Bool)) → Int → (List (List TValue)) → (List TSlot) → Bool → ψ → Option ψ) {φ : Type} (step : φ → (List TSlot) → Option (φ × Bool)) (s1 : Int) (s2 : List (List TValue)) (s3 : List TSlot) (s4 : Bool) (s25_1 : Int) (s25_2 : List (List TValue)) (s25_3 : List TSlot) (s25_4 : Bool) (s : φ) (x : (List TSlot)) : Option ((φ) ⊕ (φ)) :=
  bndE (domain_bindings_1_v2_b3 self step s s1 s2 s3 s4 s25_1 s25_2 s25_3 s25_4 x s1 s2 s3 s4 s25_1 s25_2 s25_3 s25_4) fun o9 =>
  bndE (domain_bindings_1_v2_b5 self step s s1 s2 s3 s4 x s25_1 s25_2 s25_3 s25_4 s1 s2 s3 s4 s25_1 s25_2 s25_3 s25_4) fun o12 =>
  sumE o12 (fun o37 =>
   some (.inl o37)) (fun o38 =>
   some (.inr o38))
noncomputable def domain_bindings_1_v2_b1 (self : ∀ ψ : Type, (ψ → (List TSlot) → Option (ψ × Bool)) → Int → (List (List TValue)) → (List TSlot) → Bool → ψ → Option ψ) {φ : Type} (step : φ → (List TSlot) → Option (φ × Bool)) (f0 : φ) (s1 : Int) (s2 : List (List TValue)) (s3 : List TSlot) (s4 : Bool) (s19 : Bool) : Option (φ ⊕ φ) :=
  iteE (s19) (
   bndE (domain_bindings_v2 s2 (intVal .add .i64 s1 1) s3 s4) fun r4 =>
   bndE (self _ (stepOf (domain_bindings_1_v2_r2_rd self step s1 s2 s3 s4 r4.1 r4.2.1 r4.2.2.1 r4.2.2.2)) r4.1 r4.2.1 r4.2.2.1 r4.2.2.2 (.inl f0)) fun o13 =>
   sumE o13 (fun o14 =>
    some (.inl o14)) (fun o15 =>
    some (.inr o15))) (
   some (.inl f0))
noncomputable def domain_bindings_1_v2_b8 (self : ∀ ψ : Type, (ψ → (List TSlot) → Option (ψ × Bool)) → Int → (List (List TValue)) → (List TSlot) → Bool → ψ → Option ψ) {φ : Type} (step : φ → (List TSlot) → Option (φ × Bool)) (f0 : φ) (s1 : Int) (s2 : List (List TValue)) (s3 : List TSlot) (s4 : Bool) (s34 : List TValue) (s35 : Int) (s36 : Int) (s52_1 : Int) (s52_2 : List (List TValue)) (s52_3 : List TSlot) (s52_4 : Bool) (s53 : List TSlot) (w998_1 : Int) (w998_2 : List (List TValue)) (w998_3 : List TSlot) (w998_4 : Bool) (w998_5 : List TValue) (w998_6 : Int) (w998_7 : Int) (w998_8 : Int) (w998_9 : List (List TValue)) (w998_10 : List TSlot) (w998_11 : Bool) : Option (Unit) :=
  some ()
noncomputable def domain_bindings_1_v2_b10 (self : ∀ ψ : Type, (ψ → (List TSlot) → Option (ψ × Bool)) → Int → (List (List TValue)) → (List TSlot) → Bool → ψ → Option ψ) {φ : Type} (step : φ → (List TSlot) → Option (φ × Bool)) (f0 : φ) (s1 : Int) (s2 : List (List TValue)) (s3 : List TSlot) (s4 : Bool) (s10 : List TSlot) (s34 : List TValue) (s35 : Int) (s36 : Int) (s52_1 : Int) (s52_2 : List (List TValue)) (s52_3 : List TSlot) (s52_4 : Bool) (w998_1 : Int) (w998_2 : List (List TValue)) (w998_3 : List TSlot) (w998_4 : Bool) (w998_5 : List TValue) (w998_6 : Int) (w998_7 : Int) (w998_8 : Int) (w998_9 : List (List TValue)) (w998_10 : List TSlot) (w998_11 : Bool) : Option (φ ⊕ φ) :=
  yldE (step f0 s10) (fun f28 =>
   some (.inl f28)) (fun f29 =>
   some (.inr f29))
noncomputable def domain_bindings_1_v2_r7_rd (self : ∀ ψ : Type, (ψ → (List TSlot) → Option (ψ × Bool)) → Int → (List (List TValue)) → (List TSlot) → Bool → ψ → Option ψ) {φ : Type} (step : φ → (List TSlot) → Option (φ × Bool)) (s1 : Int) (s2 : List (List TValue)) (s3 : List TSlot) (s4 : Bool) (s34 : List TValue) (s35 : Int) (s36 : Int) (s52_1 : Int) (s52_2 : List (List TValue)) (s52_3 : List TSlot) (s52_4 : Bool) (s : φ) (x : (List TSlot)) : Option ((φ) ⊕ (φ)) :=
  bndE (domain_bindings_1_v2_b8 self step s s1 s2 s3 s4 s34 s35 s36 s52_1 s52_2 s52_3 s52_4 x s1 s2 s3 s4 s34 s35 s36 s52_1 s52_2 s52_3 s52_4) fun o27 =>
  bndE (domain_bindings_1_v2_b10 self step s s1 s2 s3 s4 x s34 s35 s36 s52_1 s52_2 s52_3 s52_4 s1 s2 s3 s4 s34 s35 s36 s52_1 s52_2 s52_3 s52_4) fun o30 =>
  sumE o30 (fun o39 =>
   some (.inl o39)) (fun o40 =>
   some (.inr o40))
noncomputable def domain_bindings_1_v2_l6_s (self : ∀ ψ : Type, (ψ → (List TSlot) → Option (ψ × Bool)) → Int → (List (List TValue)) → (List TSlot) → Bool → ψ → Option ψ) {φ : Type} (step : φ → (List TSlot) → Option (φ × Bool)) (s1 : Int) (s2 : List (List TValue)) (s3 : List TSlot) (s4 : Bool) (s34 : List TValue) (s35 : Int) (f0 : φ) (s36 : Int) : Option ((φ × Int) ⊕ (φ ⊕ φ)) :=
  iteE (decide (s36 < s35)) (
   idxE s34 s36 fun x20 =>
   bndE (slices_Clone_Slot_Slot_v2 s3) fun r21 =>
   chkE (fit r21.length [TSlot.mk s1 x20].length 48) (
    bndE (domain_bindings_v2 s2 (intVal .add .i64 s1 1) (r21 ++ [TSlot.mk s1 x20]) s4) fun r22 =>
    bndE (self _ (stepOf (domain_bindings_1_v2_r7_rd self step s1 s2 s3 s4 s34 s35 s36 r22.1 r22.2.1 r22.2.2.1 r22.2.2.2)) r22.1 r22.2.1 r22.2.2.1 r22.2.2.2 (.inl f0)) fun o31 =>
    sumE o31 (fun o32 =>
     some (.inl (o32, (intVal .add .i64 s36 1)))) (fun o33 =>
     some (.inr (.inr o33))))) (
   some (.inr (.inl f0)))
noncomputable def domain_bindings_1_v2_l6 (self : ∀ ψ : Type, (ψ → (List TSlot) → Option (ψ × Bool)) → Int → (List (List TValue)) → (List TSlot) → Bool → ψ → Option ψ) {φ : Type} (step : φ → (List TSlot) → Option (φ × Bool)) (s1 : Int) (s2 : List (List TValue)) (s3 : List TSlot) (s4 : Bool) (s34 : List TValue) (s35 : Int) (f0 : φ) (s36 : Int) : Option (φ ⊕ φ) := loopE (fun s : φ × Int => domain_bindings_1_v2_l6_s self step s1 s2 s3 s4 s34 s35 s.1 s.2) (f0, s36)
theorem domain_bindings_1_v2_l6_eq (self : ∀ ψ : Type, (ψ → (List TSlot) → Option (ψ × Bool)) → Int → (List (List TValue)) → (List TSlot) → Bool → ψ → Option ψ) {φ : Type} (step : φ → (List TSlot) → Option (φ × Bool)) (s1 : Int) (s2 : List (List TValue)) (s3 : List TSlot) (s4 : Bool) (s34 : List TValue) (s35 : Int) (f0 : φ) (s36 : Int) : domain_bindings_1_v2_l6 self step s1 s2 s3 s4 s34 s35 f0 s36 = nextE (domain_bindings_1_v2_l6_s self step s1 s2 s3 s4 s34 s35 f0 s36) (fun s : φ × Int => domain_bindings_1_v2_l6 self step s1 s2 s3 s4 s34 s35 s.1 s.2) := loopE_eq _ _
noncomputable def domain_bindings_1_v2_F (self : ∀ ψ : Type, (ψ → (List TSlot) → Option (ψ × Bool)) → Int → (List (List TValue)) → (List TSlot) → Bool → ψ → Option ψ) {φ : Type} (step : φ → (List TSlot) → Option (φ × Bool)) (a1 : Int) (a2 : List (List TValue)) (a3 : List TSlot) (a4 : Bool) (f0 : φ) : Option φ :=
  iteE (decide (a1 = (a2.length : Int))) (
   bndE (slices_Clone_Slot_Slot a3) fun r1 =>
   yldE (step f0 r1) (fun f2 =>
    some f2) (fun f3 =>
    some f3)) (
   bndE (domain_bindings_1_v2_b1 self step f0 a1 a2 a3 a4 a4) fun o16 =>
   sumE o16 (fun o17 =>
    idxE a2 a1 fun x19 =>
    bndE (domain_bindings_1_v2_l6 self step a1 a2 a3 a4 x19 (x19.length : Int) o17 0) fun o34 =>
    sumE o34 (fun o35 =>
     some o35) (fun o36 =>
     some o36)) (fun o18 =>
    some o18))
noncomputable def domain_bindings_1_v2_n : Nat → ∀ ψ : Type, (ψ → (List TSlot) → Option (ψ × Bool)) → Int → (List (List TValue)) → (List TSlot) → Bool → ψ → Option ψ
  | 0 => fun _ _ _ _ _ _ _  => none
  | n + 1 => fun _ step a1 a2 a3 a4 f0 => domain_bindings_1_v2_F (domain_bindings_1_v2_n n) step a1 a2 a3 a4 f0
/-- domain.bindings$1 -/
noncomputable def domain_bindings_1_v2 {φ : Type} (step : φ → (List TSlot) → Option (φ × Bool)) (a1 : Int) (a2 : List (List TValue)) (a3 : List TSlot) (a4 : Bool) (f0 : φ) : Option φ := domain_bindings_1_v2_n 100000 _ step a1 a2 a3 a4 f0
noncomputable def domain_bindings_1_b3 {φ : Type} (step : φ → (List TSlot) → Option (φ × Bool)) (f0 : φ) (s1 : Int) (s2 : List (List TValue)) (s3 : List TSlot) (s4 : Bool) (s25_1 : Int) (s25_2 : List (List TValue)) (s25_3 : List TSlot) (s25_4 : Bool) (s26 : List TSlot) (w998_1 : Int) (w998_2 : List (List TValue)) (w998_3 : List TSlot) (w998_4 : Bool) (w998_5 : Int) (w998_6 : List (List TValue)) (w998_7 : List TSlot) (w998_8 : Bool) : Option (Unit) :=
  some ()
noncomputable def domain_bindings_1_b5 {φ : Type} (step : φ → (List TSlot) → Option (φ × Bool)) (f0 : φ) (s1 : Int) (s2 : List (List TValue)) (s3 : List TSlot) (s4 : Bool) (s6 : List TSlot) (s25_1 : Int) (s25_2 : List (List TValue)) (s25_3 : List TSlot) (s25_4 : Bool) (w998_1 : Int) (w998_2 : List (List TValue)) (w998_3 : List TSlot) (w998_4 : Bool) (w998_5 : Int) (w998_6 : List (List TValue)) (w998_7 : List TSlot) (w998_8 : Bool) : Option (φ ⊕ φ) :=
  yldE (step f0 s6) (fun f10 =>
   some (.inl f10)) (fun f11 =>
   some (.inr f11))
noncomputable def domain_bindings_1_r2_rd {φ : Type} (step : φ → (List TSlot) → Option (φ × Bool)) (s1 : Int) (s2 : List (List TValue)) (s3 : List TSlot) (s4 : Bool) (s25_1 : Int) (s25_2 : List (List TValue)) (s25_3 : List TSlot) (s25_4 : Bool) (s : φ) (x : (List TSlot)) : Option ((φ) ⊕ (φ)) :=
  bndE (domain_bindings_1_b3 step s s1 s2 s3 s4 s25_1 s25_2 s25_3 s25_4 x s1 s2 s3 s4 s25_1 s25_2 s25_3 s25_4) fun o9 =>
  bndE (domain_bindings_1_b5 step s s1 s2 s3 s4 x s25_1 s25_2 s25_3 s25_4 s1 s2 s3 s4 s25_1 s25_2 s25_3 s25_4) fun o12 =>
  sumE o12 (fun o37 =>
   some (.inl o37)) (fun o38 =>
   some (.inr o38))
noncomputable def domain_bindings_1_b1 {φ : Type} (step : φ → (List TSlot) → Option (φ × Bool)) (f0 : φ) (s1 : Int) (s2 : List (List TValue)) (s3 : List TSlot) (s4 : Bool) (s19 : Bool) : Option (φ ⊕ φ) :=
  iteE (s19) (
   bndE (domain_bindings_v2 s2 (intVal .add .i64 s1 1) s3 s4) fun r4 =>
   bndE (domain_bindings_1_v2 (stepOf (domain_bindings_1_r2_rd step s1 s2 s3 s4 r4.1 r4.2.1 r4.2.2.1 r4.2.2.2)) r4.1 r4.2.1 r4.2.2.1 r4.2.2.2 (.inl f0)) fun o13 =>
   sumE o13 (fun o14 =>
    some (.inl o14)) (fun o15 =>
    some (.inr o15))) (
   some (.inl f0))
noncomputable def domain_bindings_1_b8 {φ : Type} (step : φ → (List TSlot) → Option (φ × Bool)) (f0 : φ) (s1 : Int) (s2 : List (List TValue)) (s3 : List TSlot) (s4 : Bool) (s34 : List TValue) (s35 : Int) (s36 : Int) (s52_1 : Int) (s52_2 : List (List TValue)) (s52_3 : List TSlot) (s52_4 : Bool) (s53 : List TSlot) (w998_1 : Int) (w998_2 : List (List TValue)) (w998_3 : List TSlot) (w998_4 : Bool) (w998_5 : List TValue) (w998_6 : Int) (w998_7 : Int) (w998_8 : Int) (w998_9 : List (List TValue)) (w998_10 : List TSlot) (w998_11 : Bool) : Option (Unit) :=
  some ()
noncomputable def domain_bindings_1_b10 {φ : Type} (step : φ → (List TSlot) → Option (φ × Bool)) (f0 : φ) (s1 : Int) (s2 : List (List TValue)) (s3 : List TSlot) (s4 : Bool) (s10 : List TSlot) (s34 : List TValue) (s35 : Int) (s36 : Int) (s52_1 : Int) (s52_2 : List (List TValue)) (s52_3 : List TSlot) (s52_4 : Bool) (w998_1 : Int) (w998_2 : List (List TValue)) (w998_3 : List TSlot) (w998_4 : Bool) (w998_5 : List TValue) (w998_6 : Int) (w998_7 : Int) (w998_8 : Int) (w998_9 : List (List TValue)) (w998_10 : List TSlot) (w998_11 : Bool) : Option (φ ⊕ φ) :=
  yldE (step f0 s10) (fun f28 =>
   some (.inl f28)) (fun f29 =>
   some (.inr f29))
noncomputable def domain_bindings_1_r7_rd {φ : Type} (step : φ → (List TSlot) → Option (φ × Bool)) (s1 : Int) (s2 : List (List TValue)) (s3 : List TSlot) (s4 : Bool) (s34 : List TValue) (s35 : Int) (s36 : Int) (s52_1 : Int) (s52_2 : List (List TValue)) (s52_3 : List TSlot) (s52_4 : Bool) (s : φ) (x : (List TSlot)) : Option ((φ) ⊕ (φ)) :=
  bndE (domain_bindings_1_b8 step s s1 s2 s3 s4 s34 s35 s36 s52_1 s52_2 s52_3 s52_4 x s1 s2 s3 s4 s34 s35 s36 s52_1 s52_2 s52_3 s52_4) fun o27 =>
  bndE (domain_bindings_1_b10 step s s1 s2 s3 s4 x s34 s35 s36 s52_1 s52_2 s52_3 s52_4 s1 s2 s3 s4 s34 s35 s36 s52_1 s52_2 s52_3 s52_4) fun o30 =>
  sumE o30 (fun o39 =>
   some (.inl o39)) (fun o40 =>
   some (.inr o40))
noncomputable def domain_bindings_1_l6_s {φ : Type} (step : φ → (List TSlot) → Option (φ × Bool)) (s1 : Int) (s2 : List (List TValue)) (s3 : List TSlot) (s4 : Bool) (s34 : List TValue) (s35 : Int) (f0 : φ) (s36 : Int) : Option ((φ × Int) ⊕ (φ ⊕ φ)) :=
  iteE (decide (s36 < s35)) (
   idxE s34 s36 fun x20 =>
   bndE (slices_Clone_Slot_Slot_v2 s3) fun r21 =>
   chkE (fit r21.length [TSlot.mk s1 x20].length 48) (
    bndE (domain_bindings_v2 s2 (intVal .add .i64 s1 1) (r21 ++ [TSlot.mk s1 x20]) s4) fun r22 =>
    bndE (domain_bindings_1_v2 (stepOf (domain_bindings_1_r7_rd step s1 s2 s3 s4 s34 s35 s36 r22.1 r22.2.1 r22.2.2.1 r22.2.2.2)) r22.1 r22.2.1 r22.2.2.1 r22.2.2.2 (.inl f0)) fun o31 =>
    sumE o31 (fun o32 =>
     some (.inl (o32, (intVal .add .i64 s36 1)))) (fun o33 =>
     some (.inr (.inr o33))))) (
   some (.inr (.inl f0)))
noncomputable def domain_bindings_1_l6 {φ : Type} (step : φ → (List TSlot) → Option (φ × Bool)) (s1 : Int) (s2 : List (List TValue)) (s3 : List TSlot) (s4 : Bool) (s34 : List TValue) (s35 : Int) (f0 : φ) (s36 : Int) : Option (φ ⊕ φ) := loopE (fun s : φ × Int => domain_bindings_1_l6_s step s1 s2 s3 s4 s34 s35 s.1 s.2) (f0, s36)
theorem domain_bindings_1_l6_eq {φ : Type} (step : φ → (List TSlot) → Option (φ × Bool)) (s1 : Int) (s2 : List (List TValue)) (s3 : List TSlot) (s4 : Bool) (s34 : List TValue) (s35 : Int) (f0 : φ) (s36 : Int) : domain_bindings_1_l6 step s1 s2 s3 s4 s34 s35 f0 s36 = nextE (domain_bindings_1_l6_s step s1 s2 s3 s4 s34 s35 f0 s36) (fun s : φ × Int => domain_bindings_1_l6 step s1 s2 s3 s4 s34 s35 s.1 s.2) := loopE_eq _ _
/-- domain.bindings$1 -/
noncomputable def domain_bindings_1 {φ : Type} (step : φ → (List TSlot) → Option (φ × Bool)) (a1 : Int) (a2 : List (List TValue)) (a3 : List TSlot) (a4 : Bool) (f0 : φ) : Option φ :=
  iteE (decide (a1 = (a2.length : Int))) (
   bndE (slices_Clone_Slot_Slot a3) fun r1 =>
   yldE (step f0 r1) (fun f2 =>
    some f2) (fun f3 =>
    some f3)) (
   bndE (domain_bindings_1_b1 step f0 a1 a2 a3 a4 a4) fun o16 =>
   sumE o16 (fun o17 =>
    idxE a2 a1 fun x19 =>
    bndE (domain_bindings_1_l6 step a1 a2 a3 a4 x19 (x19.length : Int) o17 0) fun o34 =>
    sumE o34 (fun o35 =>
     some o35) (fun o36 =>
     some o36)) (fun o18 =>
    some o18))
noncomputable def slices_AppendSeq_Slot_Slot_b4 (s6_1 : Int) (s6_2 : List (List TValue)) (s6_3 : List TSlot) (s6_4 : Bool) (s7 : List TSlot) (w600 : List (List TSlot)) (w998_1 : Int) (w998_2 : List (List TValue)) (w998_3 : List TSlot) (w998_4 : Bool) : Option (Unit) :=
  some ()
noncomputable def slices_AppendSeq_Slot_Slot_b6 (s5 : List TSlot) (s6_1 : Int) (s6_2 : List (List TValue)) (s6_3 : List TSlot) (s6_4 : Bool) (w600 : List (List TSlot)) (w998_1 : Int) (w998_2 : List (List TValue)) (w998_3 : List TSlot) (w998_4 : Bool) : Option (Unit) :=
  chkE (fit w600.length [s5].length 24) (
   some ())
noncomputable def slices_AppendSeq_Slot_Slot_r1_rd (s6_1 : Int) (s6_2 : List (List TValue)) (s6_3 : List TSlot) (s6_4 : Bool) (s : List (List TSlot)) (x : (List TSlot)) : Option ((List (List TSlot)) ⊕ (Empty)) :=
  bndE (slices_AppendSeq_Slot_Slot_b4 s6_1 s6_2 s6_3 s6_4 x s s6_1 s6_2 s6_3 s6_4) fun o5 =>
  bndE (slices_AppendSeq_Slot_Slot_b6 x s6_1 s6_2 s6_3 s6_4 s s6_1 s6_2 s6_3 s6_4) fun o6 =>
  some (.inl (s ++ [x]))
/-- slices.AppendSeq[[][]api.Slot,[]api.Slot] -/
noncomputable def slices_AppendSeq_Slot_Slot (a1_1 : Int) (a1_2 : List (List TValue)) (a1_3 : List TSlot) (a1_4 : Bool) : Option (List (List TSlot)) :=
  bndE (domain_bindings_1 (stepOf (slices_AppendSeq_Slot_Slot_r1_rd a1_1 a1_2 a1_3 a1_4)) a1_1 a1_2 a1_3 a1_4 (.inl ([] : List (List TSlot)))) fun o7 =>
  sumE o7 (fun o8 =>
   some o8) (fun o9 =>
   none)
/-- slices.Collect[[]api.Slot] -/
noncomputable def slices_Collect_Slot (a0_1 : Int) (a0_2 : List (List TValue)) (a0_3 : List TSlot) (a0_4 : Bool) : Option (List (List TSlot)) :=
  bndE (slices_AppendSeq_Slot_Slot a0_1 a0_2 a0_3 a0_4) fun r1 =>
  some r1
/-- domain.list -/
noncomputable def domain_list (a0 : List (List TValue)) (a1 : Bool) : Option (List (List TSlot)) :=
  bndE (domain_Many a0 a1) fun r1 =>
  iteE (decide (65536 < r1)) (
   some ([] : List (List TSlot))) (
   iteE (decide (8 < (a0.length : Int))) (
    some ([] : List (List TSlot))) (
    bndE (domain_bindings a0 0 ([] : List TSlot) a1) fun r2 =>
    bndE (slices_Collect_Slot r2.1 r2.2.1 r2.2.2.1 r2.2.2.2) fun r3 =>
    some r3))
/-- domain.Full -/
noncomputable def domain_Full (a0 : List (List TValue)) : Option (List (List TSlot)) :=
  bndE (domain_list a0 false) fun r1 =>
  some r1
/-- domain.Parts -/
noncomputable def domain_Parts (a0 : List (List TValue)) : Option (List (List TSlot)) :=
  bndE (domain_list a0 true) fun r1 =>
  some r1
/-- proctorlaw20.awake -/
noncomputable def law20_awake : Option (Bool) :=
  bndE (law20_one 5) fun r1 =>
  bndE (law20_one 6) fun r2 =>
  bndE (law20_one 7) fun r3 =>
  bndE (domain_Full ([[r1, r2], [r3]])) fun r4 =>
  iteE (decide ((r4.length : Int) = 2)) (
   bndE (domain_Parts ([[r1, r2], [r3]])) fun r5 =>
   iteE (decide ((r5.length : Int) = 6)) (
    bndE (domain_Many ([[r1, r2], [r3]]) true) fun r6 =>
    some (decide (r6 = 6))) (
    some false)) (
   some false)
/-- domain.NewSet[api.Value] -/
noncomputable def domain_NewSet_Value_v2 : Option (Unit) :=
  some ()
/-- proctorref03.Right -/
noncomputable def ref03_Right (a0 : TValue) : Option (Bool) :=
  iteE (decide (a0.kind = 1)) (
   iteE (decide (a0.str = ([] : List UInt8))) (
    some (!a0.bool)) (
    some false)) (
   iteE (decide (a0.kind = 2)) (
    iteE (decide (a0.int = 0)) (
     iteE (!a0.bool) (
      some (decide ((a0.str.length : Int) ≤ 4096))) (
      some false)) (
     some false)) (
    iteE (decide (a0.kind = 3)) (
     iteE (decide (a0.int = 0)) (
      some (decide (a0.str = ([] : List UInt8)))) (
      some false)) (
     some false)))
noncomputable def ref03_Below_l1_s (s0 : List UInt8) (s1 : List UInt8) (s5 : Int) : Option ((Int) ⊕ (Unit ⊕ Bool)) :=
  iteE (decide (s5 < (s0.length : Int))) (
   iteE (decide (s5 < (s1.length : Int))) (
    idxE s0 s5 fun x1 =>
    idxE s1 s5 fun x2 =>
    iteE (!decide ((x1.toNat : Int) = (x2.toNat : Int))) (
     idxE s0 s5 fun x3 =>
     idxE s1 s5 fun x4 =>
     some (.inr (.inr (decide ((x3.toNat : Int) < (x4.toNat : Int)))))) (
     some (.inl (intVal .add .i64 s5 1)))) (
    some (.inr (.inl ())))) (
   some (.inr (.inl ())))
noncomputable def ref03_Below_l1 (s0 : List UInt8) (s1 : List UInt8) (s5 : Int) : Option (Unit ⊕ Bool) := loopE (fun s : Int => ref03_Below_l1_s s0 s1 s) s5
theorem ref03_Below_l1_eq (s0 : List UInt8) (s1 : List UInt8) (s5 : Int) : ref03_Below_l1 s0 s1 s5 = nextE (ref03_Below_l1_s s0 s1 s5) (fun s : Int => ref03_Below_l1 s0 s1 s) := loopE_eq _ _
/-- proctorref03.Below -/
noncomputable def ref03_Below (a0 : List UInt8) (a1 : List UInt8) : Option (Bool) :=
  bndE (ref03_Below_l1 a0 a1 0) fun o5 =>
  sumE o5 (fun o6 =>
   some (decide ((a0.length : Int) < (a1.length : Int)))) (fun o7 =>
   some o7)
/-- proctorref03.Less -/
noncomputable def ref03_Less (a0 : TValue) (a1 : TValue) : Option (Bool) :=
  iteE (!decide (a0.kind = a1.kind)) (
   some (decide (a0.kind < a1.kind))) (
   iteE (decide (a0.kind = 1)) (
    some (decide (a0.int < a1.int))) (
    iteE (decide (a0.kind = 2)) (
     bndE (ref03_Below a0.str a1.str) fun r1 =>
     some r1) (
     iteE (!a0.bool) (
      some a1.bool) (
      some false))))
noncomputable def ref20_Put_l1_s (s0 : List TValue) (w3 : TValue) (s5 : Int) : Option ((Int) ⊕ (Int)) :=
  iteE (decide (0 < s5)) (
   idxE s0 (intVal .sub .i64 s5 1) fun x1 =>
   bndE (ref03_Less w3 x1) fun r2 =>
   iteE (r2) (
    some (.inl (intVal .sub .i64 s5 1))) (
    some (.inr s5))) (
   some (.inr s5))
noncomputable def ref20_Put_l1 (s0 : List TValue) (w3 : TValue) (s5 : Int) : Option (Int) := loopE (fun s : Int => ref20_Put_l1_s s0 w3 s) s5
theorem ref20_Put_l1_eq (s0 : List TValue) (w3 : TValue) (s5 : Int) : ref20_Put_l1 s0 w3 s5 = nextE (ref20_Put_l1_s s0 w3 s5) (fun s : Int => ref20_Put_l1 s0 w3 s) := loopE_eq _ _
/-- proctorref20.Put -/
noncomputable def ref20_Put (a0 : List TValue) (a1 : TValue) : Option (List TValue) :=
  bndE (ref20_Put_l1 a0 a1 (a0.length : Int)) fun o3 =>
  iteE (decide (0 < o3)) (
   idxE a0 (intVal .sub .i64 o3 1) fun x4 =>
   iteE ((TValue.eqb x4 a1)) (
    some a0) (
    chkE ((0 : Int) ≤ 0 ∧ (0 : Int) ≤ o3 ∧ o3 ≤ (a0.length : Int)) (
     chkE (fit ([] : List TValue).length (sub a0 0 o3).length 40) (
      chkE (fit (([] : List TValue) ++ (sub a0 0 o3)).length [a1].length 40) (
       chkE ((0 : Int) ≤ o3 ∧ (o3 : Int) ≤ (a0.length : Int) ∧ (a0.length : Int) ≤ (a0.length : Int)) (
        chkE (fit ((([] : List TValue) ++ (sub a0 0 o3)) ++ [a1]).length (sub a0 o3 (a0.length : Int)).length 40) (
         some (((([] : List TValue) ++ (sub a0 0 o3)) ++ [a1]) ++ (sub a0 o3 (a0.length : Int)))))))))) (
   chkE ((0 : Int) ≤ 0 ∧ (0 : Int) ≤ o3 ∧ o3 ≤ (a0.length : Int)) (
    chkE (fit ([] : List TValue).length (sub a0 0 o3).length 40) (
     chkE (fit (([] : List TValue) ++ (sub a0 0 o3)).length [a1].length 40) (
      chkE ((0 : Int) ≤ o3 ∧ (o3 : Int) ≤ (a0.length : Int) ∧ (a0.length : Int) ≤ (a0.length : Int)) (
       chkE (fit ((([] : List TValue) ++ (sub a0 0 o3)) ++ [a1]).length (sub a0 o3 (a0.length : Int)).length 40) (
        some (((([] : List TValue) ++ (sub a0 0 o3)) ++ [a1]) ++ (sub a0 o3 (a0.length : Int)))))))))
/-- (*domain.Set[api.Value]).Put$1 -/
noncomputable def domain_Set_Value_Put_1 (a0 : TValue) (a1 : TValue) (a2 : List TValue) : Option (Int) :=
  bndE (ref03_Less a0 a1) fun r1 =>
  iteE (r1) (
   some (-1)) (
   bndE (ref03_Less a1 a0) fun r2 =>
   iteE (r2) (
    some 1) (
    some 0))
noncomputable def slices_BinarySearchFunc_Value_Value_Value_b3 (s0 : List TValue) (s2 : List TValue) (s8 : Int) (s9 : Int) (s10 : Int) (s11 : Int) (s31 : Bool) (w4 : TValue) : Option ((Int × Int)) :=
  iteE (s31) (
   some ((intVal .add .i64 s11 1), s10)) (
   some (s9, s11))
noncomputable def slices_BinarySearchFunc_Value_Value_Value_b2 (s0 : List TValue) (s2 : List TValue) (s8 : Int) (s9 : Int) (s10 : Int) (w4 : TValue) : Option ((Int × Int)) :=
  idxE s0 (IntKind.wrap .i64 (intVal .shr .u64 (IntKind.wrap .u64 (intVal .add .i64 s9 s10)) 1)) fun x1 =>
  bndE (domain_Set_Value_Put_1 x1 w4 s2) fun r2 =>
  bndE (slices_BinarySearchFunc_Value_Value_Value_b3 s0 s2 s8 s9 s10 (IntKind.wrap .i64 (intVal .shr .u64 (IntKind.wrap .u64 (intVal .add .i64 s9 s10)) 1)) (decide (r2 < 0)) w4) fun o3 =>
  some (o3.1, o3.2)
noncomputable def slices_BinarySearchFunc_Value_Value_Value_l1_s (s0 : List TValue) (s2 : List TValue) (s8 : Int) (w4 : TValue) (s9 : Int) (s10 : Int) : Option ((Int × Int) ⊕ (Int)) :=
  iteE (decide (s9 < s10)) (
   bndE (slices_BinarySearchFunc_Value_Value_Value_b2 s0 s2 s8 s9 s10 w4) fun o4 =>
   some (.inl (o4.1, o4.2))) (
   some (.inr s9))
noncomputable def slices_BinarySearchFunc_Value_Value_Value_l1 (s0 : List TValue) (s2 : List TValue) (s8 : Int) (w4 : TValue) (s9 : Int) (s10 : Int) : Option (Int) := loopE (fun s : Int × Int => slices_BinarySearchFunc_Value_Value_Value_l1_s s0 s2 s8 w4 s.1 s.2) (s9, s10)
theorem slices_BinarySearchFunc_Value_Value_Value_l1_eq (s0 : List TValue) (s2 : List TValue) (s8 : Int) (w4 : TValue) (s9 : Int) (s10 : Int) : slices_BinarySearchFunc_Value_Value_Value_l1 s0 s2 s8 w4 s9 s10 = nextE (slices_BinarySearchFunc_Value_Value_Value_l1_s s0 s2 s8 w4 s9 s10) (fun s : Int × Int => slices_BinarySearchFunc_Value_Value_Value_l1 s0 s2 s8 w4 s.1 s.2) := loopE_eq _ _
/-- slices.BinarySearchFunc[[]api.Value,api.Value,api.Value] -/
noncomputable def slices_BinarySearchFunc_Value_Value_Value (a0 : List TValue) (a1 : TValue) (a2 : List TValue) : Option (Int × Bool) :=
  bndE (slices_BinarySearchFunc_Value_Value_Value_l1 a0 a2 (a0.length : Int) a1 0 (a0.length : Int)) fun o5 =>
  iteE (decide (o5 < (a0.length : Int))) (
   idxE a0 o5 fun x6 =>
   bndE (domain_Set_Value_Put_1 x6 a1 a2) fun r7 =>
   some (o5, decide (r7 = 0))) (
   some (o5, false))
/-- slices.Insert[[]api.Value,api.Value] of nil -/
def slices_Insert_Value_Value (i : Int) (ys : List TValue) : Option (List TValue) := insN 40 i ys
noncomputable def domain_Set_Value_Put_v2_b1 (s5 : Int) (s6 : Bool) (s20 : Bool) (w3 : TValue) : Option ((List TValue)) :=
  iteE (s20) (
   bndE (slices_Insert_Value_Value s5 [w3]) fun r2 =>
   some r2) (
   some ([] : List TValue))
/-- (*domain.Set[api.Value]).Put -/
noncomputable def domain_Set_Value_Put_v2 (a1 : TValue) : Option (Bool × List TValue) :=
  bndE (slices_BinarySearchFunc_Value_Value_Value ([] : List TValue) a1 ([] : List TValue)) fun r1 =>
  bndE (domain_Set_Value_Put_v2_b1 r1.1 r1.2 (!r1.2) a1) fun o3 =>
  some (!r1.2, o3)
/-- slices.Clone[[]api.Value,api.Value] -/
def slices_Clone_Value_Value (l : List TValue) : Option (List TValue) := cloneE 40 l
/-- (*domain.Set[api.Value]).All -/
noncomputable def domain_Set_Value_All (w1 : List TValue) : Option (List TValue × List TValue) :=
  bndE (slices_Clone_Value_Value w1) fun r1 =>
  some (r1, w1)
noncomputable def ref20_Same_l2_s (s0 : List (List TValue)) (s1 : List (List TValue)) (s5 : Int) (s6 : Int) : Option ((Int) ⊕ (Unit ⊕ Unit)) :=
  idxE s0 s5 fun x3 =>
  iteE (decide (s6 < (x3.length : Int))) (
   idxE s0 s5 fun x4 =>
   idxE x4 s6 fun x5 =>
   idxE s1 s5 fun x6 =>
   idxE x6 s6 fun x7 =>
   iteE (!(TValue.eqb x5 x7)) (
    some (.inr (.inr ()))) (
    some (.inl (intVal .add .i64 s6 1)))) (
   some (.inr (.inl ())))
noncomputable def ref20_Same_l2 (s0 : List (List TValue)) (s1 : List (List TValue)) (s5 : Int) (s6 : Int) : Option (Unit ⊕ Unit) := loopE (fun s : Int => ref20_Same_l2_s s0 s1 s5 s) s6
theorem ref20_Same_l2_eq (s0 : List (List TValue)) (s1 : List (List TValue)) (s5 : Int) (s6 : Int) : ref20_Same_l2 s0 s1 s5 s6 = nextE (ref20_Same_l2_s s0 s1 s5 s6) (fun s : Int => ref20_Same_l2 s0 s1 s5 s) := loopE_eq _ _
noncomputable def ref20_Same_l1_s (s0 : List (List TValue)) (s1 : List (List TValue)) (s5 : Int) : Option ((Int) ⊕ (Unit ⊕ Unit)) :=
  iteE (decide (s5 < (s0.length : Int))) (
   idxE s0 s5 fun x1 =>
   idxE s1 s5 fun x2 =>
   iteE (!decide ((x1.length : Int) = (x2.length : Int))) (
    some (.inr (.inr ()))) (
    bndE (ref20_Same_l2 s0 s1 s5 0) fun o8 =>
    sumE o8 (fun o9 =>
     some (.inl (intVal .add .i64 s5 1))) (fun o10 =>
     some (.inr (.inr ()))))) (
   some (.inr (.inl ())))
noncomputable def ref20_Same_l1 (s0 : List (List TValue)) (s1 : List (List TValue)) (s5 : Int) : Option (Unit ⊕ Unit) := loopE (fun s : Int => ref20_Same_l1_s s0 s1 s) s5
theorem ref20_Same_l1_eq (s0 : List (List TValue)) (s1 : List (List TValue)) (s5 : Int) : ref20_Same_l1 s0 s1 s5 = nextE (ref20_Same_l1_s s0 s1 s5) (fun s : Int => ref20_Same_l1 s0 s1 s) := loopE_eq _ _
/-- proctorref20.Same -/
noncomputable def ref20_Same (a0 : List (List TValue)) (a1 : List (List TValue)) : Option (Bool) :=
  iteE (!decide ((a0.length : Int) = (a1.length : Int))) (
   some false) (
   bndE (ref20_Same_l1 a0 a1 0) fun o11 =>
   sumE o11 (fun o12 =>
    some true) (fun o13 =>
    some false))
/-- slices.Insert[[]api.Value,api.Value] -/
def slices_Insert_Value_Value_v2 (i : Int) (xs ys : List TValue) : Option (List TValue) := insE 40 i xs ys
noncomputable def domain_Set_Value_Put_v3_b1 (s5 : Int) (s6 : Bool) (s20 : Bool) (w3 : TValue) (w501 : List TValue) : Option ((List TValue)) :=
  iteE (s20) (
   bndE (slices_Insert_Value_Value_v2 s5 w501 [w3]) fun r2 =>
   some r2) (
   some w501)
/-- (*domain.Set[api.Value]).Put -/
noncomputable def domain_Set_Value_Put_v3 (a1 : TValue) (w1 : List TValue) : Option (Bool × List TValue) :=
  bndE (slices_BinarySearchFunc_Value_Value_Value w1 a1 w1) fun r1 =>
  bndE (domain_Set_Value_Put_v3_b1 r1.1 r1.2 (!r1.2) a1 w1) fun o3 =>
  some (!r1.2, o3)
/-- (*domain.Set[int]).Put -/
noncomputable def domain_Set_int_Put (a1 : Int) : Option (Bool) :=
  some false
/-- (*domain.Set[int]).All -/
noncomputable def domain_Set_int_All : Option (List Int) :=
  some ([] : List Int)
noncomputable def law20_DomainSets_l1_s (s0 : List TValue) (s4 : List TValue) (s5 : Int) (w600 : List TValue) : Option ((List TValue × Int × List TValue) ⊕ (Unit ⊕ Bool)) :=
  iteE (decide (s5 < (s0.length : Int))) (
   idxE s0 s5 fun x14 =>
   iteE (decide (1000 < (x14.str.length : Int))) (
    bndE (law20_awake) fun r15 =>
    some (.inr (.inr r15))) (
    idxE s0 s5 fun x16 =>
    bndE (ref03_Right x16) fun r17 =>
    iteE (!r17) (
     bndE (law20_awake) fun r18 =>
     some (.inr (.inr r18))) (
     idxE s0 s5 fun x19 =>
     bndE (ref20_Put s4 x19) fun r20 =>
     idxE s0 s5 fun x21 =>
     bndE (domain_Set_Value_Put_v3 x21 w600) fun r22 =>
     iteE (!(r22.1 == (decide ((s4.length : Int) < (r20.length : Int))))) (
      some (.inr (.inr false))) (
      bndE (domain_Set_Value_All r22.2) fun r23 =>
      bndE (ref20_Same [r23.1] [r20]) fun r24 =>
      iteE (!r24) (
       some (.inr (.inr false))) (
       some (.inl (r20, (intVal .add .i64 s5 1), r23.2))))))) (
   some (.inr (.inl ())))
noncomputable def law20_DomainSets_l1 (s0 : List TValue) (s4 : List TValue) (s5 : Int) (w600 : List TValue) : Option (Unit ⊕ Bool) := loopE (fun s : List TValue × Int × List TValue => law20_DomainSets_l1_s s0 s.1 s.2.1 s.2.2) (s4, s5, w600)
theorem law20_DomainSets_l1_eq (s0 : List TValue) (s4 : List TValue) (s5 : Int) (w600 : List TValue) : law20_DomainSets_l1 s0 s4 s5 w600 = nextE (law20_DomainSets_l1_s s0 s4 s5 w600) (fun s : List TValue × Int × List TValue => law20_DomainSets_l1 s0 s.1 s.2.1 s.2.2) := loopE_eq _ _
/-- proctorlaw20.DomainSets -/
noncomputable def law20_DomainSets (a0 : List TValue) : Option (Bool) :=
  iteE (decide (40 < (a0.length : Int))) (
   bndE (law20_awake) fun r1 =>
   some r1) (
   bndE (domain_NewSet_Value_v2) fun r2 =>
   bndE (law20_DomainSets_l1 a0 ([] : List TValue) 0 ([] : List TValue)) fun o25 =>
   sumE o25 (fun o26 =>
    bndE (domain_Set_int_Put 1) fun r28 =>
    iteE (!r28) (
     bndE (domain_Set_int_All) fun r29 =>
     iteE (decide ((r29.length : Int) = 0)) (
      bndE (law20_awake) fun r30 =>
      some r30) (
      some false)) (
     some false)) (fun o27 =>
    some o27))
end Go.Ac
