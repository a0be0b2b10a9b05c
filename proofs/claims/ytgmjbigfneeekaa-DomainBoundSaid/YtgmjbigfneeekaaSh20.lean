/-
  Part of a proof: the functions of the seat as functions over lists and numbers (printed by a program).
-/
import Derived.Test.YtgmjbigfneeekaaAc22
import Derived.Test.YtgmjbigfneeekaaAc20b
import Derived.Test.YtgmjbigfneeekaaAc20f
import Derived.Test.YtgmjbigfneeekaaAc27
import Derived.Test.YtgmjbigfneeekaaAc28
import Derived.Test.YtgmjbigfneeekaaAc29
set_option linter.unusedVariables false
set_option linter.unusedSimpArgs false
set_option linter.unusedVariables false
set_option linter.unusedSimpArgs false
namespace Go.Ac
structure TValue where
  kind : Int
  int : Int
  str : List UInt8
  bool : Bool
def TValue.D (v : TValue) : D := .agg ([(D.i .i64) v.kind] ++ [(D.i .i64) v.int] ++ [D.s v.str] ++ [D.b v.bool])
instance : HasNc TValue.D 4 := ⟨fun _ => rfl⟩
def TValue.eqb (a b : TValue) : Bool := (decide (a.kind = b.kind) && (decide (a.int = b.int) && (decide (a.str = b.str) && ((a.bool == b.bool) && true))))
theorem TValue.eqb_iff (a b : TValue) : TValue.eqb a b = true ↔ a = b := by
  cases a; cases b; simp [TValue.eqb]
instance : DecidableEq TValue := fun a b => decidable_of_iff (TValue.eqb a b = true) (TValue.eqb_iff a b)
structure TSlot where
  var : Int
  value : TValue
def TSlot.D (v : TSlot) : D := .agg ([(D.i .i64) v.var] ++ (TValue.D v.value).cells)
instance : HasNc TSlot.D 5 := ⟨fun _ => rfl⟩
def TSlot.eqb (a b : TSlot) : Bool := (decide (a.var = b.var) && (TValue.eqb a.value b.value && true))
theorem TSlot.eqb_iff (a b : TSlot) : TSlot.eqb a b = true ↔ a = b := by
  cases a; cases b; simp [TSlot.eqb, TValue.eqb_iff]
instance : DecidableEq TSlot := fun a b => decidable_of_iff (TSlot.eqb a b = true) (TSlot.eqb_iff a b)
/-- proctorlaw20.one -/
noncomputable def law20_one (a0 : Int) : Option (TValue) :=
  some (TValue.mk 1 a0 ([] : List UInt8) false)
noncomputable def domain_Many_b3 (s1 : Bool) (s5 : Int) (s8 : Int) (s9 : List (List TValue)) (s10 : Int) (s11 : Int) (s17 : Bool) : Option (Int) :=
  iteE (s17) (
   some (intVal .add .i64 s8 1)) (
   some s8)
noncomputable def domain_Many_b2 (s1 : Bool) (s5 : Int) (s9 : List (List TValue)) (s10 : Int) (s11 : Int) : Option (Int) :=
  idxE s9 s11 fun x1 =>
  bndE (domain_Many_b3 s1 s5 (x1.length : Int) s9 s10 s11 s1) fun o2 =>
  some (minE (intVal .mul .i64 s5 (minE o2 1000000)) 1000000)
noncomputable def domain_Many_l1_s (s1 : Bool) (s9 : List (List TValue)) (s10 : Int) (s5 : Int) (s11 : Int) : Option ((Int × Int) ⊕ (Int)) :=
  iteE (decide (s11 < s10)) (
   bndE (domain_Many_b2 s1 s5 s9 s10 s11) fun o3 =>
   some (.inl (o3, (intVal .add .i64 s11 1)))) (
   some (.inr s5))
noncomputable def domain_Many_l1 (s1 : Bool) (s9 : List (List TValue)) (s10 : Int) (s5 : Int) (s11 : Int) : Option (Int) := loopE (fun s : Int × Int => domain_Many_l1_s s1 s9 s10 s.1 s.2) (s5, s11)
theorem domain_Many_l1_eq (s1 : Bool) (s9 : List (List TValue)) (s10 : Int) (s5 : Int) (s11 : Int) : domain_Many_l1 s1 s9 s10 s5 s11 = nextE (domain_Many_l1_s s1 s9 s10 s5 s11) (fun s : Int × Int => domain_Many_l1 s1 s9 s10 s.1 s.2) := loopE_eq _ _
/-- domain.Many -/
noncomputable def domain_Many (a0 : List (List TValue)) (a1 : Bool) : Option (Int) :=
  bndE (domain_Many_l1 a1 a0 (a0.length : Int) 1 0) fun o4 =>
  some o4
/-- domain.bindings -/
noncomputable def domain_bindings (a0 : List (List TValue)) (a1 : Int) (a2 : List TSlot) (a3 : Bool) : Option (Int × List (List TValue) × List TSlot × Bool) :=
  some (a1, a0, a2, a3)
/-- slices.Clone[[]api.Slot,api.Slot] -/
def slices_Clone_Slot_Slot (l : List TSlot) : Option (List TSlot) := cloneE 48 l
/-- domain.bindings -/
noncomputable def domain_bindings_v2 (a0 : List (List TValue)) (a1 : Int) (a2 : List TSlot) (a3 : Bool) : Option (Int × List (List TValue) × List TSlot × Bool) :=
  some (a1, a0, a2, a3)
/-- slices.Clone[[]api.Slot,api.Slot] -/
def slices_Clone_Slot_Slot_v2 (l : List TSlot) : Option (List TSlot) := cloneE 48 l
noncomputable def domain_bindings_1_v2_b3 (self : ∀ ψ : Type, (ψ → (List TSlot) → Option (ψ × Bool)) → Int → (List (List TValue)) → (List TSlot) → Bool → ψ → Option ψ) {φ : Type} (step : φ → (List TSlot) → Option (φ × Bool)) (f0 : φ) (s1 : Int) (s2 : List (List TValue)) (s3 : List TSlot) (s4 : Bool) (s25_1 : Int) (s25_2 : List (List TValue)) (s25_3 : List TSlot) (s25_4 : Bool) (s26 : List TSlot) (w998_1 : Int) (w998_2 : List (List TValue)) (w998_3 : List TSlot) (w998_4 : Bool) (w998_5 : Int) (w998_6 : List (List TValue)) (w998_7 : List TSlot) (w998_8 : Bool) : Option (Unit) :=
  some ()
noncomputable def domain_bindings_1_v2_b5 (self : ∀ ψ : Type, (ψ → (List TSlot) → Option (ψ × Bool)) → Int → (List (List TValue)) → (List TSlot) → Bool → ψ → Option ψ) {φ : Type} (step : φ → (List TSlot) → Option (φ × Bool)) (f0 : φ) (s1 : Int) (s2 : List (List TValue)) (s3 : List TSlot) (s4 : Bool) (s6 : List TSlot) (s25_1 : Int) (s25_2 : List (List TValue)) (s25_3 : List TSlot) (s25_4 : Bool) (w998_1 : Int) (w998_2 : List (List TValue)) (w998_3 : List TSlot) (w998_4 : Bool) (w998_5 : Int) (w998_6 : List (List TValue)) (w998_7 : List TSlot) (w998_8 : Bool) : Option (φ ⊕ φ) :=
  yldE (step f0 s6) (fun f10 =>
   some (.inl f10)) (fun f11 =>
   some (.inr f11))
noncomputable def domain_bindings_1_v2_r2_rd (self : ∀ ψ : Type, (ψ → (List TSlot) → Option (ψ × Bool)) → Int → (List (List TValue)) → (List TSlot) → Bool → ψ → Option ψ) {φ : Type} (step : φ → (List TSlot) → Option (φ × Bool)) (s1 : Int) (s2 : List (List TValue)) (s3 : List TSlot) (s4 : Bool) (s25_1 : Int) (s25_2 : List (List TValue)) (s25_3 : List TSlot) (s25_4 : Bool) (s : φ) (x : (List TSlot)) : Option ((φ) ⊕ (φ)) :=
  bndE (domain_bindings_1_v2_b3 self step s s1 s2 s3 s4 s25_1 s25_2 s25_3 s25_4 x s1 s2 s3 s4 s25_1 s25_2 s25_3 s25_4) fun o9 =>
  bndE (domain_bindings_1_v2_b5 self step s s1 s2 s3 s4 x s25_1 s25_2 s25_3 s25_4 s1 s2 s3 s4 s25_1 s25_2 s25_3 s25_4) fun o12 =>
  sumE o12 (fun o37 =>
   some (.inl o37)) (fun o38 =>
   some (.inr o38))
noncomputable def domain_bindings_1_v2_b1 (self : ∀ ψ : Type, (ψ → (List TSlot) → Option (ψ × Bool)) → Int → (List (List TValue)) → (List TSlot) → Bool → ψ → Option ψ) {φ : Type} (step : φ → (List TSlot) → Option (φ × Bool)) (f0 : φ) (s1 : Int) (s2 : List (List TValue)) (s3 : List TSlot) (s4 : Bool) (s19 : Bool) : Option (φ ⊕ φ) :=
  iteE (s19) (
   bndE (domain_bindings_v2 s2 (intVal .add .i64 s1 1) s3 s4) fun r4 =>
   bndE (self _ (stepOf (domain_bindings_1_v2_r2_rd self step s1 s2 s3 s4 r4.1 r4.2.1 r4.2.2.1 r4.2.2.2)) r4.1 r4.2.1 r4.2.2.1 r4.2.2.2 (.inl f0)) fun o13 =>
   sumE o13 (fun o14 =>
    some (.inl o14)) (fun o15 =>
    some (.inr o15))) (
   some (.inl f0))
noncomputable def domain_bindings_1_v2_b8 (self : ∀ ψ : Type, (ψ → (List TSlot) → Option (ψ × Bool)) → Int → (List (List TValue)) → (List TSlot) → Bool → ψ → Option ψ) {φ : Type} (step : φ → (List TSlot) → Option (φ × Bool)) (f0 : φ) (s1 : Int) (s2 : List (List TValue)) (s3 : List TSlot) (s4 : Bool) (s34 : List TValue) (s35 : Int) (s36 : Int) (s52_1 : Int) (s52_2 : List (List TValue)) (s52_3 : List TSlot) (s52_4 : Bool) (s53 : List TSlot) (w998_1 : Int) (w998_2 : List (List TValue)) (w998_3 : List TSlot) (w998_4 : Bool) (w998_5 : List TValue) (w998_6 : Int) (w998_7 : Int) (w998_8 : Int) (w998_9 : List (List TValue)) (w998_10 : List TSlot) (w998_11 : Bool) : Option (Unit) :=
  some ()
noncomputable def domain_bindings_1_v2_b10 (self : ∀ ψ : Type, (ψ → (List TSlot) → Option (ψ × Bool)) → Int → (List (List TValue)) → (List TSlot) → Bool → ψ → Option ψ) {φ : Type} (step : φ → (List TSlot) → Option (φ × Bool)) (f0 : φ) (s1 : Int) (s2 : List (List TValue)) (s3 : List TSlot) (s4 : Bool) (s10 : List TSlot) (s34 : List TValue) (s35 : Int) (s36 : Int) (s52_1 : Int) (s52_2 : List (List TValue)) (s52_3 : List TSlot) (s52_4 : Bool) (w998_1 : Int) (w998_2 : List (List TValue)) (w998_3 : List TSlot) (w998_4 : Bool) (w998_5 : List TValue) (w998_6 : Int) (w998_7 : Int) (w998_8 : Int) (w998_9 : List (List TValue)) (w998_10 : List TSlot) (w998_11 : Bool) : Option (φ ⊕ φ) :=
  yldE (step f0 s10) (fun f28 =>
   some (.inl f28)) (fun f29 =>
   some (.inr f29))
noncomputable def domain_bindings_1_v2_r7_rd (self : ∀ ψ : Type, (ψ → (List TSlot) → Option (ψ × Bool)) → Int → (List (List TValue)) → (List TSlot) → Bool → ψ → Option ψ) {φ : Type} (step : φ → (List TSlot) → Option (φ × Bool)) (s1 : Int) (s2 : List (List TValue)) (s3 : List TSlot) (s4 : Bool) (s34 : List TValue) (s35 : Int) (s36 : Int) (s52_1 : Int) (s52_2 : List (List TValue)) (s52_3 : List TSlot) (s52_4 : Bool) (s : φ) (x : (List TSlot)) : Option ((φ) ⊕ (φ)) :=
  bndE (domain_bindings_1_v2_b8 self step s s1 s2 s3 s4 s34 s35 s36 s52_1 s52_2 s52_3 s52_4 x s1 s2 s3 s4 s34 s35 s36 s52_1 s52_2 s52_3 s52_4) fun o27 =>
  bndE (domain_bindings_1_v2_b10 self step s s1 s2 s3 s4 x s34 s35 s36 s52_1 s52_2 s52_3 s52_4 s1 s2 s3 s4 s34 s35 s36 s52_1 s52_2 s52_3 s52_4) fun o30 =>
  sumE o30 (fun o39 =>
   some (.inl o39)) (fun o40 =>
   some (.inr o40))
noncomputable def domain_bindings_1_v2_l6_s (self : ∀ ψ : Type, (ψ → (List TSlot) → Option (ψ × Bool)) → Int → (List (List TValue)) → (List TSlot) → Bool → ψ → Option ψ) {φ : Type} (step : φ → (List TSlot) → Option (φ × Bool)) (s1 : Int) (s2 : List (List TValue)) (s3 : List TSlot) (s4 : Bool) (s34 : List TValue) (s35 : Int) (f0 : φ) (s36 : Int) : Option ((φ × Int) ⊕ (φ ⊕ φ)) :=
  iteE (decide (s36 < s35)) (
   idxE s34 s36 fun x20 =>
   bndE (slices_Clone_Slot_Slot_v2 s3) fun r21 =>
   chkE (fit r21.length [TSlot.mk s1 x20].length 48) (
    bndE (domain_bindings_v2 s2 (intVal .add .i64 s1 1) (r21 ++ [TSlot.mk s1 x20]) s4) fun r22 =>
    bndE (self _ (stepOf (domain_bindings_1_v2_r7_rd self step s1 s2 s3 s4 s34 s35 s36 r22.1 r22.2.1 r22.2.2.1 r22.2.2.2)) r22.1 r22.2.1 r22.2.2.1 r22.2.2.2 (.inl f0)) fun o31 =>
    sumE o31 (fun o32 =>
     some (.inl (o32, (intVal .add .i64 s36 1)))) (fun o33 =>
     some (.inr (.inr o33))))) (
   some (.inr (.inl f0)))
noncomputable def domain_bindings_1_v2_l6 (self : ∀ ψ : Type, (ψ → (List TSlot) → Option (ψ × Bool)) → Int → (List (List TValue)) → (List TSlot) → Bool → ψ → Option ψ) {φ : Type} (step : φ → (List TSlot) → Option (φ × Bool)) (s1 : Int) (s2 : List (List TValue)) (s3 : List TSlot) (s4 : Bool) (s34 : List TValue) (s35 : Int) (f0 : φ) (s36 : Int) : Option (φ ⊕ φ) := loopE (fun s : φ × Int => domain_bindings_1_v2_l6_s self step s1 s2 s3 s4 s34 s35 s.1 s.2) (f0, s36)
theorem domain_bindings_1_v2_l6_eq (self : ∀ ψ : Type, (ψ → (List TSlot) → Option (ψ × Bool)) → Int → (List (List TValue)) → (List TSlot) → Bool → ψ → Option ψ) {φ : Type} (step : φ → (List TSlot) → Option (φ × Bool)) (s1 : Int) (s2 : List (List TValue)) (s3 : List TSlot) (s4 : Bool) (s34 : List TValue) (s35 : Int) (f0 : φ) (s36 : Int) : domain_bindings_1_v2_l6 self step s1 s2 s3 s4 s34 s35 f0 s36 = nextE (domain_bindings_1_v2_l6_s self step s1 s2 s3 s4 s34 s35 f0 s36) (fun s : φ × Int => domain_bindings_1_v2_l6 self step s1 s2 s3 s4 s34 s35 s.1 s.2) := loopE_eq _ _
noncomputable def domain_bindings_1_v2_F (self : ∀ ψ : Type, (ψ → (List TSlot) → Option (ψ × Bool)) → Int → (List (List TValue)) → (List TSlot) → Bool → ψ → Option ψ) {φ : Type} (step : φ → (List TSlot) → Option (φ × Bool)) (a1 : Int) (a2 : List (List TValue)) (a3 : List TSlot) (a4 : Bool) (f0 : φ) : Option φ :=
  iteE (decide (a1 = (a2.length : Int))) (
   bndE (slices_Clone_Slot_Slot a3) fun r1 =>
   yldE (step f0 r1) (fun f2 =>
    some f2) (fun f3 =>
    some f3)) (
   bndE (domain_bindings_1_v2_b1 self step f0 a1 a2 a3 a4 a4) fun o16 =>
   sumE o16 (fun o17 =>
    idxE a2 a1 fun x19 =>
    bndE (domain_bindings_1_v2_l6 self step a1 a2 a3 a4 x19 (x19.length : Int) o17 0) fun o34 =>
    sumE o34 (fun o35 =>
     some o35) (fun o36 =>
     some o36)) (fun o18 =>
    some o18))
noncomputable def domain_bindings_1_v2_n : Nat → ∀ ψ : Type, (ψ → (List TSlot) → Option (ψ × Bool)) → Int → (List (List TValue)) → (List TSlot) → Bool → ψ → Option ψ
  | 0 => fun _ _ _ _ _ _ _  => none
  | n + 1 => fun _ step a1 a2 a3 a4 f0 => domain_bindings_1_v2_F (domain_bindings_1_v2_n n) step a1 a2 a3 a4 f0
/-- domain.bindings$1 -/
noncomputable def domain_bindings_1_v2 {φ : Type} (step : φ → (List TSlot) → Option (φ × Bool)) (a1 : Int) (a2 : List (List TValue)) (a3 : List TSlot) (a4 : Bool) (f0 : φ) : Option φ := domain_bindings_1_v2_n 100000 _ step a1 a2 a3 a4 f0
noncomputable def domain_bindings_1_b3 {φ : Type} (step : φ → (List TSlot) → Option (φ × Bool)) (f0 : φ) (s1 : Int) (s2 : List (List TValue)) (s3 : List TSlot) (s4 : Bool) (s25_1 : Int) (s25_2 : List (List TValue)) (s25_3 : List TSlot) (s25_4 : Bool) (s26 : List TSlot) (w998_1 : Int) (w998_2 : List (List TValue)) (w998_3 : List TSlot) (w998_4 : Bool) (w998_5 : Int) (w998_6 : List (List TValue)) (w998_7 : List TSlot) (w998_8 : Bool) : Option (Unit) :=
  some ()
noncomputable def domain_bindings_1_b5 {φ : Type} (step : φ → (List TSlot) → Option (φ × Bool)) (f0 : φ) (s1 : Int) (s2 : List (List TValue)) (s3 : List TSlot) (s4 : Bool) (s6 : List TSlot) (s25_1 : Int) (s25_2 : List (List TValue)) (s25_3 : List TSlot) (s25_4 : Bool) (w998_1 : Int) (w998_2 : List (List TValue)) (w998_3 : List TSlot) (w998_4 : Bool) (w998_5 : Int) (w998_6 : List (List TValue)) (w998_7 : List TSlot) (w998_8 : Bool) : Option (φ ⊕ φ) :=
  yldE (step f0 s6) (fun f10 =>
   some (.inl f10)) (fun f11 =>
   some (.inr f11))
noncomputable def domain_bindings_1_r2_rd {φ : Type} (step : φ → (List TSlot) → Option (φ × Bool)) (s1 : Int) (s2 : List (List TValue)) (s3 : List TSlot) (s4 : Bool) (s25_1 : Int) (s25_2 : List (List TValue)) (s25_3 : List TSlot) (s25_4 : Bool) (s : φ) (x : (List TSlot)) : Option ((φ) ⊕ (φ)) :=
  bndE (domain_bindings_1_b3 step s s1 s2 s3 s4 s25_1 s25_2 s25_3 s25_4 x s1 s2 s3 s4 s25_1 s25_2 s25_3 s25_4) fun o9 =>
  bndE (domain_bindings_1_b5 step s s1 s2 s3 s4 x s25_1 s25_2 s25_3 s25_4 s1 s2 s3 s4 s25_1 s25_2 s25_3 s25_4) fun o12 =>
  sumE o12 (fun o37 =>
   some (.inl o37)) (fun o38 =>
   some (.inr o38))
noncomputable def domain_bindings_1_b1 {φ : Type} (step : φ → (List TSlot) → Option (φ × Bool)) (f0 : φ) (s1 : Int) (s2 : List (List TValue)) (s3 : List TSlot) (s4 : Bool) (s19 : Bool) : Option (φ ⊕ φ) :=
  iteE (s19) (
   bndE (domain_bindings_v2 s2 (intVal .add .i64 s1 1) s3 s4) fun r4 =>
   bndE (domain_bindings_1_v2 (stepOf (domain_bindings_1_r2_rd step s1 s2 s3 s4 r4.1 r4.2.1 r4.2.2.1 r4.2.2.2)) r4.1 r4.2.1 r4.2.2.1 r4.2.2.2 (.inl f0)) fun o13 =>
   sumE o13 (fun o14 =>
    some (.inl o14)) (fun o15 =>
    some (.inr o15))) (
   some (.inl f0))
noncomputable def domain_bindings_1_b8 {φ : Type} (step : φ → (List TSlot) → Option (φ × Bool)) (f0 : φ) (s1 : Int) (s2 : List (List TValue)) (s3 : List TSlot) (s4 : Bool) (s34 : List TValue) (s35 : Int) (s36 : Int) (s52_1 : Int) (s52_2 : List (List TValue)) (s52_3 : List TSlot) (s52_4 : Bool) (s53 : List TSlot) (w998_1 : Int) (w998_2 : List (List TValue)) (w998_3 : List TSlot) (w998_4 : Bool) (w998_5 : List TValue) (w998_6 : Int) (w998_7 : Int) (w998_8 : Int) (w998_9 : List (List TValue)) (w998_10 : List TSlot) (w998_11 : Bool) : Option (Unit) :=
  some ()
noncomputable def domain_bindings_1_b10 {φ : Type} (step : φ → (List TSlot) → Option (φ × Bool)) (f0 : φ) (s1 : Int) (s2 : List (List TValue)) (s3 : List TSlot) (s4 : Bool) (s10 : List TSlot) (s34 : List TValue) (s35 : Int) (s36 : Int) (s52_1 : Int) (s52_2 : List (List TValue)) (s52_3 : List TSlot) (s52_4 : Bool) (w998_1 : Int) (w998_2 : List (List TValue)) (w998_3 : List TSlot) (w998_4 : Bool) (w998_5 : List TValue) (w998_6 : Int) (w998_7 : Int) (w998_8 : Int) (w998_9 : List (List TValue)) (w998_10 : List TSlot) (w998_11 : Bool) : Option (φ ⊕ φ) :=
  yldE (step f0 s10) (fun f28 =>
   some (.inl f28)) (fun f29 =>
   some (.inr f29))
noncomputable def domain_bindings_1_r7_rd {φ : Type} (step : φ → (List TSlot) → Option (φ × Bool)) (s1 : Int) (s2 : List (List TValue)) (s3 : List TSlot) (s4 : Bool) (s34 : List TValue) (s35 : Int) (s36 : Int) (s52_1 : Int) (s52_2 : List (List TValue)) (s52_3 : List TSlot) (s52_4 : Bool) (s : φ) (x : (List TSlot)) : Option ((φ) ⊕ (φ)) :=
  bndE (domain_bindings_1_b8 step s s1 s2 s3 s4 s34 s35 s36 s52_1 s52_2 s52_3 s52_4 x s1 s2 s3 s4 s34 s35 s36 s52_1 s52_2 s52_3 s52_4) fun o27 =>
  bndE (domain_bindings_1_b10 step s s1 s2 s3 s4 x s34 s35 s36 s52_1 s52_2 s52_3 s52_4 s1 s2 s3 s4 s34 s35 s36 s52_1 s52_2 s52_3 s52_4) fun o30 =>
  sumE o30 (fun o39 =>
   some (.inl o39)) (fun o40 =>
   some (.inr o40))
noncomputable def domain_bindings_1_l6_s {φ : Type} (step : φ → (List TSlot) → Option (φ × Bool)) (s1 : Int) (s2 : List (List TValue)) (s3 : List TSlot) (s4 : Bool) (s34 : List TValue) (s35 : Int) (f0 : φ) (s36 : Int) : Option ((φ × Int) ⊕ (φ ⊕ φ)) :=
  iteE (decide (s36 < s35)) (
   idxE s34 s36 fun x20 =>
   bndE (slices_Clone_Slot_Slot_v2 s3) fun r21 =>
   chkE (fit r21.length [TSlot.mk s1 x20].length 48) (
    bndE (domain_bindings_v2 s2 (intVal .add .i64 s1 1) (r21 ++ [TSlot.mk s1 x20]) s4) fun r22 =>
    bndE (domain_bindings_1_v2 (stepOf (domain_bindings_1_r7_rd step s1 s2 s3 s4 s34 s35 s36 r22.1 r22.2.1 r22.2.2.1 r22.2.2.2)) r22.1 r22.2.1 r22.2.2.1 r22.2.2.2 (.inl f0)) fun o31 =>
    sumE o31 (fun o32 =>
     some (.inl (o32, (intVal .add .i64 s36 1)))) (fun o33 =>
     some (.inr (.inr o33))))) (
   some (.inr (.inl f0)))
noncomputable def domain_bindings_1_l6 {φ : Type} (step : φ → (List TSlot) → Option (φ × Bool)) (s1 : Int) (s2 : List (List TValue)) (s3 : List TSlot) (s4 : Bool) (s34 : List TValue) (s35 : Int) (f0 : φ) (s36 : Int) : Option (φ ⊕ φ) := loopE (fun s : φ × Int => domain_bindings_1_l6_s step s1 s2 s3 s4 s34 s35 s.1 s.2) (f0, s36)
theorem domain_bindings_1_l6_eq {φ : Type} (step : φ → (List TSlot) → Option (φ × Bool)) (s1 : Int) (s2 : List (List TValue)) (s3 : List TSlot) (s4 : Bool) (s34 : List TValue) (s35 : Int) (f0 : φ) (s36 : Int) : domain_bindings_1_l6 step s1 s2 s3 s4 s34 s35 f0 s36 = nextE (domain_bindings_1_l6_s step s1 s2 s3 s4 s34 s35 f0 s36) (fun s : φ × Int => domain_bindings_1_l6 step s1 s2 s3 s4 s34 s35 s.1 s.2) := loopE_eq _ _
/-- domain.bindings$1 -/
noncomputable def domain_bindings_1 {φ : Type} (step : φ → (List TSlot) → Option (φ × Bool)) (a1 : Int) (a2 : List (List TValue)) (a3 : List TSlot) (a4 : Bool) (f0 : φ) : Option φ :=
  iteE (decide (a1 = (a2.length : Int))) (
   bndE (slices_Clone_Slot_Slot a3) fun r1 =>
   yldE (step f0 r1) (fun f2 =>
    some f2) (fun f3 =>
    some f3)) (
   bndE (domain_bindings_1_b1 step f0 a1 a2 a3 a4 a4) fun o16 =>
   sumE o16 (fun o17 =>
    idxE a2 a1 fun x19 =>
    bndE (domain_bindings_1_l6 step a1 a2 a3 a4 x19 (x19.length : Int) o17 0) fun o34 =>
    sumE o34 (fun o35 =>
     some o35) (fun o36 =>
     some o36)) (fun o18 =>
    some o18))
noncomputable def slices_AppendSeq_Slot_Slot_b4 (s6_1 : Int) (s6_2 : List (List TValue)) (s6_3 : List TSlot) (s6_4 : Bool) (s7 : List TSlot) (w600 : List (List TSlot)) (w998_1 : Int) (w998_2 : List (List TValue)) (w998_3 : List TSlot) (w998_4 : Bool) : Option (Unit) :=
  some ()
noncomputable def slices_AppendSeq_Slot_Slot_b6 (s5 : List TSlot) (s6_1 : Int) (s6_2 : List (List TValue)) (s6_3 : List TSlot) (s6_4 : Bool) (w600 : List (List TSlot)) (w998_1 : Int) (w998_2 : List (List TValue)) (w998_3 : List TSlot) (w998_4 : Bool) : Option (Unit) :=
  chkE (fit w600.length [s5].length 24) (
   some ())
noncomputable def slices_AppendSeq_Slot_Slot_r1_rd (s6_1 : Int) (s6_2 : List (List TValue)) (s6_3 : List TSlot) (s6_4 : Bool) (s : List (List TSlot)) (x : (List TSlot)) : Option ((List (List TSlot)) ⊕ (Empty)) :=
  bndE (slices_AppendSeq_Slot_Slot_b4 s6_1 s6_2 s6_3 s6_4 x s s6_1 s6_2 s6_3 s6_4) fun o5 =>
  bndE (slices_AppendSeq_Slot_Slot_b6 x s6_1 s6_2 s6_3 s6_4 s s6_1 s6_2 s6_3 s6_4) fun o6 =>
  some (.inl (s ++ [x]))
/-- slices.AppendSeq[[][]api.Slot,[]api.Slot] -/
noncomputable def slices_AppendSeq_Slot_Slot (a1_1 : Int) (a1_2 : List (List TValue)) (a1_3 : List TSlot) (a1_4 : Bool) : Option (List (List TSlot)) :=
  bndE (domain_bindings_1 (stepOf (slices_AppendSeq_Slot_Slot_r1_rd a1_1 a1_2 a1_3 a1_4)) a1_1 a1_2 a1_3 a1_4 (.inl ([] : List (List TSlot)))) fun o7 =>
  sumE o7 (fun o8 =>
   some o8) (fun o9 =>
   none)
/-- slices.Collect[[]api.Slot] -/
noncomputable def slices_Collect_Slot (a0_1 : Int) (a0_2 : List (List TValue)) (a0_3 : List TSlot) (a0_4 : Bool) : Option (List (List TSlot)) :=
  bndE (slices_AppendSeq_Slot_Slot a0_1 a0_2 a0_3 a0_4) fun r1 =>
  some r1
/-- domain.list -/
noncomputable def domain_list (a0 : List (List TValue)) (a1 : Bool) : Option (List (List TSlot)) :=
  bndE (domain_Many a0 a1) fun r1 =>
  iteE (decide (65536 < r1)) (
   some ([] : List (List TSlot))) (
   iteE (decide (8 < (a0.length : Int))) (
    some ([] : List (List TSlot))) (
    bndE (domain_bindings a0 0 ([] : List TSlot) a1) fun r2 =>
    bndE (slices_Collect_Slot r2.1 r2.2.1 r2.2.2.1 r2.2.2.2) fun r3 =>
    some r3))
/-- domain.Full -/
noncomputable def domain_Full (a0 : List (List TValue)) : Option (List (List TSlot)) :=
  bndE (domain_list a0 false) fun r1 =>
  some r1
/-- domain.Parts -/
noncomputable def domain_Parts (a0 : List (List TValue)) : Option (List (List TSlot)) :=
  bndE (domain_list a0 true) fun r1 =>
  some r1
/-- proctorlaw20.awake -/
noncomputable def law20_awake : Option (Bool) :=
  bndE (law20_one 5) fun r1 =>
  bndE (law20_one 6) fun r2 =>
  bndE (law20_one 7) fun r3 =>
  bndE (domain_Full ([[r1, r2], [r3]])) fun r4 =>
  iteE (decide ((r4.length : Int) = 2)) (
   bndE (domain_Parts ([[r1, r2], [r3]])) fun r5 =>
   iteE (decide ((r5.length : Int) = 6)) (
    bndE (domain_Many ([[r1, r2], [r3]]) true) fun r6 =>
    some (decide (r6 = 6))) (
    some false)) (
   some false)
noncomputable def law20_DomainBound_l3_s (s0 : Int) (s1 : Int) (s6 : Int) (s7 : Int) (w5 : List (List TValue)) (s9 : Int) (w8 : List TValue) : Option ((Int × List TValue) ⊕ ((List TValue))) :=
  iteE (decide (s9 < s1)) (
   chkE (fit w8.length ([TValue.mk 1 s9 ([] : List UInt8) false]).length 40) (
    some (.inl ((intVal .add .i64 s9 1), w8 ++ ([TValue.mk 1 s9 ([] : List UInt8) false]))))) (
   some (.inr w8))
noncomputable def law20_DomainBound_l3 (s0 : Int) (s1 : Int) (s6 : Int) (s7 : Int) (w5 : List (List TValue)) (s9 : Int) (w8 : List TValue) : Option ((List TValue)) := loopE (fun s : Int × List TValue => law20_DomainBound_l3_s s0 s1 s6 s7 w5 s.1 s.2) (s9, w8)
theorem law20_DomainBound_l3_eq (s0 : Int) (s1 : Int) (s6 : Int) (s7 : Int) (w5 : List (List TValue)) (s9 : Int) (w8 : List TValue) : law20_DomainBound_l3 s0 s1 s6 s7 w5 s9 w8 = nextE (law20_DomainBound_l3_s s0 s1 s6 s7 w5 s9 w8) (fun s : Int × List TValue => law20_DomainBound_l3 s0 s1 s6 s7 w5 s.1 s.2) := loopE_eq _ _
noncomputable def law20_DomainBound_l1_s (s0 : Int) (s1 : Int) (s6 : Int) (s7 : Int) (w5 : List (List TValue)) : Option ((Int × Int × List (List TValue)) ⊕ ((Int × List (List TValue)))) :=
  iteE (decide (s7 < s0)) (
   bndE (law20_DomainBound_l3 s0 s1 s6 s7 w5 0 ([] : List TValue)) fun o6 =>
   chkE (fit w5.length [o6].length 24) (
    some (.inl ((minE (intVal .mul .i64 s6 s1) 1000000), (intVal .add .i64 s7 1), w5 ++ [o6])))) (
   some (.inr (s6, w5)))
noncomputable def law20_DomainBound_l1 (s0 : Int) (s1 : Int) (s6 : Int) (s7 : Int) (w5 : List (List TValue)) : Option ((Int × List (List TValue))) := loopE (fun s : Int × Int × List (List TValue) => law20_DomainBound_l1_s s0 s1 s.1 s.2.1 s.2.2) (s6, s7, w5)
theorem law20_DomainBound_l1_eq (s0 : Int) (s1 : Int) (s6 : Int) (s7 : Int) (w5 : List (List TValue)) : law20_DomainBound_l1 s0 s1 s6 s7 w5 = nextE (law20_DomainBound_l1_s s0 s1 s6 s7 w5) (fun s : Int × Int × List (List TValue) => law20_DomainBound_l1 s0 s1 s.1 s.2.1 s.2.2) := loopE_eq _ _
/-- proctorlaw20.DomainBound -/
noncomputable def law20_DomainBound (a0 : Int) (a1 : Int) : Option (Bool) :=
  iteE (decide (a0 < 0)) (
   bndE (law20_awake) fun r1 =>
   some r1) (
   iteE (decide (8 < a0)) (
    bndE (law20_awake) fun r2 =>
    some r2) (
    iteE (decide (a1 < 0)) (
     bndE (law20_awake) fun r3 =>
     some r3) (
     iteE (decide (20 < a1)) (
      bndE (law20_awake) fun r4 =>
      some r4) (
      bndE (law20_DomainBound_l1 a0 a1 1 0 ([] : List (List TValue))) fun o7 =>
      bndE (domain_Many o7.2 false) fun r8 =>
      iteE (!decide (r8 = o7.1)) (
       some false) (
       bndE (domain_Full o7.2) fun r9 =>
       iteE (decide (65536 < o7.1)) (
        iteE (decide ((r9.length : Int) = 0)) (
         bndE (law20_awake) fun r10 =>
         some r10) (
         iteE (decide (o7.1 ≤ 65536)) (
          iteE (decide ((r9.length : Int) = o7.1)) (
           bndE (law20_awake) fun r11 =>
           some r11) (
           some false)) (
          some false))) (
        iteE (decide (o7.1 ≤ 65536)) (
         iteE (decide ((r9.length : Int) = o7.1)) (
          bndE (law20_awake) fun r12 =>
          some r12) (
          some false)) (
         some false)))))))
end Go.Ac
