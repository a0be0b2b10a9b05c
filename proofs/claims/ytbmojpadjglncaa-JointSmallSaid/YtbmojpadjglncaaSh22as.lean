/- Own work, printed: the functions as Lean functions. -/
import Derived.Test.YtbmojpadjglncaaAc22
import Derived.Test.YtbmojpadjglncaaAc27
import Derived.Test.YtbmojpadjglncaaAc28
import Derived.Test.YtbmojpadjglncaaAc29
import Derived.Test.YtbmojpadjglncaaAc30
import Derived.Test.YtbmojpadjglncaaAc31
import Derived.Test.YtbmojpadjglncaaAc34
import Derived.Test.YtbmojpadjglncaaAc34
import Derived.Test.YtbmojpadjglncaaAc34
set_option linter.unusedVariables false
set_option linter.unusedSimpArgs false
set_option linter.unusedVariables false
set_option linter.unusedSimpArgs false
namespace Go.Ac
structure TDecl where
  name : List UInt8
  types : List Int
  deriving DecidableEq
def TDecl.D (v : TDecl) : D := .agg ([D.s v.name] ++ [(D.l (D.i .i64)) v.types])
instance : HasNc TDecl.D 2 := ⟨fun _ => rfl⟩
structure TQuant where
  all : Bool
  name : List UInt8
  type : Int
def TQuant.D (v : TQuant) : D := .agg ([D.b v.all] ++ [D.s v.name] ++ [(D.i .i64) v.type])
instance : HasNc TQuant.D 3 := ⟨fun _ => rfl⟩
def TQuant.eqb (a b : TQuant) : Bool := ((a.all == b.all) && (decide (a.name = b.name) && (decide (a.type = b.type) && true)))
theorem TQuant.eqb_iff (a b : TQuant) : TQuant.eqb a b = true ↔ a = b := by
  cases a; cases b; simp [TQuant.eqb]
instance : DecidableEq TQuant := fun a b => decidable_of_iff (TQuant.eqb a b = true) (TQuant.eqb_iff a b)
structure TValue where
  kind : Int
  int : Int
  str : List UInt8
  bool : Bool
def TValue.D (v : TValue) : D := .agg ([(D.i .i64) v.kind] ++ [(D.i .i64) v.int] ++ [D.s v.str] ++ [D.b v.bool])
instance : HasNc TValue.D 4 := ⟨fun _ => rfl⟩
def TValue.eqb (a b : TValue) : Bool := (decide (a.kind = b.kind) && (decide (a.int = b.int) && (decide (a.str = b.str) && ((a.bool == b.bool) && true))))
theorem TValue.eqb_iff (a b : TValue) : TValue.eqb a b = true ↔ a = b := by
  cases a; cases b; simp [TValue.eqb]
instance : DecidableEq TValue := fun a b => decidable_of_iff (TValue.eqb a b = true) (TValue.eqb_iff a b)
structure TFree where
  name : List UInt8
  init_ : TValue
def TFree.D (v : TFree) : D := .agg ([D.s v.name] ++ (TValue.D v.init_).cells)
instance : HasNc TFree.D 5 := ⟨fun _ => rfl⟩
def TFree.eqb (a b : TFree) : Bool := (decide (a.name = b.name) && (TValue.eqb a.init_ b.init_ && true))
theorem TFree.eqb_iff (a b : TFree) : TFree.eqb a b = true ↔ a = b := by
  cases a; cases b; simp [TFree.eqb, TValue.eqb_iff]
instance : DecidableEq TFree := fun a b => decidable_of_iff (TFree.eqb a b = true) (TFree.eqb_iff a b)
structure TState where
  name : List UInt8
  next : Bool
  accept : Bool
def TState.D (v : TState) : D := .agg ([D.s v.name] ++ [D.b v.next] ++ [D.b v.accept])
instance : HasNc TState.D 3 := ⟨fun _ => rfl⟩
def TState.eqb (a b : TState) : Bool := (decide (a.name = b.name) && ((a.next == b.next) && ((a.accept == b.accept) && true)))
theorem TState.eqb_iff (a b : TState) : TState.eqb a b = true ↔ a = b := by
  cases a; cases b; simp [TState.eqb]
instance : DecidableEq TState := fun a b => decidable_of_iff (TState.eqb a b = true) (TState.eqb_iff a b)
structure TArg where
  kind : Int
  n : Int
  value : TValue
def TArg.D (v : TArg) : D := .agg ([(D.i .i64) v.kind] ++ [(D.i .i64) v.n] ++ (TValue.D v.value).cells)
instance : HasNc TArg.D 6 := ⟨fun _ => rfl⟩
def TArg.eqb (a b : TArg) : Bool := (decide (a.kind = b.kind) && (decide (a.n = b.n) && (TValue.eqb a.value b.value && true)))
theorem TArg.eqb_iff (a b : TArg) : TArg.eqb a b = true ↔ a = b := by
  cases a; cases b; simp [TArg.eqb, TValue.eqb_iff]
instance : DecidableEq TArg := fun a b => decidable_of_iff (TArg.eqb a b = true) (TArg.eqb_iff a b)
structure TSymbol where
  event : Int
  args : List TArg
  deriving DecidableEq
def TSymbol.D (v : TSymbol) : D := .agg ([(D.i .i64) v.event] ++ [(D.l TArg.D) v.args])
instance : HasNc TSymbol.D 2 := ⟨fun _ => rfl⟩
structure TNode where
  op : Int
  a : Int
  b : Int
  value : TValue
def TNode.D (v : TNode) : D := .agg ([(D.i .i64) v.op] ++ [(D.i .i64) v.a] ++ [(D.i .i64) v.b] ++ (TValue.D v.value).cells)
instance : HasNc TNode.D 7 := ⟨fun _ => rfl⟩
def TNode.eqb (a b : TNode) : Bool := (decide (a.op = b.op) && (decide (a.a = b.a) && (decide (a.b = b.b) && (TValue.eqb a.value b.value && true))))
theorem TNode.eqb_iff (a b : TNode) : TNode.eqb a b = true ↔ a = b := by
  cases a; cases b; simp [TNode.eqb, TValue.eqb_iff]
instance : DecidableEq TNode := fun a b => decidable_of_iff (TNode.eqb a b = true) (TNode.eqb_iff a b)
structure TSet where
  free : Int
  expr : Int
def TSet.D (v : TSet) : D := .agg ([(D.i .i64) v.free] ++ [(D.i .i64) v.expr])
instance : HasNc TSet.D 2 := ⟨fun _ => rfl⟩
def TSet.eqb (a b : TSet) : Bool := (decide (a.free = b.free) && (decide (a.expr = b.expr) && true))
theorem TSet.eqb_iff (a b : TSet) : TSet.eqb a b = true ↔ a = b := by
  cases a; cases b; simp [TSet.eqb]
instance : DecidableEq TSet := fun a b => decidable_of_iff (TSet.eqb a b = true) (TSet.eqb_iff a b)
structure TTrans where
  from_ : Int
  symbol : Int
  to : Int
  guard : Int
  sets : List TSet
  deriving DecidableEq
def TTrans.D (v : TTrans) : D := .agg ([(D.i .i64) v.from_] ++ [(D.i .i64) v.symbol] ++ [(D.i .i64) v.to] ++ [(D.i .i64) v.guard] ++ [(D.l TSet.D) v.sets])
instance : HasNc TTrans.D 5 := ⟨fun _ => rfl⟩
structure TQea where
  name : List UInt8
  decls : List TDecl
  quants : List TQuant
  frees : List TFree
  states : List TState
  start : Int
  symbols : List TSymbol
  nodes : List TNode
  trans : List TTrans
  deriving DecidableEq
def TQea.D (v : TQea) : D := .agg ([D.s v.name] ++ [(D.l TDecl.D) v.decls] ++ [(D.l TQuant.D) v.quants] ++ [(D.l TFree.D) v.frees] ++ [(D.l TState.D) v.states] ++ [(D.i .i64) v.start] ++ [(D.l TSymbol.D) v.symbols] ++ [(D.l TNode.D) v.nodes] ++ [(D.l TTrans.D) v.trans])
instance : HasNc TQea.D 9 := ⟨fun _ => rfl⟩
structure TSlot where
  var : Int
  value : TValue
def TSlot.D (v : TSlot) : D := .agg ([(D.i .i64) v.var] ++ (TValue.D v.value).cells)
instance : HasNc TSlot.D 5 := ⟨fun _ => rfl⟩
def TSlot.eqb (a b : TSlot) : Bool := (decide (a.var = b.var) && (TValue.eqb a.value b.value && true))
theorem TSlot.eqb_iff (a b : TSlot) : TSlot.eqb a b = true ↔ a = b := by
  cases a; cases b; simp [TSlot.eqb, TValue.eqb_iff]
instance : DecidableEq TSlot := fun a b => decidable_of_iff (TSlot.eqb a b = true) (TSlot.eqb_iff a b)
structure Tjoint_place where
  q : TQea
  b : List TSlot
  d_ : Int
  at_ : Int
  deriving DecidableEq
def Tjoint_place.D (v : Tjoint_place) : D := .agg ((TQea.D v.q).cells ++ [(D.l TSlot.D) v.b] ++ [(D.i .i64) v.d_] ++ [(D.i .i64) v.at_])
instance : HasNc Tjoint_place.D 12 := ⟨fun _ => rfl⟩
noncomputable def ref13_Few_l1_s (w1 : TQea) (s3 : Int) : Option ((Int) ⊕ (Unit ⊕ Unit)) :=
  iteE (decide (s3 < (w1.decls.length : Int))) (
   idxE w1.decls s3 fun x1 =>
   iteE (decide (12 < (x1.types.length : Int))) (
    some (.inr (.inr ()))) (
    idxE w1.decls s3 fun x2 =>
    iteE (decide (100 < (x2.name.length : Int))) (
     some (.inr (.inr ()))) (
     some (.inl (intVal .add .i64 s3 1))))) (
   some (.inr (.inl ())))
noncomputable def ref13_Few_l1 (w1 : TQea) (s3 : Int) : Option (Unit ⊕ Unit) := loopE (fun s : Int => ref13_Few_l1_s w1 s) s3
noncomputable def ref13_Few_l3_s (s4 : Int) (w1 : TQea) (s5 : Int) : Option ((Int) ⊕ (Unit ⊕ Unit)) :=
  idxE w1.symbols s4 fun x7 =>
  iteE (decide (s5 < (x7.args.length : Int))) (
   idxE w1.symbols s4 fun x8 =>
   idxE x8.args s5 fun x9 =>
   iteE (decide (100 < (x9.value.str.length : Int))) (
    some (.inr (.inr ()))) (
    some (.inl (intVal .add .i64 s5 1)))) (
   some (.inr (.inl ())))
noncomputable def ref13_Few_l3 (s4 : Int) (w1 : TQea) (s5 : Int) : Option (Unit ⊕ Unit) := loopE (fun s : Int => ref13_Few_l3_s s4 w1 s) s5
noncomputable def ref13_Few_l2_s (w1 : TQea) (s4 : Int) : Option ((Int) ⊕ (Unit ⊕ Unit)) :=
  iteE (decide (s4 < (w1.symbols.length : Int))) (
   idxE w1.symbols s4 fun x6 =>
   iteE (decide (12 < (x6.args.length : Int))) (
    some (.inr (.inr ()))) (
    bndE (ref13_Few_l3 s4 w1 0) fun o10 =>
    sumE o10 (fun o11 =>
     some (.inl (intVal .add .i64 s4 1))) (fun o12 =>
     some (.inr (.inr ()))))) (
   some (.inr (.inl ())))
noncomputable def ref13_Few_l2 (w1 : TQea) (s4 : Int) : Option (Unit ⊕ Unit) := loopE (fun s : Int => ref13_Few_l2_s w1 s) s4
noncomputable def ref13_Few_l4_s (w1 : TQea) (s6 : Int) : Option ((Int) ⊕ (Unit ⊕ Unit)) :=
  iteE (decide (s6 < (w1.frees.length : Int))) (
   idxE w1.frees s6 fun x16 =>
   iteE (decide (100 < (x16.init_.str.length : Int))) (
    some (.inr (.inr ()))) (
    some (.inl (intVal .add .i64 s6 1)))) (
   some (.inr (.inl ())))
noncomputable def ref13_Few_l4 (w1 : TQea) (s6 : Int) : Option (Unit ⊕ Unit) := loopE (fun s : Int => ref13_Few_l4_s w1 s) s6
noncomputable def ref13_Few_l5_s (w1 : TQea) (s7 : Int) : Option ((Int) ⊕ (Unit ⊕ Unit)) :=
  iteE (decide (s7 < (w1.nodes.length : Int))) (
   idxE w1.nodes s7 fun x20 =>
   iteE (decide (100 < (x20.value.str.length : Int))) (
    some (.inr (.inr ()))) (
    some (.inl (intVal .add .i64 s7 1)))) (
   some (.inr (.inl ())))
noncomputable def ref13_Few_l5 (w1 : TQea) (s7 : Int) : Option (Unit ⊕ Unit) := loopE (fun s : Int => ref13_Few_l5_s w1 s) s7
noncomputable def ref13_Few_l6_s (w1 : TQea) (s8 : Int) : Option ((Int) ⊕ (Unit ⊕ Unit)) :=
  iteE (decide (s8 < (w1.trans.length : Int))) (
   idxE w1.trans s8 fun x24 =>
   iteE (decide (12 < (x24.sets.length : Int))) (
    some (.inr (.inr ()))) (
    some (.inl (intVal .add .i64 s8 1)))) (
   some (.inr (.inl ())))
noncomputable def ref13_Few_l6 (w1 : TQea) (s8 : Int) : Option (Unit ⊕ Unit) := loopE (fun s : Int => ref13_Few_l6_s w1 s) s8
noncomputable def ref13_Few (a0 : TQea) : Option (Int) :=
  iteE (decide (12 < (a0.decls.length : Int))) (
   some 0) (
   iteE (decide (9 < (a0.quants.length : Int))) (
    some 0) (
    iteE (decide (12 < (a0.frees.length : Int))) (
     some 0) (
     iteE (decide (12 < (a0.states.length : Int))) (
      some 0) (
      iteE (decide (12 < (a0.symbols.length : Int))) (
       some 0) (
       iteE (decide (12 < (a0.trans.length : Int))) (
        some 0) (
        iteE (decide (40 < (a0.nodes.length : Int))) (
         some 0) (
         iteE (decide (100 < (a0.name.length : Int))) (
          some 0) (
          bndE (ref13_Few_l1 a0 0) fun o3 =>
          sumE o3 (fun o4 =>
           bndE (ref13_Few_l2 a0 0) fun o13 =>
           sumE o13 (fun o14 =>
            bndE (ref13_Few_l4 a0 0) fun o17 =>
            sumE o17 (fun o18 =>
             bndE (ref13_Few_l5 a0 0) fun o21 =>
             sumE o21 (fun o22 =>
              bndE (ref13_Few_l6 a0 0) fun o25 =>
              sumE o25 (fun o26 =>
               some 1) (fun o27 =>
               some 0)) (fun o23 =>
              some 0)) (fun o19 =>
             some 0)) (fun o15 =>
            some 0)) (fun o5 =>
           some 0)))))))))
noncomputable def law22_number (a0 : Int) : Option (TValue) :=
  some (TValue.mk 1 a0 ([] : List UInt8) false)
noncomputable def joint_own_b3 (s1 : Int) (s5 : Int) (s6 : Int) (s9 : List TSymbol) (s10 : Int) (s11 : Int) (s19 : Bool) : Option (Int) :=
  iteE (s19) (
   chkE (0 ≤ (IntKind.wrap .u64 s6)) (
    some (intVal .or .u64 s5 (intVal .shl .u64 1 (IntKind.wrap .u64 s6))))) (
   some s5)
noncomputable def joint_own_b2 (s1 : Int) (s5 : Int) (s9 : List TSymbol) (s10 : Int) (s11 : Int) : Option (Int) :=
  idxE s9 s11 fun x1 =>
  bndE (joint_own_b3 s1 s5 s11 s9 s10 s11 (decide (x1.event = s1))) fun o2 =>
  some o2
noncomputable def joint_own_l1_s (s1 : Int) (s9 : List TSymbol) (s10 : Int) (s5 : Int) (s11 : Int) : Option ((Int × Int) ⊕ (Int)) :=
  iteE (decide (s11 < s10)) (
   bndE (joint_own_b2 s1 s5 s9 s10 s11) fun o3 =>
   some (.inl (o3, (intVal .add .i64 s11 1)))) (
   some (.inr s5))
noncomputable def joint_own_l1 (s1 : Int) (s9 : List TSymbol) (s10 : Int) (s5 : Int) (s11 : Int) : Option (Int) := loopE (fun s : Int × Int => joint_own_l1_s s1 s9 s10 s.1 s.2) (s5, s11)
noncomputable def joint_own (a0 : TQea) (a1 : Int) : Option (Int) :=
  bndE (joint_own_l1 a1 a0.symbols (a0.symbols.length : Int) 0 0) fun o4 =>
  some o4
noncomputable def domain_NewSet_Value_v2 : Option (Unit) :=
  some ()
noncomputable def value_Bool (a0 : Bool) : Option (TValue) :=
  some (TValue.mk 3 0 ([] : List UInt8) a0)
noncomputable def value_Less (a0 : TValue) (a1 : TValue) : Option (Bool) :=
  iteE (!decide (a0.kind = a1.kind)) (
   some (decide (a0.kind < a1.kind))) (
   iteE (decide (a0.kind = 1)) (
    some (decide (a0.int < a1.int))) (
    iteE (decide (a0.kind = 2)) (
     some (Op.bytesLess a0.str a1.str)) (
     iteE (!a0.bool) (
      some a1.bool) (
      some false))))
noncomputable def domain_Set_Value_Put_1 (a0 : TValue) (a1 : TValue) (a2 : List TValue) : Option (Int) :=
  bndE (value_Less a0 a1) fun r1 =>
  iteE (r1) (
   some (-1)) (
   bndE (value_Less a1 a0) fun r2 =>
   iteE (r2) (
    some 1) (
    some 0))
noncomputable def slices_BinarySearchFunc_Value_Value_Value_b3 (s0 : List TValue) (s2 : List TValue) (s8 : Int) (s9 : Int) (s10 : Int) (s11 : Int) (s31 : Bool) (w4 : TValue) : Option ((Int × Int)) :=
  iteE (s31) (
   some ((intVal .add .i64 s11 1), s10)) (
   some (s9, s11))
noncomputable def slices_BinarySearchFunc_Value_Value_Value_b2 (s0 : List TValue) (s2 : List TValue) (s8 : Int) (s9 : Int) (s10 : Int) (w4 : TValue) : Option ((Int × Int)) :=
  idxE s0 (IntKind.wrap .i64 (intVal .shr .u64 (IntKind.wrap .u64 (intVal .add .i64 s9 s10)) 1)) fun x1 =>
  bndE (domain_Set_Value_Put_1 x1 w4 s2) fun r2 =>
  bndE (slices_BinarySearchFunc_Value_Value_Value_b3 s0 s2 s8 s9 s10 (IntKind.wrap .i64 (intVal .shr .u64 (IntKind.wrap .u64 (intVal .add .i64 s9 s10)) 1)) (decide (r2 < 0)) w4) fun o3 =>
  some (o3.1, o3.2)
noncomputable def slices_BinarySearchFunc_Value_Value_Value_l1_s (s0 : List TValue) (s2 : List TValue) (s8 : Int) (w4 : TValue) (s9 : Int) (s10 : Int) : Option ((Int × Int) ⊕ (Int)) :=
  iteE (decide (s9 < s10)) (
   bndE (slices_BinarySearchFunc_Value_Value_Value_b2 s0 s2 s8 s9 s10 w4) fun o4 =>
   some (.inl (o4.1, o4.2))) (
   some (.inr s9))
noncomputable def slices_BinarySearchFunc_Value_Value_Value_l1 (s0 : List TValue) (s2 : List TValue) (s8 : Int) (w4 : TValue) (s9 : Int) (s10 : Int) : Option (Int) := loopE (fun s : Int × Int => slices_BinarySearchFunc_Value_Value_Value_l1_s s0 s2 s8 w4 s.1 s.2) (s9, s10)
noncomputable def slices_BinarySearchFunc_Value_Value_Value (a0 : List TValue) (a1 : TValue) (a2 : List TValue) : Option (Int × Bool) :=
  bndE (slices_BinarySearchFunc_Value_Value_Value_l1 a0 a2 (a0.length : Int) a1 0 (a0.length : Int)) fun o5 =>
  iteE (decide (o5 < (a0.length : Int))) (
   idxE a0 o5 fun x6 =>
   bndE (domain_Set_Value_Put_1 x6 a1 a2) fun r7 =>
   some (o5, decide (r7 = 0))) (
   some (o5, false))
def slices_Insert_Value_Value (i : Int) (ys : List TValue) : Option (List TValue) := insN 40 i ys
noncomputable def domain_Set_Value_Put_v2_b1 (s5 : Int) (s6 : Bool) (s20 : Bool) (w3 : TValue) : Option ((List TValue)) :=
  iteE (s20) (
   bndE (slices_Insert_Value_Value s5 [w3]) fun r2 =>
   some r2) (
   some ([] : List TValue))
noncomputable def domain_Set_Value_Put_v2 (a1 : TValue) : Option (Bool × List TValue) :=
  bndE (slices_BinarySearchFunc_Value_Value_Value ([] : List TValue) a1 ([] : List TValue)) fun r1 =>
  bndE (domain_Set_Value_Put_v2_b1 r1.1 r1.2 (!r1.2) a1) fun o3 =>
  some (!r1.2, o3)
def slices_Insert_Value_Value_v2 (i : Int) (xs ys : List TValue) : Option (List TValue) := insE 40 i xs ys
noncomputable def domain_Set_Value_Put_v3_b1 (s5 : Int) (s6 : Bool) (s20 : Bool) (w3 : TValue) (w501 : List TValue) : Option ((List TValue)) :=
  iteE (s20) (
   bndE (slices_Insert_Value_Value_v2 s5 w501 [w3]) fun r2 =>
   some r2) (
   some w501)
noncomputable def domain_Set_Value_Put_v3 (a1 : TValue) (w1 : List TValue) : Option (Bool × List TValue) :=
  bndE (slices_BinarySearchFunc_Value_Value_Value w1 a1 w1) fun r1 =>
  bndE (domain_Set_Value_Put_v3_b1 r1.1 r1.2 (!r1.2) a1 w1) fun o3 =>
  some (!r1.2, o3)
def slices_Clone_Value_Value (l : List TValue) : Option (List TValue) := cloneE 40 l
noncomputable def domain_Set_Value_All (w1 : List TValue) : Option (List TValue × List TValue) :=
  bndE (slices_Clone_Value_Value w1) fun r1 =>
  some (r1, w1)
noncomputable def joint_Consts_b1 (s1 : Int) (s12 : Bool) (w2 : TQea) : Option ((List TValue)) :=
  iteE (s12) (
   bndE (value_Bool false) fun r2 =>
   bndE (domain_Set_Value_Put_v2 r2) fun r3 =>
   bndE (value_Bool true) fun r4 =>
   bndE (domain_Set_Value_Put_v3 r4 r3.2) fun r5 =>
   some r5.2) (
   some ([] : List TValue))
noncomputable def joint_Consts_b5 (s1 : Int) (s20 : List TSymbol) (s21 : Int) (s22 : Int) (s27 : List TArg) (s28 : Int) (s29 : Int) (s42 : Bool) (w9 : TArg) (w518 : List TValue) : Option ((List TValue)) :=
  iteE (s42) (
   bndE (domain_Set_Value_Put_v3 w9.value w518) fun r9 =>
   some r9.2) (
   some w518)
noncomputable def joint_Consts_b4 (s1 : Int) (s20 : List TSymbol) (s21 : Int) (s22 : Int) (s27 : List TArg) (s28 : Int) (s29 : Int) (w518 : List TValue) : Option ((List TValue)) :=
  idxE s27 s29 fun x8 =>
  iteE (decide (x8.kind = 1)) (
   bndE (joint_Consts_b5 s1 s20 s21 s22 s27 s28 s29 (decide (x8.value.kind = s1)) x8 w518) fun o10 =>
   some o10) (
   bndE (joint_Consts_b5 s1 s20 s21 s22 s27 s28 s29 false x8 w518) fun o11 =>
   some o11)
noncomputable def joint_Consts_l3_s (s1 : Int) (s20 : List TSymbol) (s21 : Int) (s22 : Int) (s27 : List TArg) (s28 : Int) (s29 : Int) (w518 : List TValue) : Option ((Int × List TValue) ⊕ ((List TValue))) :=
  iteE (decide (s29 < s28)) (
   bndE (joint_Consts_b4 s1 s20 s21 s22 s27 s28 s29 w518) fun o12 =>
   some (.inl ((intVal .add .i64 s29 1), o12))) (
   some (.inr w518))
noncomputable def joint_Consts_l3 (s1 : Int) (s20 : List TSymbol) (s21 : Int) (s22 : Int) (s27 : List TArg) (s28 : Int) (s29 : Int) (w518 : List TValue) : Option ((List TValue)) := loopE (fun s : Int × List TValue => joint_Consts_l3_s s1 s20 s21 s22 s27 s28 s.1 s.2) (s29, w518)
noncomputable def joint_Consts_l2_s (s1 : Int) (s20 : List TSymbol) (s21 : Int) (s22 : Int) (w518 : List TValue) : Option ((Int × List TValue) ⊕ ((List TValue))) :=
  iteE (decide (s22 < s21)) (
   idxE s20 s22 fun x7 =>
   bndE (joint_Consts_l3 s1 s20 s21 s22 x7.args (x7.args.length : Int) 0 w518) fun o13 =>
   some (.inl ((intVal .add .i64 s22 1), o13))) (
   some (.inr w518))
noncomputable def joint_Consts_l2 (s1 : Int) (s20 : List TSymbol) (s21 : Int) (s22 : Int) (w518 : List TValue) : Option ((List TValue)) := loopE (fun s : Int × List TValue => joint_Consts_l2_s s1 s20 s21 s.1 s.2) (s22, w518)
noncomputable def joint_Consts (a0 : TQea) (a1 : Int) : Option (List TValue) :=
  bndE (domain_NewSet_Value_v2) fun r1 =>
  bndE (joint_Consts_b1 a1 (decide (a1 = 3)) a0) fun o6 =>
  bndE (joint_Consts_l2 a1 a0.symbols (a0.symbols.length : Int) 0 o6) fun o14 =>
  bndE (domain_Set_Value_All o14) fun r15 =>
  some r15.1
noncomputable def slices_Index_Value_Value_l1_s (s0 : List TValue) (s7 : Int) (w3 : TValue) (s8 : Int) : Option ((Int) ⊕ (Unit ⊕ Int)) :=
  iteE (decide (s8 < s7)) (
   idxE s0 s8 fun x1 =>
   iteE ((TValue.eqb w3 x1)) (
    some (.inr (.inr s8))) (
    some (.inl (intVal .add .i64 s8 1)))) (
   some (.inr (.inl ())))
noncomputable def slices_Index_Value_Value_l1 (s0 : List TValue) (s7 : Int) (w3 : TValue) (s8 : Int) : Option (Unit ⊕ Int) := loopE (fun s : Int => slices_Index_Value_Value_l1_s s0 s7 w3 s) s8
noncomputable def slices_Index_Value_Value (a0 : List TValue) (a1 : TValue) : Option (Int) :=
  bndE (slices_Index_Value_Value_l1 a0 (a0.length : Int) a1 0) fun o2 =>
  sumE o2 (fun o3 =>
   some (-1)) (fun o4 =>
   some o4)
noncomputable def slices_Contains_Value_Value (a0 : List TValue) (a1 : TValue) : Option (Bool) :=
  bndE (slices_Index_Value_Value a0 a1) fun r1 =>
  some (decide (0 ≤ r1))
def slices_Grow_Value_Value (n : Int) : Option (List TValue) := growE 40 n
noncomputable def slices_Concat_Value_Value_b3 (s0 : List (List TValue)) (s3 : Int) (s9 : List (List TValue)) (s10 : Int) (s11 : Int) (s20 : Bool) : Option (Unit) :=
  iteE (s20) (
   none) (
   some ())
noncomputable def slices_Concat_Value_Value_b2 (s0 : List (List TValue)) (s3 : Int) (s9 : List (List TValue)) (s10 : Int) (s11 : Int) : Option (Int) :=
  idxE s9 s11 fun x1 =>
  bndE (slices_Concat_Value_Value_b3 s0 (intVal .add .i64 s3 (x1.length : Int)) s9 s10 s11 (decide ((intVal .add .i64 s3 (x1.length : Int)) < 0))) fun o2 =>
  some (intVal .add .i64 s3 (x1.length : Int))
noncomputable def slices_Concat_Value_Value_l1_s (s0 : List (List TValue)) (s9 : List (List TValue)) (s10 : Int) (s3 : Int) (s11 : Int) : Option ((Int × Int) ⊕ (Int)) :=
  iteE (decide (s11 < s10)) (
   bndE (slices_Concat_Value_Value_b2 s0 s3 s9 s10 s11) fun o3 =>
   some (.inl (o3, (intVal .add .i64 s11 1)))) (
   some (.inr s3))
noncomputable def slices_Concat_Value_Value_l1 (s0 : List (List TValue)) (s9 : List (List TValue)) (s10 : Int) (s3 : Int) (s11 : Int) : Option (Int) := loopE (fun s : Int × Int => slices_Concat_Value_Value_l1_s s0 s9 s10 s.1 s.2) (s3, s11)
noncomputable def slices_Concat_Value_Value_l4_s (s25 : List (List TValue)) (s26 : Int) (s27 : Int) (w6 : List TValue) : Option ((Int × List TValue) ⊕ ((List TValue))) :=
  iteE (decide (s27 < s26)) (
   idxE s25 s27 fun x6 =>
   chkE (fit w6.length x6.length 40) (
    some (.inl ((intVal .add .i64 s27 1), w6 ++ x6)))) (
   some (.inr w6))
noncomputable def slices_Concat_Value_Value_l4 (s25 : List (List TValue)) (s26 : Int) (s27 : Int) (w6 : List TValue) : Option ((List TValue)) := loopE (fun s : Int × List TValue => slices_Concat_Value_Value_l4_s s25 s26 s.1 s.2) (s27, w6)
noncomputable def slices_Concat_Value_Value (a0 : List (List TValue)) : Option (List TValue) :=
  bndE (slices_Concat_Value_Value_l1 a0 a0 (a0.length : Int) 0 0) fun o4 =>
  bndE (slices_Grow_Value_Value o4) fun r5 =>
  bndE (slices_Concat_Value_Value_l4 a0 (a0.length : Int) 0 r5) fun o7 =>
  some o7
noncomputable def joint_New_b3 (s0 : Int) (s1 : List TValue) (s20 : Bool) (w4 : TValue) (w6 : TValue) : Option (TValue) :=
  iteE (s20) (
   some (TValue.mk w6.kind (intVal .add .i64 w6.int 1) w6.str w6.bool)) (
   chkE (w6.str.length + ([97] : List UInt8).length ≤ 9223372036854775807) (
    some (TValue.mk w6.kind w6.int (w6.str ++ ([97] : List UInt8)) w6.bool)))
noncomputable def joint_New_b2 (s0 : Int) (s1 : List TValue) (w4 : TValue) (w6 : TValue) : Option (TValue) :=
  bndE (joint_New_b3 s0 s1 (decide (s0 = 1)) w4 w6) fun o2 =>
  some o2
noncomputable def joint_New_l1_s (s0 : Int) (s1 : List TValue) (w4 : TValue) (w6 : TValue) : Option ((TValue) ⊕ (TValue)) :=
  bndE (slices_Contains_Value_Value s1 w6) fun r1 =>
  iteE (r1) (
   bndE (joint_New_b2 s0 s1 w4 w6) fun o3 =>
   some (.inl o3)) (
   some (.inr w6))
noncomputable def joint_New_l1 (s0 : Int) (s1 : List TValue) (w4 : TValue) (w6 : TValue) : Option (TValue) := loopE (fun s : TValue => joint_New_l1_s s0 s1 w4 s) w6
theorem joint_New_l1_eq (s0 : Int) (s1 : List TValue) (w4 : TValue) (w6 : TValue) : joint_New_l1 s0 s1 w4 w6 = nextE (joint_New_l1_s s0 s1 w4 w6) (fun s : TValue => joint_New_l1 s0 s1 w4 s) := loopE_eq _ _
noncomputable def joint_New (a0 : Int) (a1 : List TValue) : Option (TValue × Bool) :=
  iteE (!decide (a0 = 1)) (
   iteE (!decide (a0 = 2)) (
    some (TValue.mk 0 0 ([] : List UInt8) false, false)) (
    bndE (joint_New_l1 a0 a1 (TValue.mk 0 0 ([] : List UInt8) false) (TValue.mk a0 0 ([] : List UInt8) false)) fun o4 =>
    some (o4, true))) (
   bndE (joint_New_l1 a0 a1 (TValue.mk 0 0 ([] : List UInt8) false) (TValue.mk a0 0 ([] : List UInt8) false)) fun o5 =>
   some (o5, true))
noncomputable def joint_place_values_b3 (s1 : List TValue) (s5 : Int) (s28 : List TSlot) (s29 : Int) (s30 : Int) (s45 : Bool) (w6 : List TValue) (w8 : TSlot) : Option ((List TValue)) :=
  iteE (s45) (
   chkE (fit w6.length [w8.value].length 40) (
    some (w6 ++ [w8.value]))) (
   some w6)
noncomputable def joint_place_values_b2 (s1 : List TValue) (s5 : Int) (s28 : List TSlot) (s29 : Int) (s30 : Int) (w6 : List TValue) : Option ((List TValue)) :=
  idxE s28 s30 fun x4 =>
  iteE (decide (x4.value.kind = s5)) (
   bndE (slices_Contains_Value_Value w6 x4.value) fun r5 =>
   bndE (joint_place_values_b3 s1 s5 s28 s29 s30 (!r5) w6 x4) fun o6 =>
   some o6) (
   bndE (joint_place_values_b3 s1 s5 s28 s29 s30 false w6 x4) fun o7 =>
   some o7)
noncomputable def joint_place_values_l1_s (s1 : List TValue) (s5 : Int) (s28 : List TSlot) (s29 : Int) (s30 : Int) (w6 : List TValue) : Option ((Int × List TValue) ⊕ ((List TValue))) :=
  iteE (decide (s30 < s29)) (
   bndE (joint_place_values_b2 s1 s5 s28 s29 s30 w6) fun o8 =>
   some (.inl ((intVal .add .i64 s30 1), o8))) (
   some (.inr w6))
noncomputable def joint_place_values_l1 (s1 : List TValue) (s5 : Int) (s28 : List TSlot) (s29 : Int) (s30 : Int) (w6 : List TValue) : Option ((List TValue)) := loopE (fun s : Int × List TValue => joint_place_values_l1_s s1 s5 s28 s29 s.1 s.2) (s30, w6)
noncomputable def joint_place_values_b4 (s61 : Bool) (w6 : List TValue) (w9 : TValue) : Option ((List TValue)) :=
  iteE (s61) (
   chkE (fit w6.length [w9].length 40) (
    some (w6 ++ [w9]))) (
   some w6)
noncomputable def joint_place_values (a0 : Tjoint_place) (a1 : List TValue) : Option (List TValue) :=
  idxE a0.q.decls a0.d_ fun x1 =>
  idxE x1.types a0.at_ fun x2 =>
  bndE (joint_Consts a0.q x2) fun r3 =>
  bndE (joint_place_values_l1 a1 x2 a0.b (a0.b.length : Int) 0 r3) fun o9 =>
  bndE (slices_Concat_Value_Value [o9, a1]) fun r10 =>
  bndE (joint_New x2 r10) fun r11 =>
  bndE (joint_place_values_b4 r11.2 o9 r11.1) fun o12 =>
  some o12
noncomputable def binding_Get_l1_s (s1 : Int) (s8 : List TSlot) (s9 : Int) (w4 : TValue) (s10 : Int) : Option ((Int) ⊕ (Unit ⊕ TValue)) :=
  iteE (decide (s10 < s9)) (
   idxE s8 s10 fun x1 =>
   iteE (decide (x1.var = s1)) (
    some (.inr (.inr x1.value))) (
    some (.inl (intVal .add .i64 s10 1)))) (
   some (.inr (.inl ())))
noncomputable def binding_Get_l1 (s1 : Int) (s8 : List TSlot) (s9 : Int) (w4 : TValue) (s10 : Int) : Option (Unit ⊕ TValue) := loopE (fun s : Int => binding_Get_l1_s s1 s8 s9 w4 s) s10
noncomputable def binding_Get (a0 : List TSlot) (a1 : Int) : Option (TValue × Bool) :=
  bndE (binding_Get_l1 a1 a0 (a0.length : Int) (TValue.mk 0 0 ([] : List UInt8) false) 0) fun o2 =>
  sumE o2 (fun o3 =>
   some (TValue.mk 0 0 ([] : List UInt8) false, false)) (fun o4 =>
   some (o4, true))
noncomputable def joint_place_fits (a0 : Tjoint_place) (a1 : TArg) (a2 : TValue) : Option (Bool) :=
  iteE (decide (a1.kind = 1)) (
   some (TValue.eqb a1.value a2)) (
   iteE (decide (a1.kind = 2)) (
    bndE (binding_Get a0.b a1.n) fun r1 =>
    iteE (r1.2) (
     some (TValue.eqb r1.1 a2)) (
     some false)) (
    some true))
noncomputable def joint_place_with_b3 (s6 : Int) (s7 : Int) (s11 : List TSymbol) (s12 : Int) (s13 : Int) (s34 : Bool) (w2 : Tjoint_place) (w3 : TValue) : Option (Int) :=
  iteE (s34) (
   chkE (0 ≤ (IntKind.wrap .u64 s7)) (
    some (intVal .or .u64 s6 (intVal .shl .u64 1 (IntKind.wrap .u64 s7))))) (
   some s6)
noncomputable def joint_place_with_b2 (s6 : Int) (s11 : List TSymbol) (s12 : Int) (s13 : Int) (w2 : Tjoint_place) (w3 : TValue) : Option (Int) :=
  idxE s11 s13 fun x1 =>
  iteE (decide (x1.event = w2.d_)) (
   idxE x1.args w2.at_ fun x2 =>
   bndE (joint_place_fits w2 x2 w3) fun r3 =>
   bndE (joint_place_with_b3 s6 s13 s11 s12 s13 r3 w2 w3) fun o4 =>
   some o4) (
   bndE (joint_place_with_b3 s6 s13 s11 s12 s13 false w2 w3) fun o5 =>
   some o5)
noncomputable def joint_place_with_l1_s (s11 : List TSymbol) (s12 : Int) (w2 : Tjoint_place) (w3 : TValue) (s6 : Int) (s13 : Int) : Option ((Int × Int) ⊕ (Int)) :=
  iteE (decide (s13 < s12)) (
   bndE (joint_place_with_b2 s6 s11 s12 s13 w2 w3) fun o6 =>
   some (.inl (o6, (intVal .add .i64 s13 1)))) (
   some (.inr s6))
noncomputable def joint_place_with_l1 (s11 : List TSymbol) (s12 : Int) (w2 : Tjoint_place) (w3 : TValue) (s6 : Int) (s13 : Int) : Option (Int) := loopE (fun s : Int × Int => joint_place_with_l1_s s11 s12 w2 w3 s.1 s.2) (s6, s13)
noncomputable def joint_place_with (a0 : Tjoint_place) (a1 : TValue) : Option (Int) :=
  bndE (joint_place_with_l1 a0.q.symbols (a0.q.symbols.length : Int) a0 a1 0 0) fun o7 =>
  some o7
noncomputable def joint_narrow_m3_s (s8 : Int) (s12 : List TValue) (s13 : Int) (s14 : Int) (w0 : List (Int × Bool)) (w3 : Tjoint_place) (k : Int) (v : Bool) (w5 : List (Int × Bool)) : Option ((List (Int × Bool))) :=
  some (putS (intVal .and .u64 k s8) true w5)
def joint_narrow_m3_c (s8 : Int) (s12 : List TValue) (s13 : Int) (s14 : Int) (w0 : List (Int × Bool)) (w3 : Tjoint_place) (s : (List (Int × Bool))) : (List (Int × Bool)) := (fun s : (List (Int × Bool)) => (keyC s : (List (Int × Bool)))) s
noncomputable def joint_narrow_m3 (s8 : Int) (s12 : List TValue) (s13 : Int) (s14 : Int) (w0 : List (Int × Bool)) (w3 : Tjoint_place) (w5 : List (Int × Bool)) : Option ((List (Int × Bool))) := exactE (joint_narrow_m3_c s8 s12 s13 s14 w0 w3) w0 (fun (x : Int × Bool) (s : (List (Int × Bool))) => joint_narrow_m3_s s8 s12 s13 s14 w0 w3 x.1 x.2 s) w5
noncomputable def joint_narrow_b2 (s8 : Int) (s12 : List TValue) (s13 : Int) (s14 : Int) (w0 : List (Int × Bool)) (w3 : Tjoint_place) (w5 : List (Int × Bool)) : Option ((List (Int × Bool))) :=
  bndE (joint_narrow_m3 s8 s12 s13 s14 w0 w3 w5) fun o4 =>
  some o4
noncomputable def joint_narrow_l1_s (s12 : List TValue) (s13 : Int) (w0 : List (Int × Bool)) (w3 : Tjoint_place) (s14 : Int) (w5 : List (Int × Bool)) : Option ((Int × (List (Int × Bool))) ⊕ ((List (Int × Bool)))) :=
  iteE (decide (s14 < s13)) (
   idxE s12 s14 fun x2 =>
   bndE (joint_place_with w3 x2) fun r3 =>
   bndE (joint_narrow_b2 r3 s12 s13 s14 w0 w3 w5) fun o5 =>
   some (.inl ((intVal .add .i64 s14 1), o5))) (
   some (.inr w5))
noncomputable def joint_narrow_l1 (s12 : List TValue) (s13 : Int) (w0 : List (Int × Bool)) (w3 : Tjoint_place) (s14 : Int) (w5 : List (Int × Bool)) : Option ((List (Int × Bool))) := loopE (fun s : Int × (List (Int × Bool)) => joint_narrow_l1_s s12 s13 w0 w3 s.1 s.2) (s14, w5)
noncomputable def joint_narrow (a1 : Tjoint_place) (w0 : List (Int × Bool)) : Option ((List (Int × Bool))) :=
  bndE (joint_place_values a1 ([] : List TValue)) fun r1 =>
  bndE (joint_narrow_l1 r1 (r1.length : Int) w0 a1 0 ([] : List (Int × Bool))) fun o6 =>
  some o6
noncomputable def math_bits_Len64_b1 (s0 : Int) (s2 : Int) (s4 : Bool) : Option ((Int × Int)) :=
  iteE (s4) (
   some ((intVal .shr .u64 s0 32), 32)) (
   some (s0, s2))
noncomputable def math_bits_Len64_b2 (s0 : Int) (s2 : Int) (s8 : Bool) : Option ((Int × Int)) :=
  iteE (s8) (
   some ((intVal .shr .u64 s0 16), (intVal .add .i64 s2 16))) (
   some (s0, s2))
noncomputable def math_bits_Len64_b3 (s0 : Int) (s2 : Int) (s14 : Bool) : Option ((Int × Int)) :=
  iteE (s14) (
   some ((intVal .shr .u64 s0 8), (intVal .add .i64 s2 8))) (
   some (s0, s2))
noncomputable def math_bits_Len64 (a0 : Int) : Option (Int) :=
  bndE (math_bits_Len64_b1 a0 0 (decide (4294967296 ≤ a0))) fun o1 =>
  bndE (math_bits_Len64_b2 o1.1 o1.2 (decide (65536 ≤ o1.1))) fun o2 =>
  bndE (math_bits_Len64_b3 o2.1 o2.2 (decide (256 ≤ o2.1))) fun o3 =>
  idxE ([0, 1, 2, 2, 3, 3, 3, 3, 4, 4, 4, 4, 4, 4, 4, 4, 5, 5, 5, 5, 5, 5, 5, 5, 5, 5, 5, 5, 5, 5, 5, 5, 6, 6, 6, 6, 6, 6, 6, 6, 6, 6, 6, 6, 6, 6, 6, 6, 6, 6, 6, 6, 6, 6, 6, 6, 6, 6, 6, 6, 6, 6, 6, 6, 7, 7, 7, 7, 7, 7, 7, 7, 7, 7, 7, 7, 7, 7, 7, 7, 7, 7, 7, 7, 7, 7, 7, 7, 7, 7, 7, 7, 7, 7, 7, 7, 7, 7, 7, 7, 7, 7, 7, 7, 7, 7, 7, 7, 7, 7, 7, 7, 7, 7, 7, 7, 7, 7, 7, 7, 7, 7, 7, 7, 7, 7, 7, 7, 8, 8, 8, 8, 8, 8, 8, 8, 8, 8, 8, 8, 8, 8, 8, 8, 8, 8, 8, 8, 8, 8, 8, 8, 8, 8, 8, 8, 8, 8, 8, 8, 8, 8, 8, 8, 8, 8, 8, 8, 8, 8, 8, 8, 8, 8, 8, 8, 8, 8, 8, 8, 8, 8, 8, 8, 8, 8, 8, 8, 8, 8, 8, 8, 8, 8, 8, 8, 8, 8, 8, 8, 8, 8, 8, 8, 8, 8, 8, 8, 8, 8, 8, 8, 8, 8, 8, 8, 8, 8, 8, 8, 8, 8, 8, 8, 8, 8, 8, 8, 8, 8, 8, 8, 8, 8, 8, 8, 8, 8, 8, 8, 8, 8, 8, 8, 8, 8, 8, 8, 8, 8, 8, 8, 8, 8, 8, 8] : List UInt8) ((u8w o3.1).toNat : Int) fun x4 =>
  some (intVal .add .i64 o3.2 (x4.toNat : Int))
noncomputable def math_bits_Len (a0 : Int) : Option (Int) :=
  bndE (math_bits_Len64 a0) fun r1 =>
  some r1
noncomputable def cmp_isNaN_uint64 (a0 : Int) : Option (Bool) :=
  some (!decide (a0 = a0))
noncomputable def cmp_Less_uint64 (a0 : Int) (a1 : Int) : Option (Bool) :=
  bndE (cmp_isNaN_uint64 a0) fun r1 =>
  iteE (r1) (
   bndE (cmp_isNaN_uint64 a1) fun r2 =>
   iteE (!r2) (
    some true) (
    some (decide (a0 < a1)))) (
   some (decide (a0 < a1)))
noncomputable def slices_insertionSortOrdered_uint64_l2_s (s1 : Int) (s2 : Int) (s6 : Int) (s7 : Int) (w0 : List Int) : Option ((Int × List Int) ⊕ ((List Int))) :=
  iteE (decide (s1 < s7)) (
   chkE (0 ≤ s7 ∧ s7 + 1 ≤ (w0.length : Int)) (
    idxE w0 s7 fun x1 =>
    chkE (0 ≤ (intVal .sub .i64 s7 1) ∧ (intVal .sub .i64 s7 1) + 1 ≤ (w0.length : Int)) (
     idxE w0 (intVal .sub .i64 s7 1) fun x2 =>
     bndE (cmp_Less_uint64 x1 x2) fun r3 =>
     iteE (r3) (
      chkE (0 ≤ (intVal .sub .i64 s7 1) ∧ (intVal .sub .i64 s7 1) + 1 ≤ (w0.length : Int)) (
       idxE w0 (intVal .sub .i64 s7 1) fun x4 =>
       chkE (0 ≤ s7 ∧ s7 + 1 ≤ (w0.length : Int)) (
        idxE w0 s7 fun x5 =>
        chkE (0 ≤ s7 ∧ s7 + 1 ≤ (w0.length : Int)) (
         chkE (0 ≤ s7 ∧ s7 + 1 ≤ (w0.length : Int)) (
          chkE (0 ≤ (intVal .sub .i64 s7 1) ∧ (intVal .sub .i64 s7 1) + 1 ≤ ((w0.set s7.toNat x4).length : Int)) (
           chkE (0 ≤ (intVal .sub .i64 s7 1) ∧ (intVal .sub .i64 s7 1) + 1 ≤ ((w0.set s7.toNat x4).length : Int)) (
            some (.inl ((intVal .sub .i64 s7 1), (w0.set s7.toNat x4).set (intVal .sub .i64 s7 1).toNat x5))))))))) (
      some (.inr w0))))) (
   some (.inr w0))
noncomputable def slices_insertionSortOrdered_uint64_l2 (s1 : Int) (s2 : Int) (s6 : Int) (s7 : Int) (w0 : List Int) : Option ((List Int)) := loopE (fun s : Int × List Int => slices_insertionSortOrdered_uint64_l2_s s1 s2 s6 s.1 s.2) (s7, w0)
noncomputable def slices_insertionSortOrdered_uint64_l1_s (s1 : Int) (s2 : Int) (s6 : Int) (w0 : List Int) : Option ((Int × List Int) ⊕ ((List Int))) :=
  iteE (decide (s6 < s2)) (
   bndE (slices_insertionSortOrdered_uint64_l2 s1 s2 s6 s6 w0) fun o6 =>
   some (.inl ((intVal .add .i64 s6 1), o6))) (
   some (.inr w0))
noncomputable def slices_insertionSortOrdered_uint64_l1 (s1 : Int) (s2 : Int) (s6 : Int) (w0 : List Int) : Option ((List Int)) := loopE (fun s : Int × List Int => slices_insertionSortOrdered_uint64_l1_s s1 s2 s.1 s.2) (s6, w0)
noncomputable def slices_insertionSortOrdered_uint64 (a1 : Int) (a2 : Int) (w0 : List Int) : Option (List Int) :=
  bndE (slices_insertionSortOrdered_uint64_l1 a1 a2 (intVal .add .i64 a1 1) w0) fun o7 =>
  some o7
noncomputable def slices_pdqsortOrdered_uint64_b3 (s1 : Int) (s2 : Int) (s3 : Int) (s8 : Bool) (s9 : Bool) (s10 : Int) (s35 : Bool) (w0 : List Int) : Option (Unit) :=
  iteE (s35) (
   none) (
   some ())
noncomputable def slices_pdqsortOrdered_uint64_b2 (s1 : Int) (s2 : Int) (s3 : Int) (s8 : Bool) (s9 : Bool) (w0 : List Int) : Option ((List Int)) :=
  iteE (decide ((intVal .sub .i64 s2 s1) ≤ 12)) (
   bndE (slices_insertionSortOrdered_uint64 s1 s2 w0) fun r1 =>
   some r1) (
   iteE (decide (s3 = 0)) (
    none) (
    bndE (slices_pdqsortOrdered_uint64_b3 s1 s2 s3 s8 s9 (intVal .sub .i64 s2 s1) (!s8) w0) fun o2 =>
    none))
noncomputable def slices_pdqsortOrdered_uint64_l1_s (s1 : Int) (s2 : Int) (s3 : Int) (s8 : Bool) (s9 : Bool) (w0 : List Int) : Option ((Unit) ⊕ ((List Int))) :=
  bndE (slices_pdqsortOrdered_uint64_b2 s1 s2 s3 s8 s9 w0) fun o3 =>
  some (.inr o3)
noncomputable def slices_pdqsortOrdered_uint64_l1 (s1 : Int) (s2 : Int) (s3 : Int) (s8 : Bool) (s9 : Bool) (w0 : List Int) : Option ((List Int)) := loopE (fun s : Unit => slices_pdqsortOrdered_uint64_l1_s s1 s2 s3 s8 s9 w0) ()
noncomputable def slices_pdqsortOrdered_uint64 (a1 : Int) (a2 : Int) (a3 : Int) (w0 : List Int) : Option (List Int) :=
  bndE (slices_pdqsortOrdered_uint64_l1 a1 a2 a3 true true w0) fun o4 =>
  some o4
noncomputable def slices_Sort_uint64_uint64 (w0 : List Int) : Option (List Int) :=
  bndE (math_bits_Len (IntKind.wrap .u64 (w0.length : Int))) fun r1 =>
  bndE (slices_pdqsortOrdered_uint64 0 (w0.length : Int) r1 w0) fun r2 =>
  some r2
noncomputable def slices_Sort_uint64_uint64_v2 (xs : List Int) : Option (List Int) := bagE slices_Sort_uint64_uint64 xs
noncomputable def joint_Sets_l2_s (s1 : List TSlot) (s6 : Int) (s15 : Int) (s16 : Int) (s30 : Int) (w2 : TQea) (w5 : List (Int × Bool)) (s31 : Int) (w7 : List (Int × Bool)) : Option ((Int × (List (Int × Bool))) ⊕ ((List (Int × Bool)))) :=
  iteE (decide (s31 < s30)) (
   bndE (joint_narrow (Tjoint_place.mk w2 s1 s6 s31) w7) fun r3 =>
   some (.inl ((intVal .add .i64 s31 1), r3))) (
   some (.inr w7))
noncomputable def joint_Sets_l2 (s1 : List TSlot) (s6 : Int) (s15 : Int) (s16 : Int) (s30 : Int) (w2 : TQea) (w5 : List (Int × Bool)) (s31 : Int) (w7 : List (Int × Bool)) : Option ((List (Int × Bool))) := loopE (fun s : Int × (List (Int × Bool)) => joint_Sets_l2_s s1 s6 s15 s16 s30 w2 w5 s.1 s.2) (s31, w7)
noncomputable def joint_Sets_m4_s (s1 : List TSlot) (s15 : Int) (s16 : Int) (w2 : TQea) (w7 : List (Int × Bool)) (k : Int) (v : Bool) (w5 : List (Int × Bool)) : Option ((List (Int × Bool))) :=
  some (putS k true w5)
def joint_Sets_m4_c (s1 : List TSlot) (s15 : Int) (s16 : Int) (w2 : TQea) (w7 : List (Int × Bool)) (s : (List (Int × Bool))) : (List (Int × Bool)) := (fun s : (List (Int × Bool)) => (keyC s : (List (Int × Bool)))) s
noncomputable def joint_Sets_m4 (s1 : List TSlot) (s15 : Int) (s16 : Int) (w2 : TQea) (w7 : List (Int × Bool)) (w5 : List (Int × Bool)) : Option ((List (Int × Bool))) := exactE (joint_Sets_m4_c s1 s15 s16 w2 w7) w7 (fun (x : Int × Bool) (s : (List (Int × Bool))) => joint_Sets_m4_s s1 s15 s16 w2 w7 x.1 x.2 s) w5
noncomputable def joint_Sets_b3 (s1 : List TSlot) (s15 : Int) (s16 : Int) (w2 : TQea) (w5 : List (Int × Bool)) (w7 : List (Int × Bool)) : Option ((List (Int × Bool))) :=
  bndE (joint_Sets_m4 s1 s15 s16 w2 w7 w5) fun o5 =>
  some o5
noncomputable def joint_Sets_l1_s (s1 : List TSlot) (s15 : Int) (w2 : TQea) (s16 : Int) (w5 : List (Int × Bool)) : Option ((Int × (List (Int × Bool))) ⊕ ((List (Int × Bool)))) :=
  iteE (decide (s16 < s15)) (
   bndE (joint_own w2 s16) fun r1 =>
   idxE w2.decls s16 fun x2 =>
   bndE (joint_Sets_l2 s1 s16 s15 s16 (x2.types.length : Int) w2 w5 0 (putS r1 true ([] : List (Int × Bool)))) fun o4 =>
   bndE (joint_Sets_b3 s1 s15 s16 w2 w5 o4) fun o6 =>
   some (.inl ((intVal .add .i64 s16 1), o6))) (
   some (.inr w5))
noncomputable def joint_Sets_l1 (s1 : List TSlot) (s15 : Int) (w2 : TQea) (s16 : Int) (w5 : List (Int × Bool)) : Option ((List (Int × Bool))) := loopE (fun s : Int × (List (Int × Bool)) => joint_Sets_l1_s s1 s15 w2 s.1 s.2) (s16, w5)
noncomputable def joint_Sets_m6_s (w5 : List (Int × Bool)) (k : Int) (v : Bool) (w10 : List Int) : Option (List Int) :=
  chkE (fit w10.length [k].length 8) (
   some (w10 ++ [k]))
def joint_Sets_m6_c (w5 : List (Int × Bool)) (s : List Int) : List Int := (fun s : List Int => (rowC s : List Int)) s
noncomputable def joint_Sets_m6 (w5 : List (Int × Bool)) (w10 : List Int) : Option (List Int) := exactE (joint_Sets_m6_c w5) w5 (fun (x : Int × Bool) (s : List Int) => joint_Sets_m6_s w5 x.1 x.2 s) w10
noncomputable def joint_Sets_b5 (w5 : List (Int × Bool)) : Option ((List Int)) :=
  bndE (joint_Sets_m6 w5 ([] : List Int)) fun o8 =>
  some o8
noncomputable def joint_Sets (a0 : TQea) (a1 : List TSlot) : Option (List Int) :=
  bndE (joint_Sets_l1 a1 (a0.decls.length : Int) a0 0 ([] : List (Int × Bool))) fun o7 =>
  bndE (joint_Sets_b5 (delS 0 o7)) fun o9 =>
  bndE (slices_Sort_uint64_uint64_v2 o9) fun r10 =>
  some r10
noncomputable def core_Plain_1 (a0 : TTrans) : Option (Bool) :=
  some (decide (0 ≤ a0.guard))
noncomputable def slices_IndexFunc_Trans_Trans_l1_s (s0 : List TTrans) (s7 : Int) (s8 : Int) : Option ((Int) ⊕ (Unit ⊕ Int)) :=
  iteE (decide (s8 < s7)) (
   idxE s0 s8 fun x1 =>
   bndE (core_Plain_1 x1) fun r2 =>
   iteE (r2) (
    some (.inr (.inr s8))) (
    some (.inl (intVal .add .i64 s8 1)))) (
   some (.inr (.inl ())))
noncomputable def slices_IndexFunc_Trans_Trans_l1 (s0 : List TTrans) (s7 : Int) (s8 : Int) : Option (Unit ⊕ Int) := loopE (fun s : Int => slices_IndexFunc_Trans_Trans_l1_s s0 s7 s) s8
noncomputable def slices_IndexFunc_Trans_Trans (a0 : List TTrans) : Option (Int) :=
  bndE (slices_IndexFunc_Trans_Trans_l1 a0 (a0.length : Int) 0) fun o3 =>
  sumE o3 (fun o4 =>
   some (-1)) (fun o5 =>
   some o5)
noncomputable def slices_ContainsFunc_Trans_Trans (a0 : List TTrans) : Option (Bool) :=
  bndE (slices_IndexFunc_Trans_Trans a0) fun r1 =>
  some (decide (0 ≤ r1))
noncomputable def core_Plain (a0 : TQea) : Option (Bool) :=
  iteE (decide ((a0.frees.length : Int) = 0)) (
   bndE (slices_ContainsFunc_Trans_Trans a0.trans) fun r1 =>
   some (!r1)) (
   some false)
noncomputable def joint_Small (a0 : TQea) : Option (Bool) :=
  bndE (core_Plain a0) fun r1 =>
  iteE (r1) (
   iteE (decide ((a0.quants.length : Int) ≤ 1)) (
    iteE (decide ((a0.states.length : Int) ≤ 8)) (
     some (decide ((a0.symbols.length : Int) ≤ 8))) (
     some false)) (
    some false)) (
   some false)
noncomputable def law22_awake : Option (Bool) :=
  bndE (law22_number 3) fun r1 =>
  bndE (law22_number 3) fun r2 =>
  bndE (joint_Sets (TQea.mk ([113] : List UInt8) ([TDecl.mk ([97] : List UInt8) [1]]) ([TQuant.mk false ([120] : List UInt8) 1]) ([] : List TFree) ([TState.mk ([115] : List UInt8) false false]) 0 ([TSymbol.mk 0 ([TArg.mk 2 0 (TValue.mk 0 0 ([] : List UInt8) false)]), TSymbol.mk 0 [TArg.mk 1 0 r1]]) ([] : List TNode) ([] : List TTrans)) [TSlot.mk 0 r2]) fun r3 =>
  bndE (law22_number 4) fun r4 =>
  bndE (joint_Sets (TQea.mk ([113] : List UInt8) ([TDecl.mk ([97] : List UInt8) [1]]) ([TQuant.mk false ([120] : List UInt8) 1]) ([] : List TFree) ([TState.mk ([115] : List UInt8) false false]) 0 ([TSymbol.mk 0 ([TArg.mk 2 0 (TValue.mk 0 0 ([] : List UInt8) false)]), TSymbol.mk 0 [TArg.mk 1 0 r1]]) ([] : List TNode) ([] : List TTrans)) [TSlot.mk 0 r4]) fun r5 =>
  bndE (joint_Small (TQea.mk ([113] : List UInt8) ([TDecl.mk ([97] : List UInt8) [1]]) ([TQuant.mk false ([120] : List UInt8) 1]) ([] : List TFree) ([TState.mk ([115] : List UInt8) false false]) 0 ([TSymbol.mk 0 ([TArg.mk 2 0 (TValue.mk 0 0 ([] : List UInt8) false)]), TSymbol.mk 0 [TArg.mk 1 0 r1]]) ([] : List TNode) ([] : List TTrans))) fun r6 =>
  iteE (r6) (
   iteE (decide ((r3.length : Int) = 1)) (
    idxE r3 0 fun x7 =>
    iteE (decide (x7 = 3)) (
     iteE (decide ((r5.length : Int) = 2)) (
      idxE r5 0 fun x8 =>
      iteE (decide (x8 = 1)) (
       idxE r5 1 fun x9 =>
       some (decide (x9 = 2))) (
       some false)) (
      some false)) (
     some false)) (
    some false)) (
   some false)
noncomputable def ref07_Words : Option (List (List UInt8)) :=
  some ([([97, 99, 99, 101, 112, 116] : List UInt8), ([97, 108, 115, 111] : List UInt8), ([97, 110, 100] : List UInt8), ([98, 111, 111, 108] : List UInt8), ([100, 111] : List UInt8), ([101, 118, 101, 110, 116] : List UInt8), ([101, 120, 105, 115, 116, 115] : List UInt8), ([102, 97, 108, 115, 101] : List UInt8), ([102, 111, 114, 97, 108, 108] : List UInt8), ([102, 114, 101, 101] : List UInt8), ([105, 102] : List UInt8), ([105, 110, 116] : List UInt8), ([110, 101, 120, 116] : List UInt8), ([110, 111, 116] : List UInt8), ([111, 110] : List UInt8), ([111, 114] : List UInt8), ([113, 101, 97] : List UInt8), ([115, 107, 105, 112] : List UInt8), ([115, 116, 97, 114, 116] : List UInt8), ([115, 116, 114, 105, 110, 103] : List UInt8), ([116, 111] : List UInt8), ([116, 114, 117, 101] : List UInt8)])
noncomputable def ref07_Spelt_l1_s (s0 : List UInt8) (s3 : Int) : Option ((Int) ⊕ (Unit ⊕ Unit)) :=
  iteE (decide (s3 < (s0.length : Int))) (
   idxE s0 s3 fun x1 =>
   iteE (decide (((65 : UInt8).toNat : Int) ≤ (x1.toNat : Int))) (
    iteE (decide ((x1.toNat : Int) ≤ ((90 : UInt8).toNat : Int))) (
     some (.inl (intVal .add .i64 s3 1))) (
     iteE (decide (((97 : UInt8).toNat : Int) ≤ (x1.toNat : Int))) (
      iteE (decide ((x1.toNat : Int) ≤ ((122 : UInt8).toNat : Int))) (
       some (.inl (intVal .add .i64 s3 1))) (
       iteE (!(decide ((x1.toNat : Int) = ((95 : UInt8).toNat : Int)))) (
        iteE (decide (s3 = 0)) (
         some (.inr (.inr ()))) (
         iteE (decide ((x1.toNat : Int) < ((48 : UInt8).toNat : Int))) (
          some (.inr (.inr ()))) (
          iteE (decide (((57 : UInt8).toNat : Int) < (x1.toNat : Int))) (
           some (.inr (.inr ()))) (
           some (.inl (intVal .add .i64 s3 1)))))) (
        some (.inl (intVal .add .i64 s3 1))))) (
      iteE (!(decide ((x1.toNat : Int) = ((95 : UInt8).toNat : Int)))) (
       iteE (decide (s3 = 0)) (
        some (.inr (.inr ()))) (
        iteE (decide ((x1.toNat : Int) < ((48 : UInt8).toNat : Int))) (
         some (.inr (.inr ()))) (
         iteE (decide (((57 : UInt8).toNat : Int) < (x1.toNat : Int))) (
          some (.inr (.inr ()))) (
          some (.inl (intVal .add .i64 s3 1)))))) (
       some (.inl (intVal .add .i64 s3 1)))))) (
    iteE (decide (((97 : UInt8).toNat : Int) ≤ (x1.toNat : Int))) (
     iteE (decide ((x1.toNat : Int) ≤ ((122 : UInt8).toNat : Int))) (
      some (.inl (intVal .add .i64 s3 1))) (
      iteE (!(decide ((x1.toNat : Int) = ((95 : UInt8).toNat : Int)))) (
       iteE (decide (s3 = 0)) (
        some (.inr (.inr ()))) (
        iteE (decide ((x1.toNat : Int) < ((48 : UInt8).toNat : Int))) (
         some (.inr (.inr ()))) (
         iteE (decide (((57 : UInt8).toNat : Int) < (x1.toNat : Int))) (
          some (.inr (.inr ()))) (
          some (.inl (intVal .add .i64 s3 1)))))) (
       some (.inl (intVal .add .i64 s3 1))))) (
     iteE (!(decide ((x1.toNat : Int) = ((95 : UInt8).toNat : Int)))) (
      iteE (decide (s3 = 0)) (
       some (.inr (.inr ()))) (
       iteE (decide ((x1.toNat : Int) < ((48 : UInt8).toNat : Int))) (
        some (.inr (.inr ()))) (
        iteE (decide (((57 : UInt8).toNat : Int) < (x1.toNat : Int))) (
         some (.inr (.inr ()))) (
         some (.inl (intVal .add .i64 s3 1)))))) (
      some (.inl (intVal .add .i64 s3 1)))))) (
   some (.inr (.inl ())))
noncomputable def ref07_Spelt_l1 (s0 : List UInt8) (s3 : Int) : Option (Unit ⊕ Unit) := loopE (fun s : Int => ref07_Spelt_l1_s s0 s) s3
noncomputable def ref07_Spelt (a0 : List UInt8) : Option (Bool) :=
  iteE (decide ((a0.length : Int) < 1)) (
   some false) (
   iteE (decide (32 < (a0.length : Int))) (
    some false) (
    bndE (ref07_Spelt_l1 a0 0) fun o2 =>
    sumE o2 (fun o3 =>
     some true) (fun o4 =>
     some false)))
noncomputable def ref07_Name_l1_s (s0 : List UInt8) (s3 : List (List UInt8)) (s4 : Int) : Option ((Int) ⊕ (Unit ⊕ Unit)) :=
  iteE (decide (s4 < (s3.length : Int))) (
   idxE s3 s4 fun x2 =>
   iteE (decide (x2 = s0)) (
    some (.inr (.inr ()))) (
    some (.inl (intVal .add .i64 s4 1)))) (
   some (.inr (.inl ())))
noncomputable def ref07_Name_l1 (s0 : List UInt8) (s3 : List (List UInt8)) (s4 : Int) : Option (Unit ⊕ Unit) := loopE (fun s : Int => ref07_Name_l1_s s0 s3 s) s4
noncomputable def ref07_Name (a0 : List UInt8) : Option (Bool) :=
  bndE (ref07_Words) fun r1 =>
  bndE (ref07_Name_l1 a0 r1 0) fun o3 =>
  sumE o3 (fun o4 =>
   bndE (ref07_Spelt a0) fun r6 =>
   iteE (r6) (
    some (!decide (a0 = ([95] : List UInt8)))) (
    some false)) (fun o5 =>
   some false)
noncomputable def ref07_Find_l1_s (s0 : List TDecl) (s1 : List UInt8) (s5 : Int) : Option ((Int) ⊕ (Unit ⊕ Int)) :=
  iteE (decide (s5 < (s0.length : Int))) (
   idxE s0 s5 fun x1 =>
   iteE (decide (x1.name = s1)) (
    some (.inr (.inr s5))) (
    some (.inl (intVal .add .i64 s5 1)))) (
   some (.inr (.inl ())))
noncomputable def ref07_Find_l1 (s0 : List TDecl) (s1 : List UInt8) (s5 : Int) : Option (Unit ⊕ Int) := loopE (fun s : Int => ref07_Find_l1_s s0 s1 s) s5
noncomputable def ref07_Find (a0 : List TDecl) (a1 : List UInt8) : Option (Int) :=
  bndE (ref07_Find_l1 a0 a1 0) fun o2 =>
  sumE o2 (fun o3 =>
   some (-1)) (fun o4 =>
   some o4)
noncomputable def ref07_Check_l2_s (s0 : List TDecl) (s4 : Int) (s5 : Int) : Option ((Int) ⊕ (Unit ⊕ Unit)) :=
  idxE s0 s4 fun x6 =>
  iteE (decide (s5 < (x6.types.length : Int))) (
   idxE s0 s4 fun x7 =>
   idxE x7.types s5 fun x8 =>
   iteE (decide (x8 < 1)) (
    some (.inr (.inr ()))) (
    idxE s0 s4 fun x9 =>
    idxE x9.types s5 fun x10 =>
    iteE (decide (3 < x10)) (
     some (.inr (.inr ()))) (
     some (.inl (intVal .add .i64 s5 1))))) (
   some (.inr (.inl ())))
noncomputable def ref07_Check_l2 (s0 : List TDecl) (s4 : Int) (s5 : Int) : Option (Unit ⊕ Unit) := loopE (fun s : Int => ref07_Check_l2_s s0 s4 s) s5
noncomputable def ref07_Check_l1_s (s0 : List TDecl) (s4 : Int) : Option ((Int) ⊕ (Unit ⊕ (Int × Int))) :=
  iteE (decide (s4 < (s0.length : Int))) (
   idxE s0 s4 fun x1 =>
   bndE (ref07_Name x1.name) fun r2 =>
   iteE (!r2) (
    some (.inr (.inr (11, s4)))) (
    idxE s0 s4 fun x3 =>
    bndE (ref07_Find s0 x3.name) fun r4 =>
    iteE (decide (r4 < s4)) (
     some (.inr (.inr (10, s4)))) (
     idxE s0 s4 fun x5 =>
     iteE (decide (8 < (x5.types.length : Int))) (
      some (.inr (.inr (14, s4)))) (
      bndE (ref07_Check_l2 s0 s4 0) fun o11 =>
      sumE o11 (fun o12 =>
       some (.inl (intVal .add .i64 s4 1))) (fun o13 =>
       some (.inr (.inr (8, s4)))))))) (
   some (.inr (.inl ())))
noncomputable def ref07_Check_l1 (s0 : List TDecl) (s4 : Int) : Option (Unit ⊕ (Int × Int)) := loopE (fun s : Int => ref07_Check_l1_s s0 s) s4
noncomputable def ref07_Check (a0 : List TDecl) : Option (Int × Int) :=
  iteE (decide (32 < (a0.length : Int))) (
   some (14, 32)) (
   bndE (ref07_Check_l1 a0 0) fun o14 =>
   sumE o14 (fun o15 =>
    some (0, (-1))) (fun o16 =>
    some (o16.1, o16.2)))
noncomputable def ref03_Right (a0 : TValue) : Option (Bool) :=
  iteE (decide (a0.kind = 1)) (
   iteE (decide (a0.str = ([] : List UInt8))) (
    some (!a0.bool)) (
    some false)) (
   iteE (decide (a0.kind = 2)) (
    iteE (decide (a0.int = 0)) (
     iteE (!a0.bool) (
      some (decide ((a0.str.length : Int) ≤ 4096))) (
      some false)) (
     some false)) (
    iteE (decide (a0.kind = 3)) (
     iteE (decide (a0.int = 0)) (
      some (decide (a0.str = ([] : List UInt8)))) (
      some false)) (
     some false)))
noncomputable def ref13_twice_l1_s (s0 : List (List UInt8)) (s1 : Int) (s5 : Int) : Option ((Int) ⊕ (Unit ⊕ Unit)) :=
  iteE (decide (s5 < s1)) (
   idxE s0 s5 fun x1 =>
   idxE s0 s1 fun x2 =>
   iteE (decide (x1 = x2)) (
    some (.inr (.inr ()))) (
    some (.inl (intVal .add .i64 s5 1)))) (
   some (.inr (.inl ())))
noncomputable def ref13_twice_l1 (s0 : List (List UInt8)) (s1 : Int) (s5 : Int) : Option (Unit ⊕ Unit) := loopE (fun s : Int => ref13_twice_l1_s s0 s1 s) s5
noncomputable def ref13_twice (a0 : List (List UInt8)) (a1 : Int) : Option (Bool) :=
  bndE (ref13_twice_l1 a0 a1 0) fun o3 =>
  sumE o3 (fun o4 =>
   some false) (fun o5 =>
   some true)
noncomputable def ref13_names_l1_s (w1 : TQea) (s4 : Int) (w3 : List (List UInt8)) : Option ((Int × List (List UInt8)) ⊕ ((List (List UInt8)) ⊕ Unit)) :=
  iteE (decide (s4 < (w1.quants.length : Int))) (
   idxE w1.quants s4 fun x4 =>
   chkE (fit w3.length [x4.name].length 16) (
    idxE w1.quants s4 fun x5 =>
    iteE (decide (x5.type < 1)) (
     some (.inr (.inr ()))) (
     idxE w1.quants s4 fun x6 =>
     iteE (decide (3 < x6.type)) (
      some (.inr (.inr ()))) (
      some (.inl ((intVal .add .i64 s4 1), w3 ++ [x4.name])))))) (
   some (.inr (.inl w3)))
noncomputable def ref13_names_l1 (w1 : TQea) (s4 : Int) (w3 : List (List UInt8)) : Option ((List (List UInt8)) ⊕ Unit) := loopE (fun s : Int × List (List UInt8) => ref13_names_l1_s w1 s.1 s.2) (s4, w3)
noncomputable def ref13_names_l2_s (w1 : TQea) (s5 : Int) (w3 : List (List UInt8)) : Option ((Int × List (List UInt8)) ⊕ ((List (List UInt8)) ⊕ Unit)) :=
  iteE (decide (s5 < (w1.frees.length : Int))) (
   idxE w1.frees s5 fun x10 =>
   chkE (fit w3.length [x10.name].length 16) (
    idxE w1.frees s5 fun x11 =>
    bndE (ref03_Right x11.init_) fun r12 =>
    iteE (!r12) (
     some (.inr (.inr ()))) (
     some (.inl ((intVal .add .i64 s5 1), w3 ++ [x10.name]))))) (
   some (.inr (.inl w3)))
noncomputable def ref13_names_l2 (w1 : TQea) (s5 : Int) (w3 : List (List UInt8)) : Option ((List (List UInt8)) ⊕ Unit) := loopE (fun s : Int × List (List UInt8) => ref13_names_l2_s w1 s.1 s.2) (s5, w3)
noncomputable def ref13_names_l3_s (w1 : TQea) (w3 : List (List UInt8)) (s6 : Int) : Option ((Int) ⊕ (Unit ⊕ Unit)) :=
  iteE (decide (s6 < (w3.length : Int))) (
   idxE w3 s6 fun x16 =>
   bndE (ref07_Name x16) fun r17 =>
   iteE (!r17) (
    some (.inr (.inr ()))) (
    bndE (ref13_twice w3 s6) fun r18 =>
    iteE (r18) (
     some (.inr (.inr ()))) (
     some (.inl (intVal .add .i64 s6 1))))) (
   some (.inr (.inl ())))
noncomputable def ref13_names_l3 (w1 : TQea) (w3 : List (List UInt8)) (s6 : Int) : Option (Unit ⊕ Unit) := loopE (fun s : Int => ref13_names_l3_s w1 w3 s) s6
noncomputable def ref13_names_l4_s (w1 : TQea) (s8 : Int) (w7 : List (List UInt8)) : Option ((Int × List (List UInt8)) ⊕ (Unit ⊕ Unit)) :=
  iteE (decide (s8 < (w1.states.length : Int))) (
   idxE w1.states s8 fun x26 =>
   chkE (fit w7.length [x26.name].length 16) (
    idxE (w7 ++ [x26.name]) s8 fun x27 =>
    bndE (ref07_Name x27) fun r28 =>
    iteE (!r28) (
     some (.inr (.inr ()))) (
     bndE (ref13_twice (w7 ++ [x26.name]) s8) fun r29 =>
     iteE (r29) (
      some (.inr (.inr ()))) (
      some (.inl ((intVal .add .i64 s8 1), w7 ++ [x26.name])))))) (
   some (.inr (.inl ())))
noncomputable def ref13_names_l4 (w1 : TQea) (s8 : Int) (w7 : List (List UInt8)) : Option (Unit ⊕ Unit) := loopE (fun s : Int × List (List UInt8) => ref13_names_l4_s w1 s.1 s.2) (s8, w7)
noncomputable def ref13_names (a0 : TQea) : Option (Bool) :=
  bndE (ref13_names_l1 a0 0 ([] : List (List UInt8))) fun o7 =>
  sumE o7 (fun o8 =>
   bndE (ref13_names_l2 a0 0 o8) fun o13 =>
   sumE o13 (fun o14 =>
    bndE (ref13_names_l3 a0 o14 0) fun o19 =>
    sumE o19 (fun o20 =>
     bndE (ref13_names_l4 a0 0 ([] : List (List UInt8))) fun o30 =>
     sumE o30 (fun o31 =>
      bndE (ref07_Name a0.name) fun r33 =>
      some r33) (fun o32 =>
      some false)) (fun o21 =>
     some false)) (fun o15 =>
    some false)) (fun o9 =>
   some false)
noncomputable def ref03_truth (a0 : Bool) : Option (TValue × Int) :=
  some (TValue.mk 3 0 ([] : List UInt8) a0, 0)
noncomputable def ref01_Add (a0 : Int) (a1 : Int) : Option (Int × Bool) :=
  iteE (decide (0 < a1)) (
   iteE (decide ((intVal .sub .i64 9223372036854775807 a1) < a0)) (
    some (0, false)) (
    iteE (decide (a1 < 0)) (
     iteE (decide (a0 < (intVal .sub .i64 (-9223372036854775808) a1))) (
      some (0, false)) (
      some ((intVal .add .i64 a0 a1), true))) (
     some ((intVal .add .i64 a0 a1), true)))) (
   iteE (decide (a1 < 0)) (
    iteE (decide (a0 < (intVal .sub .i64 (-9223372036854775808) a1))) (
     some (0, false)) (
     some ((intVal .add .i64 a0 a1), true))) (
    some ((intVal .add .i64 a0 a1), true)))
noncomputable def ref03_number (a0 : Int) (a1 : Bool) : Option (TValue × Int) :=
  iteE (!a1) (
   some (TValue.mk 0 0 ([] : List UInt8) false, 6)) (
   some (TValue.mk 1 a0 ([] : List UInt8) false, 0))
noncomputable def ref01_Sub (a0 : Int) (a1 : Int) : Option (Int × Bool) :=
  iteE (decide (a1 < 0)) (
   iteE (decide ((intVal .add .i64 9223372036854775807 a1) < a0)) (
    some (0, false)) (
    iteE (decide (0 < a1)) (
     iteE (decide (a0 < (intVal .add .i64 (-9223372036854775808) a1))) (
      some (0, false)) (
      some ((intVal .sub .i64 a0 a1), true))) (
     some ((intVal .sub .i64 a0 a1), true)))) (
   iteE (decide (0 < a1)) (
    iteE (decide (a0 < (intVal .add .i64 (-9223372036854775808) a1))) (
     some (0, false)) (
     some ((intVal .sub .i64 a0 a1), true))) (
    some ((intVal .sub .i64 a0 a1), true)))
noncomputable def ref01_Mul (a0 : Int) (a1 : Int) : Option (Int × Bool) :=
  iteE (decide (a0 = 0)) (
   some (0, true)) (
   iteE (decide (a1 = 0)) (
    some (0, true)) (
    iteE (decide (a0 = (-1))) (
     bndE (ref01_Sub 0 a1) fun r1 =>
     some (r1.1, r1.2)) (
     iteE (decide (a1 = (-1))) (
      bndE (ref01_Sub 0 a0) fun r2 =>
      some (r2.1, r2.2)) (
      iteE (decide (0 < a0)) (
       iteE (decide (0 < a1)) (
        chkE (a1 ≠ 0) (
         iteE (decide ((intVal .quo .i64 9223372036854775807 a1) < a0)) (
          some (0, false)) (
          iteE (decide (a1 < 0)) (
           chkE (a0 ≠ 0) (
            iteE (decide (a1 < (intVal .quo .i64 (-9223372036854775808) a0))) (
             some (0, false)) (
             iteE (decide (a0 < 0)) (
              chkE (a1 ≠ 0) (
               iteE (decide (a0 < (intVal .quo .i64 (-9223372036854775808) a1))) (
                some (0, false)) (
                chkE (a1 ≠ 0) (
                 iteE (decide (a0 < (intVal .quo .i64 9223372036854775807 a1))) (
                  some (0, false)) (
                  some ((intVal .mul .i64 a0 a1), true)))))) (
              some ((intVal .mul .i64 a0 a1), true))))) (
           iteE (decide (a0 < 0)) (
            chkE (a1 ≠ 0) (
             iteE (decide (a0 < (intVal .quo .i64 (-9223372036854775808) a1))) (
              some (0, false)) (
              some ((intVal .mul .i64 a0 a1), true)))) (
            some ((intVal .mul .i64 a0 a1), true)))))) (
        iteE (decide (a1 < 0)) (
         chkE (a0 ≠ 0) (
          iteE (decide (a1 < (intVal .quo .i64 (-9223372036854775808) a0))) (
           some (0, false)) (
           iteE (decide (a0 < 0)) (
            chkE (a1 ≠ 0) (
             iteE (decide (a0 < (intVal .quo .i64 9223372036854775807 a1))) (
              some (0, false)) (
              some ((intVal .mul .i64 a0 a1), true)))) (
            some ((intVal .mul .i64 a0 a1), true))))) (
         iteE (decide (a0 < 0)) (
          some ((intVal .mul .i64 a0 a1), true)) (
          some ((intVal .mul .i64 a0 a1), true))))) (
       iteE (decide (a0 < 0)) (
        iteE (decide (0 < a1)) (
         chkE (a1 ≠ 0) (
          iteE (decide (a0 < (intVal .quo .i64 (-9223372036854775808) a1))) (
           some (0, false)) (
           iteE (decide (a1 < 0)) (
            chkE (a1 ≠ 0) (
             iteE (decide (a0 < (intVal .quo .i64 9223372036854775807 a1))) (
              some (0, false)) (
              some ((intVal .mul .i64 a0 a1), true)))) (
            some ((intVal .mul .i64 a0 a1), true))))) (
         iteE (decide (a1 < 0)) (
          chkE (a1 ≠ 0) (
           iteE (decide (a0 < (intVal .quo .i64 9223372036854775807 a1))) (
            some (0, false)) (
            some ((intVal .mul .i64 a0 a1), true)))) (
          some ((intVal .mul .i64 a0 a1), true)))) (
        some ((intVal .mul .i64 a0 a1), true)))))))
noncomputable def ref01_Div (a0 : Int) (a1 : Int) : Option (Int × Int × Int) :=
  iteE (decide (a1 = 0)) (
   some (0, 0, 7)) (
   iteE (decide (a1 = (-1))) (
    bndE (ref01_Sub 0 a0) fun r1 =>
    iteE (!r1.2) (
     some (0, 0, 6)) (
     some (r1.1, 0, 0))) (
    chkE (a1 ≠ 0) (
     chkE (a1 ≠ 0) (
      some ((intVal .quo .i64 a0 a1), (intVal .rem .i64 a0 a1), 0)))))
noncomputable def ref03_arith (a0 : Int) (a1 : Int) (a2 : Int) : Option (TValue × Int) :=
  iteE (decide (a0 = 8)) (
   bndE (ref01_Add a1 a2) fun r1 =>
   bndE (ref03_number r1.1 r1.2) fun r2 =>
   some (r2.1, r2.2)) (
   iteE (decide (a0 = 9)) (
    bndE (ref01_Sub a1 a2) fun r3 =>
    bndE (ref03_number r3.1 r3.2) fun r4 =>
    some (r4.1, r4.2)) (
    iteE (decide (a0 = 10)) (
     bndE (ref01_Mul a1 a2) fun r5 =>
     bndE (ref03_number r5.1 r5.2) fun r6 =>
     some (r6.1, r6.2)) (
     bndE (ref01_Div a1 a2) fun r7 =>
     iteE (decide (r7.2.2 = 7)) (
      some (TValue.mk 0 0 ([] : List UInt8) false, 7)) (
      iteE (decide (a0 = 12)) (
       some (TValue.mk 1 r7.2.1 ([] : List UInt8) false, 0)) (
       bndE (ref03_number r7.1 (decide (r7.2.2 = 0))) fun r8 =>
       some (r8.1, r8.2))))))
noncomputable def ref03_Below_l1_s (s0 : List UInt8) (s1 : List UInt8) (s5 : Int) : Option ((Int) ⊕ (Unit ⊕ Bool)) :=
  iteE (decide (s5 < (s0.length : Int))) (
   iteE (decide (s5 < (s1.length : Int))) (
    idxE s0 s5 fun x1 =>
    idxE s1 s5 fun x2 =>
    iteE (!decide ((x1.toNat : Int) = (x2.toNat : Int))) (
     idxE s0 s5 fun x3 =>
     idxE s1 s5 fun x4 =>
     some (.inr (.inr (decide ((x3.toNat : Int) < (x4.toNat : Int)))))) (
     some (.inl (intVal .add .i64 s5 1)))) (
    some (.inr (.inl ())))) (
   some (.inr (.inl ())))
noncomputable def ref03_Below_l1 (s0 : List UInt8) (s1 : List UInt8) (s5 : Int) : Option (Unit ⊕ Bool) := loopE (fun s : Int => ref03_Below_l1_s s0 s1 s) s5
noncomputable def ref03_Below (a0 : List UInt8) (a1 : List UInt8) : Option (Bool) :=
  bndE (ref03_Below_l1 a0 a1 0) fun o5 =>
  sumE o5 (fun o6 =>
   some (decide ((a0.length : Int) < (a1.length : Int)))) (fun o7 =>
   some o7)
noncomputable def ref03_Less (a0 : TValue) (a1 : TValue) : Option (Bool) :=
  iteE (!decide (a0.kind = a1.kind)) (
   some (decide (a0.kind < a1.kind))) (
   iteE (decide (a0.kind = 1)) (
    some (decide (a0.int < a1.int))) (
    iteE (decide (a0.kind = 2)) (
     bndE (ref03_Below a0.str a1.str) fun r1 =>
     some r1) (
     iteE (!a0.bool) (
      some a1.bool) (
      some false))))
noncomputable def ref03_Op (a0 : Int) (a1 : TValue) (a2 : TValue) : Option (TValue × Int) :=
  iteE (decide (a0 < 4)) (
   some (TValue.mk 0 0 ([] : List UInt8) false, 1)) (
   iteE (decide (16 < a0)) (
    some (TValue.mk 0 0 ([] : List UInt8) false, 1)) (
    iteE (decide (a0 = 4)) (
     iteE (!decide (a1.kind = 3)) (
      some (TValue.mk 0 0 ([] : List UInt8) false, 8)) (
      bndE (ref03_truth (!a1.bool)) fun r1 =>
      some (r1.1, r1.2))) (
     iteE (decide (a0 = 5)) (
      iteE (!decide (a1.kind = 1)) (
       some (TValue.mk 0 0 ([] : List UInt8) false, 8)) (
       bndE (ref03_arith 9 0 a1.int) fun r2 =>
       some (r2.1, r2.2))) (
      iteE (!decide (a1.kind = a2.kind)) (
       some (TValue.mk 0 0 ([] : List UInt8) false, 8)) (
       iteE (decide (a0 = 13)) (
        bndE (ref03_truth (TValue.eqb a1 a2)) fun r3 =>
        some (r3.1, r3.2)) (
        iteE (decide (a0 = 14)) (
         bndE (ref03_truth (!(TValue.eqb a1 a2))) fun r4 =>
         some (r4.1, r4.2)) (
         iteE (decide (a1.kind = 3)) (
          iteE (decide (a0 = 6)) (
           iteE (a1.bool) (
            bndE (ref03_truth a2.bool) fun r5 =>
            some (r5.1, r5.2)) (
            bndE (ref03_truth false) fun r6 =>
            some (r6.1, r6.2))) (
           iteE (decide (a0 = 7)) (
            iteE (a1.bool) (
             bndE (ref03_truth true) fun r7 =>
             some (r7.1, r7.2)) (
             bndE (ref03_truth a2.bool) fun r8 =>
             some (r8.1, r8.2))) (
            some (TValue.mk 0 0 ([] : List UInt8) false, 8)))) (
          iteE (decide (a0 = 15)) (
           bndE (ref03_Less a1 a2) fun r9 =>
           bndE (ref03_truth r9) fun r10 =>
           some (r10.1, r10.2)) (
           iteE (decide (a0 = 16)) (
            bndE (ref03_Less a2 a1) fun r11 =>
            bndE (ref03_truth (!r11)) fun r12 =>
            some (r12.1, r12.2)) (
            iteE (decide (a1.kind = 1)) (
             iteE (decide (8 ≤ a0)) (
              iteE (decide (a0 ≤ 12)) (
               bndE (ref03_arith a0 a1.int a2.int) fun r13 =>
               some (r13.1, r13.2)) (
               iteE (decide (a1.kind = 2)) (
                iteE (decide (a0 = 8)) (
                 iteE (decide (4096 < (intVal .add .i64 (a1.str.length : Int) (a2.str.length : Int)))) (
                  some (TValue.mk 0 0 ([] : List UInt8) false, 3)) (
                  chkE (a1.str.length + a2.str.length ≤ 9223372036854775807) (
                   some (TValue.mk 2 0 (a1.str ++ a2.str) false, 0)))) (
                 some (TValue.mk 0 0 ([] : List UInt8) false, 8))) (
                some (TValue.mk 0 0 ([] : List UInt8) false, 8)))) (
              iteE (decide (a1.kind = 2)) (
               iteE (decide (a0 = 8)) (
                iteE (decide (4096 < (intVal .add .i64 (a1.str.length : Int) (a2.str.length : Int)))) (
                 some (TValue.mk 0 0 ([] : List UInt8) false, 3)) (
                 chkE (a1.str.length + a2.str.length ≤ 9223372036854775807) (
                  some (TValue.mk 2 0 (a1.str ++ a2.str) false, 0)))) (
                some (TValue.mk 0 0 ([] : List UInt8) false, 8))) (
               some (TValue.mk 0 0 ([] : List UInt8) false, 8)))) (
             iteE (decide (a1.kind = 2)) (
              iteE (decide (a0 = 8)) (
               iteE (decide (4096 < (intVal .add .i64 (a1.str.length : Int) (a2.str.length : Int)))) (
                some (TValue.mk 0 0 ([] : List UInt8) false, 3)) (
                chkE (a1.str.length + a2.str.length ≤ 9223372036854775807) (
                 some (TValue.mk 2 0 (a1.str ++ a2.str) false, 0)))) (
               some (TValue.mk 0 0 ([] : List UInt8) false, 8))) (
              some (TValue.mk 0 0 ([] : List UInt8) false, 8)))))))))))))
noncomputable def ref13_Type (a0 : Int) (a1 : Int) (a2 : Int) : Option (Int) :=
  iteE (decide (a1 < 1)) (
   some 0) (
   iteE (!decide (a1 = a2)) (
    some 0) (
    bndE (ref03_Op a0 (TValue.mk a1 0 ([] : List UInt8) false) (TValue.mk a2 0 ([] : List UInt8) false)) fun r1 =>
    iteE (decide (r1.2 = 7)) (
     some 1) (
     iteE (!decide (r1.2 = 0)) (
      some 0) (
      some r1.1.kind))))
noncomputable def ref13_below_F (self : TQea → Int → Option (Int × Int × Int)) (a0 : TQea) (a1 : Int) : Option (Int × Int × Int) :=
  iteE (decide (a1 < 0)) (
   some (0, 0, 0)) (
   iteE (decide ((a0.nodes.length : Int) ≤ a1)) (
    some (0, 0, 0)) (
    idxE a0.nodes a1 fun x1 =>
    iteE (decide (x1.op = 1)) (
     iteE (!decide (x1.a = 0)) (
      some (0, 0, 0)) (
      iteE (!decide (x1.b = 0)) (
       some (0, 0, 0)) (
       bndE (ref03_Right x1.value) fun r2 =>
       iteE (!r2) (
        some (0, 0, 0)) (
        some (x1.value.kind, 1, a1))))) (
     iteE (!(TValue.eqb x1.value (TValue.mk 0 0 ([] : List UInt8) false))) (
      some (0, 0, 0)) (
      iteE (decide (x1.op = 2)) (
       iteE (decide (x1.a < 0)) (
        some (0, 0, 0)) (
        iteE (decide ((a0.quants.length : Int) ≤ x1.a)) (
         some (0, 0, 0)) (
         iteE (!decide (x1.b = 0)) (
          some (0, 0, 0)) (
          idxE a0.quants x1.a fun x3 =>
          some (x3.type, 1, a1))))) (
       iteE (decide (x1.op = 3)) (
        iteE (decide (x1.a < 0)) (
         some (0, 0, 0)) (
         iteE (decide ((a0.frees.length : Int) ≤ x1.a)) (
          some (0, 0, 0)) (
          iteE (!decide (x1.b = 0)) (
           some (0, 0, 0)) (
           idxE a0.frees x1.a fun x4 =>
           some (x4.init_.kind, 1, a1))))) (
        iteE (decide (x1.op < 4)) (
         some (0, 0, 0)) (
         iteE (decide (16 < x1.op)) (
          some (0, 0, 0)) (
          bndE (self a0 (intVal .sub .i64 a1 1)) fun r5 =>
          iteE (decide (x1.op ≤ 5)) (
           iteE (decide (r5.1 = 0)) (
            some (0, 0, 0)) (
            iteE (!decide (x1.a = (intVal .sub .i64 a1 1))) (
             some (0, 0, 0)) (
             iteE (!decide (x1.b = 0)) (
              some (0, 0, 0)) (
              bndE (ref13_Type x1.op r5.1 r5.1) fun r6 =>
              some (r6, (intVal .add .i64 r5.2.1 1), r5.2.2))))) (
           iteE (decide (r5.1 = 0)) (
            some (0, 0, 0)) (
            iteE (!decide (x1.b = (intVal .sub .i64 a1 1))) (
             some (0, 0, 0)) (
             iteE (!decide (x1.a = (intVal .sub .i64 r5.2.2 1))) (
              some (0, 0, 0)) (
              bndE (self a0 (intVal .sub .i64 r5.2.2 1)) fun r7 =>
              bndE (ref13_Type x1.op r7.1 r5.1) fun r8 =>
              some (r8, (intVal .add .i64 (maxE r5.2.1 r7.2.1) 1), r7.2.2)))))))))))))
noncomputable def ref13_below_n : Nat → TQea → Int → Option (Int × Int × Int)
  | 0 => fun _ _  => none
  | n + 1 => fun a0 a1 => ref13_below_F (ref13_below_n n) a0 a1
noncomputable def ref13_below (a0 : TQea) (a1 : Int) : Option (Int × Int × Int) := ref13_below_n 100000 a0 a1
noncomputable def ref13_Kind (a0 : TQea) (a1 : Int) (a2 : Int) : Option (Int × Int) :=
  bndE (ref13_below a0 a2) fun r1 =>
  iteE (decide (r1.1 = 0)) (
   some (0, 0)) (
   iteE (!decide (r1.2.2 = a1)) (
    some (0, 0)) (
    some (r1.1, r1.2.1)))
noncomputable def ref13_Names_l1_s (s1 : Int) (w2 : TSymbol) (s5 : Int) : Option ((Int) ⊕ (Unit ⊕ Unit)) :=
  iteE (decide (s5 < (w2.args.length : Int))) (
   idxE w2.args s5 fun x1 =>
   iteE (decide (x1.kind = 2)) (
    idxE w2.args s5 fun x2 =>
    iteE (decide (x2.n = s1)) (
     some (.inr (.inr ()))) (
     some (.inl (intVal .add .i64 s5 1)))) (
    some (.inl (intVal .add .i64 s5 1)))) (
   some (.inr (.inl ())))
noncomputable def ref13_Names_l1 (s1 : Int) (w2 : TSymbol) (s5 : Int) : Option (Unit ⊕ Unit) := loopE (fun s : Int => ref13_Names_l1_s s1 w2 s) s5
noncomputable def ref13_Names (a0 : TSymbol) (a1 : Int) : Option (Bool) :=
  bndE (ref13_Names_l1 a1 a0 0) fun o3 =>
  sumE o3 (fun o4 =>
   some false) (fun o5 =>
   some true)
noncomputable def ref13_bound_l1_s (s3 : Int) (w4 : TQea) (w5 : TSymbol) (s9 : Int) : Option ((Int) ⊕ (Unit ⊕ Unit)) :=
  iteE (decide (s9 < s3)) (
   idxE w4.nodes s9 fun x1 =>
   iteE (decide (x1.op = 2)) (
    idxE w4.nodes s9 fun x2 =>
    bndE (ref13_Names w5 x2.a) fun r3 =>
    iteE (!r3) (
     some (.inr (.inr ()))) (
     some (.inl (intVal .add .i64 s9 1)))) (
    some (.inl (intVal .add .i64 s9 1)))) (
   some (.inr (.inl ())))
noncomputable def ref13_bound_l1 (s3 : Int) (w4 : TQea) (w5 : TSymbol) (s9 : Int) : Option (Unit ⊕ Unit) := loopE (fun s : Int => ref13_bound_l1_s s3 w4 w5 s) s9
noncomputable def ref13_bound (a0 : TQea) (a1 : TSymbol) (a2 : Int) (a3 : Int) : Option (Bool) :=
  bndE (ref13_bound_l1 a3 a0 a1 a2) fun o4 =>
  sumE o4 (fun o5 =>
   some true) (fun o6 =>
   some false)
noncomputable def ref13_trans_b1 (s2 : Int) (s8 : Int) (s56 : Bool) (w3 : TQea) (w4 : TTrans) : Option (Int ⊕ Unit) :=
  iteE (s56) (
   bndE (ref13_Kind w3 s8 w4.guard) fun r1 =>
   iteE (!decide (r1.1 = 3)) (
    some (.inr ())) (
    iteE (decide (64 < r1.2)) (
     some (.inr ())) (
     some (.inl (intVal .add .i64 w4.guard 1))))) (
   some (.inl s8))
noncomputable def ref13_trans_l3_s (s2 : Int) (s11 : Int) (w3 : TQea) (w4 : TTrans) (w12 : TSet) (s15 : Int) : Option ((Int) ⊕ (Unit ⊕ Unit)) :=
  iteE (decide (s15 < s11)) (
   idxE w4.sets s15 fun x8 =>
   iteE (decide (x8.free = w12.free)) (
    some (.inr (.inr ()))) (
    some (.inl (intVal .add .i64 s15 1)))) (
   some (.inr (.inl ())))
noncomputable def ref13_trans_l3 (s2 : Int) (s11 : Int) (w3 : TQea) (w4 : TTrans) (w12 : TSet) (s15 : Int) : Option (Unit ⊕ Unit) := loopE (fun s : Int => ref13_trans_l3_s s2 s11 w3 w4 w12 s) s15
noncomputable def ref13_trans_l2_s (s2 : Int) (w3 : TQea) (w4 : TTrans) (s8 : Int) (s11 : Int) : Option ((Int × Int) ⊕ (Int ⊕ Unit)) :=
  iteE (decide (s11 < (w4.sets.length : Int))) (
   idxE w4.sets s11 fun x5 =>
   bndE (ref13_Kind w3 s8 x5.expr) fun r6 =>
   iteE (decide (x5.free < 0)) (
    some (.inr (.inr ()))) (
    iteE (decide ((w3.frees.length : Int) ≤ x5.free)) (
     some (.inr (.inr ()))) (
     iteE (decide (r6.1 = 0)) (
      some (.inr (.inr ()))) (
      iteE (decide (64 < r6.2)) (
       some (.inr (.inr ()))) (
       idxE w3.frees x5.free fun x7 =>
       iteE (!decide (r6.1 = x7.init_.kind)) (
        some (.inr (.inr ()))) (
        bndE (ref13_trans_l3 s2 s11 w3 w4 x5 0) fun o9 =>
        sumE o9 (fun o10 =>
         some (.inl ((intVal .add .i64 x5.expr 1), (intVal .add .i64 s11 1)))) (fun o11 =>
         some (.inr (.inr ()))))))))) (
   some (.inr (.inl s8)))
noncomputable def ref13_trans_l2 (s2 : Int) (w3 : TQea) (w4 : TTrans) (s8 : Int) (s11 : Int) : Option (Int ⊕ Unit) := loopE (fun s : Int × Int => ref13_trans_l2_s s2 w3 w4 s.1 s.2) (s8, s11)
noncomputable def ref13_trans (a0 : TQea) (a1 : TTrans) (a2 : Int) : Option (Int × Bool) :=
  iteE (decide (a1.from_ < 0)) (
   some (0, false)) (
   iteE (decide ((a0.states.length : Int) ≤ a1.from_)) (
    some (0, false)) (
    iteE (decide (a1.to < 0)) (
     some (0, false)) (
     iteE (decide ((a0.states.length : Int) ≤ a1.to)) (
      some (0, false)) (
      iteE (decide (a1.symbol < 0)) (
       some (0, false)) (
       iteE (decide ((a0.symbols.length : Int) ≤ a1.symbol)) (
        some (0, false)) (
        bndE (ref13_trans_b1 a2 a2 (!decide (a1.guard = (-1))) a0 a1) fun o2 =>
        sumE o2 (fun o3 =>
         bndE (ref13_trans_l2 a2 a0 a1 o3 0) fun o12 =>
         sumE o12 (fun o13 =>
          idxE a0.symbols a1.symbol fun x15 =>
          bndE (ref13_bound a0 x15 a2 o13) fun r16 =>
          some (o13, r16)) (fun o14 =>
          some (0, false))) (fun o4 =>
         some (0, false))))))))
noncomputable def ref13_arg (a0 : TQea) (a1 : TArg) (a2 : Int) : Option (Bool) :=
  iteE (decide (a1.kind = 1)) (
   iteE (decide (a1.n = 0)) (
    bndE (ref03_Right a1.value) fun r1 =>
    iteE (r1) (
     some (decide (a1.value.kind = a2))) (
     some false)) (
    some false)) (
   iteE (!(TValue.eqb a1.value (TValue.mk 0 0 ([] : List UInt8) false))) (
    some false) (
    iteE (decide (a1.kind = 2)) (
     iteE (decide (0 ≤ a1.n)) (
      iteE (decide (a1.n < (a0.quants.length : Int))) (
       idxE a0.quants a1.n fun x2 =>
       some (decide (x2.type = a2))) (
       some false)) (
      some false)) (
     iteE (decide (a1.kind = 3)) (
      iteE (decide (0 ≤ a1.n)) (
       iteE (decide (a1.n < (a0.frees.length : Int))) (
        idxE a0.frees a1.n fun x3 =>
        some (decide (x3.init_.kind = a2))) (
        some false)) (
       some false)) (
      iteE (decide (a1.kind = 4)) (
       some (decide (a1.n = 0))) (
       some false)))))
noncomputable def ref13_symbol_l1_s (w2 : TQea) (w3 : TSymbol) (s5 : Int) : Option ((Int) ⊕ (Unit ⊕ Unit)) :=
  iteE (decide (s5 < (w3.args.length : Int))) (
   idxE w3.args s5 fun x2 =>
   idxE w2.decls w3.event fun x3 =>
   idxE x3.types s5 fun x4 =>
   bndE (ref13_arg w2 x2 x4) fun r5 =>
   iteE (!r5) (
    some (.inr (.inr ()))) (
    some (.inl (intVal .add .i64 s5 1)))) (
   some (.inr (.inl ())))
noncomputable def ref13_symbol_l1 (w2 : TQea) (w3 : TSymbol) (s5 : Int) : Option (Unit ⊕ Unit) := loopE (fun s : Int => ref13_symbol_l1_s w2 w3 s) s5
noncomputable def ref13_symbol (a0 : TQea) (a1 : TSymbol) : Option (Bool) :=
  iteE (decide (a1.event < 0)) (
   some false) (
   iteE (decide ((a0.decls.length : Int) ≤ a1.event)) (
    some false) (
    idxE a0.decls a1.event fun x1 =>
    iteE (!decide ((a1.args.length : Int) = (x1.types.length : Int))) (
     some false) (
     bndE (ref13_symbol_l1 a0 a1 0) fun o6 =>
     sumE o6 (fun o7 =>
      some true) (fun o8 =>
      some false))))
noncomputable def ref13_SameSymbol_l1_s (w2 : TSymbol) (w3 : TSymbol) (s5 : Int) : Option ((Int) ⊕ (Unit ⊕ Unit)) :=
  iteE (decide (s5 < (w2.args.length : Int))) (
   idxE w2.args s5 fun x1 =>
   idxE w3.args s5 fun x2 =>
   iteE (!(TArg.eqb x1 x2)) (
    some (.inr (.inr ()))) (
    some (.inl (intVal .add .i64 s5 1)))) (
   some (.inr (.inl ())))
noncomputable def ref13_SameSymbol_l1 (w2 : TSymbol) (w3 : TSymbol) (s5 : Int) : Option (Unit ⊕ Unit) := loopE (fun s : Int => ref13_SameSymbol_l1_s w2 w3 s) s5
noncomputable def ref13_SameSymbol (a0 : TSymbol) (a1 : TSymbol) : Option (Bool) :=
  iteE (!decide (a0.event = a1.event)) (
   some false) (
   iteE (!decide ((a0.args.length : Int) = (a1.args.length : Int))) (
    some false) (
    bndE (ref13_SameSymbol_l1 a0 a1 0) fun o3 =>
    sumE o3 (fun o4 =>
     some true) (fun o5 =>
     some false)))
noncomputable def ref13_symbols_b5 (s5 : Int) (s6 : Int) (s34 : Bool) (w1 : TQea) (w3 : List Bool) (w4 : List Int) : Option ((List Int)) :=
  iteE (s34) (
   chkE (fit w4.length [s6].length 8) (
    some (w4 ++ [s6]))) (
   some w4)
noncomputable def ref13_symbols_b4 (s5 : Int) (w1 : TQea) (w3 : List Bool) (w4 : List Int) : Option ((List Bool × List Int)) :=
  idxE w1.trans s5 fun x5 =>
  chkE (0 ≤ x5.symbol ∧ x5.symbol + 1 ≤ (w3.length : Int)) (
   idxE w3 x5.symbol fun x6 =>
   bndE (ref13_symbols_b5 s5 x5.symbol (!x6) w1 w3 w4) fun o7 =>
   chkE (0 ≤ x5.symbol ∧ x5.symbol + 1 ≤ (w3.length : Int)) (
    chkE (0 ≤ x5.symbol ∧ x5.symbol + 1 ≤ (w3.length : Int)) (
     some (w3.set x5.symbol.toNat true, o7))))
noncomputable def ref13_symbols_l1_s (w1 : TQea) (s5 : Int) (w3 : List Bool) (w4 : List Int) : Option ((Int × List Bool × List Int) ⊕ ((List Int))) :=
  iteE (decide (s5 < (w1.trans.length : Int))) (
   bndE (ref13_symbols_b4 s5 w1 w3 w4) fun o8 =>
   some (.inl ((intVal .add .i64 s5 1), o8.1, o8.2))) (
   some (.inr w4))
noncomputable def ref13_symbols_l1 (w1 : TQea) (s5 : Int) (w3 : List Bool) (w4 : List Int) : Option ((List Int)) := loopE (fun s : Int × List Bool × List Int => ref13_symbols_l1_s w1 s.1 s.2.1 s.2.2) (s5, w3, w4)
noncomputable def ref13_symbols_l6_s (w1 : TQea) (w4 : List Int) (s7 : Int) : Option ((Int) ⊕ (Unit ⊕ Unit)) :=
  iteE (decide (s7 < (w4.length : Int))) (
   idxE w4 s7 fun x10 =>
   iteE (!decide (x10 = (intVal .add .i64 (intVal .sub .i64 (w1.symbols.length : Int) (w4.length : Int)) s7))) (
    some (.inr (.inr ()))) (
    some (.inl (intVal .add .i64 s7 1)))) (
   some (.inr (.inl ())))
noncomputable def ref13_symbols_l6 (w1 : TQea) (w4 : List Int) (s7 : Int) : Option (Unit ⊕ Unit) := loopE (fun s : Int => ref13_symbols_l6_s w1 w4 s) s7
noncomputable def ref13_symbols_l8_s (s8 : Int) (w1 : TQea) (s9 : Int) : Option ((Int) ⊕ (Unit ⊕ Unit)) :=
  iteE (decide (s9 < s8)) (
   idxE w1.symbols s8 fun x16 =>
   idxE w1.symbols s9 fun x17 =>
   bndE (ref13_SameSymbol x16 x17) fun r18 =>
   iteE (r18) (
    some (.inr (.inr ()))) (
    some (.inl (intVal .add .i64 s9 1)))) (
   some (.inr (.inl ())))
noncomputable def ref13_symbols_l8 (s8 : Int) (w1 : TQea) (s9 : Int) : Option (Unit ⊕ Unit) := loopE (fun s : Int => ref13_symbols_l8_s s8 w1 s) s9
noncomputable def ref13_symbols_l7_s (w1 : TQea) (s8 : Int) : Option ((Int) ⊕ (Unit ⊕ Unit)) :=
  iteE (decide (s8 < (w1.symbols.length : Int))) (
   idxE w1.symbols s8 fun x14 =>
   bndE (ref13_symbol w1 x14) fun r15 =>
   iteE (!r15) (
    some (.inr (.inr ()))) (
    bndE (ref13_symbols_l8 s8 w1 0) fun o19 =>
    sumE o19 (fun o20 =>
     some (.inl (intVal .add .i64 s8 1))) (fun o21 =>
     some (.inr (.inr ()))))) (
   some (.inr (.inl ())))
noncomputable def ref13_symbols_l7 (w1 : TQea) (s8 : Int) : Option (Unit ⊕ Unit) := loopE (fun s : Int => ref13_symbols_l7_s w1 s) s8
noncomputable def ref13_symbols_l10_s (s10 : Int) (w1 : TQea) (s11 : Bool) (s12 : Int) : Option ((Bool × Int) ⊕ (Bool)) :=
  iteE (decide (s12 < (w1.symbols.length : Int))) (
   iteE (s11) (
    some (.inl (true, (intVal .add .i64 s12 1)))) (
    idxE w1.symbols s12 fun x25 =>
    bndE (ref13_Names x25 s10) fun r26 =>
    some (.inl (r26, (intVal .add .i64 s12 1))))) (
   some (.inr s11))
noncomputable def ref13_symbols_l10 (s10 : Int) (w1 : TQea) (s11 : Bool) (s12 : Int) : Option (Bool) := loopE (fun s : Bool × Int => ref13_symbols_l10_s s10 w1 s.1 s.2) (s11, s12)
noncomputable def ref13_symbols_l9_s (w1 : TQea) (s10 : Int) : Option ((Int) ⊕ (Unit ⊕ Unit)) :=
  iteE (decide (s10 < (w1.quants.length : Int))) (
   bndE (ref13_symbols_l10 s10 w1 false 0) fun o27 =>
   iteE (!o27) (
    some (.inr (.inr ()))) (
    some (.inl (intVal .add .i64 s10 1)))) (
   some (.inr (.inl ())))
noncomputable def ref13_symbols_l9 (w1 : TQea) (s10 : Int) : Option (Unit ⊕ Unit) := loopE (fun s : Int => ref13_symbols_l9_s w1 s) s10
noncomputable def ref13_symbols (a0 : TQea) : Option (Bool) :=
  chkE (0 ≤ (a0.symbols.length : Int) ∧ fit 0 (a0.symbols.length : Int).toNat 1) (
   bndE (ref13_symbols_l1 a0 0 (List.replicate (a0.symbols.length : Int).toNat false) ([] : List Int)) fun o9 =>
   bndE (ref13_symbols_l6 a0 o9 0) fun o11 =>
   sumE o11 (fun o12 =>
    bndE (ref13_symbols_l7 a0 0) fun o22 =>
    sumE o22 (fun o23 =>
     bndE (ref13_symbols_l9 a0 0) fun o28 =>
     sumE o28 (fun o29 =>
      some true) (fun o30 =>
      some false)) (fun o24 =>
     some false)) (fun o13 =>
    some false))
noncomputable def ref13_Right_l1_s (w1 : TQea) (s5 : Int) (s6 : Int) : Option ((Int × Int) ⊕ (Int ⊕ Unit)) :=
  iteE (decide (s6 < (w1.trans.length : Int))) (
   idxE w1.trans s6 fun x3 =>
   bndE (ref13_trans w1 x3 s5) fun r4 =>
   iteE (!r4.2) (
    some (.inr (.inr ()))) (
    some (.inl (r4.1, (intVal .add .i64 s6 1))))) (
   some (.inr (.inl s5)))
noncomputable def ref13_Right_l1 (w1 : TQea) (s5 : Int) (s6 : Int) : Option (Int ⊕ Unit) := loopE (fun s : Int × Int => ref13_Right_l1_s w1 s.1 s.2) (s5, s6)
noncomputable def ref13_Right (a0 : TQea) : Option (Bool) :=
  bndE (ref07_Check a0.decls) fun r1 =>
  iteE (!decide (r1.1 = 0)) (
   some false) (
   iteE (decide (8 < (a0.quants.length : Int))) (
    some false) (
    iteE (decide (16 < (a0.frees.length : Int))) (
     some false) (
     iteE (decide (32 < (a0.states.length : Int))) (
      some false) (
      iteE (decide (64 < (a0.symbols.length : Int))) (
       some false) (
       iteE (decide (2048 < (a0.nodes.length : Int))) (
        some false) (
        iteE (decide (256 < (a0.trans.length : Int))) (
         some false) (
         iteE (decide (a0.start < 0)) (
          some false) (
          iteE (decide ((a0.states.length : Int) ≤ a0.start)) (
           some false) (
           bndE (ref13_names a0) fun r2 =>
           iteE (!r2) (
            some false) (
            bndE (ref13_Right_l1 a0 0 0) fun o5 =>
            sumE o5 (fun o6 =>
             iteE (decide (o6 = (a0.nodes.length : Int))) (
              bndE (ref13_symbols a0) fun r8 =>
              some r8) (
              some false)) (fun o7 =>
             some false)))))))))))
noncomputable def ref20_Put_l1_s (s0 : List TValue) (w3 : TValue) (s5 : Int) : Option ((Int) ⊕ (Int)) :=
  iteE (decide (0 < s5)) (
   idxE s0 (intVal .sub .i64 s5 1) fun x1 =>
   bndE (ref03_Less w3 x1) fun r2 =>
   iteE (r2) (
    some (.inl (intVal .sub .i64 s5 1))) (
    some (.inr s5))) (
   some (.inr s5))
noncomputable def ref20_Put_l1 (s0 : List TValue) (w3 : TValue) (s5 : Int) : Option (Int) := loopE (fun s : Int => ref20_Put_l1_s s0 w3 s) s5
noncomputable def ref20_Put (a0 : List TValue) (a1 : TValue) : Option (List TValue) :=
  bndE (ref20_Put_l1 a0 a1 (a0.length : Int)) fun o3 =>
  iteE (decide (0 < o3)) (
   idxE a0 (intVal .sub .i64 o3 1) fun x4 =>
   iteE ((TValue.eqb x4 a1)) (
    some a0) (
    chkE ((0 : Int) ≤ 0 ∧ (0 : Int) ≤ o3 ∧ o3 ≤ (a0.length : Int)) (
     chkE (fit ([] : List TValue).length (sub a0 0 o3).length 40) (
      chkE (fit (([] : List TValue) ++ (sub a0 0 o3)).length [a1].length 40) (
       chkE ((0 : Int) ≤ o3 ∧ (o3 : Int) ≤ (a0.length : Int) ∧ (a0.length : Int) ≤ (a0.length : Int)) (
        chkE (fit ((([] : List TValue) ++ (sub a0 0 o3)) ++ [a1]).length (sub a0 o3 (a0.length : Int)).length 40) (
         some (((([] : List TValue) ++ (sub a0 0 o3)) ++ [a1]) ++ (sub a0 o3 (a0.length : Int)))))))))) (
   chkE ((0 : Int) ≤ 0 ∧ (0 : Int) ≤ o3 ∧ o3 ≤ (a0.length : Int)) (
    chkE (fit ([] : List TValue).length (sub a0 0 o3).length 40) (
     chkE (fit (([] : List TValue) ++ (sub a0 0 o3)).length [a1].length 40) (
      chkE ((0 : Int) ≤ o3 ∧ (o3 : Int) ≤ (a0.length : Int) ∧ (a0.length : Int) ≤ (a0.length : Int)) (
       chkE (fit ((([] : List TValue) ++ (sub a0 0 o3)) ++ [a1]).length (sub a0 o3 (a0.length : Int)).length 40) (
        some (((([] : List TValue) ++ (sub a0 0 o3)) ++ [a1]) ++ (sub a0 o3 (a0.length : Int)))))))))
noncomputable def ref22_Small_l1_s (w1 : TQea) (s3 : Int) : Option ((Int) ⊕ (Unit ⊕ Unit)) :=
  iteE (decide (s3 < (w1.trans.length : Int))) (
   idxE w1.trans s3 fun x1 =>
   iteE (!decide (x1.guard = (-1))) (
    some (.inr (.inr ()))) (
    some (.inl (intVal .add .i64 s3 1)))) (
   some (.inr (.inl ())))
noncomputable def ref22_Small_l1 (w1 : TQea) (s3 : Int) : Option (Unit ⊕ Unit) := loopE (fun s : Int => ref22_Small_l1_s w1 s) s3
noncomputable def ref22_Small (a0 : TQea) : Option (Bool) :=
  iteE (decide (0 < (a0.frees.length : Int))) (
   some false) (
   iteE (decide (1 < (a0.quants.length : Int))) (
    some false) (
    iteE (decide (8 < (a0.states.length : Int))) (
     some false) (
     iteE (decide (8 < (a0.symbols.length : Int))) (
      some false) (
      bndE (ref22_Small_l1 a0 0) fun o2 =>
      sumE o2 (fun o3 =>
       some true) (fun o4 =>
       some false)))))
noncomputable def joint_Consts_v2_b1 (s1 : Int) (s12 : Bool) (w2 : TQea) : Option ((List TValue)) :=
  iteE (s12) (
   bndE (value_Bool false) fun r2 =>
   bndE (domain_Set_Value_Put_v2 r2) fun r3 =>
   bndE (value_Bool true) fun r4 =>
   bndE (domain_Set_Value_Put_v3 r4 r3.2) fun r5 =>
   some r5.2) (
   some ([] : List TValue))
noncomputable def joint_Consts_v2_b5 (s1 : Int) (s20 : List TSymbol) (s21 : Int) (s22 : Int) (s27 : List TArg) (s28 : Int) (s29 : Int) (s42 : Bool) (w9 : TArg) (w518 : List TValue) : Option ((List TValue)) :=
  iteE (s42) (
   bndE (domain_Set_Value_Put_v3 w9.value w518) fun r9 =>
   some r9.2) (
   some w518)
noncomputable def joint_Consts_v2_b4 (s1 : Int) (s20 : List TSymbol) (s21 : Int) (s22 : Int) (s27 : List TArg) (s28 : Int) (s29 : Int) (w518 : List TValue) : Option ((List TValue)) :=
  idxE s27 s29 fun x8 =>
  iteE (decide (x8.kind = 1)) (
   bndE (joint_Consts_v2_b5 s1 s20 s21 s22 s27 s28 s29 (decide (x8.value.kind = s1)) x8 w518) fun o10 =>
   some o10) (
   bndE (joint_Consts_v2_b5 s1 s20 s21 s22 s27 s28 s29 false x8 w518) fun o11 =>
   some o11)
noncomputable def joint_Consts_v2_l3_s (s1 : Int) (s20 : List TSymbol) (s21 : Int) (s22 : Int) (s27 : List TArg) (s28 : Int) (s29 : Int) (w518 : List TValue) : Option ((Int × List TValue) ⊕ ((List TValue))) :=
  iteE (decide (s29 < s28)) (
   bndE (joint_Consts_v2_b4 s1 s20 s21 s22 s27 s28 s29 w518) fun o12 =>
   some (.inl ((intVal .add .i64 s29 1), o12))) (
   some (.inr w518))
noncomputable def joint_Consts_v2_l3 (s1 : Int) (s20 : List TSymbol) (s21 : Int) (s22 : Int) (s27 : List TArg) (s28 : Int) (s29 : Int) (w518 : List TValue) : Option ((List TValue)) := loopE (fun s : Int × List TValue => joint_Consts_v2_l3_s s1 s20 s21 s22 s27 s28 s.1 s.2) (s29, w518)
noncomputable def joint_Consts_v2_l2_s (s1 : Int) (s20 : List TSymbol) (s21 : Int) (s22 : Int) (w518 : List TValue) : Option ((Int × List TValue) ⊕ ((List TValue))) :=
  iteE (decide (s22 < s21)) (
   idxE s20 s22 fun x7 =>
   bndE (joint_Consts_v2_l3 s1 s20 s21 s22 x7.args (x7.args.length : Int) 0 w518) fun o13 =>
   some (.inl ((intVal .add .i64 s22 1), o13))) (
   some (.inr w518))
noncomputable def joint_Consts_v2_l2 (s1 : Int) (s20 : List TSymbol) (s21 : Int) (s22 : Int) (w518 : List TValue) : Option ((List TValue)) := loopE (fun s : Int × List TValue => joint_Consts_v2_l2_s s1 s20 s21 s.1 s.2) (s22, w518)
noncomputable def joint_Consts_v2 (a0 : TQea) (a1 : Int) : Option (List TValue) :=
  bndE (domain_NewSet_Value_v2) fun r1 =>
  bndE (joint_Consts_v2_b1 a1 (decide (a1 = 3)) a0) fun o6 =>
  bndE (joint_Consts_v2_l2 a1 a0.symbols (a0.symbols.length : Int) 0 o6) fun o14 =>
  bndE (domain_Set_Value_All o14) fun r15 =>
  some r15.1
noncomputable def ref22_Consts_b1 (s1 : Int) (s10 : Bool) (w2 : TQea) : Option ((List TValue)) :=
  iteE (s10) (
   some ([TValue.mk 3 0 ([] : List UInt8) false, TValue.mk 3 0 ([] : List UInt8) true])) (
   some ([] : List TValue))
noncomputable def ref22_Consts_b7 (s1 : Int) (s5 : List TValue) (s6 : Int) (s7 : Int) (s50 : Bool) (w2 : TQea) (w8 : TArg) : Option ((List TValue)) :=
  iteE (s50) (
   bndE (ref20_Put s5 w8.value) fun r12 =>
   some r12) (
   some s5)
noncomputable def ref22_Consts_b6 (s1 : Int) (s5 : List TValue) (s6 : Int) (s7 : Int) (w2 : TQea) : Option ((List TValue)) :=
  idxE w2.symbols s6 fun x10 =>
  idxE x10.args s7 fun x11 =>
  iteE (decide (x11.kind = 1)) (
   bndE (ref22_Consts_b7 s1 s5 s6 s7 (decide (x11.value.kind = s1)) w2 x11) fun o13 =>
   some o13) (
   bndE (ref22_Consts_b7 s1 s5 s6 s7 false w2 x11) fun o14 =>
   some o14)
noncomputable def ref22_Consts_l8_s (s1 : Int) (s6 : Int) (w2 : TQea) (s5 : List TValue) (s7 : Int) : Option ((List TValue × Int) ⊕ ((List TValue))) :=
  idxE w2.symbols s6 fun x17 =>
  iteE (decide (s7 < (x17.args.length : Int))) (
   bndE (ref22_Consts_b6 s1 s5 s6 s7 w2) fun o18 =>
   some (.inl (o18, (intVal .add .i64 s7 1)))) (
   some (.inr s5))
noncomputable def ref22_Consts_l8 (s1 : Int) (s6 : Int) (w2 : TQea) (s5 : List TValue) (s7 : Int) : Option ((List TValue)) := loopE (fun s : List TValue × Int => ref22_Consts_l8_s s1 s6 w2 s.1 s.2) (s5, s7)
noncomputable def ref22_Consts_l2_s (s1 : Int) (w2 : TQea) (s5 : List TValue) (s6 : Int) : Option ((List TValue × Int) ⊕ ((List TValue))) :=
  iteE (decide (s6 < (w2.symbols.length : Int))) (
   bndE (ref22_Consts_l8 s1 s6 w2 s5 0) fun o19 =>
   some (.inl (o19, (intVal .add .i64 s6 1)))) (
   some (.inr s5))
noncomputable def ref22_Consts_l2 (s1 : Int) (w2 : TQea) (s5 : List TValue) (s6 : Int) : Option ((List TValue)) := loopE (fun s : List TValue × Int => ref22_Consts_l2_s s1 w2 s.1 s.2) (s5, s6)
noncomputable def ref22_Consts (a0 : TQea) (a1 : Int) : Option (List TValue) :=
  bndE (ref22_Consts_b1 a1 (decide (a1 = 3)) a0) fun o1 =>
  bndE (ref22_Consts_l2 a1 a0 o1 0) fun o20 =>
  some o20
noncomputable def ref20_Same_l2_s (s0 : List (List TValue)) (s1 : List (List TValue)) (s5 : Int) (s6 : Int) : Option ((Int) ⊕ (Unit ⊕ Unit)) :=
  idxE s0 s5 fun x3 =>
  iteE (decide (s6 < (x3.length : Int))) (
   idxE s0 s5 fun x4 =>
   idxE x4 s6 fun x5 =>
   idxE s1 s5 fun x6 =>
   idxE x6 s6 fun x7 =>
   iteE (!(TValue.eqb x5 x7)) (
    some (.inr (.inr ()))) (
    some (.inl (intVal .add .i64 s6 1)))) (
   some (.inr (.inl ())))
noncomputable def ref20_Same_l2 (s0 : List (List TValue)) (s1 : List (List TValue)) (s5 : Int) (s6 : Int) : Option (Unit ⊕ Unit) := loopE (fun s : Int => ref20_Same_l2_s s0 s1 s5 s) s6
noncomputable def ref20_Same_l1_s (s0 : List (List TValue)) (s1 : List (List TValue)) (s5 : Int) : Option ((Int) ⊕ (Unit ⊕ Unit)) :=
  iteE (decide (s5 < (s0.length : Int))) (
   idxE s0 s5 fun x1 =>
   idxE s1 s5 fun x2 =>
   iteE (!decide ((x1.length : Int) = (x2.length : Int))) (
    some (.inr (.inr ()))) (
    bndE (ref20_Same_l2 s0 s1 s5 0) fun o8 =>
    sumE o8 (fun o9 =>
     some (.inl (intVal .add .i64 s5 1))) (fun o10 =>
     some (.inr (.inr ()))))) (
   some (.inr (.inl ())))
noncomputable def ref20_Same_l1 (s0 : List (List TValue)) (s1 : List (List TValue)) (s5 : Int) : Option (Unit ⊕ Unit) := loopE (fun s : Int => ref20_Same_l1_s s0 s1 s) s5
noncomputable def ref20_Same (a0 : List (List TValue)) (a1 : List (List TValue)) : Option (Bool) :=
  iteE (!decide ((a0.length : Int) = (a1.length : Int))) (
   some false) (
   bndE (ref20_Same_l1 a0 a1 0) fun o11 =>
   sumE o11 (fun o12 =>
    some true) (fun o13 =>
    some false))
noncomputable def ref22_Has (a0 : List TValue) (a1 : TValue) : Option (Bool) :=
  bndE (ref20_Put a0 a1) fun r1 =>
  some (decide ((r1.length : Int) = (a0.length : Int)))
noncomputable def ref22_New_b3 (s0 : Int) (s1 : List TValue) (s12 : Bool) (w4 : TValue) (w5 : TValue) : Option (TValue) :=
  iteE (s12) (
   some (TValue.mk w5.kind (intVal .add .i64 w5.int 1) w5.str w5.bool)) (
   chkE (w5.str.length + ([97] : List UInt8).length ≤ 9223372036854775807) (
    some (TValue.mk w5.kind w5.int (w5.str ++ ([97] : List UInt8)) w5.bool)))
noncomputable def ref22_New_b2 (s0 : Int) (s1 : List TValue) (w4 : TValue) (w5 : TValue) : Option (TValue) :=
  bndE (ref22_New_b3 s0 s1 (decide (s0 = 1)) w4 w5) fun o2 =>
  some o2
noncomputable def ref22_New_l1_s (s0 : Int) (s1 : List TValue) (w4 : TValue) (w5 : TValue) : Option ((TValue) ⊕ (TValue)) :=
  bndE (ref22_Has s1 w5) fun r1 =>
  iteE (r1) (
   bndE (ref22_New_b2 s0 s1 w4 w5) fun o3 =>
   some (.inl o3)) (
   some (.inr w5))
noncomputable def ref22_New_l1 (s0 : Int) (s1 : List TValue) (w4 : TValue) (w5 : TValue) : Option (TValue) := loopE (fun s : TValue => ref22_New_l1_s s0 s1 w4 s) w5
theorem ref22_New_l1_eq (s0 : Int) (s1 : List TValue) (w4 : TValue) (w5 : TValue) : ref22_New_l1 s0 s1 w4 w5 = nextE (ref22_New_l1_s s0 s1 w4 w5) (fun s : TValue => ref22_New_l1 s0 s1 w4 s) := loopE_eq _ _
noncomputable def ref22_New (a0 : Int) (a1 : List TValue) : Option (TValue) :=
  bndE (ref22_New_l1 a0 a1 (TValue.mk 0 0 ([] : List UInt8) false) (TValue.mk a0 0 ([] : List UInt8) false)) fun o4 =>
  some o4
noncomputable def law22_JointSmall_b5 (s1 : Int) (s2 : List TValue) (s7 : List TValue) (s8 : Int) (s53 : Bool) (w3 : TQea) : Option ((List TValue)) :=
  iteE (s53) (
   idxE s2 s8 fun x24 =>
   bndE (ref20_Put s7 x24) fun r25 =>
   some r25) (
   some s7)
noncomputable def law22_JointSmall_b4 (s1 : Int) (s2 : List TValue) (s7 : List TValue) (s8 : Int) (w3 : TQea) : Option ((List TValue) ⊕ Bool) :=
  idxE s2 s8 fun x18 =>
  iteE (decide (100 < (x18.str.length : Int))) (
   bndE (law22_awake) fun r19 =>
   some (.inr r19)) (
   idxE s2 s8 fun x20 =>
   bndE (ref03_Right x20) fun r21 =>
   iteE (!r21) (
    bndE (law22_awake) fun r22 =>
    some (.inr r22)) (
    idxE s2 s8 fun x23 =>
    bndE (law22_JointSmall_b5 s1 s2 s7 s8 (decide (x23.kind = s1)) w3) fun o26 =>
    some (.inl o26)))
noncomputable def law22_JointSmall_l1_s (s1 : Int) (s2 : List TValue) (w3 : TQea) (s7 : List TValue) (s8 : Int) : Option ((List TValue × Int) ⊕ ((List TValue) ⊕ Bool)) :=
  iteE (decide (s8 < (s2.length : Int))) (
   bndE (law22_JointSmall_b4 s1 s2 s7 s8 w3) fun o27 =>
   sumE o27 (fun o28 =>
    some (.inl (o28, (intVal .add .i64 s8 1)))) (fun o29 =>
    some (.inr (.inr o29)))) (
   some (.inr (.inl s7)))
noncomputable def law22_JointSmall_l1 (s1 : Int) (s2 : List TValue) (w3 : TQea) (s7 : List TValue) (s8 : Int) : Option ((List TValue) ⊕ Bool) := loopE (fun s : List TValue × Int => law22_JointSmall_l1_s s1 s2 w3 s.1 s.2) (s7, s8)
noncomputable def law22_JointSmall (a0 : TQea) (a1 : Int) (a2 : List TValue) : Option (Bool) :=
  bndE (ref13_Few a0) fun r1 =>
  iteE (decide (r1 = 0)) (
   bndE (law22_awake) fun r2 =>
   some r2) (
   iteE (decide (20 < (a2.length : Int))) (
    bndE (law22_awake) fun r3 =>
    some r3) (
    bndE (ref13_Right a0) fun r4 =>
    iteE (!r4) (
     bndE (law22_awake) fun r5 =>
     some r5) (
     bndE (law22_JointSmall_l1 a1 a2 a0 ([] : List TValue) 0) fun o30 =>
     sumE o30 (fun o31 =>
      bndE (joint_Small a0) fun r33 =>
      bndE (ref22_Small a0) fun r34 =>
      iteE (!(r33 == r34)) (
       some false) (
       bndE (joint_Consts_v2 a0 a1) fun r35 =>
       bndE (ref22_Consts a0 a1) fun r36 =>
       bndE (ref20_Same [r35] [r36]) fun r37 =>
       iteE (!r37) (
        some false) (
        bndE (joint_New a1 a2) fun r38 =>
        iteE (!decide (a1 = 1)) (
         iteE (!decide (a1 = 2)) (
          iteE ((TValue.eqb r38.1 (TValue.mk 0 0 ([] : List UInt8) false))) (
           iteE (!r38.2) (
            bndE (law22_awake) fun r39 =>
            some r39) (
            some false)) (
           some false)) (
          iteE (r38.2) (
           bndE (ref22_New a1 o31) fun r40 =>
           iteE ((TValue.eqb r38.1 r40)) (
            bndE (law22_awake) fun r41 =>
            some r41) (
            some false)) (
           some false))) (
         iteE (r38.2) (
          bndE (ref22_New a1 o31) fun r42 =>
          iteE ((TValue.eqb r38.1 r42)) (
           bndE (law22_awake) fun r43 =>
           some r43) (
           some false)) (
          some false))))) (fun o32 =>
      some o32))))
end Go.Ac
