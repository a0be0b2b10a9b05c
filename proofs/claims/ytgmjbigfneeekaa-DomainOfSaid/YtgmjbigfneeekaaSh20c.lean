/- Own work, printed: the functions as Lean functions. -/
import Derived.Test.YtgmjbigfneeekaaAc22
import Derived.Test.YtgmjbigfneeekaaAc20b
import Derived.Test.YtgmjbigfneeekaaAc20f
import Derived.Test.YtgmjbigfneeekaaAc27
import Derived.Test.YtgmjbigfneeekaaAc28
import Derived.Test.YtgmjbigfneeekaaAc29
set_option linter.unusedVariables false
set_option linter.unusedSimpArgs false
set_option linter.unusedVariables false
set_option linter.unusedSimpArgs false
namespace Go.Ac
structure TDecl where
  name : List UInt8
  types : List Int
  deriving DecidableEq
def TDecl.D (v : TDecl) : D := .agg ([D.s v.name] ++ [(D.l (D.i .i64)) v.types])
instance : HasNc TDecl.D 2 := ⟨fun _ => rfl⟩
structure TQuant where
  all : Bool
  name : List UInt8
  type : Int
def TQuant.D (v : TQuant) : D := .agg ([D.b v.all] ++ [D.s v.name] ++ [(D.i .i64) v.type])
instance : HasNc TQuant.D 3 := ⟨fun _ => rfl⟩
def TQuant.eqb (a b : TQuant) : Bool := ((a.all == b.all) && (decide (a.name = b.name) && (decide (a.type = b.type) && true)))
theorem TQuant.eqb_iff (a b : TQuant) : TQuant.eqb a b = true ↔ a = b := by
  cases a; cases b; simp [TQuant.eqb]
instance : DecidableEq TQuant := fun a b => decidable_of_iff (TQuant.eqb a b = true) (TQuant.eqb_iff a b)
structure TValue where
  kind : Int
  int : Int
  str : List UInt8
  bool : Bool
def TValue.D (v : TValue) : D := .agg ([(D.i .i64) v.kind] ++ [(D.i .i64) v.int] ++ [D.s v.str] ++ [D.b v.bool])
instance : HasNc TValue.D 4 := ⟨fun _ => rfl⟩
def TValue.eqb (a b : TValue) : Bool := (decide (a.kind = b.kind) && (decide (a.int = b.int) && (decide (a.str = b.str) && ((a.bool == b.bool) && true))))
theorem TValue.eqb_iff (a b : TValue) : TValue.eqb a b = true ↔ a = b := by
  cases a; cases b; simp [TValue.eqb]
instance : DecidableEq TValue := fun a b => decidable_of_iff (TValue.eqb a b = true) (TValue.eqb_iff a b)
structure TFree where
  name : List UInt8
  init_ : TValue
def TFree.D (v : TFree) : D := .agg ([D.s v.name] ++ (TValue.D v.init_).cells)
instance : HasNc TFree.D 5 := ⟨fun _ => rfl⟩
def TFree.eqb (a b : TFree) : Bool := (decide (a.name = b.name) && (TValue.eqb a.init_ b.init_ && true))
theorem TFree.eqb_iff (a b : TFree) : TFree.eqb a b = true ↔ a = b := by
  cases a; cases b; simp [TFree.eqb, TValue.eqb_iff]
instance : DecidableEq TFree := fun a b => decidable_of_iff (TFree.eqb a b = true) (TFree.eqb_iff a b)
structure TState where
  name : List UInt8
  next : Bool
  accept : Bool
def TState.D (v : TState) : D := .agg ([D.s v.name] ++ [D.b v.next] ++ [D.b v.accept])
instance : HasNc TState.D 3 := ⟨fun _ => rfl⟩
def TState.eqb (a b : TState) : Bool := (decide (a.name = b.name) && ((a.next == b.next) && ((a.accept == b.accept) && true)))
theorem TState.eqb_iff (a b : TState) : TState.eqb a b = true ↔ a = b := by
  cases a; cases b; simp [TState.eqb]
instance : DecidableEq TState := fun a b => decidable_of_iff (TState.eqb a b = true) (TState.eqb_iff a b)
structure TArg where
  kind : Int
  n : Int
  value : TValue
def TArg.D (v : TArg) : D := .agg ([(D.i .i64) v.kind] ++ [(D.i .i64) v.n] ++ (TValue.D v.value).cells)
instance : HasNc TArg.D 6 := ⟨fun _ => rfl⟩
def TArg.eqb (a b : TArg) : Bool := (decide (a.kind = b.kind) && (decide (a.n = b.n) && (TValue.eqb a.value b.value && true)))
theorem TArg.eqb_iff (a b : TArg) : TArg.eqb a b = true ↔ a = b := by
  cases a; cases b; simp [TArg.eqb, TValue.eqb_iff]
instance : DecidableEq TArg := fun a b => decidable_of_iff (TArg.eqb a b = true) (TArg.eqb_iff a b)
structure TSymbol where
  event : Int
  args : List TArg
  deriving DecidableEq
def TSymbol.D (v : TSymbol) : D := .agg ([(D.i .i64) v.event] ++ [(D.l TArg.D) v.args])
instance : HasNc TSymbol.D 2 := ⟨fun _ => rfl⟩
structure TNode where
  op : Int
  a : Int
  b : Int
  value : TValue
def TNode.D (v : TNode) : D := .agg ([(D.i .i64) v.op] ++ [(D.i .i64) v.a] ++ [(D.i .i64) v.b] ++ (TValue.D v.value).cells)
instance : HasNc TNode.D 7 := ⟨fun _ => rfl⟩
def TNode.eqb (a b : TNode) : Bool := (decide (a.op = b.op) && (decide (a.a = b.a) && (decide (a.b = b.b) && (TValue.eqb a.value b.value && true))))
theorem TNode.eqb_iff (a b : TNode) : TNode.eqb a b = true ↔ a = b := by
  cases a; cases b; simp [TNode.eqb, TValue.eqb_iff]
instance : DecidableEq TNode := fun a b => decidable_of_iff (TNode.eqb a b = true) (TNode.eqb_iff a b)
structure TSet where
  free : Int
  expr : Int
def TSet.D (v : TSet) : D := .agg ([(D.i .i64) v.free] ++ [(D.i .i64) v.expr])
instance : HasNc TSet.D 2 := ⟨fun _ => rfl⟩
def TSet.eqb (a b : TSet) : Bool := (decide (a.free = b.free) && (decide (a.expr = b.expr) && true))
theorem TSet.eqb_iff (a b : TSet) : TSet.eqb a b = true ↔ a = b := by
  cases a; cases b; simp [TSet.eqb]
instance : DecidableEq TSet := fun a b => decidable_of_iff (TSet.eqb a b = true) (TSet.eqb_iff a b)
structure TTrans where
  from_ : Int
  symbol : Int
  to : Int
  guard : Int
  sets : List TSet
  deriving DecidableEq
def TTrans.D (v : TTrans) : D := .agg ([(D.i .i64) v.from_] ++ [(D.i .i64) v.symbol] ++ [(D.i .i64) v.to] ++ [(D.i .i64) v.guard] ++ [(D.l TSet.D) v.sets])
instance : HasNc TTrans.D 5 := ⟨fun _ => rfl⟩
structure TQea where
  name : List UInt8
  decls : List TDecl
  quants : List TQuant
  frees : List TFree
  states : List TState
  start : Int
  symbols : List TSymbol
  nodes : List TNode
  trans : List TTrans
  deriving DecidableEq
def TQea.D (v : TQea) : D := .agg ([D.s v.name] ++ [(D.l TDecl.D) v.decls] ++ [(D.l TQuant.D) v.quants] ++ [(D.l TFree.D) v.frees] ++ [(D.l TState.D) v.states] ++ [(D.i .i64) v.start] ++ [(D.l TSymbol.D) v.symbols] ++ [(D.l TNode.D) v.nodes] ++ [(D.l TTrans.D) v.trans])
instance : HasNc TQea.D 9 := ⟨fun _ => rfl⟩
structure TEvent where
  name : List UInt8
  args : List TValue
  deriving DecidableEq
def TEvent.D (v : TEvent) : D := .agg ([D.s v.name] ++ [(D.l TValue.D) v.args])
instance : HasNc TEvent.D 2 := ⟨fun _ => rfl⟩
structure TSlot where
  var : Int
  value : TValue
def TSlot.D (v : TSlot) : D := .agg ([(D.i .i64) v.var] ++ (TValue.D v.value).cells)
instance : HasNc TSlot.D 5 := ⟨fun _ => rfl⟩
def TSlot.eqb (a b : TSlot) : Bool := (decide (a.var = b.var) && (TValue.eqb a.value b.value && true))
theorem TSlot.eqb_iff (a b : TSlot) : TSlot.eqb a b = true ↔ a = b := by
  cases a; cases b; simp [TSlot.eqb, TValue.eqb_iff]
instance : DecidableEq TSlot := fun a b => decidable_of_iff (TSlot.eqb a b = true) (TSlot.eqb_iff a b)
structure THit where
  symbol : Int
  bind : List TSlot
  frees : List TSlot
  deriving DecidableEq
def THit.D (v : THit) : D := .agg ([(D.i .i64) v.symbol] ++ [(D.l TSlot.D) v.bind] ++ [(D.l TSlot.D) v.frees])
instance : HasNc THit.D 3 := ⟨fun _ => rfl⟩
noncomputable def ref13_Few_l1_s (w1 : TQea) (s3 : Int) : Option ((Int) ⊕ (Unit ⊕ Unit)) :=
  iteE (decide (s3 < (w1.decls.length : Int))) (
   idxE w1.decls s3 fun x1 =>
   iteE (decide (12 < (x1.types.length : Int))) (
    some (.inr (.inr ()))) (
    idxE w1.decls s3 fun x2 =>
    iteE (decide (100 < (x2.name.length : Int))) (
     some (.inr (.inr ()))) (
     some (.inl (intVal .add .i64 s3 1))))) (
   some (.inr (.inl ())))
noncomputable def ref13_Few_l1 (w1 : TQea) (s3 : Int) : Option (Unit ⊕ Unit) := loopE (fun s : Int => ref13_Few_l1_s w1 s) s3
theorem ref13_Few_l1_eq (w1 : TQea) (s3 : Int) : ref13_Few_l1 w1 s3 = nextE (ref13_Few_l1_s w1 s3) (fun s : Int => ref13_Few_l1 w1 s) := loopE_eq _ _
noncomputable def ref13_Few_l3_s (s4 : Int) (w1 : TQea) (s5 : Int) : Option ((Int) ⊕ (Unit ⊕ Unit)) :=
  idxE w1.symbols s4 fun x7 =>
  iteE (decide (s5 < (x7.args.length : Int))) (
   idxE w1.symbols s4 fun x8 =>
   idxE x8.args s5 fun x9 =>
   iteE (decide (100 < (x9.value.str.length : Int))) (
    some (.inr (.inr ()))) (
    some (.inl (intVal .add .i64 s5 1)))) (
   some (.inr (.inl ())))
noncomputable def ref13_Few_l3 (s4 : Int) (w1 : TQea) (s5 : Int) : Option (Unit ⊕ Unit) := loopE (fun s : Int => ref13_Few_l3_s s4 w1 s) s5
theorem ref13_Few_l3_eq (s4 : Int) (w1 : TQea) (s5 : Int) : ref13_Few_l3 s4 w1 s5 = nextE (ref13_Few_l3_s s4 w1 s5) (fun s : Int => ref13_Few_l3 s4 w1 s) := loopE_eq _ _
noncomputable def ref13_Few_l2_s (w1 : TQea) (s4 : Int) : Option ((Int) ⊕ (Unit ⊕ Unit)) :=
  iteE (decide (s4 < (w1.symbols.length : Int))) (
   idxE w1.symbols s4 fun x6 =>
   iteE (decide (12 < (x6.args.length : Int))) (
    some (.inr (.inr ()))) (
    bndE (ref13_Few_l3 s4 w1 0) fun o10 =>
    sumE o10 (fun o11 =>
     some (.inl (intVal .add .i64 s4 1))) (fun o12 =>
     some (.inr (.inr ()))))) (
   some (.inr (.inl ())))
noncomputable def ref13_Few_l2 (w1 : TQea) (s4 : Int) : Option (Unit ⊕ Unit) := loopE (fun s : Int => ref13_Few_l2_s w1 s) s4
theorem ref13_Few_l2_eq (w1 : TQea) (s4 : Int) : ref13_Few_l2 w1 s4 = nextE (ref13_Few_l2_s w1 s4) (fun s : Int => ref13_Few_l2 w1 s) := loopE_eq _ _
noncomputable def ref13_Few_l4_s (w1 : TQea) (s6 : Int) : Option ((Int) ⊕ (Unit ⊕ Unit)) :=
  iteE (decide (s6 < (w1.frees.length : Int))) (
   idxE w1.frees s6 fun x16 =>
   iteE (decide (100 < (x16.init_.str.length : Int))) (
    some (.inr (.inr ()))) (
    some (.inl (intVal .add .i64 s6 1)))) (
   some (.inr (.inl ())))
noncomputable def ref13_Few_l4 (w1 : TQea) (s6 : Int) : Option (Unit ⊕ Unit) := loopE (fun s : Int => ref13_Few_l4_s w1 s) s6
theorem ref13_Few_l4_eq (w1 : TQea) (s6 : Int) : ref13_Few_l4 w1 s6 = nextE (ref13_Few_l4_s w1 s6) (fun s : Int => ref13_Few_l4 w1 s) := loopE_eq _ _
noncomputable def ref13_Few_l5_s (w1 : TQea) (s7 : Int) : Option ((Int) ⊕ (Unit ⊕ Unit)) :=
  iteE (decide (s7 < (w1.nodes.length : Int))) (
   idxE w1.nodes s7 fun x20 =>
   iteE (decide (100 < (x20.value.str.length : Int))) (
    some (.inr (.inr ()))) (
    some (.inl (intVal .add .i64 s7 1)))) (
   some (.inr (.inl ())))
noncomputable def ref13_Few_l5 (w1 : TQea) (s7 : Int) : Option (Unit ⊕ Unit) := loopE (fun s : Int => ref13_Few_l5_s w1 s) s7
theorem ref13_Few_l5_eq (w1 : TQea) (s7 : Int) : ref13_Few_l5 w1 s7 = nextE (ref13_Few_l5_s w1 s7) (fun s : Int => ref13_Few_l5 w1 s) := loopE_eq _ _
noncomputable def ref13_Few_l6_s (w1 : TQea) (s8 : Int) : Option ((Int) ⊕ (Unit ⊕ Unit)) :=
  iteE (decide (s8 < (w1.trans.length : Int))) (
   idxE w1.trans s8 fun x24 =>
   iteE (decide (12 < (x24.sets.length : Int))) (
    some (.inr (.inr ()))) (
    some (.inl (intVal .add .i64 s8 1)))) (
   some (.inr (.inl ())))
noncomputable def ref13_Few_l6 (w1 : TQea) (s8 : Int) : Option (Unit ⊕ Unit) := loopE (fun s : Int => ref13_Few_l6_s w1 s) s8
theorem ref13_Few_l6_eq (w1 : TQea) (s8 : Int) : ref13_Few_l6 w1 s8 = nextE (ref13_Few_l6_s w1 s8) (fun s : Int => ref13_Few_l6 w1 s) := loopE_eq _ _
noncomputable def ref13_Few (a0 : TQea) : Option (Int) :=
  iteE (decide (12 < (a0.decls.length : Int))) (
   some 0) (
   iteE (decide (9 < (a0.quants.length : Int))) (
    some 0) (
    iteE (decide (12 < (a0.frees.length : Int))) (
     some 0) (
     iteE (decide (12 < (a0.states.length : Int))) (
      some 0) (
      iteE (decide (12 < (a0.symbols.length : Int))) (
       some 0) (
       iteE (decide (12 < (a0.trans.length : Int))) (
        some 0) (
        iteE (decide (40 < (a0.nodes.length : Int))) (
         some 0) (
         iteE (decide (100 < (a0.name.length : Int))) (
          some 0) (
          bndE (ref13_Few_l1 a0 0) fun o3 =>
          sumE o3 (fun o4 =>
           bndE (ref13_Few_l2 a0 0) fun o13 =>
           sumE o13 (fun o14 =>
            bndE (ref13_Few_l4 a0 0) fun o17 =>
            sumE o17 (fun o18 =>
             bndE (ref13_Few_l5 a0 0) fun o21 =>
             sumE o21 (fun o22 =>
              bndE (ref13_Few_l6 a0 0) fun o25 =>
              sumE o25 (fun o26 =>
               some 1) (fun o27 =>
               some 0)) (fun o23 =>
              some 0)) (fun o19 =>
             some 0)) (fun o15 =>
            some 0)) (fun o5 =>
           some 0)))))))))
noncomputable def ref07_Words : Option (List (List UInt8)) :=
  some ([([97, 99, 99, 101, 112, 116] : List UInt8), ([97, 108, 115, 111] : List UInt8), ([97, 110, 100] : List UInt8), ([98, 111, 111, 108] : List UInt8), ([100, 111] : List UInt8), ([101, 118, 101, 110, 116] : List UInt8), ([101, 120, 105, 115, 116, 115] : List UInt8), ([102, 97, 108, 115, 101] : List UInt8), ([102, 111, 114, 97, 108, 108] : List UInt8), ([102, 114, 101, 101] : List UInt8), ([105, 102] : List UInt8), ([105, 110, 116] : List UInt8), ([110, 101, 120, 116] : List UInt8), ([110, 111, 116] : List UInt8), ([111, 110] : List UInt8), ([111, 114] : List UInt8), ([113, 101, 97] : List UInt8), ([115, 107, 105, 112] : List UInt8), ([115, 116, 97, 114, 116] : List UInt8), ([115, 116, 114, 105, 110, 103] : List UInt8), ([116, 111] : List UInt8), ([116, 114, 117, 101] : List UInt8)])
noncomputable def ref07_Spelt_l1_s (s0 : List UInt8) (s3 : Int) : Option ((Int) ⊕ (Unit ⊕ Unit)) :=
  iteE (decide (s3 < (s0.length : Int))) (
   idxE s0 s3 fun x1 =>
   iteE (decide (((65 : UInt8).toNat : Int) ≤ (x1.toNat : Int))) (
    iteE (decide ((x1.toNat : Int) ≤ ((90 : UInt8).toNat : Int))) (
     some (.inl (intVal .add .i64 s3 1))) (
     iteE (decide (((97 : UInt8).toNat : Int) ≤ (x1.toNat : Int))) (
      iteE (decide ((x1.toNat : Int) ≤ ((122 : UInt8).toNat : Int))) (
       some (.inl (intVal .add .i64 s3 1))) (
       iteE (!(decide ((x1.toNat : Int) = ((95 : UInt8).toNat : Int)))) (
        iteE (decide (s3 = 0)) (
         some (.inr (.inr ()))) (
         iteE (decide ((x1.toNat : Int) < ((48 : UInt8).toNat : Int))) (
          some (.inr (.inr ()))) (
          iteE (decide (((57 : UInt8).toNat : Int) < (x1.toNat : Int))) (
           some (.inr (.inr ()))) (
           some (.inl (intVal .add .i64 s3 1)))))) (
        some (.inl (intVal .add .i64 s3 1))))) (
      iteE (!(decide ((x1.toNat : Int) = ((95 : UInt8).toNat : Int)))) (
       iteE (decide (s3 = 0)) (
        some (.inr (.inr ()))) (
        iteE (decide ((x1.toNat : Int) < ((48 : UInt8).toNat : Int))) (
         some (.inr (.inr ()))) (
         iteE (decide (((57 : UInt8).toNat : Int) < (x1.toNat : Int))) (
          some (.inr (.inr ()))) (
          some (.inl (intVal .add .i64 s3 1)))))) (
       some (.inl (intVal .add .i64 s3 1)))))) (
    iteE (decide (((97 : UInt8).toNat : Int) ≤ (x1.toNat : Int))) (
     iteE (decide ((x1.toNat : Int) ≤ ((122 : UInt8).toNat : Int))) (
      some (.inl (intVal .add .i64 s3 1))) (
      iteE (!(decide ((x1.toNat : Int) = ((95 : UInt8).toNat : Int)))) (
       iteE (decide (s3 = 0)) (
        some (.inr (.inr ()))) (
        iteE (decide ((x1.toNat : Int) < ((48 : UInt8).toNat : Int))) (
         some (.inr (.inr ()))) (
         iteE (decide (((57 : UInt8).toNat : Int) < (x1.toNat : Int))) (
          some (.inr (.inr ()))) (
          some (.inl (intVal .add .i64 s3 1)))))) (
       some (.inl (intVal .add .i64 s3 1))))) (
     iteE (!(decide ((x1.toNat : Int) = ((95 : UInt8).toNat : Int)))) (
      iteE (decide (s3 = 0)) (
       some (.inr (.inr ()))) (
       iteE (decide ((x1.toNat : Int) < ((48 : UInt8).toNat : Int))) (
        some (.inr (.inr ()))) (
        iteE (decide (((57 : UInt8).toNat : Int) < (x1.toNat : Int))) (
         some (.inr (.inr ()))) (
         some (.inl (intVal .add .i64 s3 1)))))) (
      some (.inl (intVal .add .i64 s3 1)))))) (
   some (.inr (.inl ())))
noncomputable def ref07_Spelt_l1 (s0 : List UInt8) (s3 : Int) : Option (Unit ⊕ Unit) := loopE (fun s : Int => ref07_Spelt_l1_s s0 s) s3
theorem ref07_Spelt_l1_eq (s0 : List UInt8) (s3 : Int) : ref07_Spelt_l1 s0 s3 = nextE (ref07_Spelt_l1_s s0 s3) (fun s : Int => ref07_Spelt_l1 s0 s) := loopE_eq _ _
noncomputable def ref07_Spelt (a0 : List UInt8) : Option (Bool) :=
  iteE (decide ((a0.length : Int) < 1)) (
   some false) (
   iteE (decide (32 < (a0.length : Int))) (
    some false) (
    bndE (ref07_Spelt_l1 a0 0) fun o2 =>
    sumE o2 (fun o3 =>
     some true) (fun o4 =>
     some false)))
noncomputable def ref07_Name_l1_s (s0 : List UInt8) (s3 : List (List UInt8)) (s4 : Int) : Option ((Int) ⊕ (Unit ⊕ Unit)) :=
  iteE (decide (s4 < (s3.length : Int))) (
   idxE s3 s4 fun x2 =>
   iteE (decide (x2 = s0)) (
    some (.inr (.inr ()))) (
    some (.inl (intVal .add .i64 s4 1)))) (
   some (.inr (.inl ())))
noncomputable def ref07_Name_l1 (s0 : List UInt8) (s3 : List (List UInt8)) (s4 : Int) : Option (Unit ⊕ Unit) := loopE (fun s : Int => ref07_Name_l1_s s0 s3 s) s4
theorem ref07_Name_l1_eq (s0 : List UInt8) (s3 : List (List UInt8)) (s4 : Int) : ref07_Name_l1 s0 s3 s4 = nextE (ref07_Name_l1_s s0 s3 s4) (fun s : Int => ref07_Name_l1 s0 s3 s) := loopE_eq _ _
noncomputable def ref07_Name (a0 : List UInt8) : Option (Bool) :=
  bndE (ref07_Words) fun r1 =>
  bndE (ref07_Name_l1 a0 r1 0) fun o3 =>
  sumE o3 (fun o4 =>
   bndE (ref07_Spelt a0) fun r6 =>
   iteE (r6) (
    some (!decide (a0 = ([95] : List UInt8)))) (
    some false)) (fun o5 =>
   some false)
noncomputable def ref07_Find_l1_s (s0 : List TDecl) (s1 : List UInt8) (s5 : Int) : Option ((Int) ⊕ (Unit ⊕ Int)) :=
  iteE (decide (s5 < (s0.length : Int))) (
   idxE s0 s5 fun x1 =>
   iteE (decide (x1.name = s1)) (
    some (.inr (.inr s5))) (
    some (.inl (intVal .add .i64 s5 1)))) (
   some (.inr (.inl ())))
noncomputable def ref07_Find_l1 (s0 : List TDecl) (s1 : List UInt8) (s5 : Int) : Option (Unit ⊕ Int) := loopE (fun s : Int => ref07_Find_l1_s s0 s1 s) s5
theorem ref07_Find_l1_eq (s0 : List TDecl) (s1 : List UInt8) (s5 : Int) : ref07_Find_l1 s0 s1 s5 = nextE (ref07_Find_l1_s s0 s1 s5) (fun s : Int => ref07_Find_l1 s0 s1 s) := loopE_eq _ _
noncomputable def ref07_Find (a0 : List TDecl) (a1 : List UInt8) : Option (Int) :=
  bndE (ref07_Find_l1 a0 a1 0) fun o2 =>
  sumE o2 (fun o3 =>
   some (-1)) (fun o4 =>
   some o4)
noncomputable def ref07_Check_l2_s (s0 : List TDecl) (s4 : Int) (s5 : Int) : Option ((Int) ⊕ (Unit ⊕ Unit)) :=
  idxE s0 s4 fun x6 =>
  iteE (decide (s5 < (x6.types.length : Int))) (
   idxE s0 s4 fun x7 =>
   idxE x7.types s5 fun x8 =>
   iteE (decide (x8 < 1)) (
    some (.inr (.inr ()))) (
    idxE s0 s4 fun x9 =>
    idxE x9.types s5 fun x10 =>
    iteE (decide (3 < x10)) (
     some (.inr (.inr ()))) (
     some (.inl (intVal .add .i64 s5 1))))) (
   some (.inr (.inl ())))
noncomputable def ref07_Check_l2 (s0 : List TDecl) (s4 : Int) (s5 : Int) : Option (Unit ⊕ Unit) := loopE (fun s : Int => ref07_Check_l2_s s0 s4 s) s5
theorem ref07_Check_l2_eq (s0 : List TDecl) (s4 : Int) (s5 : Int) : ref07_Check_l2 s0 s4 s5 = nextE (ref07_Check_l2_s s0 s4 s5) (fun s : Int => ref07_Check_l2 s0 s4 s) := loopE_eq _ _
noncomputable def ref07_Check_l1_s (s0 : List TDecl) (s4 : Int) : Option ((Int) ⊕ (Unit ⊕ (Int × Int))) :=
  iteE (decide (s4 < (s0.length : Int))) (
   idxE s0 s4 fun x1 =>
   bndE (ref07_Name x1.name) fun r2 =>
   iteE (!r2) (
    some (.inr (.inr (11, s4)))) (
    idxE s0 s4 fun x3 =>
    bndE (ref07_Find s0 x3.name) fun r4 =>
    iteE (decide (r4 < s4)) (
     some (.inr (.inr (10, s4)))) (
     idxE s0 s4 fun x5 =>
     iteE (decide (8 < (x5.types.length : Int))) (
      some (.inr (.inr (14, s4)))) (
      bndE (ref07_Check_l2 s0 s4 0) fun o11 =>
      sumE o11 (fun o12 =>
       some (.inl (intVal .add .i64 s4 1))) (fun o13 =>
       some (.inr (.inr (8, s4)))))))) (
   some (.inr (.inl ())))
noncomputable def ref07_Check_l1 (s0 : List TDecl) (s4 : Int) : Option (Unit ⊕ (Int × Int)) := loopE (fun s : Int => ref07_Check_l1_s s0 s) s4
theorem ref07_Check_l1_eq (s0 : List TDecl) (s4 : Int) : ref07_Check_l1 s0 s4 = nextE (ref07_Check_l1_s s0 s4) (fun s : Int => ref07_Check_l1 s0 s) := loopE_eq _ _
noncomputable def ref07_Check (a0 : List TDecl) : Option (Int × Int) :=
  iteE (decide (32 < (a0.length : Int))) (
   some (14, 32)) (
   bndE (ref07_Check_l1 a0 0) fun o14 =>
   sumE o14 (fun o15 =>
    some (0, (-1))) (fun o16 =>
    some (o16.1, o16.2)))
noncomputable def ref03_Right (a0 : TValue) : Option (Bool) :=
  iteE (decide (a0.kind = 1)) (
   iteE (decide (a0.str = ([] : List UInt8))) (
    some (!a0.bool)) (
    some false)) (
   iteE (decide (a0.kind = 2)) (
    iteE (decide (a0.int = 0)) (
     iteE (!a0.bool) (
      some (decide ((a0.str.length : Int) ≤ 4096))) (
      some false)) (
     some false)) (
    iteE (decide (a0.kind = 3)) (
     iteE (decide (a0.int = 0)) (
      some (decide (a0.str = ([] : List UInt8)))) (
      some false)) (
     some false)))
noncomputable def ref13_twice_l1_s (s0 : List (List UInt8)) (s1 : Int) (s5 : Int) : Option ((Int) ⊕ (Unit ⊕ Unit)) :=
  iteE (decide (s5 < s1)) (
   idxE s0 s5 fun x1 =>
   idxE s0 s1 fun x2 =>
   iteE (decide (x1 = x2)) (
    some (.inr (.inr ()))) (
    some (.inl (intVal .add .i64 s5 1)))) (
   some (.inr (.inl ())))
noncomputable def ref13_twice_l1 (s0 : List (List UInt8)) (s1 : Int) (s5 : Int) : Option (Unit ⊕ Unit) := loopE (fun s : Int => ref13_twice_l1_s s0 s1 s) s5
theorem ref13_twice_l1_eq (s0 : List (List UInt8)) (s1 : Int) (s5 : Int) : ref13_twice_l1 s0 s1 s5 = nextE (ref13_twice_l1_s s0 s1 s5) (fun s : Int => ref13_twice_l1 s0 s1 s) := loopE_eq _ _
noncomputable def ref13_twice (a0 : List (List UInt8)) (a1 : Int) : Option (Bool) :=
  bndE (ref13_twice_l1 a0 a1 0) fun o3 =>
  sumE o3 (fun o4 =>
   some false) (fun o5 =>
   some true)
noncomputable def ref13_names_l1_s (w1 : TQea) (s4 : Int) (w3 : List (List UInt8)) : Option ((Int × List (List UInt8)) ⊕ ((List (List UInt8)) ⊕ Unit)) :=
  iteE (decide (s4 < (w1.quants.length : Int))) (
   idxE w1.quants s4 fun x4 =>
   chkE (fit w3.length [x4.name].length 16) (
    idxE w1.quants s4 fun x5 =>
    iteE (decide (x5.type < 1)) (
     some (.inr (.inr ()))) (
     idxE w1.quants s4 fun x6 =>
     iteE (decide (3 < x6.type)) (
      some (.inr (.inr ()))) (
      some (.inl ((intVal .add .i64 s4 1), w3 ++ [x4.name])))))) (
   some (.inr (.inl w3)))
noncomputable def ref13_names_l1 (w1 : TQea) (s4 : Int) (w3 : List (List UInt8)) : Option ((List (List UInt8)) ⊕ Unit) := loopE (fun s : Int × List (List UInt8) => ref13_names_l1_s w1 s.1 s.2) (s4, w3)
theorem ref13_names_l1_eq (w1 : TQea) (s4 : Int) (w3 : List (List UInt8)) : ref13_names_l1 w1 s4 w3 = nextE (ref13_names_l1_s w1 s4 w3) (fun s : Int × List (List UInt8) => ref13_names_l1 w1 s.1 s.2) := loopE_eq _ _
noncomputable def ref13_names_l2_s (w1 : TQea) (s5 : Int) (w3 : List (List UInt8)) : Option ((Int × List (List UInt8)) ⊕ ((List (List UInt8)) ⊕ Unit)) :=
  iteE (decide (s5 < (w1.frees.length : Int))) (
   idxE w1.frees s5 fun x10 =>
   chkE (fit w3.length [x10.name].length 16) (
    idxE w1.frees s5 fun x11 =>
    bndE (ref03_Right x11.init_) fun r12 =>
    iteE (!r12) (
     some (.inr (.inr ()))) (
     some (.inl ((intVal .add .i64 s5 1), w3 ++ [x10.name]))))) (
   some (.inr (.inl w3)))
noncomputable def ref13_names_l2 (w1 : TQea) (s5 : Int) (w3 : List (List UInt8)) : Option ((List (List UInt8)) ⊕ Unit) := loopE (fun s : Int × List (List UInt8) => ref13_names_l2_s w1 s.1 s.2) (s5, w3)
theorem ref13_names_l2_eq (w1 : TQea) (s5 : Int) (w3 : List (List UInt8)) : ref13_names_l2 w1 s5 w3 = nextE (ref13_names_l2_s w1 s5 w3) (fun s : Int × List (List UInt8) => ref13_names_l2 w1 s.1 s.2) := loopE_eq _ _
noncomputable def ref13_names_l3_s (w1 : TQea) (w3 : List (List UInt8)) (s6 : Int) : Option ((Int) ⊕ (Unit ⊕ Unit)) :=
  iteE (decide (s6 < (w3.length : Int))) (
   idxE w3 s6 fun x16 =>
   bndE (ref07_Name x16) fun r17 =>
   iteE (!r17) (
    some (.inr (.inr ()))) (
    bndE (ref13_twice w3 s6) fun r18 =>
    iteE (r18) (
     some (.inr (.inr ()))) (
     some (.inl (intVal .add .i64 s6 1))))) (
   some (.inr (.inl ())))
noncomputable def ref13_names_l3 (w1 : TQea) (w3 : List (List UInt8)) (s6 : Int) : Option (Unit ⊕ Unit) := loopE (fun s : Int => ref13_names_l3_s w1 w3 s) s6
theorem ref13_names_l3_eq (w1 : TQea) (w3 : List (List UInt8)) (s6 : Int) : ref13_names_l3 w1 w3 s6 = nextE (ref13_names_l3_s w1 w3 s6) (fun s : Int => ref13_names_l3 w1 w3 s) := loopE_eq _ _
noncomputable def ref13_names_l4_s (w1 : TQea) (s8 : Int) (w7 : List (List UInt8)) : Option ((Int × List (List UInt8)) ⊕ (Unit ⊕ Unit)) :=
  iteE (decide (s8 < (w1.states.length : Int))) (
   idxE w1.states s8 fun x26 =>
   chkE (fit w7.length [x26.name].length 16) (
    idxE (w7 ++ [x26.name]) s8 fun x27 =>
    bndE (ref07_Name x27) fun r28 =>
    iteE (!r28) (
     some (.inr (.inr ()))) (
     bndE (ref13_twice (w7 ++ [x26.name]) s8) fun r29 =>
     iteE (r29) (
      some (.inr (.inr ()))) (
      some (.inl ((intVal .add .i64 s8 1), w7 ++ [x26.name])))))) (
   some (.inr (.inl ())))
noncomputable def ref13_names_l4 (w1 : TQea) (s8 : Int) (w7 : List (List UInt8)) : Option (Unit ⊕ Unit) := loopE (fun s : Int × List (List UInt8) => ref13_names_l4_s w1 s.1 s.2) (s8, w7)
theorem ref13_names_l4_eq (w1 : TQea) (s8 : Int) (w7 : List (List UInt8)) : ref13_names_l4 w1 s8 w7 = nextE (ref13_names_l4_s w1 s8 w7) (fun s : Int × List (List UInt8) => ref13_names_l4 w1 s.1 s.2) := loopE_eq _ _
noncomputable def ref13_names (a0 : TQea) : Option (Bool) :=
  bndE (ref13_names_l1 a0 0 ([] : List (List UInt8))) fun o7 =>
  sumE o7 (fun o8 =>
   bndE (ref13_names_l2 a0 0 o8) fun o13 =>
   sumE o13 (fun o14 =>
    bndE (ref13_names_l3 a0 o14 0) fun o19 =>
    sumE o19 (fun o20 =>
     bndE (ref13_names_l4 a0 0 ([] : List (List UInt8))) fun o30 =>
     sumE o30 (fun o31 =>
      bndE (ref07_Name a0.name) fun r33 =>
      some r33) (fun o32 =>
      some false)) (fun o21 =>
     some false)) (fun o15 =>
    some false)) (fun o9 =>
   some false)
noncomputable def ref03_truth (a0 : Bool) : Option (TValue × Int) :=
  some (TValue.mk 3 0 ([] : List UInt8) a0, 0)
noncomputable def ref01_Add (a0 : Int) (a1 : Int) : Option (Int × Bool) :=
  iteE (decide (0 < a1)) (
   iteE (decide ((intVal .sub .i64 9223372036854775807 a1) < a0)) (
    some (0, false)) (
    iteE (decide (a1 < 0)) (
     iteE (decide (a0 < (intVal .sub .i64 (-9223372036854775808) a1))) (
      some (0, false)) (
      some ((intVal .add .i64 a0 a1), true))) (
     some ((intVal .add .i64 a0 a1), true)))) (
   iteE (decide (a1 < 0)) (
    iteE (decide (a0 < (intVal .sub .i64 (-9223372036854775808) a1))) (
     some (0, false)) (
     some ((intVal .add .i64 a0 a1), true))) (
    some ((intVal .add .i64 a0 a1), true)))
noncomputable def ref03_number (a0 : Int) (a1 : Bool) : Option (TValue × Int) :=
  iteE (!a1) (
   some (TValue.mk 0 0 ([] : List UInt8) false, 6)) (
   some (TValue.mk 1 a0 ([] : List UInt8) false, 0))
noncomputable def ref01_Sub (a0 : Int) (a1 : Int) : Option (Int × Bool) :=
  iteE (decide (a1 < 0)) (
   iteE (decide ((intVal .add .i64 9223372036854775807 a1) < a0)) (
    some (0, false)) (
    iteE (decide (0 < a1)) (
     iteE (decide (a0 < (intVal .add .i64 (-9223372036854775808) a1))) (
      some (0, false)) (
      some ((intVal .sub .i64 a0 a1), true))) (
     some ((intVal .sub .i64 a0 a1), true)))) (
   iteE (decide (0 < a1)) (
    iteE (decide (a0 < (intVal .add .i64 (-9223372036854775808) a1))) (
     some (0, false)) (
     some ((intVal .sub .i64 a0 a1), true))) (
    some ((intVal .sub .i64 a0 a1), true)))
noncomputable def ref01_Mul (a0 : Int) (a1 : Int) : Option (Int × Bool) :=
  iteE (decide (a0 = 0)) (
   some (0, true)) (
   iteE (decide (a1 = 0)) (
    some (0, true)) (
    iteE (decide (a0 = (-1))) (
     bndE (ref01_Sub 0 a1) fun r1 =>
     some (r1.1, r1.2)) (
     iteE (decide (a1 = (-1))) (
      bndE (ref01_Sub 0 a0) fun r2 =>
      some (r2.1, r2.2)) (
      iteE (decide (0 < a0)) (
       iteE (decide (0 < a1)) (
        chkE (a1 ≠ 0) (
         iteE (decide ((intVal .quo .i64 9223372036854775807 a1) < a0)) (
          some (0, false)) (
          iteE (decide (a1 < 0)) (
           chkE (a0 ≠ 0) (
            iteE (decide (a1 < (intVal .quo .i64 (-9223372036854775808) a0))) (
             some (0, false)) (
             iteE (decide (a0 < 0)) (
              chkE (a1 ≠ 0) (
               iteE (decide (a0 < (intVal .quo .i64 (-9223372036854775808) a1))) (
                some (0, false)) (
                chkE (a1 ≠ 0) (
                 iteE (decide (a0 < (intVal .quo .i64 9223372036854775807 a1))) (
                  some (0, false)) (
                  some ((intVal .mul .i64 a0 a1), true)))))) (
              some ((intVal .mul .i64 a0 a1), true))))) (
           iteE (decide (a0 < 0)) (
            chkE (a1 ≠ 0) (
             iteE (decide (a0 < (intVal .quo .i64 (-9223372036854775808) a1))) (
              some (0, false)) (
              some ((intVal .mul .i64 a0 a1), true)))) (
            some ((intVal .mul .i64 a0 a1), true)))))) (
        iteE (decide (a1 < 0)) (
         chkE (a0 ≠ 0) (
          iteE (decide (a1 < (intVal .quo .i64 (-9223372036854775808) a0))) (
           some (0, false)) (
           iteE (decide (a0 < 0)) (
            chkE (a1 ≠ 0) (
             iteE (decide (a0 < (intVal .quo .i64 9223372036854775807 a1))) (
              some (0, false)) (
              some ((intVal .mul .i64 a0 a1), true)))) (
            some ((intVal .mul .i64 a0 a1), true))))) (
         iteE (decide (a0 < 0)) (
          some ((intVal .mul .i64 a0 a1), true)) (
          some ((intVal .mul .i64 a0 a1), true))))) (
       iteE (decide (a0 < 0)) (
        iteE (decide (0 < a1)) (
         chkE (a1 ≠ 0) (
          iteE (decide (a0 < (intVal .quo .i64 (-9223372036854775808) a1))) (
           some (0, false)) (
           iteE (decide (a1 < 0)) (
            chkE (a1 ≠ 0) (
             iteE (decide (a0 < (intVal .quo .i64 9223372036854775807 a1))) (
              some (0, false)) (
              some ((intVal .mul .i64 a0 a1), true)))) (
            some ((intVal .mul .i64 a0 a1), true))))) (
         iteE (decide (a1 < 0)) (
          chkE (a1 ≠ 0) (
           iteE (decide (a0 < (intVal .quo .i64 9223372036854775807 a1))) (
            some (0, false)) (
            some ((intVal .mul .i64 a0 a1), true)))) (
          some ((intVal .mul .i64 a0 a1), true)))) (
        some ((intVal .mul .i64 a0 a1), true)))))))
noncomputable def ref01_Div (a0 : Int) (a1 : Int) : Option (Int × Int × Int) :=
  iteE (decide (a1 = 0)) (
   some (0, 0, 7)) (
   iteE (decide (a1 = (-1))) (
    bndE (ref01_Sub 0 a0) fun r1 =>
    iteE (!r1.2) (
     some (0, 0, 6)) (
     some (r1.1, 0, 0))) (
    chkE (a1 ≠ 0) (
     chkE (a1 ≠ 0) (
      some ((intVal .quo .i64 a0 a1), (intVal .rem .i64 a0 a1), 0)))))
noncomputable def ref03_arith (a0 : Int) (a1 : Int) (a2 : Int) : Option (TValue × Int) :=
  iteE (decide (a0 = 8)) (
   bndE (ref01_Add a1 a2) fun r1 =>
   bndE (ref03_number r1.1 r1.2) fun r2 =>
   some (r2.1, r2.2)) (
   iteE (decide (a0 = 9)) (
    bndE (ref01_Sub a1 a2) fun r3 =>
    bndE (ref03_number r3.1 r3.2) fun r4 =>
    some (r4.1, r4.2)) (
    iteE (decide (a0 = 10)) (
     bndE (ref01_Mul a1 a2) fun r5 =>
     bndE (ref03_number r5.1 r5.2) fun r6 =>
     some (r6.1, r6.2)) (
     bndE (ref01_Div a1 a2) fun r7 =>
     iteE (decide (r7.2.2 = 7)) (
      some (TValue.mk 0 0 ([] : List UInt8) false, 7)) (
      iteE (decide (a0 = 12)) (
       some (TValue.mk 1 r7.2.1 ([] : List UInt8) false, 0)) (
       bndE (ref03_number r7.1 (decide (r7.2.2 = 0))) fun r8 =>
       some (r8.1, r8.2))))))
noncomputable def ref03_Below_l1_s (s0 : List UInt8) (s1 : List UInt8) (s5 : Int) : Option ((Int) ⊕ (Unit ⊕ Bool)) :=
  iteE (decide (s5 < (s0.length : Int))) (
   iteE (decide (s5 < (s1.length : Int))) (
    idxE s0 s5 fun x1 =>
    idxE s1 s5 fun x2 =>
    iteE (!decide ((x1.toNat : Int) = (x2.toNat : Int))) (
     idxE s0 s5 fun x3 =>
     idxE s1 s5 fun x4 =>
     some (.inr (.inr (decide ((x3.toNat : Int) < (x4.toNat : Int)))))) (
     some (.inl (intVal .add .i64 s5 1)))) (
    some (.inr (.inl ())))) (
   some (.inr (.inl ())))
noncomputable def ref03_Below_l1 (s0 : List UInt8) (s1 : List UInt8) (s5 : Int) : Option (Unit ⊕ Bool) := loopE (fun s : Int => ref03_Below_l1_s s0 s1 s) s5
theorem ref03_Below_l1_eq (s0 : List UInt8) (s1 : List UInt8) (s5 : Int) : ref03_Below_l1 s0 s1 s5 = nextE (ref03_Below_l1_s s0 s1 s5) (fun s : Int => ref03_Below_l1 s0 s1 s) := loopE_eq _ _
noncomputable def ref03_Below (a0 : List UInt8) (a1 : List UInt8) : Option (Bool) :=
  bndE (ref03_Below_l1 a0 a1 0) fun o5 =>
  sumE o5 (fun o6 =>
   some (decide ((a0.length : Int) < (a1.length : Int)))) (fun o7 =>
   some o7)
noncomputable def ref03_Less (a0 : TValue) (a1 : TValue) : Option (Bool) :=
  iteE (!decide (a0.kind = a1.kind)) (
   some (decide (a0.kind < a1.kind))) (
   iteE (decide (a0.kind = 1)) (
    some (decide (a0.int < a1.int))) (
    iteE (decide (a0.kind = 2)) (
     bndE (ref03_Below a0.str a1.str) fun r1 =>
     some r1) (
     iteE (!a0.bool) (
      some a1.bool) (
      some false))))
noncomputable def ref03_Op (a0 : Int) (a1 : TValue) (a2 : TValue) : Option (TValue × Int) :=
  iteE (decide (a0 < 4)) (
   some (TValue.mk 0 0 ([] : List UInt8) false, 1)) (
   iteE (decide (16 < a0)) (
    some (TValue.mk 0 0 ([] : List UInt8) false, 1)) (
    iteE (decide (a0 = 4)) (
     iteE (!decide (a1.kind = 3)) (
      some (TValue.mk 0 0 ([] : List UInt8) false, 8)) (
      bndE (ref03_truth (!a1.bool)) fun r1 =>
      some (r1.1, r1.2))) (
     iteE (decide (a0 = 5)) (
      iteE (!decide (a1.kind = 1)) (
       some (TValue.mk 0 0 ([] : List UInt8) false, 8)) (
       bndE (ref03_arith 9 0 a1.int) fun r2 =>
       some (r2.1, r2.2))) (
      iteE (!decide (a1.kind = a2.kind)) (
       some (TValue.mk 0 0 ([] : List UInt8) false, 8)) (
       iteE (decide (a0 = 13)) (
        bndE (ref03_truth (TValue.eqb a1 a2)) fun r3 =>
        some (r3.1, r3.2)) (
        iteE (decide (a0 = 14)) (
         bndE (ref03_truth (!(TValue.eqb a1 a2))) fun r4 =>
         some (r4.1, r4.2)) (
         iteE (decide (a1.kind = 3)) (
          iteE (decide (a0 = 6)) (
           iteE (a1.bool) (
            bndE (ref03_truth a2.bool) fun r5 =>
            some (r5.1, r5.2)) (
            bndE (ref03_truth false) fun r6 =>
            some (r6.1, r6.2))) (
           iteE (decide (a0 = 7)) (
            iteE (a1.bool) (
             bndE (ref03_truth true) fun r7 =>
             some (r7.1, r7.2)) (
             bndE (ref03_truth a2.bool) fun r8 =>
             some (r8.1, r8.2))) (
            some (TValue.mk 0 0 ([] : List UInt8) false, 8)))) (
          iteE (decide (a0 = 15)) (
           bndE (ref03_Less a1 a2) fun r9 =>
           bndE (ref03_truth r9) fun r10 =>
           some (r10.1, r10.2)) (
           iteE (decide (a0 = 16)) (
            bndE (ref03_Less a2 a1) fun r11 =>
            bndE (ref03_truth (!r11)) fun r12 =>
            some (r12.1, r12.2)) (
            iteE (decide (a1.kind = 1)) (
             iteE (decide (8 ≤ a0)) (
              iteE (decide (a0 ≤ 12)) (
               bndE (ref03_arith a0 a1.int a2.int) fun r13 =>
               some (r13.1, r13.2)) (
               iteE (decide (a1.kind = 2)) (
                iteE (decide (a0 = 8)) (
                 iteE (decide (4096 < (intVal .add .i64 (a1.str.length : Int) (a2.str.length : Int)))) (
                  some (TValue.mk 0 0 ([] : List UInt8) false, 3)) (
                  chkE (a1.str.length + a2.str.length ≤ 9223372036854775807) (
                   some (TValue.mk 2 0 (a1.str ++ a2.str) false, 0)))) (
                 some (TValue.mk 0 0 ([] : List UInt8) false, 8))) (
                some (TValue.mk 0 0 ([] : List UInt8) false, 8)))) (
              iteE (decide (a1.kind = 2)) (
               iteE (decide (a0 = 8)) (
                iteE (decide (4096 < (intVal .add .i64 (a1.str.length : Int) (a2.str.length : Int)))) (
                 some (TValue.mk 0 0 ([] : List UInt8) false, 3)) (
                 chkE (a1.str.length + a2.str.length ≤ 9223372036854775807) (
                  some (TValue.mk 2 0 (a1.str ++ a2.str) false, 0)))) (
                some (TValue.mk 0 0 ([] : List UInt8) false, 8))) (
               some (TValue.mk 0 0 ([] : List UInt8) false, 8)))) (
             iteE (decide (a1.kind = 2)) (
              iteE (decide (a0 = 8)) (
               iteE (decide (4096 < (intVal .add .i64 (a1.str.length : Int) (a2.str.length : Int)))) (
                some (TValue.mk 0 0 ([] : List UInt8) false, 3)) (
                chkE (a1.str.length + a2.str.length ≤ 9223372036854775807) (
                 some (TValue.mk 2 0 (a1.str ++ a2.str) false, 0)))) (
               some (TValue.mk 0 0 ([] : List UInt8) false, 8))) (
              some (TValue.mk 0 0 ([] : List UInt8) false, 8)))))))))))))
noncomputable def ref13_Type (a0 : Int) (a1 : Int) (a2 : Int) : Option (Int) :=
  iteE (decide (a1 < 1)) (
   some 0) (
   iteE (!decide (a1 = a2)) (
    some 0) (
    bndE (ref03_Op a0 (TValue.mk a1 0 ([] : List UInt8) false) (TValue.mk a2 0 ([] : List UInt8) false)) fun r1 =>
    iteE (decide (r1.2 = 7)) (
     some 1) (
     iteE (!decide (r1.2 = 0)) (
      some 0) (
      some r1.1.kind))))
noncomputable def ref13_below_F (self : TQea → Int → Option (Int × Int × Int)) (a0 : TQea) (a1 : Int) : Option (Int × Int × Int) :=
  iteE (decide (a1 < 0)) (
   some (0, 0, 0)) (
   iteE (decide ((a0.nodes.length : Int) ≤ a1)) (
    some (0, 0, 0)) (
    idxE a0.nodes a1 fun x1 =>
    iteE (decide (x1.op = 1)) (
     iteE (!decide (x1.a = 0)) (
      some (0, 0, 0)) (
      iteE (!decide (x1.b = 0)) (
       some (0, 0, 0)) (
       bndE (ref03_Right x1.value) fun r2 =>
       iteE (!r2) (
        some (0, 0, 0)) (
        some (x1.value.kind, 1, a1))))) (
     iteE (!(TValue.eqb x1.value (TValue.mk 0 0 ([] : List UInt8) false))) (
      some (0, 0, 0)) (
      iteE (decide (x1.op = 2)) (
       iteE (decide (x1.a < 0)) (
        some (0, 0, 0)) (
        iteE (decide ((a0.quants.length : Int) ≤ x1.a)) (
         some (0, 0, 0)) (
         iteE (!decide (x1.b = 0)) (
          some (0, 0, 0)) (
          idxE a0.quants x1.a fun x3 =>
          some (x3.type, 1, a1))))) (
       iteE (decide (x1.op = 3)) (
        iteE (decide (x1.a < 0)) (
         some (0, 0, 0)) (
         iteE (decide ((a0.frees.length : Int) ≤ x1.a)) (
          some (0, 0, 0)) (
          iteE (!decide (x1.b = 0)) (
           some (0, 0, 0)) (
           idxE a0.frees x1.a fun x4 =>
           some (x4.init_.kind, 1, a1))))) (
        iteE (decide (x1.op < 4)) (
         some (0, 0, 0)) (
         iteE (decide (16 < x1.op)) (
          some (0, 0, 0)) (
          bndE (self a0 (intVal .sub .i64 a1 1)) fun r5 =>
          iteE (decide (x1.op ≤ 5)) (
           iteE (decide (r5.1 = 0)) (
            some (0, 0, 0)) (
            iteE (!decide (x1.a = (intVal .sub .i64 a1 1))) (
             some (0, 0, 0)) (
             iteE (!decide (x1.b = 0)) (
              some (0, 0, 0)) (
              bndE (ref13_Type x1.op r5.1 r5.1) fun r6 =>
              some (r6, (intVal .add .i64 r5.2.1 1), r5.2.2))))) (
           iteE (decide (r5.1 = 0)) (
            some (0, 0, 0)) (
            iteE (!decide (x1.b = (intVal .sub .i64 a1 1))) (
             some (0, 0, 0)) (
             iteE (!decide (x1.a = (intVal .sub .i64 r5.2.2 1))) (
              some (0, 0, 0)) (
              bndE (self a0 (intVal .sub .i64 r5.2.2 1)) fun r7 =>
              bndE (ref13_Type x1.op r7.1 r5.1) fun r8 =>
              some (r8, (intVal .add .i64 (maxE r5.2.1 r7.2.1) 1), r7.2.2)))))))))))))
noncomputable def ref13_below_n : Nat → TQea → Int → Option (Int × Int × Int)
  | 0 => fun _ _  => none
  | n + 1 => fun a0 a1 => ref13_below_F (ref13_below_n n) a0 a1
noncomputable def ref13_below (a0 : TQea) (a1 : Int) : Option (Int × Int × Int) := ref13_below_n 100000 a0 a1
noncomputable def ref13_Kind (a0 : TQea) (a1 : Int) (a2 : Int) : Option (Int × Int) :=
  bndE (ref13_below a0 a2) fun r1 =>
  iteE (decide (r1.1 = 0)) (
   some (0, 0)) (
   iteE (!decide (r1.2.2 = a1)) (
    some (0, 0)) (
    some (r1.1, r1.2.1)))
noncomputable def ref13_Names_l1_s (s1 : Int) (w2 : TSymbol) (s5 : Int) : Option ((Int) ⊕ (Unit ⊕ Unit)) :=
  iteE (decide (s5 < (w2.args.length : Int))) (
   idxE w2.args s5 fun x1 =>
   iteE (decide (x1.kind = 2)) (
    idxE w2.args s5 fun x2 =>
    iteE (decide (x2.n = s1)) (
     some (.inr (.inr ()))) (
     some (.inl (intVal .add .i64 s5 1)))) (
    some (.inl (intVal .add .i64 s5 1)))) (
   some (.inr (.inl ())))
noncomputable def ref13_Names_l1 (s1 : Int) (w2 : TSymbol) (s5 : Int) : Option (Unit ⊕ Unit) := loopE (fun s : Int => ref13_Names_l1_s s1 w2 s) s5
theorem ref13_Names_l1_eq (s1 : Int) (w2 : TSymbol) (s5 : Int) : ref13_Names_l1 s1 w2 s5 = nextE (ref13_Names_l1_s s1 w2 s5) (fun s : Int => ref13_Names_l1 s1 w2 s) := loopE_eq _ _
noncomputable def ref13_Names (a0 : TSymbol) (a1 : Int) : Option (Bool) :=
  bndE (ref13_Names_l1 a1 a0 0) fun o3 =>
  sumE o3 (fun o4 =>
   some false) (fun o5 =>
   some true)
noncomputable def ref13_bound_l1_s (s3 : Int) (w4 : TQea) (w5 : TSymbol) (s9 : Int) : Option ((Int) ⊕ (Unit ⊕ Unit)) :=
  iteE (decide (s9 < s3)) (
   idxE w4.nodes s9 fun x1 =>
   iteE (decide (x1.op = 2)) (
    idxE w4.nodes s9 fun x2 =>
    bndE (ref13_Names w5 x2.a) fun r3 =>
    iteE (!r3) (
     some (.inr (.inr ()))) (
     some (.inl (intVal .add .i64 s9 1)))) (
    some (.inl (intVal .add .i64 s9 1)))) (
   some (.inr (.inl ())))
noncomputable def ref13_bound_l1 (s3 : Int) (w4 : TQea) (w5 : TSymbol) (s9 : Int) : Option (Unit ⊕ Unit) := loopE (fun s : Int => ref13_bound_l1_s s3 w4 w5 s) s9
theorem ref13_bound_l1_eq (s3 : Int) (w4 : TQea) (w5 : TSymbol) (s9 : Int) : ref13_bound_l1 s3 w4 w5 s9 = nextE (ref13_bound_l1_s s3 w4 w5 s9) (fun s : Int => ref13_bound_l1 s3 w4 w5 s) := loopE_eq _ _
noncomputable def ref13_bound (a0 : TQea) (a1 : TSymbol) (a2 : Int) (a3 : Int) : Option (Bool) :=
  bndE (ref13_bound_l1 a3 a0 a1 a2) fun o4 =>
  sumE o4 (fun o5 =>
   some true) (fun o6 =>
   some false)
noncomputable def ref13_trans_b1 (s2 : Int) (s8 : Int) (s56 : Bool) (w3 : TQea) (w4 : TTrans) : Option (Int ⊕ Unit) :=
  iteE (s56) (
   bndE (ref13_Kind w3 s8 w4.guard) fun r1 =>
   iteE (!decide (r1.1 = 3)) (
    some (.inr ())) (
    iteE (decide (64 < r1.2)) (
     some (.inr ())) (
     some (.inl (intVal .add .i64 w4.guard 1))))) (
   some (.inl s8))
noncomputable def ref13_trans_l3_s (s2 : Int) (s11 : Int) (w3 : TQea) (w4 : TTrans) (w12 : TSet) (s15 : Int) : Option ((Int) ⊕ (Unit ⊕ Unit)) :=
  iteE (decide (s15 < s11)) (
   idxE w4.sets s15 fun x8 =>
   iteE (decide (x8.free = w12.free)) (
    some (.inr (.inr ()))) (
    some (.inl (intVal .add .i64 s15 1)))) (
   some (.inr (.inl ())))
noncomputable def ref13_trans_l3 (s2 : Int) (s11 : Int) (w3 : TQea) (w4 : TTrans) (w12 : TSet) (s15 : Int) : Option (Unit ⊕ Unit) := loopE (fun s : Int => ref13_trans_l3_s s2 s11 w3 w4 w12 s) s15
theorem ref13_trans_l3_eq (s2 : Int) (s11 : Int) (w3 : TQea) (w4 : TTrans) (w12 : TSet) (s15 : Int) : ref13_trans_l3 s2 s11 w3 w4 w12 s15 = nextE (ref13_trans_l3_s s2 s11 w3 w4 w12 s15) (fun s : Int => ref13_trans_l3 s2 s11 w3 w4 w12 s) := loopE_eq _ _
noncomputable def ref13_trans_l2_s (s2 : Int) (w3 : TQea) (w4 : TTrans) (s8 : Int) (s11 : Int) : Option ((Int × Int) ⊕ (Int ⊕ Unit)) :=
  iteE (decide (s11 < (w4.sets.length : Int))) (
   idxE w4.sets s11 fun x5 =>
   bndE (ref13_Kind w3 s8 x5.expr) fun r6 =>
   iteE (decide (x5.free < 0)) (
    some (.inr (.inr ()))) (
    iteE (decide ((w3.frees.length : Int) ≤ x5.free)) (
     some (.inr (.inr ()))) (
     iteE (decide (r6.1 = 0)) (
      some (.inr (.inr ()))) (
      iteE (decide (64 < r6.2)) (
       some (.inr (.inr ()))) (
       idxE w3.frees x5.free fun x7 =>
       iteE (!decide (r6.1 = x7.init_.kind)) (
        some (.inr (.inr ()))) (
        bndE (ref13_trans_l3 s2 s11 w3 w4 x5 0) fun o9 =>
        sumE o9 (fun o10 =>
         some (.inl ((intVal .add .i64 x5.expr 1), (intVal .add .i64 s11 1)))) (fun o11 =>
         some (.inr (.inr ()))))))))) (
   some (.inr (.inl s8)))
noncomputable def ref13_trans_l2 (s2 : Int) (w3 : TQea) (w4 : TTrans) (s8 : Int) (s11 : Int) : Option (Int ⊕ Unit) := loopE (fun s : Int × Int => ref13_trans_l2_s s2 w3 w4 s.1 s.2) (s8, s11)
theorem ref13_trans_l2_eq (s2 : Int) (w3 : TQea) (w4 : TTrans) (s8 : Int) (s11 : Int) : ref13_trans_l2 s2 w3 w4 s8 s11 = nextE (ref13_trans_l2_s s2 w3 w4 s8 s11) (fun s : Int × Int => ref13_trans_l2 s2 w3 w4 s.1 s.2) := loopE_eq _ _
noncomputable def ref13_trans (a0 : TQea) (a1 : TTrans) (a2 : Int) : Option (Int × Bool) :=
  iteE (decide (a1.from_ < 0)) (
   some (0, false)) (
   iteE (decide ((a0.states.length : Int) ≤ a1.from_)) (
    some (0, false)) (
    iteE (decide (a1.to < 0)) (
     some (0, false)) (
     iteE (decide ((a0.states.length : Int) ≤ a1.to)) (
      some (0, false)) (
      iteE (decide (a1.symbol < 0)) (
       some (0, false)) (
       iteE (decide ((a0.symbols.length : Int) ≤ a1.symbol)) (
        some (0, false)) (
        bndE (ref13_trans_b1 a2 a2 (!decide (a1.guard = (-1))) a0 a1) fun o2 =>
        sumE o2 (fun o3 =>
         bndE (ref13_trans_l2 a2 a0 a1 o3 0) fun o12 =>
         sumE o12 (fun o13 =>
          idxE a0.symbols a1.symbol fun x15 =>
          bndE (ref13_bound a0 x15 a2 o13) fun r16 =>
          some (o13, r16)) (fun o14 =>
          some (0, false))) (fun o4 =>
         some (0, false))))))))
noncomputable def ref13_arg (a0 : TQea) (a1 : TArg) (a2 : Int) : Option (Bool) :=
  iteE (decide (a1.kind = 1)) (
   iteE (decide (a1.n = 0)) (
    bndE (ref03_Right a1.value) fun r1 =>
    iteE (r1) (
     some (decide (a1.value.kind = a2))) (
     some false)) (
    some false)) (
   iteE (!(TValue.eqb a1.value (TValue.mk 0 0 ([] : List UInt8) false))) (
    some false) (
    iteE (decide (a1.kind = 2)) (
     iteE (decide (0 ≤ a1.n)) (
      iteE (decide (a1.n < (a0.quants.length : Int))) (
       idxE a0.quants a1.n fun x2 =>
       some (decide (x2.type = a2))) (
       some false)) (
      some false)) (
     iteE (decide (a1.kind = 3)) (
      iteE (decide (0 ≤ a1.n)) (
       iteE (decide (a1.n < (a0.frees.length : Int))) (
        idxE a0.frees a1.n fun x3 =>
        some (decide (x3.init_.kind = a2))) (
        some false)) (
       some false)) (
      iteE (decide (a1.kind = 4)) (
       some (decide (a1.n = 0))) (
       some false)))))
noncomputable def ref13_symbol_l1_s (w2 : TQea) (w3 : TSymbol) (s5 : Int) : Option ((Int) ⊕ (Unit ⊕ Unit)) :=
  iteE (decide (s5 < (w3.args.length : Int))) (
   idxE w3.args s5 fun x2 =>
   idxE w2.decls w3.event fun x3 =>
   idxE x3.types s5 fun x4 =>
   bndE (ref13_arg w2 x2 x4) fun r5 =>
   iteE (!r5) (
    some (.inr (.inr ()))) (
    some (.inl (intVal .add .i64 s5 1)))) (
   some (.inr (.inl ())))
noncomputable def ref13_symbol_l1 (w2 : TQea) (w3 : TSymbol) (s5 : Int) : Option (Unit ⊕ Unit) := loopE (fun s : Int => ref13_symbol_l1_s w2 w3 s) s5
theorem ref13_symbol_l1_eq (w2 : TQea) (w3 : TSymbol) (s5 : Int) : ref13_symbol_l1 w2 w3 s5 = nextE (ref13_symbol_l1_s w2 w3 s5) (fun s : Int => ref13_symbol_l1 w2 w3 s) := loopE_eq _ _
noncomputable def ref13_symbol (a0 : TQea) (a1 : TSymbol) : Option (Bool) :=
  iteE (decide (a1.event < 0)) (
   some false) (
   iteE (decide ((a0.decls.length : Int) ≤ a1.event)) (
    some false) (
    idxE a0.decls a1.event fun x1 =>
    iteE (!decide ((a1.args.length : Int) = (x1.types.length : Int))) (
     some false) (
     bndE (ref13_symbol_l1 a0 a1 0) fun o6 =>
     sumE o6 (fun o7 =>
      some true) (fun o8 =>
      some false))))
noncomputable def ref13_SameSymbol_l1_s (w2 : TSymbol) (w3 : TSymbol) (s5 : Int) : Option ((Int) ⊕ (Unit ⊕ Unit)) :=
  iteE (decide (s5 < (w2.args.length : Int))) (
   idxE w2.args s5 fun x1 =>
   idxE w3.args s5 fun x2 =>
   iteE (!(TArg.eqb x1 x2)) (
    some (.inr (.inr ()))) (
    some (.inl (intVal .add .i64 s5 1)))) (
   some (.inr (.inl ())))
noncomputable def ref13_SameSymbol_l1 (w2 : TSymbol) (w3 : TSymbol) (s5 : Int) : Option (Unit ⊕ Unit) := loopE (fun s : Int => ref13_SameSymbol_l1_s w2 w3 s) s5
theorem ref13_SameSymbol_l1_eq (w2 : TSymbol) (w3 : TSymbol) (s5 : Int) : ref13_SameSymbol_l1 w2 w3 s5 = nextE (ref13_SameSymbol_l1_s w2 w3 s5) (fun s : Int => ref13_SameSymbol_l1 w2 w3 s) := loopE_eq _ _
noncomputable def ref13_SameSymbol (a0 : TSymbol) (a1 : TSymbol) : Option (Bool) :=
  iteE (!decide (a0.event = a1.event)) (
   some false) (
   iteE (!decide ((a0.args.length : Int) = (a1.args.length : Int))) (
    some false) (
    bndE (ref13_SameSymbol_l1 a0 a1 0) fun o3 =>
    sumE o3 (fun o4 =>
     some true) (fun o5 =>
     some false)))
noncomputable def ref13_symbols_b5 (s5 : Int) (s6 : Int) (s34 : Bool) (w1 : TQea) (w3 : List Bool) (w4 : List Int) : Option ((List Int)) :=
  iteE (s34) (
   chkE (fit w4.length [s6].length 8) (
    some (w4 ++ [s6]))) (
   some w4)
noncomputable def ref13_symbols_b4 (s5 : Int) (w1 : TQea) (w3 : List Bool) (w4 : List Int) : Option ((List Bool × List Int)) :=
  idxE w1.trans s5 fun x5 =>
  chkE (0 ≤ x5.symbol ∧ x5.symbol + 1 ≤ (w3.length : Int)) (
   idxE w3 x5.symbol fun x6 =>
   bndE (ref13_symbols_b5 s5 x5.symbol (!x6) w1 w3 w4) fun o7 =>
   chkE (0 ≤ x5.symbol ∧ x5.symbol + 1 ≤ (w3.length : Int)) (
    chkE (0 ≤ x5.symbol ∧ x5.symbol + 1 ≤ (w3.length : Int)) (
     some (w3.set x5.symbol.toNat true, o7))))
noncomputable def ref13_symbols_l1_s (w1 : TQea) (s5 : Int) (w3 : List Bool) (w4 : List Int) : Option ((Int × List Bool × List Int) ⊕ ((List Int))) :=
  iteE (decide (s5 < (w1.trans.length : Int))) (
   bndE (ref13_symbols_b4 s5 w1 w3 w4) fun o8 =>
   some (.inl ((intVal .add .i64 s5 1), o8.1, o8.2))) (
   some (.inr w4))
noncomputable def ref13_symbols_l1 (w1 : TQea) (s5 : Int) (w3 : List Bool) (w4 : List Int) : Option ((List Int)) := loopE (fun s : Int × List Bool × List Int => ref13_symbols_l1_s w1 s.1 s.2.1 s.2.2) (s5, w3, w4)
theorem ref13_symbols_l1_eq (w1 : TQea) (s5 : Int) (w3 : List Bool) (w4 : List Int) : ref13_symbols_l1 w1 s5 w3 w4 = nextE (ref13_symbols_l1_s w1 s5 w3 w4) (fun s : Int × List Bool × List Int => ref13_symbols_l1 w1 s.1 s.2.1 s.2.2) := loopE_eq _ _
noncomputable def ref13_symbols_l6_s (w1 : TQea) (w4 : List Int) (s7 : Int) : Option ((Int) ⊕ (Unit ⊕ Unit)) :=
  iteE (decide (s7 < (w4.length : Int))) (
   idxE w4 s7 fun x10 =>
   iteE (!decide (x10 = (intVal .add .i64 (intVal .sub .i64 (w1.symbols.length : Int) (w4.length : Int)) s7))) (
    some (.inr (.inr ()))) (
    some (.inl (intVal .add .i64 s7 1)))) (
   some (.inr (.inl ())))
noncomputable def ref13_symbols_l6 (w1 : TQea) (w4 : List Int) (s7 : Int) : Option (Unit ⊕ Unit) := loopE (fun s : Int => ref13_symbols_l6_s w1 w4 s) s7
theorem ref13_symbols_l6_eq (w1 : TQea) (w4 : List Int) (s7 : Int) : ref13_symbols_l6 w1 w4 s7 = nextE (ref13_symbols_l6_s w1 w4 s7) (fun s : Int => ref13_symbols_l6 w1 w4 s) := loopE_eq _ _
noncomputable def ref13_symbols_l8_s (s8 : Int) (w1 : TQea) (s9 : Int) : Option ((Int) ⊕ (Unit ⊕ Unit)) :=
  iteE (decide (s9 < s8)) (
   idxE w1.symbols s8 fun x16 =>
   idxE w1.symbols s9 fun x17 =>
   bndE (ref13_SameSymbol x16 x17) fun r18 =>
   iteE (r18) (
    some (.inr (.inr ()))) (
    some (.inl (intVal .add .i64 s9 1)))) (
   some (.inr (.inl ())))
noncomputable def ref13_symbols_l8 (s8 : Int) (w1 : TQea) (s9 : Int) : Option (Unit ⊕ Unit) := loopE (fun s : Int => ref13_symbols_l8_s s8 w1 s) s9
theorem ref13_symbols_l8_eq (s8 : Int) (w1 : TQea) (s9 : Int) : ref13_symbols_l8 s8 w1 s9 = nextE (ref13_symbols_l8_s s8 w1 s9) (fun s : Int => ref13_symbols_l8 s8 w1 s) := loopE_eq _ _
noncomputable def ref13_symbols_l7_s (w1 : TQea) (s8 : Int) : Option ((Int) ⊕ (Unit ⊕ Unit)) :=
  iteE (decide (s8 < (w1.symbols.length : Int))) (
   idxE w1.symbols s8 fun x14 =>
   bndE (ref13_symbol w1 x14) fun r15 =>
   iteE (!r15) (
    some (.inr (.inr ()))) (
    bndE (ref13_symbols_l8 s8 w1 0) fun o19 =>
    sumE o19 (fun o20 =>
     some (.inl (intVal .add .i64 s8 1))) (fun o21 =>
     some (.inr (.inr ()))))) (
   some (.inr (.inl ())))
noncomputable def ref13_symbols_l7 (w1 : TQea) (s8 : Int) : Option (Unit ⊕ Unit) := loopE (fun s : Int => ref13_symbols_l7_s w1 s) s8
theorem ref13_symbols_l7_eq (w1 : TQea) (s8 : Int) : ref13_symbols_l7 w1 s8 = nextE (ref13_symbols_l7_s w1 s8) (fun s : Int => ref13_symbols_l7 w1 s) := loopE_eq _ _
noncomputable def ref13_symbols_l10_s (s10 : Int) (w1 : TQea) (s11 : Bool) (s12 : Int) : Option ((Bool × Int) ⊕ (Bool)) :=
  iteE (decide (s12 < (w1.symbols.length : Int))) (
   iteE (s11) (
    some (.inl (true, (intVal .add .i64 s12 1)))) (
    idxE w1.symbols s12 fun x25 =>
    bndE (ref13_Names x25 s10) fun r26 =>
    some (.inl (r26, (intVal .add .i64 s12 1))))) (
   some (.inr s11))
noncomputable def ref13_symbols_l10 (s10 : Int) (w1 : TQea) (s11 : Bool) (s12 : Int) : Option (Bool) := loopE (fun s : Bool × Int => ref13_symbols_l10_s s10 w1 s.1 s.2) (s11, s12)
theorem ref13_symbols_l10_eq (s10 : Int) (w1 : TQea) (s11 : Bool) (s12 : Int) : ref13_symbols_l10 s10 w1 s11 s12 = nextE (ref13_symbols_l10_s s10 w1 s11 s12) (fun s : Bool × Int => ref13_symbols_l10 s10 w1 s.1 s.2) := loopE_eq _ _
noncomputable def ref13_symbols_l9_s (w1 : TQea) (s10 : Int) : Option ((Int) ⊕ (Unit ⊕ Unit)) :=
  iteE (decide (s10 < (w1.quants.length : Int))) (
   bndE (ref13_symbols_l10 s10 w1 false 0) fun o27 =>
   iteE (!o27) (
    some (.inr (.inr ()))) (
    some (.inl (intVal .add .i64 s10 1)))) (
   some (.inr (.inl ())))
noncomputable def ref13_symbols_l9 (w1 : TQea) (s10 : Int) : Option (Unit ⊕ Unit) := loopE (fun s : Int => ref13_symbols_l9_s w1 s) s10
theorem ref13_symbols_l9_eq (w1 : TQea) (s10 : Int) : ref13_symbols_l9 w1 s10 = nextE (ref13_symbols_l9_s w1 s10) (fun s : Int => ref13_symbols_l9 w1 s) := loopE_eq _ _
noncomputable def ref13_symbols (a0 : TQea) : Option (Bool) :=
  chkE (0 ≤ (a0.symbols.length : Int) ∧ fit 0 (a0.symbols.length : Int).toNat 1) (
   bndE (ref13_symbols_l1 a0 0 (List.replicate (a0.symbols.length : Int).toNat false) ([] : List Int)) fun o9 =>
   bndE (ref13_symbols_l6 a0 o9 0) fun o11 =>
   sumE o11 (fun o12 =>
    bndE (ref13_symbols_l7 a0 0) fun o22 =>
    sumE o22 (fun o23 =>
     bndE (ref13_symbols_l9 a0 0) fun o28 =>
     sumE o28 (fun o29 =>
      some true) (fun o30 =>
      some false)) (fun o24 =>
     some false)) (fun o13 =>
    some false))
noncomputable def ref13_Right_l1_s (w1 : TQea) (s5 : Int) (s6 : Int) : Option ((Int × Int) ⊕ (Int ⊕ Unit)) :=
  iteE (decide (s6 < (w1.trans.length : Int))) (
   idxE w1.trans s6 fun x3 =>
   bndE (ref13_trans w1 x3 s5) fun r4 =>
   iteE (!r4.2) (
    some (.inr (.inr ()))) (
    some (.inl (r4.1, (intVal .add .i64 s6 1))))) (
   some (.inr (.inl s5)))
noncomputable def ref13_Right_l1 (w1 : TQea) (s5 : Int) (s6 : Int) : Option (Int ⊕ Unit) := loopE (fun s : Int × Int => ref13_Right_l1_s w1 s.1 s.2) (s5, s6)
theorem ref13_Right_l1_eq (w1 : TQea) (s5 : Int) (s6 : Int) : ref13_Right_l1 w1 s5 s6 = nextE (ref13_Right_l1_s w1 s5 s6) (fun s : Int × Int => ref13_Right_l1 w1 s.1 s.2) := loopE_eq _ _
noncomputable def ref13_Right (a0 : TQea) : Option (Bool) :=
  bndE (ref07_Check a0.decls) fun r1 =>
  iteE (!decide (r1.1 = 0)) (
   some false) (
   iteE (decide (8 < (a0.quants.length : Int))) (
    some false) (
    iteE (decide (16 < (a0.frees.length : Int))) (
     some false) (
     iteE (decide (32 < (a0.states.length : Int))) (
      some false) (
      iteE (decide (64 < (a0.symbols.length : Int))) (
       some false) (
       iteE (decide (2048 < (a0.nodes.length : Int))) (
        some false) (
        iteE (decide (256 < (a0.trans.length : Int))) (
         some false) (
         iteE (decide (a0.start < 0)) (
          some false) (
          iteE (decide ((a0.states.length : Int) ≤ a0.start)) (
           some false) (
           bndE (ref13_names a0) fun r2 =>
           iteE (!r2) (
            some false) (
            bndE (ref13_Right_l1 a0 0 0) fun o5 =>
            sumE o5 (fun o6 =>
             iteE (decide (o6 = (a0.nodes.length : Int))) (
              bndE (ref13_symbols a0) fun r8 =>
              some r8) (
              some false)) (fun o7 =>
             some false)))))))))))
noncomputable def law20_small_l2_s (s1 : List TEvent) (s5 : Int) (s6 : Int) : Option ((Int) ⊕ (Unit ⊕ Unit)) :=
  idxE s1 s5 fun x4 =>
  iteE (decide (s6 < (x4.args.length : Int))) (
   idxE s1 s5 fun x5 =>
   idxE x5.args s6 fun x6 =>
   iteE (decide (1000 < (x6.str.length : Int))) (
    some (.inr (.inr ()))) (
    some (.inl (intVal .add .i64 s6 1)))) (
   some (.inr (.inl ())))
noncomputable def law20_small_l2 (s1 : List TEvent) (s5 : Int) (s6 : Int) : Option (Unit ⊕ Unit) := loopE (fun s : Int => law20_small_l2_s s1 s5 s) s6
theorem law20_small_l2_eq (s1 : List TEvent) (s5 : Int) (s6 : Int) : law20_small_l2 s1 s5 s6 = nextE (law20_small_l2_s s1 s5 s6) (fun s : Int => law20_small_l2 s1 s5 s) := loopE_eq _ _
noncomputable def law20_small_l1_s (s1 : List TEvent) (s5 : Int) : Option ((Int) ⊕ (Unit ⊕ Unit)) :=
  iteE (decide (s5 < (s1.length : Int))) (
   idxE s1 s5 fun x3 =>
   iteE (decide (12 < (x3.args.length : Int))) (
    some (.inr (.inr ()))) (
    bndE (law20_small_l2 s1 s5 0) fun o7 =>
    sumE o7 (fun o8 =>
     some (.inl (intVal .add .i64 s5 1))) (fun o9 =>
     some (.inr (.inr ()))))) (
   some (.inr (.inl ())))
noncomputable def law20_small_l1 (s1 : List TEvent) (s5 : Int) : Option (Unit ⊕ Unit) := loopE (fun s : Int => law20_small_l1_s s1 s) s5
theorem law20_small_l1_eq (s1 : List TEvent) (s5 : Int) : law20_small_l1 s1 s5 = nextE (law20_small_l1_s s1 s5) (fun s : Int => law20_small_l1 s1 s) := loopE_eq _ _
noncomputable def law20_small (a0 : TQea) (a1 : List TEvent) : Option (Bool) :=
  bndE (ref13_Few a0) fun r1 =>
  iteE (decide (r1 = 0)) (
   some false) (
   iteE (decide (20 < (a1.length : Int))) (
    some false) (
    bndE (ref13_Right a0) fun r2 =>
    iteE (!r2) (
     some false) (
     bndE (law20_small_l1 a1 0) fun o10 =>
     sumE o10 (fun o11 =>
      some true) (fun o12 =>
      some false))))
noncomputable def law20_one (a0 : Int) : Option (TValue) :=
  some (TValue.mk 1 a0 ([] : List UInt8) false)
noncomputable def domain_Many_b3 (s1 : Bool) (s5 : Int) (s8 : Int) (s9 : List (List TValue)) (s10 : Int) (s11 : Int) (s17 : Bool) : Option (Int) :=
  iteE (s17) (
   some (intVal .add .i64 s8 1)) (
   some s8)
noncomputable def domain_Many_b2 (s1 : Bool) (s5 : Int) (s9 : List (List TValue)) (s10 : Int) (s11 : Int) : Option (Int) :=
  idxE s9 s11 fun x1 =>
  bndE (domain_Many_b3 s1 s5 (x1.length : Int) s9 s10 s11 s1) fun o2 =>
  some (minE (intVal .mul .i64 s5 (minE o2 1000000)) 1000000)
noncomputable def domain_Many_l1_s (s1 : Bool) (s9 : List (List TValue)) (s10 : Int) (s5 : Int) (s11 : Int) : Option ((Int × Int) ⊕ (Int)) :=
  iteE (decide (s11 < s10)) (
   bndE (domain_Many_b2 s1 s5 s9 s10 s11) fun o3 =>
   some (.inl (o3, (intVal .add .i64 s11 1)))) (
   some (.inr s5))
noncomputable def domain_Many_l1 (s1 : Bool) (s9 : List (List TValue)) (s10 : Int) (s5 : Int) (s11 : Int) : Option (Int) := loopE (fun s : Int × Int => domain_Many_l1_s s1 s9 s10 s.1 s.2) (s5, s11)
theorem domain_Many_l1_eq (s1 : Bool) (s9 : List (List TValue)) (s10 : Int) (s5 : Int) (s11 : Int) : domain_Many_l1 s1 s9 s10 s5 s11 = nextE (domain_Many_l1_s s1 s9 s10 s5 s11) (fun s : Int × Int => domain_Many_l1 s1 s9 s10 s.1 s.2) := loopE_eq _ _
noncomputable def domain_Many (a0 : List (List TValue)) (a1 : Bool) : Option (Int) :=
  bndE (domain_Many_l1 a1 a0 (a0.length : Int) 1 0) fun o4 =>
  some o4
noncomputable def domain_bindings (a0 : List (List TValue)) (a1 : Int) (a2 : List TSlot) (a3 : Bool) : Option (Int × List (List TValue) × List TSlot × Bool) :=
  some (a1, a0, a2, a3)
def slices_Clone_Slot_Slot (l : List TSlot) : Option (List TSlot) := cloneE 48 l
def slices_Clone_Slot_Slot_v2 (l : List TSlot) : Option (List TSlot) := cloneE 48 l
noncomputable def domain_bindings_1_b3 (self : ∀ ψ : Type, (ψ → (List TSlot) → Option (ψ × Bool)) → Int → (List (List TValue)) → (List TSlot) → Bool → ψ → Option ψ) {φ : Type} (step : φ → (List TSlot) → Option (φ × Bool)) (f0 : φ) (s1 : Int) (s2 : List (List TValue)) (s3 : List TSlot) (s4 : Bool) (s25_1 : Int) (s25_2 : List (List TValue)) (s25_3 : List TSlot) (s25_4 : Bool) (s26 : List TSlot) (w998_1 : Int) (w998_2 : List (List TValue)) (w998_3 : List TSlot) (w998_4 : Bool) (w998_5 : Int) (w998_6 : List (List TValue)) (w998_7 : List TSlot) (w998_8 : Bool) : Option (Unit) :=
  some ()
noncomputable def domain_bindings_1_b5 (self : ∀ ψ : Type, (ψ → (List TSlot) → Option (ψ × Bool)) → Int → (List (List TValue)) → (List TSlot) → Bool → ψ → Option ψ) {φ : Type} (step : φ → (List TSlot) → Option (φ × Bool)) (f0 : φ) (s1 : Int) (s2 : List (List TValue)) (s3 : List TSlot) (s4 : Bool) (s6 : List TSlot) (s25_1 : Int) (s25_2 : List (List TValue)) (s25_3 : List TSlot) (s25_4 : Bool) (w998_1 : Int) (w998_2 : List (List TValue)) (w998_3 : List TSlot) (w998_4 : Bool) (w998_5 : Int) (w998_6 : List (List TValue)) (w998_7 : List TSlot) (w998_8 : Bool) : Option (φ ⊕ φ) :=
  yldE (step f0 s6) (fun f10 =>
   some (.inl f10)) (fun f11 =>
   some (.inr f11))
noncomputable def domain_bindings_1_r2_rd (self : ∀ ψ : Type, (ψ → (List TSlot) → Option (ψ × Bool)) → Int → (List (List TValue)) → (List TSlot) → Bool → ψ → Option ψ) {φ : Type} (step : φ → (List TSlot) → Option (φ × Bool)) (s1 : Int) (s2 : List (List TValue)) (s3 : List TSlot) (s4 : Bool) (s25_1 : Int) (s25_2 : List (List TValue)) (s25_3 : List TSlot) (s25_4 : Bool) (s : φ) (x : (List TSlot)) : Option ((φ) ⊕ (φ)) :=
  bndE (domain_bindings_1_b3 self step s s1 s2 s3 s4 s25_1 s25_2 s25_3 s25_4 x s1 s2 s3 s4 s25_1 s25_2 s25_3 s25_4) fun o9 =>
  bndE (domain_bindings_1_b5 self step s s1 s2 s3 s4 x s25_1 s25_2 s25_3 s25_4 s1 s2 s3 s4 s25_1 s25_2 s25_3 s25_4) fun o12 =>
  sumE o12 (fun o37 =>
   some (.inl o37)) (fun o38 =>
   some (.inr o38))
noncomputable def domain_bindings_1_b1 (self : ∀ ψ : Type, (ψ → (List TSlot) → Option (ψ × Bool)) → Int → (List (List TValue)) → (List TSlot) → Bool → ψ → Option ψ) {φ : Type} (step : φ → (List TSlot) → Option (φ × Bool)) (f0 : φ) (s1 : Int) (s2 : List (List TValue)) (s3 : List TSlot) (s4 : Bool) (s19 : Bool) : Option (φ ⊕ φ) :=
  iteE (s19) (
   bndE (domain_bindings s2 (intVal .add .i64 s1 1) s3 s4) fun r4 =>
   bndE (self _ (stepOf (domain_bindings_1_r2_rd self step s1 s2 s3 s4 r4.1 r4.2.1 r4.2.2.1 r4.2.2.2)) r4.1 r4.2.1 r4.2.2.1 r4.2.2.2 (.inl f0)) fun o13 =>
   sumE o13 (fun o14 =>
    some (.inl o14)) (fun o15 =>
    some (.inr o15))) (
   some (.inl f0))
noncomputable def domain_bindings_1_b8 (self : ∀ ψ : Type, (ψ → (List TSlot) → Option (ψ × Bool)) → Int → (List (List TValue)) → (List TSlot) → Bool → ψ → Option ψ) {φ : Type} (step : φ → (List TSlot) → Option (φ × Bool)) (f0 : φ) (s1 : Int) (s2 : List (List TValue)) (s3 : List TSlot) (s4 : Bool) (s34 : List TValue) (s35 : Int) (s36 : Int) (s52_1 : Int) (s52_2 : List (List TValue)) (s52_3 : List TSlot) (s52_4 : Bool) (s53 : List TSlot) (w998_1 : Int) (w998_2 : List (List TValue)) (w998_3 : List TSlot) (w998_4 : Bool) (w998_5 : List TValue) (w998_6 : Int) (w998_7 : Int) (w998_8 : Int) (w998_9 : List (List TValue)) (w998_10 : List TSlot) (w998_11 : Bool) : Option (Unit) :=
  some ()
noncomputable def domain_bindings_1_b10 (self : ∀ ψ : Type, (ψ → (List TSlot) → Option (ψ × Bool)) → Int → (List (List TValue)) → (List TSlot) → Bool → ψ → Option ψ) {φ : Type} (step : φ → (List TSlot) → Option (φ × Bool)) (f0 : φ) (s1 : Int) (s2 : List (List TValue)) (s3 : List TSlot) (s4 : Bool) (s10 : List TSlot) (s34 : List TValue) (s35 : Int) (s36 : Int) (s52_1 : Int) (s52_2 : List (List TValue)) (s52_3 : List TSlot) (s52_4 : Bool) (w998_1 : Int) (w998_2 : List (List TValue)) (w998_3 : List TSlot) (w998_4 : Bool) (w998_5 : List TValue) (w998_6 : Int) (w998_7 : Int) (w998_8 : Int) (w998_9 : List (List TValue)) (w998_10 : List TSlot) (w998_11 : Bool) : Option (φ ⊕ φ) :=
  yldE (step f0 s10) (fun f28 =>
   some (.inl f28)) (fun f29 =>
   some (.inr f29))
noncomputable def domain_bindings_1_r7_rd (self : ∀ ψ : Type, (ψ → (List TSlot) → Option (ψ × Bool)) → Int → (List (List TValue)) → (List TSlot) → Bool → ψ → Option ψ) {φ : Type} (step : φ → (List TSlot) → Option (φ × Bool)) (s1 : Int) (s2 : List (List TValue)) (s3 : List TSlot) (s4 : Bool) (s34 : List TValue) (s35 : Int) (s36 : Int) (s52_1 : Int) (s52_2 : List (List TValue)) (s52_3 : List TSlot) (s52_4 : Bool) (s : φ) (x : (List TSlot)) : Option ((φ) ⊕ (φ)) :=
  bndE (domain_bindings_1_b8 self step s s1 s2 s3 s4 s34 s35 s36 s52_1 s52_2 s52_3 s52_4 x s1 s2 s3 s4 s34 s35 s36 s52_1 s52_2 s52_3 s52_4) fun o27 =>
  bndE (domain_bindings_1_b10 self step s s1 s2 s3 s4 x s34 s35 s36 s52_1 s52_2 s52_3 s52_4 s1 s2 s3 s4 s34 s35 s36 s52_1 s52_2 s52_3 s52_4) fun o30 =>
  sumE o30 (fun o39 =>
   some (.inl o39)) (fun o40 =>
   some (.inr o40))
noncomputable def domain_bindings_1_l6_s (self : ∀ ψ : Type, (ψ → (List TSlot) → Option (ψ × Bool)) → Int → (List (List TValue)) → (List TSlot) → Bool → ψ → Option ψ) {φ : Type} (step : φ → (List TSlot) → Option (φ × Bool)) (s1 : Int) (s2 : List (List TValue)) (s3 : List TSlot) (s4 : Bool) (s34 : List TValue) (s35 : Int) (f0 : φ) (s36 : Int) : Option ((φ × Int) ⊕ (φ ⊕ φ)) :=
  iteE (decide (s36 < s35)) (
   idxE s34 s36 fun x20 =>
   bndE (slices_Clone_Slot_Slot_v2 s3) fun r21 =>
   chkE (fit r21.length [TSlot.mk s1 x20].length 48) (
    bndE (domain_bindings s2 (intVal .add .i64 s1 1) (r21 ++ [TSlot.mk s1 x20]) s4) fun r22 =>
    bndE (self _ (stepOf (domain_bindings_1_r7_rd self step s1 s2 s3 s4 s34 s35 s36 r22.1 r22.2.1 r22.2.2.1 r22.2.2.2)) r22.1 r22.2.1 r22.2.2.1 r22.2.2.2 (.inl f0)) fun o31 =>
    sumE o31 (fun o32 =>
     some (.inl (o32, (intVal .add .i64 s36 1)))) (fun o33 =>
     some (.inr (.inr o33))))) (
   some (.inr (.inl f0)))
noncomputable def domain_bindings_1_l6 (self : ∀ ψ : Type, (ψ → (List TSlot) → Option (ψ × Bool)) → Int → (List (List TValue)) → (List TSlot) → Bool → ψ → Option ψ) {φ : Type} (step : φ → (List TSlot) → Option (φ × Bool)) (s1 : Int) (s2 : List (List TValue)) (s3 : List TSlot) (s4 : Bool) (s34 : List TValue) (s35 : Int) (f0 : φ) (s36 : Int) : Option (φ ⊕ φ) := loopE (fun s : φ × Int => domain_bindings_1_l6_s self step s1 s2 s3 s4 s34 s35 s.1 s.2) (f0, s36)
theorem domain_bindings_1_l6_eq (self : ∀ ψ : Type, (ψ → (List TSlot) → Option (ψ × Bool)) → Int → (List (List TValue)) → (List TSlot) → Bool → ψ → Option ψ) {φ : Type} (step : φ → (List TSlot) → Option (φ × Bool)) (s1 : Int) (s2 : List (List TValue)) (s3 : List TSlot) (s4 : Bool) (s34 : List TValue) (s35 : Int) (f0 : φ) (s36 : Int) : domain_bindings_1_l6 self step s1 s2 s3 s4 s34 s35 f0 s36 = nextE (domain_bindings_1_l6_s self step s1 s2 s3 s4 s34 s35 f0 s36) (fun s : φ × Int => domain_bindings_1_l6 self step s1 s2 s3 s4 s34 s35 s.1 s.2) := loopE_eq _ _
noncomputable def domain_bindings_1_F (self : ∀ ψ : Type, (ψ → (List TSlot) → Option (ψ × Bool)) → Int → (List (List TValue)) → (List TSlot) → Bool → ψ → Option ψ) {φ : Type} (step : φ → (List TSlot) → Option (φ × Bool)) (a1 : Int) (a2 : List (List TValue)) (a3 : List TSlot) (a4 : Bool) (f0 : φ) : Option φ :=
  iteE (decide (a1 = (a2.length : Int))) (
   bndE (slices_Clone_Slot_Slot a3) fun r1 =>
   yldE (step f0 r1) (fun f2 =>
    some f2) (fun f3 =>
    some f3)) (
   bndE (domain_bindings_1_b1 self step f0 a1 a2 a3 a4 a4) fun o16 =>
   sumE o16 (fun o17 =>
    idxE a2 a1 fun x19 =>
    bndE (domain_bindings_1_l6 self step a1 a2 a3 a4 x19 (x19.length : Int) o17 0) fun o34 =>
    sumE o34 (fun o35 =>
     some o35) (fun o36 =>
     some o36)) (fun o18 =>
    some o18))
noncomputable def domain_bindings_1_n : Nat → ∀ ψ : Type, (ψ → (List TSlot) → Option (ψ × Bool)) → Int → (List (List TValue)) → (List TSlot) → Bool → ψ → Option ψ
  | 0 => fun _ _ _ _ _ _ _  => none
  | n + 1 => fun _ step a1 a2 a3 a4 f0 => domain_bindings_1_F (domain_bindings_1_n n) step a1 a2 a3 a4 f0
noncomputable def domain_bindings_1 {φ : Type} (step : φ → (List TSlot) → Option (φ × Bool)) (a1 : Int) (a2 : List (List TValue)) (a3 : List TSlot) (a4 : Bool) (f0 : φ) : Option φ := domain_bindings_1_n 100000 _ step a1 a2 a3 a4 f0
noncomputable def slices_AppendSeq_Slot_Slot_b4 (s6_1 : Int) (s6_2 : List (List TValue)) (s6_3 : List TSlot) (s6_4 : Bool) (s7 : List TSlot) (w600 : List (List TSlot)) (w998_1 : Int) (w998_2 : List (List TValue)) (w998_3 : List TSlot) (w998_4 : Bool) : Option (Unit) :=
  some ()
noncomputable def slices_AppendSeq_Slot_Slot_b6 (s5 : List TSlot) (s6_1 : Int) (s6_2 : List (List TValue)) (s6_3 : List TSlot) (s6_4 : Bool) (w600 : List (List TSlot)) (w998_1 : Int) (w998_2 : List (List TValue)) (w998_3 : List TSlot) (w998_4 : Bool) : Option (Unit) :=
  chkE (fit w600.length [s5].length 24) (
   some ())
noncomputable def slices_AppendSeq_Slot_Slot_r1_rd (s6_1 : Int) (s6_2 : List (List TValue)) (s6_3 : List TSlot) (s6_4 : Bool) (s : List (List TSlot)) (x : (List TSlot)) : Option ((List (List TSlot)) ⊕ (Empty)) :=
  bndE (slices_AppendSeq_Slot_Slot_b4 s6_1 s6_2 s6_3 s6_4 x s s6_1 s6_2 s6_3 s6_4) fun o5 =>
  bndE (slices_AppendSeq_Slot_Slot_b6 x s6_1 s6_2 s6_3 s6_4 s s6_1 s6_2 s6_3 s6_4) fun o6 =>
  some (.inl (s ++ [x]))
noncomputable def slices_AppendSeq_Slot_Slot (a1_1 : Int) (a1_2 : List (List TValue)) (a1_3 : List TSlot) (a1_4 : Bool) : Option (List (List TSlot)) :=
  bndE (domain_bindings_1 (stepOf (slices_AppendSeq_Slot_Slot_r1_rd a1_1 a1_2 a1_3 a1_4)) a1_1 a1_2 a1_3 a1_4 (.inl ([] : List (List TSlot)))) fun o7 =>
  sumE o7 (fun o8 =>
   some o8) (fun o9 =>
   none)
noncomputable def slices_Collect_Slot (a0_1 : Int) (a0_2 : List (List TValue)) (a0_3 : List TSlot) (a0_4 : Bool) : Option (List (List TSlot)) :=
  bndE (slices_AppendSeq_Slot_Slot a0_1 a0_2 a0_3 a0_4) fun r1 =>
  some r1
noncomputable def domain_list (a0 : List (List TValue)) (a1 : Bool) : Option (List (List TSlot)) :=
  bndE (domain_Many a0 a1) fun r1 =>
  iteE (decide (65536 < r1)) (
   some ([] : List (List TSlot))) (
   iteE (decide (8 < (a0.length : Int))) (
    some ([] : List (List TSlot))) (
    bndE (domain_bindings a0 0 ([] : List TSlot) a1) fun r2 =>
    bndE (slices_Collect_Slot r2.1 r2.2.1 r2.2.2.1 r2.2.2.2) fun r3 =>
    some r3))
noncomputable def domain_Full (a0 : List (List TValue)) : Option (List (List TSlot)) :=
  bndE (domain_list a0 false) fun r1 =>
  some r1
noncomputable def domain_Parts (a0 : List (List TValue)) : Option (List (List TSlot)) :=
  bndE (domain_list a0 true) fun r1 =>
  some r1
noncomputable def law20_awake : Option (Bool) :=
  bndE (law20_one 5) fun r1 =>
  bndE (law20_one 6) fun r2 =>
  bndE (law20_one 7) fun r3 =>
  bndE (domain_Full ([[r1, r2], [r3]])) fun r4 =>
  iteE (decide ((r4.length : Int) = 2)) (
   bndE (domain_Parts ([[r1, r2], [r3]])) fun r5 =>
   iteE (decide ((r5.length : Int) = 6)) (
    bndE (domain_Many ([[r1, r2], [r3]]) true) fun r6 =>
    some (decide (r6 = 6))) (
    some false)) (
   some false)
noncomputable def match_hits (a0 : TQea) (a1 : TEvent) : Option (TQea × TEvent) :=
  some (a0, a1)
noncomputable def schema_Find_1 (a0 : TDecl) (a1 : List UInt8) : Option (Bool) :=
  some (decide (a0.name = a1))
noncomputable def slices_IndexFunc_Decl_Decl_l1_s (s0 : List TDecl) (s1 : List UInt8) (s7 : Int) (s8 : Int) : Option ((Int) ⊕ (Unit ⊕ Int)) :=
  iteE (decide (s8 < s7)) (
   idxE s0 s8 fun x1 =>
   bndE (schema_Find_1 x1 s1) fun r2 =>
   iteE (r2) (
    some (.inr (.inr s8))) (
    some (.inl (intVal .add .i64 s8 1)))) (
   some (.inr (.inl ())))
noncomputable def slices_IndexFunc_Decl_Decl_l1 (s0 : List TDecl) (s1 : List UInt8) (s7 : Int) (s8 : Int) : Option (Unit ⊕ Int) := loopE (fun s : Int => slices_IndexFunc_Decl_Decl_l1_s s0 s1 s7 s) s8
theorem slices_IndexFunc_Decl_Decl_l1_eq (s0 : List TDecl) (s1 : List UInt8) (s7 : Int) (s8 : Int) : slices_IndexFunc_Decl_Decl_l1 s0 s1 s7 s8 = nextE (slices_IndexFunc_Decl_Decl_l1_s s0 s1 s7 s8) (fun s : Int => slices_IndexFunc_Decl_Decl_l1 s0 s1 s7 s) := loopE_eq _ _
noncomputable def slices_IndexFunc_Decl_Decl (a0 : List TDecl) (a1 : List UInt8) : Option (Int) :=
  bndE (slices_IndexFunc_Decl_Decl_l1 a0 a1 (a0.length : Int) 0) fun o3 =>
  sumE o3 (fun o4 =>
   some (-1)) (fun o5 =>
   some o5)
noncomputable def schema_Find (a0 : List TDecl) (a1 : List UInt8) : Option (Int × Bool) :=
  bndE (slices_IndexFunc_Decl_Decl a0 a1) fun r1 =>
  some ((maxE r1 0), decide (0 ≤ r1))
noncomputable def value_Int (a0 : Int) : Option (TValue) :=
  some (TValue.mk 1 a0 ([] : List UInt8) false)
noncomputable def value_Str (a0 : List UInt8) : Option (TValue) :=
  some (TValue.mk 2 0 a0 false)
noncomputable def value_Bool (a0 : Bool) : Option (TValue) :=
  some (TValue.mk 3 0 ([] : List UInt8) a0)
noncomputable def value_Right (a0 : TValue) : Option (Bool) :=
  iteE (decide (a0.kind = 1)) (
   bndE (value_Int a0.int) fun r1 =>
   some (TValue.eqb a0 r1)) (
   iteE (decide (a0.kind = 2)) (
    bndE (value_Str a0.str) fun r2 =>
    iteE ((TValue.eqb a0 r2)) (
     some (decide ((a0.str.length : Int) ≤ 4096))) (
     some false)) (
    iteE (decide (a0.kind = 3)) (
     bndE (value_Bool a0.bool) fun r3 =>
     some (TValue.eqb a0 r3)) (
     some false)))
noncomputable def event_Right_1 (a0 : TValue) (a1 : Int) : Option (Bool) :=
  iteE (decide (a0.kind = a1)) (
   bndE (value_Right a0) fun r1 =>
   some r1) (
   some false)
noncomputable def slices_EqualFunc_Value_int_Value_int_l1_s (s1 : List Int) (s15 : List TValue) (s16 : Int) (s17 : Int) : Option ((Int) ⊕ (Unit ⊕ Unit)) :=
  iteE (decide (s17 < s16)) (
   idxE s15 s17 fun x1 =>
   idxE s1 s17 fun x2 =>
   bndE (event_Right_1 x1 x2) fun r3 =>
   iteE (!r3) (
    some (.inr (.inr ()))) (
    some (.inl (intVal .add .i64 s17 1)))) (
   some (.inr (.inl ())))
noncomputable def slices_EqualFunc_Value_int_Value_int_l1 (s1 : List Int) (s15 : List TValue) (s16 : Int) (s17 : Int) : Option (Unit ⊕ Unit) := loopE (fun s : Int => slices_EqualFunc_Value_int_Value_int_l1_s s1 s15 s16 s) s17
theorem slices_EqualFunc_Value_int_Value_int_l1_eq (s1 : List Int) (s15 : List TValue) (s16 : Int) (s17 : Int) : slices_EqualFunc_Value_int_Value_int_l1 s1 s15 s16 s17 = nextE (slices_EqualFunc_Value_int_Value_int_l1_s s1 s15 s16 s17) (fun s : Int => slices_EqualFunc_Value_int_Value_int_l1 s1 s15 s16 s) := loopE_eq _ _
noncomputable def slices_EqualFunc_Value_int_Value_int (a0 : List TValue) (a1 : List Int) : Option (Bool) :=
  iteE (!decide ((a0.length : Int) = (a1.length : Int))) (
   some false) (
   bndE (slices_EqualFunc_Value_int_Value_int_l1 a1 a0 (a0.length : Int) 0) fun o4 =>
   sumE o4 (fun o5 =>
    some true) (fun o6 =>
    some false))
noncomputable def event_Right (a0 : List TDecl) (a1 : TEvent) : Option (Bool) :=
  bndE (schema_Find a0 a1.name) fun r1 =>
  iteE (!r1.2) (
   some false) (
   idxE a0 r1.1 fun x2 =>
   bndE (slices_EqualFunc_Value_int_Value_int a1.args x2.types) fun r3 =>
   some r3)
noncomputable def match_slots_put_1 (a0 : TSlot) (a1 : Int) : Option (Int) :=
  some (intVal .sub .i64 a0.var a1)
noncomputable def slices_BinarySearchFunc_Slot_Slot_int_b3 (s0 : List TSlot) (s1 : Int) (s8 : Int) (s9 : Int) (s10 : Int) (s11 : Int) (s31 : Bool) : Option ((Int × Int)) :=
  iteE (s31) (
   some ((intVal .add .i64 s11 1), s10)) (
   some (s9, s11))
noncomputable def slices_BinarySearchFunc_Slot_Slot_int_b2 (s0 : List TSlot) (s1 : Int) (s8 : Int) (s9 : Int) (s10 : Int) : Option ((Int × Int)) :=
  idxE s0 (IntKind.wrap .i64 (intVal .shr .u64 (IntKind.wrap .u64 (intVal .add .i64 s9 s10)) 1)) fun x1 =>
  bndE (match_slots_put_1 x1 s1) fun r2 =>
  bndE (slices_BinarySearchFunc_Slot_Slot_int_b3 s0 s1 s8 s9 s10 (IntKind.wrap .i64 (intVal .shr .u64 (IntKind.wrap .u64 (intVal .add .i64 s9 s10)) 1)) (decide (r2 < 0))) fun o3 =>
  some (o3.1, o3.2)
noncomputable def slices_BinarySearchFunc_Slot_Slot_int_l1_s (s0 : List TSlot) (s1 : Int) (s8 : Int) (s9 : Int) (s10 : Int) : Option ((Int × Int) ⊕ (Int)) :=
  iteE (decide (s9 < s10)) (
   bndE (slices_BinarySearchFunc_Slot_Slot_int_b2 s0 s1 s8 s9 s10) fun o4 =>
   some (.inl (o4.1, o4.2))) (
   some (.inr s9))
noncomputable def slices_BinarySearchFunc_Slot_Slot_int_l1 (s0 : List TSlot) (s1 : Int) (s8 : Int) (s9 : Int) (s10 : Int) : Option (Int) := loopE (fun s : Int × Int => slices_BinarySearchFunc_Slot_Slot_int_l1_s s0 s1 s8 s.1 s.2) (s9, s10)
theorem slices_BinarySearchFunc_Slot_Slot_int_l1_eq (s0 : List TSlot) (s1 : Int) (s8 : Int) (s9 : Int) (s10 : Int) : slices_BinarySearchFunc_Slot_Slot_int_l1 s0 s1 s8 s9 s10 = nextE (slices_BinarySearchFunc_Slot_Slot_int_l1_s s0 s1 s8 s9 s10) (fun s : Int × Int => slices_BinarySearchFunc_Slot_Slot_int_l1 s0 s1 s8 s.1 s.2) := loopE_eq _ _
noncomputable def slices_BinarySearchFunc_Slot_Slot_int (a0 : List TSlot) (a1 : Int) : Option (Int × Bool) :=
  bndE (slices_BinarySearchFunc_Slot_Slot_int_l1 a0 a1 (a0.length : Int) 0 (a0.length : Int)) fun o5 =>
  iteE (decide (o5 < (a0.length : Int))) (
   idxE a0 o5 fun x6 =>
   bndE (match_slots_put_1 x6 a1) fun r7 =>
   some (o5, decide (r7 = 0))) (
   some (o5, false))
def slices_Insert_Slot_Slot (i : Int) (ys : List TSlot) : Option (List TSlot) := insN 48 i ys
noncomputable def match_slots_put_v2 (a1 : TSlot) : Option (Bool × List TSlot) :=
  bndE (slices_BinarySearchFunc_Slot_Slot_int ([] : List TSlot) a1.var) fun r1 =>
  iteE (r1.2) (
   idxE ([] : List TSlot) r1.1 fun x2 =>
   some ((TSlot.eqb x2 a1), ([] : List TSlot))) (
   bndE (slices_Insert_Slot_Slot r1.1 [a1]) fun r3 =>
   some (true, r3))
def slices_Insert_Slot_Slot_v2 (i : Int) (xs ys : List TSlot) : Option (List TSlot) := insE 48 i xs ys
noncomputable def match_slots_put_v3 (a1 : TSlot) (w1 : List TSlot) : Option (Bool × List TSlot) :=
  bndE (slices_BinarySearchFunc_Slot_Slot_int w1 a1.var) fun r1 =>
  iteE (r1.2) (
   chkE (0 ≤ r1.1 ∧ r1.1 + 1 ≤ (w1.length : Int)) (
    idxE w1 r1.1 fun x2 =>
    some ((TSlot.eqb x2 a1), w1))) (
   bndE (slices_Insert_Slot_Slot_v2 r1.1 w1 [a1]) fun r3 =>
   some (true, r3))
noncomputable def match_fit_v2_l1_s (s13 : List TArg) (s14 : Int) (w5 : TEvent) (s15 : Int) (w600 : List TSlot) (w601 : List TSlot) : Option ((Int × List TSlot × List TSlot) ⊕ ((List TSlot × List TSlot) ⊕ (List TSlot × List TSlot))) :=
  iteE (decide (s15 < s14)) (
   idxE s13 s15 fun x9 =>
   idxE w5.args s15 fun x10 =>
   iteE (decide (x9.kind = 1)) (
    iteE (!(TValue.eqb x9.value ((TSlot.mk x9.n x10).value))) (
     some (.inr (.inr (w600, w601)))) (
     iteE (decide (x9.kind = 2)) (
      bndE (match_slots_put_v3 (TSlot.mk x9.n x10) w600) fun r11 =>
      iteE (!r11.1) (
       some (.inr (.inr (r11.2, w601)))) (
       iteE (decide (x9.kind = 3)) (
        bndE (match_slots_put_v3 (TSlot.mk x9.n x10) w601) fun r12 =>
        iteE (!r12.1) (
         some (.inr (.inr (r11.2, r12.2)))) (
         some (.inl ((intVal .add .i64 s15 1), r11.2, r12.2)))) (
        some (.inl ((intVal .add .i64 s15 1), r11.2, w601))))) (
      iteE (decide (x9.kind = 3)) (
       bndE (match_slots_put_v3 (TSlot.mk x9.n x10) w601) fun r13 =>
       iteE (!r13.1) (
        some (.inr (.inr (w600, r13.2)))) (
        some (.inl ((intVal .add .i64 s15 1), w600, r13.2)))) (
       some (.inl ((intVal .add .i64 s15 1), w600, w601)))))) (
    iteE (decide (x9.kind = 2)) (
     bndE (match_slots_put_v3 (TSlot.mk x9.n x10) w600) fun r14 =>
     iteE (!r14.1) (
      some (.inr (.inr (r14.2, w601)))) (
      iteE (decide (x9.kind = 3)) (
       bndE (match_slots_put_v3 (TSlot.mk x9.n x10) w601) fun r15 =>
       iteE (!r15.1) (
        some (.inr (.inr (r14.2, r15.2)))) (
        some (.inl ((intVal .add .i64 s15 1), r14.2, r15.2)))) (
       some (.inl ((intVal .add .i64 s15 1), r14.2, w601))))) (
     iteE (decide (x9.kind = 3)) (
      bndE (match_slots_put_v3 (TSlot.mk x9.n x10) w601) fun r16 =>
      iteE (!r16.1) (
       some (.inr (.inr (w600, r16.2)))) (
       some (.inl ((intVal .add .i64 s15 1), w600, r16.2)))) (
      some (.inl ((intVal .add .i64 s15 1), w600, w601)))))) (
   some (.inr (.inl (w600, w601))))
noncomputable def match_fit_v2_l1 (s13 : List TArg) (s14 : Int) (w5 : TEvent) (s15 : Int) (w600 : List TSlot) (w601 : List TSlot) : Option ((List TSlot × List TSlot) ⊕ (List TSlot × List TSlot)) := loopE (fun s : Int × List TSlot × List TSlot => match_fit_v2_l1_s s13 s14 w5 s.1 s.2.1 s.2.2) (s15, w600, w601)
theorem match_fit_v2_l1_eq (s13 : List TArg) (s14 : Int) (w5 : TEvent) (s15 : Int) (w600 : List TSlot) (w601 : List TSlot) : match_fit_v2_l1 s13 s14 w5 s15 w600 w601 = nextE (match_fit_v2_l1_s s13 s14 w5 s15 w600 w601) (fun s : Int × List TSlot × List TSlot => match_fit_v2_l1 s13 s14 w5 s.1 s.2.1 s.2.2) := loopE_eq _ _
noncomputable def match_fit_v2 (a0 : TSymbol) (a1 : TEvent) : Option (Bool × List TSlot × List TSlot) :=
  bndE (match_fit_v2_l1 a0.args (a0.args.length : Int) a1 0 ([] : List TSlot) ([] : List TSlot)) fun o17 =>
  sumE o17 (fun o18 =>
   some (true, o18.1, o18.2)) (fun o19 =>
   some (false, o19.1, o19.2))
noncomputable def match_one (a0 : TQea) (a1 : Int) (a2 : TEvent) : Option (THit × Bool) :=
  idxE a0.symbols a1 fun x1 =>
  idxE a0.decls x1.event fun x2 =>
  iteE (!decide (x2.name = a2.name)) (
   some (THit.mk 0 ([] : List TSlot) ([] : List TSlot), false)) (
   bndE (match_fit_v2 x1 a2) fun r3 =>
   iteE (!r3.1) (
    some (THit.mk 0 ([] : List TSlot) ([] : List TSlot), false)) (
    some (THit.mk a1 r3.2.1 r3.2.2, true)))
noncomputable def match_hits_1_l1_s {φ : Type} (step : φ → THit → Option (φ × Bool)) (s1 : TQea) (s2 : TEvent) (s14 : Int) (f0 : φ) (s15 : Int) : Option ((φ × Int) ⊕ (φ ⊕ φ)) :=
  iteE (decide (s15 < s14)) (
   bndE (match_one s1 s15 s2) fun r2 =>
   iteE (r2.2) (
    yldE (step f0 r2.1) (fun f3 =>
     some (.inl (f3, (intVal .add .i64 s15 1)))) (fun f4 =>
     some (.inr (.inr f4)))) (
    some (.inl (f0, (intVal .add .i64 s15 1))))) (
   some (.inr (.inl f0)))
noncomputable def match_hits_1_l1 {φ : Type} (step : φ → THit → Option (φ × Bool)) (s1 : TQea) (s2 : TEvent) (s14 : Int) (f0 : φ) (s15 : Int) : Option (φ ⊕ φ) := loopE (fun s : φ × Int => match_hits_1_l1_s step s1 s2 s14 s.1 s.2) (f0, s15)
theorem match_hits_1_l1_eq {φ : Type} (step : φ → THit → Option (φ × Bool)) (s1 : TQea) (s2 : TEvent) (s14 : Int) (f0 : φ) (s15 : Int) : match_hits_1_l1 step s1 s2 s14 f0 s15 = nextE (match_hits_1_l1_s step s1 s2 s14 f0 s15) (fun s : φ × Int => match_hits_1_l1 step s1 s2 s14 s.1 s.2) := loopE_eq _ _
noncomputable def match_hits_1 {φ : Type} (step : φ → THit → Option (φ × Bool)) (a1 : TQea) (a2 : TEvent) (f0 : φ) : Option φ :=
  bndE (event_Right a1.decls a2) fun r1 =>
  iteE (!r1) (
   some f0) (
   bndE (match_hits_1_l1 step a1 a2 (a1.symbols.length : Int) f0 0) fun o5 =>
   sumE o5 (fun o6 =>
    some o6) (fun o7 =>
    some o7))
noncomputable def slices_AppendSeq_Hit_Hit_b4 (s6_1 : TQea) (s6_2 : TEvent) (s7 : THit) (w600 : List THit) (w998_1 : TQea) (w998_2 : TEvent) : Option (Unit) :=
  some ()
noncomputable def slices_AppendSeq_Hit_Hit_b6 (s6_1 : TQea) (s6_2 : TEvent) (w5 : THit) (w600 : List THit) (w998_1 : TQea) (w998_2 : TEvent) : Option (Unit) :=
  chkE (fit w600.length [w5].length 56) (
   some ())
noncomputable def slices_AppendSeq_Hit_Hit_r1_rd (s6_1 : TQea) (s6_2 : TEvent) (s : List THit) (x : THit) : Option ((List THit) ⊕ (Empty)) :=
  bndE (slices_AppendSeq_Hit_Hit_b4 s6_1 s6_2 x s s6_1 s6_2) fun o5 =>
  bndE (slices_AppendSeq_Hit_Hit_b6 s6_1 s6_2 x s s6_1 s6_2) fun o6 =>
  some (.inl (s ++ [x]))
noncomputable def slices_AppendSeq_Hit_Hit (a1_1 : TQea) (a1_2 : TEvent) : Option (List THit) :=
  bndE (match_hits_1 (stepOf (slices_AppendSeq_Hit_Hit_r1_rd a1_1 a1_2)) a1_1 a1_2 (.inl ([] : List THit))) fun o7 =>
  sumE o7 (fun o8 =>
   some o8) (fun o9 =>
   none)
noncomputable def slices_Collect_Hit (a0_1 : TQea) (a0_2 : TEvent) : Option (List THit) :=
  bndE (slices_AppendSeq_Hit_Hit a0_1 a0_2) fun r1 =>
  some r1
noncomputable def match_All (a0 : TQea) (a1 : TEvent) : Option (List THit) :=
  bndE (match_hits a0 a1) fun r1 =>
  bndE (slices_Collect_Hit r1.1 r1.2) fun r2 =>
  some r2
noncomputable def domain_NewSet_Value_v2 : Option (Unit) :=
  some ()
def slices_Clone_Value_Value (l : List TValue) : Option (List TValue) := cloneE 40 l
noncomputable def binding_Get_l1_s (s1 : Int) (s8 : List TSlot) (s9 : Int) (w4 : TValue) (s10 : Int) : Option ((Int) ⊕ (Unit ⊕ TValue)) :=
  iteE (decide (s10 < s9)) (
   idxE s8 s10 fun x1 =>
   iteE (decide (x1.var = s1)) (
    some (.inr (.inr x1.value))) (
    some (.inl (intVal .add .i64 s10 1)))) (
   some (.inr (.inl ())))
noncomputable def binding_Get_l1 (s1 : Int) (s8 : List TSlot) (s9 : Int) (w4 : TValue) (s10 : Int) : Option (Unit ⊕ TValue) := loopE (fun s : Int => binding_Get_l1_s s1 s8 s9 w4 s) s10
theorem binding_Get_l1_eq (s1 : Int) (s8 : List TSlot) (s9 : Int) (w4 : TValue) (s10 : Int) : binding_Get_l1 s1 s8 s9 w4 s10 = nextE (binding_Get_l1_s s1 s8 s9 w4 s10) (fun s : Int => binding_Get_l1 s1 s8 s9 w4 s) := loopE_eq _ _
noncomputable def binding_Get (a0 : List TSlot) (a1 : Int) : Option (TValue × Bool) :=
  bndE (binding_Get_l1 a1 a0 (a0.length : Int) (TValue.mk 0 0 ([] : List UInt8) false) 0) fun o2 =>
  sumE o2 (fun o3 =>
   some (TValue.mk 0 0 ([] : List UInt8) false, false)) (fun o4 =>
   some (o4, true))
noncomputable def value_Less (a0 : TValue) (a1 : TValue) : Option (Bool) :=
  iteE (!decide (a0.kind = a1.kind)) (
   some (decide (a0.kind < a1.kind))) (
   iteE (decide (a0.kind = 1)) (
    some (decide (a0.int < a1.int))) (
    iteE (decide (a0.kind = 2)) (
     some (Op.bytesLess a0.str a1.str)) (
     iteE (!a0.bool) (
      some a1.bool) (
      some false))))
noncomputable def domain_Set_Value_Put_1 (a0 : TValue) (a1 : TValue) (a2 : List TValue) : Option (Int) :=
  bndE (value_Less a0 a1) fun r1 =>
  iteE (r1) (
   some (-1)) (
   bndE (value_Less a1 a0) fun r2 =>
   iteE (r2) (
    some 1) (
    some 0))
noncomputable def slices_BinarySearchFunc_Value_Value_Value_b3 (s0 : List TValue) (s2 : List TValue) (s8 : Int) (s9 : Int) (s10 : Int) (s11 : Int) (s31 : Bool) (w4 : TValue) : Option ((Int × Int)) :=
  iteE (s31) (
   some ((intVal .add .i64 s11 1), s10)) (
   some (s9, s11))
noncomputable def slices_BinarySearchFunc_Value_Value_Value_b2 (s0 : List TValue) (s2 : List TValue) (s8 : Int) (s9 : Int) (s10 : Int) (w4 : TValue) : Option ((Int × Int)) :=
  idxE s0 (IntKind.wrap .i64 (intVal .shr .u64 (IntKind.wrap .u64 (intVal .add .i64 s9 s10)) 1)) fun x1 =>
  bndE (domain_Set_Value_Put_1 x1 w4 s2) fun r2 =>
  bndE (slices_BinarySearchFunc_Value_Value_Value_b3 s0 s2 s8 s9 s10 (IntKind.wrap .i64 (intVal .shr .u64 (IntKind.wrap .u64 (intVal .add .i64 s9 s10)) 1)) (decide (r2 < 0)) w4) fun o3 =>
  some (o3.1, o3.2)
noncomputable def slices_BinarySearchFunc_Value_Value_Value_l1_s (s0 : List TValue) (s2 : List TValue) (s8 : Int) (w4 : TValue) (s9 : Int) (s10 : Int) : Option ((Int × Int) ⊕ (Int)) :=
  iteE (decide (s9 < s10)) (
   bndE (slices_BinarySearchFunc_Value_Value_Value_b2 s0 s2 s8 s9 s10 w4) fun o4 =>
   some (.inl (o4.1, o4.2))) (
   some (.inr s9))
noncomputable def slices_BinarySearchFunc_Value_Value_Value_l1 (s0 : List TValue) (s2 : List TValue) (s8 : Int) (w4 : TValue) (s9 : Int) (s10 : Int) : Option (Int) := loopE (fun s : Int × Int => slices_BinarySearchFunc_Value_Value_Value_l1_s s0 s2 s8 w4 s.1 s.2) (s9, s10)
theorem slices_BinarySearchFunc_Value_Value_Value_l1_eq (s0 : List TValue) (s2 : List TValue) (s8 : Int) (w4 : TValue) (s9 : Int) (s10 : Int) : slices_BinarySearchFunc_Value_Value_Value_l1 s0 s2 s8 w4 s9 s10 = nextE (slices_BinarySearchFunc_Value_Value_Value_l1_s s0 s2 s8 w4 s9 s10) (fun s : Int × Int => slices_BinarySearchFunc_Value_Value_Value_l1 s0 s2 s8 w4 s.1 s.2) := loopE_eq _ _
noncomputable def slices_BinarySearchFunc_Value_Value_Value (a0 : List TValue) (a1 : TValue) (a2 : List TValue) : Option (Int × Bool) :=
  bndE (slices_BinarySearchFunc_Value_Value_Value_l1 a0 a2 (a0.length : Int) a1 0 (a0.length : Int)) fun o5 =>
  iteE (decide (o5 < (a0.length : Int))) (
   idxE a0 o5 fun x6 =>
   bndE (domain_Set_Value_Put_1 x6 a1 a2) fun r7 =>
   some (o5, decide (r7 = 0))) (
   some (o5, false))
def slices_Insert_Value_Value (i : Int) (xs ys : List TValue) : Option (List TValue) := insE 40 i xs ys
noncomputable def domain_Set_Value_Put_v2_b1 (s5 : Int) (s6 : Bool) (s20 : Bool) (w3 : TValue) (w501 : List TValue) : Option ((List TValue)) :=
  iteE (s20) (
   bndE (slices_Insert_Value_Value s5 w501 [w3]) fun r2 =>
   some r2) (
   some w501)
noncomputable def domain_Set_Value_Put_v2 (a1 : TValue) (w1 : List TValue) : Option (Bool × List TValue) :=
  bndE (slices_BinarySearchFunc_Value_Value_Value w1 a1 w1) fun r1 =>
  bndE (domain_Set_Value_Put_v2_b1 r1.1 r1.2 (!r1.2) a1 w1) fun o3 =>
  some (!r1.2, o3)
noncomputable def domain_Add_b3 (s1 : List (List TValue)) (s7 : List THit) (s9 : Int) (s23 : Int) (s24 : Int) (s31 : Bool) (w8 : List (List TValue)) : Option ((List TValue)) :=
  iteE (s31) (
   idxE s1 s9 fun x3 =>
   bndE (slices_Clone_Value_Value x3) fun r4 =>
   some r4) (
   some ([] : List TValue))
noncomputable def domain_Add_b6 (s1 : List (List TValue)) (s7 : List THit) (s9 : Int) (s23 : Int) (s24 : Int) (s40 : List THit) (s41 : Int) (s42 : Int) (s53 : Bool) (w8 : List (List TValue)) (w13 : TValue) (w537 : List TValue) : Option ((List TValue)) :=
  iteE (s53) (
   bndE (domain_Set_Value_Put_v2 w13 w537) fun r8 =>
   some r8.2) (
   some w537)
noncomputable def domain_Add_b5 (s1 : List (List TValue)) (s7 : List THit) (s9 : Int) (s23 : Int) (s24 : Int) (s40 : List THit) (s41 : Int) (s42 : Int) (w8 : List (List TValue)) (w537 : List TValue) : Option ((List TValue)) :=
  idxE s40 s42 fun x6 =>
  bndE (binding_Get x6.bind s9) fun r7 =>
  bndE (domain_Add_b6 s1 s7 s9 s23 s24 s40 s41 s42 r7.2 w8 r7.1 w537) fun o9 =>
  some o9
noncomputable def domain_Add_l4_s (s1 : List (List TValue)) (s7 : List THit) (s9 : Int) (s23 : Int) (s24 : Int) (s40 : List THit) (s41 : Int) (w8 : List (List TValue)) (s42 : Int) (w537 : List TValue) : Option ((Int × List TValue) ⊕ ((List TValue))) :=
  iteE (decide (s42 < s41)) (
   bndE (domain_Add_b5 s1 s7 s9 s23 s24 s40 s41 s42 w8 w537) fun o10 =>
   some (.inl ((intVal .add .i64 s42 1), o10))) (
   some (.inr w537))
noncomputable def domain_Add_l4 (s1 : List (List TValue)) (s7 : List THit) (s9 : Int) (s23 : Int) (s24 : Int) (s40 : List THit) (s41 : Int) (w8 : List (List TValue)) (s42 : Int) (w537 : List TValue) : Option ((List TValue)) := loopE (fun s : Int × List TValue => domain_Add_l4_s s1 s7 s9 s23 s24 s40 s41 w8 s.1 s.2) (s42, w537)
theorem domain_Add_l4_eq (s1 : List (List TValue)) (s7 : List THit) (s9 : Int) (s23 : Int) (s24 : Int) (s40 : List THit) (s41 : Int) (w8 : List (List TValue)) (s42 : Int) (w537 : List TValue) : domain_Add_l4 s1 s7 s9 s23 s24 s40 s41 w8 s42 w537 = nextE (domain_Add_l4_s s1 s7 s9 s23 s24 s40 s41 w8 s42 w537) (fun s : Int × List TValue => domain_Add_l4 s1 s7 s9 s23 s24 s40 s41 w8 s.1 s.2) := loopE_eq _ _
noncomputable def domain_Add_b2 (s1 : List (List TValue)) (s7 : List THit) (s23 : Int) (s24 : Int) (w8 : List (List TValue)) : Option ((List (List TValue))) :=
  bndE (domain_NewSet_Value_v2) fun r2 =>
  bndE (domain_Add_b3 s1 s7 s24 s23 s24 (decide (s24 < (s1.length : Int))) w8) fun o5 =>
  bndE (domain_Add_l4 s1 s7 s24 s23 s24 s7 (s7.length : Int) w8 0 o5) fun o11 =>
  chkE (0 ≤ s24 ∧ s24 + 1 ≤ (w8.length : Int)) (
   chkE (0 ≤ s24 ∧ s24 + 1 ≤ (w8.length : Int)) (
    some (w8.set s24.toNat o11)))
noncomputable def domain_Add_l1_s (s1 : List (List TValue)) (s7 : List THit) (s23 : Int) (s24 : Int) (w8 : List (List TValue)) : Option ((Int × List (List TValue)) ⊕ ((List (List TValue)))) :=
  iteE (decide (s24 < s23)) (
   bndE (domain_Add_b2 s1 s7 s23 s24 w8) fun o12 =>
   some (.inl ((intVal .add .i64 s24 1), o12))) (
   some (.inr w8))
noncomputable def domain_Add_l1 (s1 : List (List TValue)) (s7 : List THit) (s23 : Int) (s24 : Int) (w8 : List (List TValue)) : Option ((List (List TValue))) := loopE (fun s : Int × List (List TValue) => domain_Add_l1_s s1 s7 s23 s.1 s.2) (s24, w8)
theorem domain_Add_l1_eq (s1 : List (List TValue)) (s7 : List THit) (s23 : Int) (s24 : Int) (w8 : List (List TValue)) : domain_Add_l1 s1 s7 s23 s24 w8 = nextE (domain_Add_l1_s s1 s7 s23 s24 w8) (fun s : Int × List (List TValue) => domain_Add_l1 s1 s7 s23 s.1 s.2) := loopE_eq _ _
noncomputable def domain_Add (a0 : TQea) (a1 : List (List TValue)) (a2 : TEvent) : Option (List (List TValue)) :=
  bndE (match_All a0 a2) fun r1 =>
  chkE (0 ≤ (a0.quants.length : Int) ∧ fit 0 (a0.quants.length : Int).toNat 24) (
   bndE (domain_Add_l1 a1 r1 ((List.replicate (a0.quants.length : Int).toNat ([] : List TValue)).length : Int) 0 (List.replicate (a0.quants.length : Int).toNat ([] : List TValue))) fun o13 =>
   some o13)
noncomputable def domain_Of_l1_s (s12 : List TEvent) (s13 : Int) (w2 : TQea) (s5 : List (List TValue)) (s14 : Int) : Option ((List (List TValue) × Int) ⊕ ((List (List TValue)))) :=
  iteE (decide (s14 < s13)) (
   idxE s12 s14 fun x3 =>
   bndE (domain_Add w2 s5 x3) fun r4 =>
   some (.inl (r4, (intVal .add .i64 s14 1)))) (
   some (.inr s5))
noncomputable def domain_Of_l1 (s12 : List TEvent) (s13 : Int) (w2 : TQea) (s5 : List (List TValue)) (s14 : Int) : Option ((List (List TValue))) := loopE (fun s : List (List TValue) × Int => domain_Of_l1_s s12 s13 w2 s.1 s.2) (s5, s14)
theorem domain_Of_l1_eq (s12 : List TEvent) (s13 : Int) (w2 : TQea) (s5 : List (List TValue)) (s14 : Int) : domain_Of_l1 s12 s13 w2 s5 s14 = nextE (domain_Of_l1_s s12 s13 w2 s5 s14) (fun s : List (List TValue) × Int => domain_Of_l1 s12 s13 w2 s.1 s.2) := loopE_eq _ _
noncomputable def domain_Of (a0 : TQea) (a1 : List TEvent) : Option (List (List TValue)) :=
  chkE (0 ≤ (a0.quants.length : Int) ∧ fit 0 (a0.quants.length : Int).toNat 24) (
   bndE (domain_Of_l1 a1 (a1.length : Int) a0 (List.replicate (a0.quants.length : Int).toNat ([] : List TValue)) 0) fun o5 =>
   some o5)
noncomputable def ref08_Right_l1_s (s0 : List TDecl) (s5 : Int) (w3 : TEvent) (s6 : Int) : Option ((Int) ⊕ (Unit ⊕ Unit)) :=
  iteE (decide (s6 < (w3.args.length : Int))) (
   idxE w3.args s6 fun x3 =>
   idxE s0 s5 fun x4 =>
   idxE x4.types s6 fun x5 =>
   iteE (!decide (x3.kind = x5)) (
    some (.inr (.inr ()))) (
    idxE w3.args s6 fun x6 =>
    bndE (ref03_Right x6) fun r7 =>
    iteE (!r7) (
     some (.inr (.inr ()))) (
     some (.inl (intVal .add .i64 s6 1))))) (
   some (.inr (.inl ())))
noncomputable def ref08_Right_l1 (s0 : List TDecl) (s5 : Int) (w3 : TEvent) (s6 : Int) : Option (Unit ⊕ Unit) := loopE (fun s : Int => ref08_Right_l1_s s0 s5 w3 s) s6
theorem ref08_Right_l1_eq (s0 : List TDecl) (s5 : Int) (w3 : TEvent) (s6 : Int) : ref08_Right_l1 s0 s5 w3 s6 = nextE (ref08_Right_l1_s s0 s5 w3 s6) (fun s : Int => ref08_Right_l1 s0 s5 w3 s) := loopE_eq _ _
noncomputable def ref08_Right (a0 : List TDecl) (a1 : TEvent) : Option (Bool) :=
  bndE (ref07_Find a0 a1.name) fun r1 =>
  iteE (decide (r1 < 0)) (
   some false) (
   idxE a0 r1 fun x2 =>
   iteE (!decide ((x2.types.length : Int) = (a1.args.length : Int))) (
    some false) (
    bndE (ref08_Right_l1 a0 r1 a1 0) fun o8 =>
    sumE o8 (fun o9 =>
     some true) (fun o10 =>
     some false)))
noncomputable def ref05_Get_l1_s (s0 : List TSlot) (s1 : Int) (w4 : TValue) (s6 : Int) : Option ((Int) ⊕ (Unit ⊕ TValue)) :=
  iteE (decide (s6 < (s0.length : Int))) (
   idxE s0 s6 fun x1 =>
   iteE (decide (x1.var = s1)) (
    idxE s0 s6 fun x2 =>
    some (.inr (.inr x2.value))) (
    some (.inl (intVal .add .i64 s6 1)))) (
   some (.inr (.inl ())))
noncomputable def ref05_Get_l1 (s0 : List TSlot) (s1 : Int) (w4 : TValue) (s6 : Int) : Option (Unit ⊕ TValue) := loopE (fun s : Int => ref05_Get_l1_s s0 s1 w4 s) s6
theorem ref05_Get_l1_eq (s0 : List TSlot) (s1 : Int) (w4 : TValue) (s6 : Int) : ref05_Get_l1 s0 s1 w4 s6 = nextE (ref05_Get_l1_s s0 s1 w4 s6) (fun s : Int => ref05_Get_l1 s0 s1 w4 s) := loopE_eq _ _
noncomputable def ref05_Get (a0 : List TSlot) (a1 : Int) : Option (TValue × Bool) :=
  bndE (ref05_Get_l1 a0 a1 (TValue.mk 0 0 ([] : List UInt8) false) 0) fun o3 =>
  sumE o3 (fun o4 =>
   some (TValue.mk 0 0 ([] : List UInt8) false, false)) (fun o5 =>
   some (o5, true))
noncomputable def ref05_Fits_l1_s (s0 : List TSlot) (s1 : List TSlot) (s5 : Int) : Option ((Int) ⊕ (Unit ⊕ Unit)) :=
  iteE (decide (s5 < (s0.length : Int))) (
   idxE s0 s5 fun x1 =>
   bndE (ref05_Get s1 x1.var) fun r2 =>
   iteE (r2.2) (
    idxE s0 s5 fun x3 =>
    iteE (!(TValue.eqb r2.1 x3.value)) (
     some (.inr (.inr ()))) (
     some (.inl (intVal .add .i64 s5 1)))) (
    some (.inl (intVal .add .i64 s5 1)))) (
   some (.inr (.inl ())))
noncomputable def ref05_Fits_l1 (s0 : List TSlot) (s1 : List TSlot) (s5 : Int) : Option (Unit ⊕ Unit) := loopE (fun s : Int => ref05_Fits_l1_s s0 s1 s) s5
theorem ref05_Fits_l1_eq (s0 : List TSlot) (s1 : List TSlot) (s5 : Int) : ref05_Fits_l1 s0 s1 s5 = nextE (ref05_Fits_l1_s s0 s1 s5) (fun s : Int => ref05_Fits_l1 s0 s1 s) := loopE_eq _ _
noncomputable def ref05_Fits (a0 : List TSlot) (a1 : List TSlot) : Option (Bool) :=
  bndE (ref05_Fits_l1 a0 a1 0) fun o4 =>
  sumE o4 (fun o5 =>
   some true) (fun o6 =>
   some false)
noncomputable def ref05_Union_b7 (s0 : List TSlot) (s1 : List TSlot) (s6 : Int) (s34 : Bool) (w5 : List TSlot) (w9 : TValue) : Option ((List TSlot)) :=
  iteE (s34) (
   chkE (fit w5.length [TSlot.mk s6 w9].length 48) (
    some (w5 ++ [TSlot.mk s6 w9]))) (
   some w5)
noncomputable def ref05_Union_b6 (s0 : List TSlot) (s1 : List TSlot) (s6 : Int) (s10 : Bool) (s27 : Bool) (w5 : List TSlot) (w7 : TValue) (w9 : TValue) : Option ((List TSlot)) :=
  iteE (s27) (
   chkE (fit w5.length [TSlot.mk s6 w7].length 48) (
    some (w5 ++ [TSlot.mk s6 w7]))) (
   bndE (ref05_Union_b7 s0 s1 s6 s10 w5 w9) fun o8 =>
   some o8)
noncomputable def ref05_Union_b5 (s0 : List TSlot) (s1 : List TSlot) (s6 : Int) (w5 : List TSlot) : Option ((List TSlot)) :=
  bndE (ref05_Get s0 s6) fun r6 =>
  bndE (ref05_Get s1 s6) fun r7 =>
  bndE (ref05_Union_b6 s0 s1 s6 r7.2 r6.2 w5 r6.1 r7.1) fun o9 =>
  some o9
noncomputable def ref05_Union_l1_s (s0 : List TSlot) (s1 : List TSlot) (s6 : Int) (w5 : List TSlot) : Option ((Int × List TSlot) ⊕ ((List TSlot))) :=
  iteE (decide (s6 < 8)) (
   bndE (ref05_Union_b5 s0 s1 s6 w5) fun o10 =>
   some (.inl ((intVal .add .i64 s6 1), o10))) (
   some (.inr w5))
noncomputable def ref05_Union_l1 (s0 : List TSlot) (s1 : List TSlot) (s6 : Int) (w5 : List TSlot) : Option ((List TSlot)) := loopE (fun s : Int × List TSlot => ref05_Union_l1_s s0 s1 s.1 s.2) (s6, w5)
theorem ref05_Union_l1_eq (s0 : List TSlot) (s1 : List TSlot) (s6 : Int) (w5 : List TSlot) : ref05_Union_l1 s0 s1 s6 w5 = nextE (ref05_Union_l1_s s0 s1 s6 w5) (fun s : Int × List TSlot => ref05_Union_l1 s0 s1 s.1 s.2) := loopE_eq _ _
noncomputable def ref05_Union (a0 : List TSlot) (a1 : List TSlot) : Option (List TSlot) :=
  bndE (ref05_Union_l1 a0 a1 0 ([] : List TSlot)) fun o11 =>
  some o11
noncomputable def ref17_put_l1_s (s0 : List TSlot) (w3 : TSlot) (s5 : Int) : Option ((Int) ⊕ (Int)) :=
  iteE (decide (0 < s5)) (
   idxE s0 (intVal .sub .i64 s5 1) fun x1 =>
   iteE (decide (w3.var < x1.var)) (
    some (.inl (intVal .sub .i64 s5 1))) (
    some (.inr s5))) (
   some (.inr s5))
noncomputable def ref17_put_l1 (s0 : List TSlot) (w3 : TSlot) (s5 : Int) : Option (Int) := loopE (fun s : Int => ref17_put_l1_s s0 w3 s) s5
theorem ref17_put_l1_eq (s0 : List TSlot) (w3 : TSlot) (s5 : Int) : ref17_put_l1 s0 w3 s5 = nextE (ref17_put_l1_s s0 w3 s5) (fun s : Int => ref17_put_l1 s0 w3 s) := loopE_eq _ _
noncomputable def ref17_put (a0 : List TSlot) (a1 : TSlot) : Option (List TSlot) :=
  bndE (ref17_put_l1 a0 a1 (a0.length : Int)) fun o2 =>
  chkE ((0 : Int) ≤ 0 ∧ (0 : Int) ≤ o2 ∧ o2 ≤ (a0.length : Int)) (
   chkE (fit ([] : List TSlot).length (sub a0 0 o2).length 48) (
    chkE (fit (([] : List TSlot) ++ (sub a0 0 o2)).length [a1].length 48) (
     chkE ((0 : Int) ≤ o2 ∧ (o2 : Int) ≤ (a0.length : Int) ∧ (a0.length : Int) ≤ (a0.length : Int)) (
      chkE (fit ((([] : List TSlot) ++ (sub a0 0 o2)) ++ [a1]).length (sub a0 o2 (a0.length : Int)).length 48) (
       some (((([] : List TSlot) ++ (sub a0 0 o2)) ++ [a1]) ++ (sub a0 o2 (a0.length : Int))))))))
noncomputable def ref17_Hit_b7 (s1 : Int) (s10 : List TSlot) (s11 : List TSlot) (s12 : Int) (s80 : Bool) (w5 : TEvent) (w6 : Int) (w8 : TSymbol) (w9 : THit) (w13 : TArg) (w14 : List TSlot) : Option ((List TSlot) ⊕ Unit) :=
  iteE (s80) (
   bndE (ref05_Fits s10 w14) fun r32 =>
   iteE (!r32) (
    some (.inr ())) (
    bndE (ref05_Union s10 w14) fun r33 =>
    some (.inl r33))) (
   some (.inl s10))
noncomputable def ref17_Hit_b9 (s1 : Int) (s10 : List TSlot) (s11 : List TSlot) (s12 : Int) (s111 : Bool) (w5 : TEvent) (w6 : Int) (w8 : TSymbol) (w9 : THit) (w14 : List TSlot) : Option ((List TSlot)) :=
  iteE (s111) (
   idxE w14 0 fun x39 =>
   bndE (ref17_put s11 x39) fun r40 =>
   some r40) (
   some s11)
noncomputable def ref17_Hit_b8 (s1 : Int) (s10 : List TSlot) (s11 : List TSlot) (s12 : Int) (s91 : Bool) (w5 : TEvent) (w6 : Int) (w8 : TSymbol) (w9 : THit) (w13 : TArg) (w14 : List TSlot) : Option ((List TSlot) ⊕ Unit) :=
  iteE (s91) (
   bndE (ref05_Get s11 w13.n) fun r37 =>
   iteE (r37.2) (
    idxE w5.args s12 fun x38 =>
    iteE (!(TValue.eqb r37.1 x38)) (
     some (.inr ())) (
     bndE (ref17_Hit_b9 s1 s10 s11 s12 (!r37.2) w5 w6 w8 w9 w14) fun o41 =>
     some (.inl o41))) (
    bndE (ref17_Hit_b9 s1 s10 s11 s12 (!r37.2) w5 w6 w8 w9 w14) fun o42 =>
    some (.inl o42))) (
   some (.inl s11))
noncomputable def ref17_Hit_b6 (s1 : Int) (s10 : List TSlot) (s11 : List TSlot) (s12 : Int) (w5 : TEvent) (w6 : Int) (w8 : TSymbol) (w9 : THit) : Option ((List TSlot × List TSlot) ⊕ Unit) :=
  idxE w8.args s12 fun x29 =>
  idxE w5.args s12 fun x30 =>
  iteE (decide (x29.kind = 1)) (
   idxE w5.args s12 fun x31 =>
   iteE (!(TValue.eqb x29.value x31)) (
    some (.inr ())) (
    bndE (ref17_Hit_b7 s1 s10 s11 s12 (decide (x29.kind = 2)) w5 w6 w8 w9 x29 [TSlot.mk x29.n x30]) fun o34 =>
    sumE o34 (fun o35 =>
     bndE (ref17_Hit_b8 s1 o35 s11 s12 (decide (x29.kind = 3)) w5 w6 w8 w9 x29 [TSlot.mk x29.n x30]) fun o43 =>
     sumE o43 (fun o44 =>
      some (.inl (o35, o44))) (fun o45 =>
      some (.inr ()))) (fun o36 =>
     some (.inr ())))) (
   bndE (ref17_Hit_b7 s1 s10 s11 s12 (decide (x29.kind = 2)) w5 w6 w8 w9 x29 [TSlot.mk x29.n x30]) fun o46 =>
   sumE o46 (fun o47 =>
    bndE (ref17_Hit_b8 s1 o47 s11 s12 (decide (x29.kind = 3)) w5 w6 w8 w9 x29 [TSlot.mk x29.n x30]) fun o49 =>
    sumE o49 (fun o50 =>
     some (.inl (o47, o50))) (fun o51 =>
     some (.inr ()))) (fun o48 =>
    some (.inr ())))
noncomputable def ref17_Hit_l1_s (s1 : Int) (w5 : TEvent) (w6 : Int) (w8 : TSymbol) (w9 : THit) (s10 : List TSlot) (s11 : List TSlot) (s12 : Int) : Option ((List TSlot × List TSlot × Int) ⊕ ((List TSlot × List TSlot) ⊕ Unit)) :=
  iteE (decide (s12 < (w8.args.length : Int))) (
   bndE (ref17_Hit_b6 s1 s10 s11 s12 w5 w6 w8 w9) fun o52 =>
   sumE o52 (fun o53 =>
    some (.inl (o53.1, o53.2, (intVal .add .i64 s12 1)))) (fun o54 =>
    some (.inr (.inr ())))) (
   some (.inr (.inl (s10, s11))))
noncomputable def ref17_Hit_l1 (s1 : Int) (w5 : TEvent) (w6 : Int) (w8 : TSymbol) (w9 : THit) (s10 : List TSlot) (s11 : List TSlot) (s12 : Int) : Option ((List TSlot × List TSlot) ⊕ Unit) := loopE (fun s : List TSlot × List TSlot × Int => ref17_Hit_l1_s s1 w5 w6 w8 w9 s.1 s.2.1 s.2.2) (s10, s11, s12)
theorem ref17_Hit_l1_eq (s1 : Int) (w5 : TEvent) (w6 : Int) (w8 : TSymbol) (w9 : THit) (s10 : List TSlot) (s11 : List TSlot) (s12 : Int) : ref17_Hit_l1 s1 w5 w6 w8 w9 s10 s11 s12 = nextE (ref17_Hit_l1_s s1 w5 w6 w8 w9 s10 s11 s12) (fun s : List TSlot × List TSlot × Int => ref17_Hit_l1 s1 w5 w6 w8 w9 s.1 s.2.1 s.2.2) := loopE_eq _ _
noncomputable def ref17_Hit (a0 : TQea) (a1 : Int) (a2 : TEvent) : Option (THit × Bool) :=
  idxE a0.symbols a1 fun x1 =>
  idxE a0.decls x1.event fun x2 =>
  iteE (!decide (x2.name = a2.name)) (
   some (THit.mk 0 ([] : List TSlot) ([] : List TSlot), false)) (
   iteE (!decide ((x1.args.length : Int) = (a2.args.length : Int))) (
    some (THit.mk 0 ([] : List TSlot) ([] : List TSlot), false)) (
    bndE (ref17_Hit_l1 a1 a2 0 x1 (THit.mk 0 ([] : List TSlot) ([] : List TSlot)) ([] : List TSlot) ([] : List TSlot) 0) fun o55 =>
    sumE o55 (fun o56 =>
     some (THit.mk a1 o56.1 o56.2, true)) (fun o57 =>
     some ((THit.mk 0 ([] : List TSlot) ([] : List TSlot)), false))))
noncomputable def ref17_All_b5 (s6 : Int) (s23 : Bool) (w2 : TQea) (w3 : TEvent) (w5 : List THit) (w7 : THit) : Option ((List THit)) :=
  iteE (s23) (
   chkE (fit w5.length [w7].length 56) (
    some (w5 ++ [w7]))) (
   some w5)
noncomputable def ref17_All_b4 (s6 : Int) (w2 : TQea) (w3 : TEvent) (w5 : List THit) : Option ((List THit)) :=
  bndE (ref17_Hit w2 s6 w3) fun r4 =>
  bndE (ref17_All_b5 s6 r4.2 w2 w3 w5 r4.1) fun o5 =>
  some o5
noncomputable def ref17_All_l1_s (w2 : TQea) (w3 : TEvent) (s6 : Int) (w5 : List THit) : Option ((Int × List THit) ⊕ ((List THit))) :=
  iteE (decide (s6 < (w2.symbols.length : Int))) (
   bndE (ref17_All_b4 s6 w2 w3 w5) fun o6 =>
   some (.inl ((intVal .add .i64 s6 1), o6))) (
   some (.inr w5))
noncomputable def ref17_All_l1 (w2 : TQea) (w3 : TEvent) (s6 : Int) (w5 : List THit) : Option ((List THit)) := loopE (fun s : Int × List THit => ref17_All_l1_s w2 w3 s.1 s.2) (s6, w5)
theorem ref17_All_l1_eq (w2 : TQea) (w3 : TEvent) (s6 : Int) (w5 : List THit) : ref17_All_l1 w2 w3 s6 w5 = nextE (ref17_All_l1_s w2 w3 s6 w5) (fun s : Int × List THit => ref17_All_l1 w2 w3 s.1 s.2) := loopE_eq _ _
noncomputable def ref17_All (a0 : TQea) (a1 : TEvent) : Option (List THit) :=
  bndE (ref17_All_l1 a0 a1 0 ([] : List THit)) fun o7 =>
  some o7
noncomputable def ref20_Put_l1_s (s0 : List TValue) (w3 : TValue) (s5 : Int) : Option ((Int) ⊕ (Int)) :=
  iteE (decide (0 < s5)) (
   idxE s0 (intVal .sub .i64 s5 1) fun x1 =>
   bndE (ref03_Less w3 x1) fun r2 =>
   iteE (r2) (
    some (.inl (intVal .sub .i64 s5 1))) (
    some (.inr s5))) (
   some (.inr s5))
noncomputable def ref20_Put_l1 (s0 : List TValue) (w3 : TValue) (s5 : Int) : Option (Int) := loopE (fun s : Int => ref20_Put_l1_s s0 w3 s) s5
theorem ref20_Put_l1_eq (s0 : List TValue) (w3 : TValue) (s5 : Int) : ref20_Put_l1 s0 w3 s5 = nextE (ref20_Put_l1_s s0 w3 s5) (fun s : Int => ref20_Put_l1 s0 w3 s) := loopE_eq _ _
noncomputable def ref20_Put (a0 : List TValue) (a1 : TValue) : Option (List TValue) :=
  bndE (ref20_Put_l1 a0 a1 (a0.length : Int)) fun o3 =>
  iteE (decide (0 < o3)) (
   idxE a0 (intVal .sub .i64 o3 1) fun x4 =>
   iteE ((TValue.eqb x4 a1)) (
    some a0) (
    chkE ((0 : Int) ≤ 0 ∧ (0 : Int) ≤ o3 ∧ o3 ≤ (a0.length : Int)) (
     chkE (fit ([] : List TValue).length (sub a0 0 o3).length 40) (
      chkE (fit (([] : List TValue) ++ (sub a0 0 o3)).length [a1].length 40) (
       chkE ((0 : Int) ≤ o3 ∧ (o3 : Int) ≤ (a0.length : Int) ∧ (a0.length : Int) ≤ (a0.length : Int)) (
        chkE (fit ((([] : List TValue) ++ (sub a0 0 o3)) ++ [a1]).length (sub a0 o3 (a0.length : Int)).length 40) (
         some (((([] : List TValue) ++ (sub a0 0 o3)) ++ [a1]) ++ (sub a0 o3 (a0.length : Int)))))))))) (
   chkE ((0 : Int) ≤ 0 ∧ (0 : Int) ≤ o3 ∧ o3 ≤ (a0.length : Int)) (
    chkE (fit ([] : List TValue).length (sub a0 0 o3).length 40) (
     chkE (fit (([] : List TValue) ++ (sub a0 0 o3)).length [a1].length 40) (
      chkE ((0 : Int) ≤ o3 ∧ (o3 : Int) ≤ (a0.length : Int) ∧ (a0.length : Int) ≤ (a0.length : Int)) (
       chkE (fit ((([] : List TValue) ++ (sub a0 0 o3)) ++ [a1]).length (sub a0 o3 (a0.length : Int)).length 40) (
        some (((([] : List TValue) ++ (sub a0 0 o3)) ++ [a1]) ++ (sub a0 o3 (a0.length : Int)))))))))
noncomputable def ref20_Add_b1 (s1 : List (List TValue)) (s17 : Bool) (w3 : TQea) (w5 : TEvent) : Option ((List THit)) :=
  iteE (s17) (
   bndE (ref17_All w3 w5) fun r2 =>
   some r2) (
   some ([] : List THit))
noncomputable def ref20_Add_b9 (s1 : List (List TValue)) (s8 : List THit) (s9 : Int) (s31 : Bool) (w3 : TQea) (w7 : List (List TValue)) : Option ((List TValue)) :=
  iteE (s31) (
   idxE s1 s9 fun x13 =>
   some x13) (
   some ([] : List TValue))
noncomputable def ref20_Add_b12 (s1 : List (List TValue)) (s8 : List THit) (s9 : Int) (s10 : List TValue) (s11 : Int) (s52 : Bool) (w3 : TQea) (w7 : List (List TValue)) (w12 : TValue) : Option ((List TValue)) :=
  iteE (s52) (
   bndE (ref20_Put s10 w12) fun r17 =>
   some r17) (
   some s10)
noncomputable def ref20_Add_b11 (s1 : List (List TValue)) (s8 : List THit) (s9 : Int) (s10 : List TValue) (s11 : Int) (w3 : TQea) (w7 : List (List TValue)) : Option ((List TValue)) :=
  idxE s8 s11 fun x15 =>
  bndE (ref05_Get x15.bind s9) fun r16 =>
  bndE (ref20_Add_b12 s1 s8 s9 s10 s11 r16.2 w3 w7 r16.1) fun o18 =>
  some o18
noncomputable def ref20_Add_l10_s (s1 : List (List TValue)) (s8 : List THit) (s9 : Int) (w3 : TQea) (w7 : List (List TValue)) (s10 : List TValue) (s11 : Int) : Option ((List TValue × Int) ⊕ ((List TValue))) :=
  iteE (decide (s11 < (s8.length : Int))) (
   bndE (ref20_Add_b11 s1 s8 s9 s10 s11 w3 w7) fun o19 =>
   some (.inl (o19, (intVal .add .i64 s11 1)))) (
   some (.inr s10))
noncomputable def ref20_Add_l10 (s1 : List (List TValue)) (s8 : List THit) (s9 : Int) (w3 : TQea) (w7 : List (List TValue)) (s10 : List TValue) (s11 : Int) : Option ((List TValue)) := loopE (fun s : List TValue × Int => ref20_Add_l10_s s1 s8 s9 w3 w7 s.1 s.2) (s10, s11)
theorem ref20_Add_l10_eq (s1 : List (List TValue)) (s8 : List THit) (s9 : Int) (w3 : TQea) (w7 : List (List TValue)) (s10 : List TValue) (s11 : Int) : ref20_Add_l10 s1 s8 s9 w3 w7 s10 s11 = nextE (ref20_Add_l10_s s1 s8 s9 w3 w7 s10 s11) (fun s : List TValue × Int => ref20_Add_l10 s1 s8 s9 w3 w7 s.1 s.2) := loopE_eq _ _
noncomputable def ref20_Add_b8 (s1 : List (List TValue)) (s8 : List THit) (s9 : Int) (w3 : TQea) (w7 : List (List TValue)) : Option ((List (List TValue))) :=
  bndE (ref20_Add_b9 s1 s8 s9 (decide (s9 < (s1.length : Int))) w3 w7) fun o14 =>
  bndE (ref20_Add_l10 s1 s8 s9 w3 w7 o14 0) fun o20 =>
  chkE (fit w7.length [o20].length 24) (
   some (w7 ++ [o20]))
noncomputable def ref20_Add_l2_s (s1 : List (List TValue)) (s8 : List THit) (w3 : TQea) (s9 : Int) (w7 : List (List TValue)) : Option ((Int × List (List TValue)) ⊕ ((List (List TValue)))) :=
  iteE (decide (s9 < (w3.quants.length : Int))) (
   bndE (ref20_Add_b8 s1 s8 s9 w3 w7) fun o21 =>
   some (.inl ((intVal .add .i64 s9 1), o21))) (
   some (.inr w7))
noncomputable def ref20_Add_l2 (s1 : List (List TValue)) (s8 : List THit) (w3 : TQea) (s9 : Int) (w7 : List (List TValue)) : Option ((List (List TValue))) := loopE (fun s : Int × List (List TValue) => ref20_Add_l2_s s1 s8 w3 s.1 s.2) (s9, w7)
theorem ref20_Add_l2_eq (s1 : List (List TValue)) (s8 : List THit) (w3 : TQea) (s9 : Int) (w7 : List (List TValue)) : ref20_Add_l2 s1 s8 w3 s9 w7 = nextE (ref20_Add_l2_s s1 s8 w3 s9 w7) (fun s : Int × List (List TValue) => ref20_Add_l2 s1 s8 w3 s.1 s.2) := loopE_eq _ _
noncomputable def ref20_Add (a0 : TQea) (a1 : List (List TValue)) (a2 : TEvent) : Option (List (List TValue)) :=
  bndE (ref08_Right a0.decls a2) fun r1 =>
  bndE (ref20_Add_b1 a1 r1 a0 a2) fun o3 =>
  bndE (ref20_Add_l2 a1 o3 a0 0 ([] : List (List TValue))) fun o22 =>
  some o22
noncomputable def ref20_Of_l1_s (s1 : List TEvent) (w2 : TQea) (s5 : List (List TValue)) (s6 : Int) : Option ((List (List TValue) × Int) ⊕ ((List (List TValue)))) :=
  iteE (decide (s6 < (s1.length : Int))) (
   idxE s1 s6 fun x3 =>
   bndE (ref20_Add w2 s5 x3) fun r4 =>
   some (.inl (r4, (intVal .add .i64 s6 1)))) (
   some (.inr s5))
noncomputable def ref20_Of_l1 (s1 : List TEvent) (w2 : TQea) (s5 : List (List TValue)) (s6 : Int) : Option ((List (List TValue))) := loopE (fun s : List (List TValue) × Int => ref20_Of_l1_s s1 w2 s.1 s.2) (s5, s6)
theorem ref20_Of_l1_eq (s1 : List TEvent) (w2 : TQea) (s5 : List (List TValue)) (s6 : Int) : ref20_Of_l1 s1 w2 s5 s6 = nextE (ref20_Of_l1_s s1 w2 s5 s6) (fun s : List (List TValue) × Int => ref20_Of_l1 s1 w2 s.1 s.2) := loopE_eq _ _
noncomputable def ref20_Of (a0 : TQea) (a1 : List TEvent) : Option (List (List TValue)) :=
  chkE (0 ≤ (a0.quants.length : Int) ∧ fit 0 (a0.quants.length : Int).toNat 24) (
   bndE (ref20_Of_l1 a1 a0 (List.replicate (a0.quants.length : Int).toNat ([] : List TValue)) 0) fun o5 =>
   some o5)
noncomputable def ref20_Same_l2_s (s0 : List (List TValue)) (s1 : List (List TValue)) (s5 : Int) (s6 : Int) : Option ((Int) ⊕ (Unit ⊕ Unit)) :=
  idxE s0 s5 fun x3 =>
  iteE (decide (s6 < (x3.length : Int))) (
   idxE s0 s5 fun x4 =>
   idxE x4 s6 fun x5 =>
   idxE s1 s5 fun x6 =>
   idxE x6 s6 fun x7 =>
   iteE (!(TValue.eqb x5 x7)) (
    some (.inr (.inr ()))) (
    some (.inl (intVal .add .i64 s6 1)))) (
   some (.inr (.inl ())))
noncomputable def ref20_Same_l2 (s0 : List (List TValue)) (s1 : List (List TValue)) (s5 : Int) (s6 : Int) : Option (Unit ⊕ Unit) := loopE (fun s : Int => ref20_Same_l2_s s0 s1 s5 s) s6
theorem ref20_Same_l2_eq (s0 : List (List TValue)) (s1 : List (List TValue)) (s5 : Int) (s6 : Int) : ref20_Same_l2 s0 s1 s5 s6 = nextE (ref20_Same_l2_s s0 s1 s5 s6) (fun s : Int => ref20_Same_l2 s0 s1 s5 s) := loopE_eq _ _
noncomputable def ref20_Same_l1_s (s0 : List (List TValue)) (s1 : List (List TValue)) (s5 : Int) : Option ((Int) ⊕ (Unit ⊕ Unit)) :=
  iteE (decide (s5 < (s0.length : Int))) (
   idxE s0 s5 fun x1 =>
   idxE s1 s5 fun x2 =>
   iteE (!decide ((x1.length : Int) = (x2.length : Int))) (
    some (.inr (.inr ()))) (
    bndE (ref20_Same_l2 s0 s1 s5 0) fun o8 =>
    sumE o8 (fun o9 =>
     some (.inl (intVal .add .i64 s5 1))) (fun o10 =>
     some (.inr (.inr ()))))) (
   some (.inr (.inl ())))
noncomputable def ref20_Same_l1 (s0 : List (List TValue)) (s1 : List (List TValue)) (s5 : Int) : Option (Unit ⊕ Unit) := loopE (fun s : Int => ref20_Same_l1_s s0 s1 s) s5
theorem ref20_Same_l1_eq (s0 : List (List TValue)) (s1 : List (List TValue)) (s5 : Int) : ref20_Same_l1 s0 s1 s5 = nextE (ref20_Same_l1_s s0 s1 s5) (fun s : Int => ref20_Same_l1 s0 s1 s) := loopE_eq _ _
noncomputable def ref20_Same (a0 : List (List TValue)) (a1 : List (List TValue)) : Option (Bool) :=
  iteE (!decide ((a0.length : Int) = (a1.length : Int))) (
   some false) (
   bndE (ref20_Same_l1 a0 a1 0) fun o11 =>
   sumE o11 (fun o12 =>
    some true) (fun o13 =>
    some false))
noncomputable def domain_Fresh (a0 : TQea) (a1 : Int) (a2 : List TValue) : Option (Bool) :=
  idxE a0.quants a1 fun x1 =>
  iteE (!decide (x1.type = 3)) (
   some true) (
   some (decide ((a2.length : Int) < 2)))
noncomputable def ref20_Fresh (a0 : Int) (a1 : List TValue) : Option (Bool) :=
  iteE (!decide (a0 = 3)) (
   some true) (
   some (decide ((a1.length : Int) < 2)))
noncomputable def law20_DomainOf_l1_s (s1 : List TEvent) (w2 : TQea) (s5 : List (List TValue)) (s6 : List (List TValue)) (s7 : Int) : Option ((List (List TValue) × List (List TValue) × Int) ⊕ ((List (List TValue)) ⊕ Unit)) :=
  iteE (decide (s7 < (s1.length : Int))) (
   idxE s1 s7 fun x5 =>
   bndE (domain_Add w2 s5 x5) fun r6 =>
   idxE s1 s7 fun x7 =>
   bndE (ref20_Add w2 s6 x7) fun r8 =>
   bndE (ref20_Same r6 r8) fun r9 =>
   iteE (!r9) (
    some (.inr (.inr ()))) (
    some (.inl (r6, r8, (intVal .add .i64 s7 1))))) (
   some (.inr (.inl s6)))
noncomputable def law20_DomainOf_l1 (s1 : List TEvent) (w2 : TQea) (s5 : List (List TValue)) (s6 : List (List TValue)) (s7 : Int) : Option ((List (List TValue)) ⊕ Unit) := loopE (fun s : List (List TValue) × List (List TValue) × Int => law20_DomainOf_l1_s s1 w2 s.1 s.2.1 s.2.2) (s5, s6, s7)
theorem law20_DomainOf_l1_eq (s1 : List TEvent) (w2 : TQea) (s5 : List (List TValue)) (s6 : List (List TValue)) (s7 : Int) : law20_DomainOf_l1 s1 w2 s5 s6 s7 = nextE (law20_DomainOf_l1_s s1 w2 s5 s6 s7) (fun s : List (List TValue) × List (List TValue) × Int => law20_DomainOf_l1 s1 w2 s.1 s.2.1 s.2.2) := loopE_eq _ _
noncomputable def law20_DomainOf_l2_s (s1 : List TEvent) (s6 : List (List TValue)) (w2 : TQea) (s8 : Int) : Option ((Int) ⊕ (Unit ⊕ Unit)) :=
  iteE (decide (s8 < (s6.length : Int))) (
   idxE s6 s8 fun x13 =>
   bndE (domain_Fresh w2 s8 x13) fun r14 =>
   idxE w2.quants s8 fun x15 =>
   idxE s6 s8 fun x16 =>
   bndE (ref20_Fresh x15.type x16) fun r17 =>
   iteE (!(r14 == r17)) (
    some (.inr (.inr ()))) (
    some (.inl (intVal .add .i64 s8 1)))) (
   some (.inr (.inl ())))
noncomputable def law20_DomainOf_l2 (s1 : List TEvent) (s6 : List (List TValue)) (w2 : TQea) (s8 : Int) : Option (Unit ⊕ Unit) := loopE (fun s : Int => law20_DomainOf_l2_s s1 s6 w2 s) s8
theorem law20_DomainOf_l2_eq (s1 : List TEvent) (s6 : List (List TValue)) (w2 : TQea) (s8 : Int) : law20_DomainOf_l2 s1 s6 w2 s8 = nextE (law20_DomainOf_l2_s s1 s6 w2 s8) (fun s : Int => law20_DomainOf_l2 s1 s6 w2 s) := loopE_eq _ _
noncomputable def law20_DomainOf (a0 : TQea) (a1 : List TEvent) : Option (Bool) :=
  bndE (law20_small a0 a1) fun r1 =>
  iteE (!r1) (
   bndE (law20_awake) fun r2 =>
   some r2) (
   bndE (domain_Of a0 ([] : List TEvent)) fun r3 =>
   bndE (ref20_Of a0 ([] : List TEvent)) fun r4 =>
   bndE (law20_DomainOf_l1 a1 a0 r3 r4 0) fun o10 =>
   sumE o10 (fun o11 =>
    bndE (law20_DomainOf_l2 a1 o11 a0 0) fun o18 =>
    sumE o18 (fun o19 =>
     bndE (domain_Of a0 a1) fun r21 =>
     bndE (ref20_Same r21 o11) fun r22 =>
     iteE (r22) (
      bndE (law20_awake) fun r23 =>
      some r23) (
      some false)) (fun o20 =>
     some false)) (fun o12 =>
    some false))
end Go.Ac
