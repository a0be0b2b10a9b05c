/- Own work, printed: the functions as Lean functions. -/
import Derived.Test.YtbmojpadjglncaaGreatAc20h
import Derived.Test.YtbmojpadjglncaaGreatAc27
import Derived.Test.YtbmojpadjglncaaGreatAc28
import Derived.Test.YtbmojpadjglncaaGreatAc29
import Derived.Test.YtbmojpadjglncaaGreatAc30
import Derived.Test.YtbmojpadjglncaaGreatAc31
import Derived.Test.YtbmojpadjglncaaGreatAc34
import Derived.Test.YtbmojpadjglncaaGreatAc34
import Derived.Test.YtbmojpadjglncaaGreatAc34
set_option linter.unusedVariables false
set_option linter.unusedSimpArgs false
set_option linter.unusedVariables false
set_option linter.unusedSimpArgs false
namespace Go.Ac
abbrev LpOfR (P : Program) (rd : Option Nat) (root : Code) (p : List Nat) (s : St) (x : Ex × St) : Prop := LpOf P rd root p s x.1 x.2
abbrev dI (x : Int) : A := .d (D.i .i64 x)
abbrev bT (n : Nat) : Nat × W := (n, .bit true)
abbrev bF (n : Nat) : Nat × W := (n, .bit false)
structure TDecl where
  name : List UInt8
  types : List Int
  deriving DecidableEq
def TDecl.D (v : TDecl) : D := .agg ([D.s v.name] ++ [(D.l (D.i .i64)) v.types])
instance : HasNc TDecl.D 2 := ⟨fun _ => rfl⟩
structure TQuant where
  all : Bool
  name : List UInt8
  type : Int
def TQuant.D (v : TQuant) : D := .agg ([D.b v.all] ++ [D.s v.name] ++ [(D.i .i64) v.type])
instance : HasNc TQuant.D 3 := ⟨fun _ => rfl⟩
def TQuant.eqb (a b : TQuant) : Bool := ((a.all == b.all) && (decide (a.name = b.name) && (decide (a.type = b.type) && true)))
theorem TQuant.eqb_iff (a b : TQuant) : TQuant.eqb a b = true ↔ a = b := by
  cases a; cases b; simp [TQuant.eqb]
instance : DecidableEq TQuant := fun a b => decidable_of_iff (TQuant.eqb a b = true) (TQuant.eqb_iff a b)
structure TValue where
  kind : Int
  int : Int
  str : List UInt8
  bool : Bool
def TValue.D (v : TValue) : D := .agg ([(D.i .i64) v.kind] ++ [(D.i .i64) v.int] ++ [D.s v.str] ++ [D.b v.bool])
instance : HasNc TValue.D 4 := ⟨fun _ => rfl⟩
def TValue.eqb (a b : TValue) : Bool := (decide (a.kind = b.kind) && (decide (a.int = b.int) && (decide (a.str = b.str) && ((a.bool == b.bool) && true))))
theorem TValue.eqb_iff (a b : TValue) : TValue.eqb a b = true ↔ a = b := by
  cases a; cases b; simp [TValue.eqb]
instance : DecidableEq TValue := fun a b => decidable_of_iff (TValue.eqb a b = true) (TValue.eqb_iff a b)
structure TFree where
  name : List UInt8
  init_ : TValue
def TFree.D (v : TFree) : D := .agg ([D.s v.name] ++ (TValue.D v.init_).cells)
instance : HasNc TFree.D 5 := ⟨fun _ => rfl⟩
def TFree.eqb (a b : TFree) : Bool := (decide (a.name = b.name) && (TValue.eqb a.init_ b.init_ && true))
theorem TFree.eqb_iff (a b : TFree) : TFree.eqb a b = true ↔ a = b := by
  cases a; cases b; simp [TFree.eqb, TValue.eqb_iff]
instance : DecidableEq TFree := fun a b => decidable_of_iff (TFree.eqb a b = true) (TFree.eqb_iff a b)
structure TState where
  name : List UInt8
  next : Bool
  accept : Bool
def TState.D (v : TState) : D := .agg ([D.s v.name] ++ [D.b v.next] ++ [D.b v.accept])
instance : HasNc TState.D 3 := ⟨fun _ => rfl⟩
def TState.eqb (a b : TState) : Bool := (decide (a.name = b.name) && ((a.next == b.next) && ((a.accept == b.accept) && true)))
theorem TState.eqb_iff (a b : TState) : TState.eqb a b = true ↔ a = b := by
  cases a; cases b; simp [TState.eqb]
instance : DecidableEq TState := fun a b => decidable_of_iff (TState.eqb a b = true) (TState.eqb_iff a b)
structure TArg where
  kind : Int
  n : Int
  value : TValue
def TArg.D (v : TArg) : D := .agg ([(D.i .i64) v.kind] ++ [(D.i .i64) v.n] ++ (TValue.D v.value).cells)
instance : HasNc TArg.D 6 := ⟨fun _ => rfl⟩
def TArg.eqb (a b : TArg) : Bool := (decide (a.kind = b.kind) && (decide (a.n = b.n) && (TValue.eqb a.value b.value && true)))
theorem TArg.eqb_iff (a b : TArg) : TArg.eqb a b = true ↔ a = b := by
  cases a; cases b; simp [TArg.eqb, TValue.eqb_iff]
instance : DecidableEq TArg := fun a b => decidable_of_iff (TArg.eqb a b = true) (TArg.eqb_iff a b)
structure TSymbol where
  event : Int
  args : List TArg
  deriving DecidableEq
def TSymbol.D (v : TSymbol) : D := .agg ([(D.i .i64) v.event] ++ [(D.l TArg.D) v.args])
instance : HasNc TSymbol.D 2 := ⟨fun _ => rfl⟩
structure TNode where
  op : Int
  a : Int
  b : Int
  value : TValue
def TNode.D (v : TNode) : D := .agg ([(D.i .i64) v.op] ++ [(D.i .i64) v.a] ++ [(D.i .i64) v.b] ++ (TValue.D v.value).cells)
instance : HasNc TNode.D 7 := ⟨fun _ => rfl⟩
def TNode.eqb (a b : TNode) : Bool := (decide (a.op = b.op) && (decide (a.a = b.a) && (decide (a.b = b.b) && (TValue.eqb a.value b.value && true))))
theorem TNode.eqb_iff (a b : TNode) : TNode.eqb a b = true ↔ a = b := by
  cases a; cases b; simp [TNode.eqb, TValue.eqb_iff]
instance : DecidableEq TNode := fun a b => decidable_of_iff (TNode.eqb a b = true) (TNode.eqb_iff a b)
structure TSet where
  free : Int
  expr : Int
def TSet.D (v : TSet) : D := .agg ([(D.i .i64) v.free] ++ [(D.i .i64) v.expr])
instance : HasNc TSet.D 2 := ⟨fun _ => rfl⟩
def TSet.eqb (a b : TSet) : Bool := (decide (a.free = b.free) && (decide (a.expr = b.expr) && true))
theorem TSet.eqb_iff (a b : TSet) : TSet.eqb a b = true ↔ a = b := by
  cases a; cases b; simp [TSet.eqb]
instance : DecidableEq TSet := fun a b => decidable_of_iff (TSet.eqb a b = true) (TSet.eqb_iff a b)
structure TTrans where
  from_ : Int
  symbol : Int
  to : Int
  guard : Int
  sets : List TSet
  deriving DecidableEq
def TTrans.D (v : TTrans) : D := .agg ([(D.i .i64) v.from_] ++ [(D.i .i64) v.symbol] ++ [(D.i .i64) v.to] ++ [(D.i .i64) v.guard] ++ [(D.l TSet.D) v.sets])
instance : HasNc TTrans.D 5 := ⟨fun _ => rfl⟩
structure TQea where
  name : List UInt8
  decls : List TDecl
  quants : List TQuant
  frees : List TFree
  states : List TState
  start : Int
  symbols : List TSymbol
  nodes : List TNode
  trans : List TTrans
  deriving DecidableEq
def TQea.D (v : TQea) : D := .agg ([D.s v.name] ++ [(D.l TDecl.D) v.decls] ++ [(D.l TQuant.D) v.quants] ++ [(D.l TFree.D) v.frees] ++ [(D.l TState.D) v.states] ++ [(D.i .i64) v.start] ++ [(D.l TSymbol.D) v.symbols] ++ [(D.l TNode.D) v.nodes] ++ [(D.l TTrans.D) v.trans])
instance : HasNc TQea.D 9 := ⟨fun _ => rfl⟩
structure TSlot where
  var : Int
  value : TValue
def TSlot.D (v : TSlot) : D := .agg ([(D.i .i64) v.var] ++ (TValue.D v.value).cells)
instance : HasNc TSlot.D 5 := ⟨fun _ => rfl⟩
def TSlot.eqb (a b : TSlot) : Bool := (decide (a.var = b.var) && (TValue.eqb a.value b.value && true))
theorem TSlot.eqb_iff (a b : TSlot) : TSlot.eqb a b = true ↔ a = b := by
  cases a; cases b; simp [TSlot.eqb, TValue.eqb_iff]
instance : DecidableEq TSlot := fun a b => decidable_of_iff (TSlot.eqb a b = true) (TSlot.eqb_iff a b)
structure Tjoint_place where
  q : TQea
  b : List TSlot
  d_ : Int
  at_ : Int
  deriving DecidableEq
def Tjoint_place.D (v : Tjoint_place) : D := .agg ((TQea.D v.q).cells ++ [(D.l TSlot.D) v.b] ++ [(D.i .i64) v.d_] ++ [(D.i .i64) v.at_])
instance : HasNc Tjoint_place.D 12 := ⟨fun _ => rfl⟩
structure TEvent where
  name : List UInt8
  args : List TValue
  deriving DecidableEq
def TEvent.D (v : TEvent) : D := .agg ([D.s v.name] ++ [(D.l TValue.D) v.args])
instance : HasNc TEvent.D 2 := ⟨fun _ => rfl⟩
structure THit where
  symbol : Int
  bind : List TSlot
  frees : List TSlot
  deriving DecidableEq
def THit.D (v : THit) : D := .agg ([(D.i .i64) v.symbol] ++ [(D.l TSlot.D) v.bind] ++ [(D.l TSlot.D) v.frees])
instance : HasNc THit.D 3 := ⟨fun _ => rfl⟩
structure TConfig where
  state : Int
  vals : List TValue
  deriving DecidableEq
def TConfig.D (v : TConfig) : D := .agg ([(D.i .i64) v.state] ++ [(D.l TValue.D) v.vals])
instance : HasNc TConfig.D 2 := ⟨fun _ => rfl⟩
noncomputable def ref13_Few_l1_s (w1 : TQea) (s3 : Int) : Option ((Int) ⊕ (Unit ⊕ Unit)) :=
  iteE (decide (s3 < (w1.decls.length : Int))) (
   idxE w1.decls s3 fun x1 =>
   iteE (decide (12 < (x1.types.length : Int))) (
    some (.inr (.inr ()))) (
    idxE w1.decls s3 fun x2 =>
    iteE (decide (100 < (x2.name.length : Int))) (
     some (.inr (.inr ()))) (
     some (.inl (intVal .add .i64 s3 1))))) (
   some (.inr (.inl ())))
noncomputable def ref13_Few_l1 (w1 : TQea) (s3 : Int) : Option (Unit ⊕ Unit) := loopE (fun s : Int => ref13_Few_l1_s w1 s) s3
noncomputable def ref13_Few_l3_s (s4 : Int) (w1 : TQea) (s5 : Int) : Option ((Int) ⊕ (Unit ⊕ Unit)) :=
  idxE w1.symbols s4 fun x7 =>
  iteE (decide (s5 < (x7.args.length : Int))) (
   idxE w1.symbols s4 fun x8 =>
   idxE x8.args s5 fun x9 =>
   iteE (decide (100 < (x9.value.str.length : Int))) (
    some (.inr (.inr ()))) (
    some (.inl (intVal .add .i64 s5 1)))) (
   some (.inr (.inl ())))
noncomputable def ref13_Few_l3 (s4 : Int) (w1 : TQea) (s5 : Int) : Option (Unit ⊕ Unit) := loopE (fun s : Int => ref13_Few_l3_s s4 w1 s) s5
noncomputable def ref13_Few_l2_s (w1 : TQea) (s4 : Int) : Option ((Int) ⊕ (Unit ⊕ Unit)) :=
  iteE (decide (s4 < (w1.symbols.length : Int))) (
   idxE w1.symbols s4 fun x6 =>
   iteE (decide (12 < (x6.args.length : Int))) (
    some (.inr (.inr ()))) (
    bndE (ref13_Few_l3 s4 w1 0) fun o10 =>
    sumE o10 (fun o11 =>
     some (.inl (intVal .add .i64 s4 1))) (fun o12 =>
     some (.inr (.inr ()))))) (
   some (.inr (.inl ())))
noncomputable def ref13_Few_l2 (w1 : TQea) (s4 : Int) : Option (Unit ⊕ Unit) := loopE (fun s : Int => ref13_Few_l2_s w1 s) s4
noncomputable def ref13_Few_l4_s (w1 : TQea) (s6 : Int) : Option ((Int) ⊕ (Unit ⊕ Unit)) :=
  iteE (decide (s6 < (w1.frees.length : Int))) (
   idxE w1.frees s6 fun x16 =>
   iteE (decide (100 < (x16.init_.str.length : Int))) (
    some (.inr (.inr ()))) (
    some (.inl (intVal .add .i64 s6 1)))) (
   some (.inr (.inl ())))
noncomputable def ref13_Few_l4 (w1 : TQea) (s6 : Int) : Option (Unit ⊕ Unit) := loopE (fun s : Int => ref13_Few_l4_s w1 s) s6
noncomputable def ref13_Few_l5_s (w1 : TQea) (s7 : Int) : Option ((Int) ⊕ (Unit ⊕ Unit)) :=
  iteE (decide (s7 < (w1.nodes.length : Int))) (
   idxE w1.nodes s7 fun x20 =>
   iteE (decide (100 < (x20.value.str.length : Int))) (
    some (.inr (.inr ()))) (
    some (.inl (intVal .add .i64 s7 1)))) (
   some (.inr (.inl ())))
noncomputable def ref13_Few_l5 (w1 : TQea) (s7 : Int) : Option (Unit ⊕ Unit) := loopE (fun s : Int => ref13_Few_l5_s w1 s) s7
noncomputable def ref13_Few_l6_s (w1 : TQea) (s8 : Int) : Option ((Int) ⊕ (Unit ⊕ Unit)) :=
  iteE (decide (s8 < (w1.trans.length : Int))) (
   idxE w1.trans s8 fun x24 =>
   iteE (decide (12 < (x24.sets.length : Int))) (
    some (.inr (.inr ()))) (
    some (.inl (intVal .add .i64 s8 1)))) (
   some (.inr (.inl ())))
noncomputable def ref13_Few_l6 (w1 : TQea) (s8 : Int) : Option (Unit ⊕ Unit) := loopE (fun s : Int => ref13_Few_l6_s w1 s) s8
noncomputable def ref13_Few (a0 : TQea) : Option (Int) :=
  iteE (decide (12 < (a0.decls.length : Int))) (
   some 0) (
   iteE (decide (9 < (a0.quants.length : Int))) (
    some 0) (
    iteE (decide (12 < (a0.frees.length : Int))) (
     some 0) (
     iteE (decide (12 < (a0.states.length : Int))) (
      some 0) (
      iteE (decide (12 < (a0.symbols.length : Int))) (
       some 0) (
       iteE (decide (12 < (a0.trans.length : Int))) (
        some 0) (
        iteE (decide (40 < (a0.nodes.length : Int))) (
         some 0) (
         iteE (decide (100 < (a0.name.length : Int))) (
          some 0) (
          bndE (ref13_Few_l1 a0 0) fun o3 =>
          sumE o3 (fun o4 =>
           bndE (ref13_Few_l2 a0 0) fun o13 =>
           sumE o13 (fun o14 =>
            bndE (ref13_Few_l4 a0 0) fun o17 =>
            sumE o17 (fun o18 =>
             bndE (ref13_Few_l5 a0 0) fun o21 =>
             sumE o21 (fun o22 =>
              bndE (ref13_Few_l6 a0 0) fun o25 =>
              sumE o25 (fun o26 =>
               some 1) (fun o27 =>
               some 0)) (fun o23 =>
              some 0)) (fun o19 =>
             some 0)) (fun o15 =>
            some 0)) (fun o5 =>
           some 0)))))))))
noncomputable def ref07_Words : Option (List (List UInt8)) :=
  some ([([97, 99, 99, 101, 112, 116] : List UInt8), ([97, 108, 115, 111] : List UInt8), ([97, 110, 100] : List UInt8), ([98, 111, 111, 108] : List UInt8), ([100, 111] : List UInt8), ([101, 118, 101, 110, 116] : List UInt8), ([101, 120, 105, 115, 116, 115] : List UInt8), ([102, 97, 108, 115, 101] : List UInt8), ([102, 111, 114, 97, 108, 108] : List UInt8), ([102, 114, 101, 101] : List UInt8), ([105, 102] : List UInt8), ([105, 110, 116] : List UInt8), ([110, 101, 120, 116] : List UInt8), ([110, 111, 116] : List UInt8), ([111, 110] : List UInt8), ([111, 114] : List UInt8), ([113, 101, 97] : List UInt8), ([115, 107, 105, 112] : List UInt8), ([115, 116, 97, 114, 116] : List UInt8), ([115, 116, 114, 105, 110, 103] : List UInt8), ([116, 111] : List UInt8), ([116, 114, 117, 101] : List UInt8)])
noncomputable def ref07_Spelt_l1_s (s0 : List UInt8) (s3 : Int) : Option ((Int) ⊕ (Unit ⊕ Unit)) :=
  iteE (decide (s3 < (s0.length : Int))) (
   idxE s0 s3 fun x1 =>
   iteE (decide (((65 : UInt8).toNat : Int) ≤ (x1.toNat : Int))) (
    iteE (decide ((x1.toNat : Int) ≤ ((90 : UInt8).toNat : Int))) (
     some (.inl (intVal .add .i64 s3 1))) (
     iteE (decide (((97 : UInt8).toNat : Int) ≤ (x1.toNat : Int))) (
      iteE (decide ((x1.toNat : Int) ≤ ((122 : UInt8).toNat : Int))) (
       some (.inl (intVal .add .i64 s3 1))) (
       iteE (!(decide ((x1.toNat : Int) = ((95 : UInt8).toNat : Int)))) (
        iteE (decide (s3 = 0)) (
         some (.inr (.inr ()))) (
         iteE (decide ((x1.toNat : Int) < ((48 : UInt8).toNat : Int))) (
          some (.inr (.inr ()))) (
          iteE (decide (((57 : UInt8).toNat : Int) < (x1.toNat : Int))) (
           some (.inr (.inr ()))) (
           some (.inl (intVal .add .i64 s3 1)))))) (
        some (.inl (intVal .add .i64 s3 1))))) (
      iteE (!(decide ((x1.toNat : Int) = ((95 : UInt8).toNat : Int)))) (
       iteE (decide (s3 = 0)) (
        some (.inr (.inr ()))) (
        iteE (decide ((x1.toNat : Int) < ((48 : UInt8).toNat : Int))) (
         some (.inr (.inr ()))) (
         iteE (decide (((57 : UInt8).toNat : Int) < (x1.toNat : Int))) (
          some (.inr (.inr ()))) (
          some (.inl (intVal .add .i64 s3 1)))))) (
       some (.inl (intVal .add .i64 s3 1)))))) (
    iteE (decide (((97 : UInt8).toNat : Int) ≤ (x1.toNat : Int))) (
     iteE (decide ((x1.toNat : Int) ≤ ((122 : UInt8).toNat : Int))) (
      some (.inl (intVal .add .i64 s3 1))) (
      iteE (!(decide ((x1.toNat : Int) = ((95 : UInt8).toNat : Int)))) (
       iteE (decide (s3 = 0)) (
        some (.inr (.inr ()))) (
        iteE (decide ((x1.toNat : Int) < ((48 : UInt8).toNat : Int))) (
         some (.inr (.inr ()))) (
         iteE (decide (((57 : UInt8).toNat : Int) < (x1.toNat : Int))) (
          some (.inr (.inr ()))) (
          some (.inl (intVal .add .i64 s3 1)))))) (
       some (.inl (intVal .add .i64 s3 1))))) (
     iteE (!(decide ((x1.toNat : Int) = ((95 : UInt8).toNat : Int)))) (
      iteE (decide (s3 = 0)) (
       some (.inr (.inr ()))) (
       iteE (decide ((x1.toNat : Int) < ((48 : UInt8).toNat : Int))) (
        some (.inr (.inr ()))) (
        iteE (decide (((57 : UInt8).toNat : Int) < (x1.toNat : Int))) (
         some (.inr (.inr ()))) (
         some (.inl (intVal .add .i64 s3 1)))))) (
      some (.inl (intVal .add .i64 s3 1)))))) (
   some (.inr (.inl ())))
noncomputable def ref07_Spelt_l1 (s0 : List UInt8) (s3 : Int) : Option (Unit ⊕ Unit) := loopE (fun s : Int => ref07_Spelt_l1_s s0 s) s3
noncomputable def ref07_Spelt (a0 : List UInt8) : Option (Bool) :=
  iteE (decide ((a0.length : Int) < 1)) (
   some false) (
   iteE (decide (32 < (a0.length : Int))) (
    some false) (
    bndE (ref07_Spelt_l1 a0 0) fun o2 =>
    sumE o2 (fun o3 =>
     some true) (fun o4 =>
     some false)))
noncomputable def ref07_Name_l1_s (s0 : List UInt8) (s3 : List (List UInt8)) (s4 : Int) : Option ((Int) ⊕ (Unit ⊕ Unit)) :=
  iteE (decide (s4 < (s3.length : Int))) (
   idxE s3 s4 fun x2 =>
   iteE (decide (x2 = s0)) (
    some (.inr (.inr ()))) (
    some (.inl (intVal .add .i64 s4 1)))) (
   some (.inr (.inl ())))
noncomputable def ref07_Name_l1 (s0 : List UInt8) (s3 : List (List UInt8)) (s4 : Int) : Option (Unit ⊕ Unit) := loopE (fun s : Int => ref07_Name_l1_s s0 s3 s) s4
noncomputable def ref07_Name (a0 : List UInt8) : Option (Bool) :=
  bndE (ref07_Words) fun r1 =>
  bndE (ref07_Name_l1 a0 r1 0) fun o3 =>
  sumE o3 (fun o4 =>
   bndE (ref07_Spelt a0) fun r6 =>
   iteE (r6) (
    some (!decide (a0 = ([95] : List UInt8)))) (
    some false)) (fun o5 =>
   some false)
noncomputable def ref07_Find_l1_s (s0 : List TDecl) (s1 : List UInt8) (s5 : Int) : Option ((Int) ⊕ (Unit ⊕ Int)) :=
  iteE (decide (s5 < (s0.length : Int))) (
   idxE s0 s5 fun x1 =>
   iteE (decide (x1.name = s1)) (
    some (.inr (.inr s5))) (
    some (.inl (intVal .add .i64 s5 1)))) (
   some (.inr (.inl ())))
noncomputable def ref07_Find_l1 (s0 : List TDecl) (s1 : List UInt8) (s5 : Int) : Option (Unit ⊕ Int) := loopE (fun s : Int => ref07_Find_l1_s s0 s1 s) s5
noncomputable def ref07_Find (a0 : List TDecl) (a1 : List UInt8) : Option (Int) :=
  bndE (ref07_Find_l1 a0 a1 0) fun o2 =>
  sumE o2 (fun o3 =>
   some (-1)) (fun o4 =>
   some o4)
noncomputable def ref07_Check_l2_s (s0 : List TDecl) (s4 : Int) (s5 : Int) : Option ((Int) ⊕ (Unit ⊕ Unit)) :=
  idxE s0 s4 fun x6 =>
  iteE (decide (s5 < (x6.types.length : Int))) (
   idxE s0 s4 fun x7 =>
   idxE x7.types s5 fun x8 =>
   iteE (decide (x8 < 1)) (
    some (.inr (.inr ()))) (
    idxE s0 s4 fun x9 =>
    idxE x9.types s5 fun x10 =>
    iteE (decide (3 < x10)) (
     some (.inr (.inr ()))) (
     some (.inl (intVal .add .i64 s5 1))))) (
   some (.inr (.inl ())))
noncomputable def ref07_Check_l2 (s0 : List TDecl) (s4 : Int) (s5 : Int) : Option (Unit ⊕ Unit) := loopE (fun s : Int => ref07_Check_l2_s s0 s4 s) s5
noncomputable def ref07_Check_l1_s (s0 : List TDecl) (s4 : Int) : Option ((Int) ⊕ (Unit ⊕ (Int × Int))) :=
  iteE (decide (s4 < (s0.length : Int))) (
   idxE s0 s4 fun x1 =>
   bndE (ref07_Name x1.name) fun r2 =>
   iteE (!r2) (
    some (.inr (.inr (11, s4)))) (
    idxE s0 s4 fun x3 =>
    bndE (ref07_Find s0 x3.name) fun r4 =>
    iteE (decide (r4 < s4)) (
     some (.inr (.inr (10, s4)))) (
     idxE s0 s4 fun x5 =>
     iteE (decide (8 < (x5.types.length : Int))) (
      some (.inr (.inr (14, s4)))) (
      bndE (ref07_Check_l2 s0 s4 0) fun o11 =>
      sumE o11 (fun o12 =>
       some (.inl (intVal .add .i64 s4 1))) (fun o13 =>
       some (.inr (.inr (8, s4)))))))) (
   some (.inr (.inl ())))
noncomputable def ref07_Check_l1 (s0 : List TDecl) (s4 : Int) : Option (Unit ⊕ (Int × Int)) := loopE (fun s : Int => ref07_Check_l1_s s0 s) s4
noncomputable def ref07_Check (a0 : List TDecl) : Option (Int × Int) :=
  iteE (decide (32 < (a0.length : Int))) (
   some (14, 32)) (
   bndE (ref07_Check_l1 a0 0) fun o14 =>
   sumE o14 (fun o15 =>
    some (0, (-1))) (fun o16 =>
    some (o16.1, o16.2)))
noncomputable def ref03_Right (a0 : TValue) : Option (Bool) :=
  iteE (decide (a0.kind = 1)) (
   iteE (decide (a0.str = ([] : List UInt8))) (
    some (!a0.bool)) (
    some false)) (
   iteE (decide (a0.kind = 2)) (
    iteE (decide (a0.int = 0)) (
     iteE (!a0.bool) (
      some (decide ((a0.str.length : Int) ≤ 4096))) (
      some false)) (
     some false)) (
    iteE (decide (a0.kind = 3)) (
     iteE (decide (a0.int = 0)) (
      some (decide (a0.str = ([] : List UInt8)))) (
      some false)) (
     some false)))
noncomputable def ref13_twice_l1_s (s0 : List (List UInt8)) (s1 : Int) (s5 : Int) : Option ((Int) ⊕ (Unit ⊕ Unit)) :=
  iteE (decide (s5 < s1)) (
   idxE s0 s5 fun x1 =>
   idxE s0 s1 fun x2 =>
   iteE (decide (x1 = x2)) (
    some (.inr (.inr ()))) (
    some (.inl (intVal .add .i64 s5 1)))) (
   some (.inr (.inl ())))
noncomputable def ref13_twice_l1 (s0 : List (List UInt8)) (s1 : Int) (s5 : Int) : Option (Unit ⊕ Unit) := loopE (fun s : Int => ref13_twice_l1_s s0 s1 s) s5
noncomputable def ref13_twice (a0 : List (List UInt8)) (a1 : Int) : Option (Bool) :=
  bndE (ref13_twice_l1 a0 a1 0) fun o3 =>
  sumE o3 (fun o4 =>
   some false) (fun o5 =>
   some true)
noncomputable def ref13_names_l1_s (w1 : TQea) (s4 : Int) (w3 : List (List UInt8)) : Option ((Int × List (List UInt8)) ⊕ ((List (List UInt8)) ⊕ Unit)) :=
  iteE (decide (s4 < (w1.quants.length : Int))) (
   idxE w1.quants s4 fun x4 =>
   chkE (fit w3.length [x4.name].length 16) (
    idxE w1.quants s4 fun x5 =>
    iteE (decide (x5.type < 1)) (
     some (.inr (.inr ()))) (
     idxE w1.quants s4 fun x6 =>
     iteE (decide (3 < x6.type)) (
      some (.inr (.inr ()))) (
      some (.inl ((intVal .add .i64 s4 1), w3 ++ [x4.name])))))) (
   some (.inr (.inl w3)))
noncomputable def ref13_names_l1 (w1 : TQea) (s4 : Int) (w3 : List (List UInt8)) : Option ((List (List UInt8)) ⊕ Unit) := loopE (fun s : Int × List (List UInt8) => ref13_names_l1_s w1 s.1 s.2) (s4, w3)
noncomputable def ref13_names_l2_s (w1 : TQea) (s5 : Int) (w3 : List (List UInt8)) : Option ((Int × List (List UInt8)) ⊕ ((List (List UInt8)) ⊕ Unit)) :=
  iteE (decide (s5 < (w1.frees.length : Int))) (
   idxE w1.frees s5 fun x10 =>
   chkE (fit w3.length [x10.name].length 16) (
    idxE w1.frees s5 fun x11 =>
    bndE (ref03_Right x11.init_) fun r12 =>
    iteE (!r12) (
     some (.inr (.inr ()))) (
     some (.inl ((intVal .add .i64 s5 1), w3 ++ [x10.name]))))) (
   some (.inr (.inl w3)))
noncomputable def ref13_names_l2 (w1 : TQea) (s5 : Int) (w3 : List (List UInt8)) : Option ((List (List UInt8)) ⊕ Unit) := loopE (fun s : Int × List (List UInt8) => ref13_names_l2_s w1 s.1 s.2) (s5, w3)
noncomputable def ref13_names_l3_s (w1 : TQea) (w3 : List (List UInt8)) (s6 : Int) : Option ((Int) ⊕ (Unit ⊕ Unit)) :=
  iteE (decide (s6 < (w3.length : Int))) (
   idxE w3 s6 fun x16 =>
   bndE (ref07_Name x16) fun r17 =>
   iteE (!r17) (
    some (.inr (.inr ()))) (
    bndE (ref13_twice w3 s6) fun r18 =>
    iteE (r18) (
     some (.inr (.inr ()))) (
     some (.inl (intVal .add .i64 s6 1))))) (
   some (.inr (.inl ())))
noncomputable def ref13_names_l3 (w1 : TQea) (w3 : List (List UInt8)) (s6 : Int) : Option (Unit ⊕ Unit) := loopE (fun s : Int => ref13_names_l3_s w1 w3 s) s6
noncomputable def ref13_names_l4_s (w1 : TQea) (s8 : Int) (w7 : List (List UInt8)) : Option ((Int × List (List UInt8)) ⊕ (Unit ⊕ Unit)) :=
  iteE (decide (s8 < (w1.states.length : Int))) (
   idxE w1.states s8 fun x26 =>
   chkE (fit w7.length [x26.name].length 16) (
    idxE (w7 ++ [x26.name]) s8 fun x27 =>
    bndE (ref07_Name x27) fun r28 =>
    iteE (!r28) (
     some (.inr (.inr ()))) (
     bndE (ref13_twice (w7 ++ [x26.name]) s8) fun r29 =>
     iteE (r29) (
      some (.inr (.inr ()))) (
      some (.inl ((intVal .add .i64 s8 1), w7 ++ [x26.name])))))) (
   some (.inr (.inl ())))
noncomputable def ref13_names_l4 (w1 : TQea) (s8 : Int) (w7 : List (List UInt8)) : Option (Unit ⊕ Unit) := loopE (fun s : Int × List (List UInt8) => ref13_names_l4_s w1 s.1 s.2) (s8, w7)
noncomputable def ref13_names (a0 : TQea) : Option (Bool) :=
  bndE (ref13_names_l1 a0 0 ([] : List (List UInt8))) fun o7 =>
  sumE o7 (fun o8 =>
   bndE (ref13_names_l2 a0 0 o8) fun o13 =>
   sumE o13 (fun o14 =>
    bndE (ref13_names_l3 a0 o14 0) fun o19 =>
    sumE o19 (fun o20 =>
     bndE (ref13_names_l4 a0 0 ([] : List (List UInt8))) fun o30 =>
     sumE o30 (fun o31 =>
      bndE (ref07_Name a0.name) fun r33 =>
      some r33) (fun o32 =>
      some false)) (fun o21 =>
     some false)) (fun o15 =>
    some false)) (fun o9 =>
   some false)
noncomputable def ref03_truth (a0 : Bool) : Option (TValue × Int) :=
  some (TValue.mk 3 0 ([] : List UInt8) a0, 0)
noncomputable def ref01_Add (a0 : Int) (a1 : Int) : Option (Int × Bool) :=
  iteE (decide (0 < a1)) (
   iteE (decide ((intVal .sub .i64 9223372036854775807 a1) < a0)) (
    some (0, false)) (
    iteE (decide (a1 < 0)) (
     iteE (decide (a0 < (intVal .sub .i64 (-9223372036854775808) a1))) (
      some (0, false)) (
      some ((intVal .add .i64 a0 a1), true))) (
     some ((intVal .add .i64 a0 a1), true)))) (
   iteE (decide (a1 < 0)) (
    iteE (decide (a0 < (intVal .sub .i64 (-9223372036854775808) a1))) (
     some (0, false)) (
     some ((intVal .add .i64 a0 a1), true))) (
    some ((intVal .add .i64 a0 a1), true)))
noncomputable def ref03_number (a0 : Int) (a1 : Bool) : Option (TValue × Int) :=
  iteE (!a1) (
   some (TValue.mk 0 0 ([] : List UInt8) false, 6)) (
   some (TValue.mk 1 a0 ([] : List UInt8) false, 0))
noncomputable def ref01_Sub (a0 : Int) (a1 : Int) : Option (Int × Bool) :=
  iteE (decide (a1 < 0)) (
   iteE (decide ((intVal .add .i64 9223372036854775807 a1) < a0)) (
    some (0, false)) (
    iteE (decide (0 < a1)) (
     iteE (decide (a0 < (intVal .add .i64 (-9223372036854775808) a1))) (
      some (0, false)) (
      some ((intVal .sub .i64 a0 a1), true))) (
     some ((intVal .sub .i64 a0 a1), true)))) (
   iteE (decide (0 < a1)) (
    iteE (decide (a0 < (intVal .add .i64 (-9223372036854775808) a1))) (
     some (0, false)) (
     some ((intVal .sub .i64 a0 a1), true))) (
    some ((intVal .sub .i64 a0 a1), true)))
noncomputable def ref01_Mul (a0 : Int) (a1 : Int) : Option (Int × Bool) :=
  iteE (decide (a0 = 0)) (
   some (0, true)) (
   iteE (decide (a1 = 0)) (
    some (0, true)) (
    iteE (decide (a0 = (-1))) (
     bndE (ref01_Sub 0 a1) fun r1 =>
     some (r1.1, r1.2)) (
     iteE (decide (a1 = (-1))) (
      bndE (ref01_Sub 0 a0) fun r2 =>
      some (r2.1, r2.2)) (
      iteE (decide (0 < a0)) (
       iteE (decide (0 < a1)) (
        chkE (a1 ≠ 0) (
         iteE (decide ((intVal .quo .i64 9223372036854775807 a1) < a0)) (
          some (0, false)) (
          iteE (decide (a1 < 0)) (
           chkE (a0 ≠ 0) (
            iteE (decide (a1 < (intVal .quo .i64 (-9223372036854775808) a0))) (
             some (0, false)) (
             iteE (decide (a0 < 0)) (
              chkE (a1 ≠ 0) (
               iteE (decide (a0 < (intVal .quo .i64 (-9223372036854775808) a1))) (
                some (0, false)) (
                chkE (a1 ≠ 0) (
                 iteE (decide (a0 < (intVal .quo .i64 9223372036854775807 a1))) (
                  some (0, false)) (
                  some ((intVal .mul .i64 a0 a1), true)))))) (
              some ((intVal .mul .i64 a0 a1), true))))) (
           iteE (decide (a0 < 0)) (
            chkE (a1 ≠ 0) (
             iteE (decide (a0 < (intVal .quo .i64 (-9223372036854775808) a1))) (
              some (0, false)) (
              some ((intVal .mul .i64 a0 a1), true)))) (
            some ((intVal .mul .i64 a0 a1), true)))))) (
        iteE (decide (a1 < 0)) (
         chkE (a0 ≠ 0) (
          iteE (decide (a1 < (intVal .quo .i64 (-9223372036854775808) a0))) (
           some (0, false)) (
           iteE (decide (a0 < 0)) (
            chkE (a1 ≠ 0) (
             iteE (decide (a0 < (intVal .quo .i64 9223372036854775807 a1))) (
              some (0, false)) (
              some ((intVal .mul .i64 a0 a1), true)))) (
            some ((intVal .mul .i64 a0 a1), true))))) (
         iteE (decide (a0 < 0)) (
          some ((intVal .mul .i64 a0 a1), true)) (
          some ((intVal .mul .i64 a0 a1), true))))) (
       iteE (decide (a0 < 0)) (
        iteE (decide (0 < a1)) (
         chkE (a1 ≠ 0) (
          iteE (decide (a0 < (intVal .quo .i64 (-9223372036854775808) a1))) (
           some (0, false)) (
           iteE (decide (a1 < 0)) (
            chkE (a1 ≠ 0) (
             iteE (decide (a0 < (intVal .quo .i64 9223372036854775807 a1))) (
              some (0, false)) (
              some ((intVal .mul .i64 a0 a1), true)))) (
            some ((intVal .mul .i64 a0 a1), true))))) (
         iteE (decide (a1 < 0)) (
          chkE (a1 ≠ 0) (
           iteE (decide (a0 < (intVal .quo .i64 9223372036854775807 a1))) (
            some (0, false)) (
            some ((intVal .mul .i64 a0 a1), true)))) (
          some ((intVal .mul .i64 a0 a1), true)))) (
        some ((intVal .mul .i64 a0 a1), true)))))))
noncomputable def ref01_Div (a0 : Int) (a1 : Int) : Option (Int × Int × Int) :=
  iteE (decide (a1 = 0)) (
   some (0, 0, 7)) (
   iteE (decide (a1 = (-1))) (
    bndE (ref01_Sub 0 a0) fun r1 =>
    iteE (!r1.2) (
     some (0, 0, 6)) (
     some (r1.1, 0, 0))) (
    chkE (a1 ≠ 0) (
     chkE (a1 ≠ 0) (
      some ((intVal .quo .i64 a0 a1), (intVal .rem .i64 a0 a1), 0)))))
noncomputable def ref03_arith (a0 : Int) (a1 : Int) (a2 : Int) : Option (TValue × Int) :=
  iteE (decide (a0 = 8)) (
   bndE (ref01_Add a1 a2) fun r1 =>
   bndE (ref03_number r1.1 r1.2) fun r2 =>
   some (r2.1, r2.2)) (
   iteE (decide (a0 = 9)) (
    bndE (ref01_Sub a1 a2) fun r3 =>
    bndE (ref03_number r3.1 r3.2) fun r4 =>
    some (r4.1, r4.2)) (
    iteE (decide (a0 = 10)) (
     bndE (ref01_Mul a1 a2) fun r5 =>
     bndE (ref03_number r5.1 r5.2) fun r6 =>
     some (r6.1, r6.2)) (
     bndE (ref01_Div a1 a2) fun r7 =>
     iteE (decide (r7.2.2 = 7)) (
      some (TValue.mk 0 0 ([] : List UInt8) false, 7)) (
      iteE (decide (a0 = 12)) (
       some (TValue.mk 1 r7.2.1 ([] : List UInt8) false, 0)) (
       bndE (ref03_number r7.1 (decide (r7.2.2 = 0))) fun r8 =>
       some (r8.1, r8.2))))))
noncomputable def ref03_Below_l1_s (s0 : List UInt8) (s1 : List UInt8) (s5 : Int) : Option ((Int) ⊕ (Unit ⊕ Bool)) :=
  iteE (decide (s5 < (s0.length : Int))) (
   iteE (decide (s5 < (s1.length : Int))) (
    idxE s0 s5 fun x1 =>
    idxE s1 s5 fun x2 =>
    iteE (!decide ((x1.toNat : Int) = (x2.toNat : Int))) (
     idxE s0 s5 fun x3 =>
     idxE s1 s5 fun x4 =>
     some (.inr (.inr (decide ((x3.toNat : Int) < (x4.toNat : Int)))))) (
     some (.inl (intVal .add .i64 s5 1)))) (
    some (.inr (.inl ())))) (
   some (.inr (.inl ())))
noncomputable def ref03_Below_l1 (s0 : List UInt8) (s1 : List UInt8) (s5 : Int) : Option (Unit ⊕ Bool) := loopE (fun s : Int => ref03_Below_l1_s s0 s1 s) s5
noncomputable def ref03_Below (a0 : List UInt8) (a1 : List UInt8) : Option (Bool) :=
  bndE (ref03_Below_l1 a0 a1 0) fun o5 =>
  sumE o5 (fun o6 =>
   some (decide ((a0.length : Int) < (a1.length : Int)))) (fun o7 =>
   some o7)
noncomputable def ref03_Less (a0 : TValue) (a1 : TValue) : Option (Bool) :=
  iteE (!decide (a0.kind = a1.kind)) (
   some (decide (a0.kind < a1.kind))) (
   iteE (decide (a0.kind = 1)) (
    some (decide (a0.int < a1.int))) (
    iteE (decide (a0.kind = 2)) (
     bndE (ref03_Below a0.str a1.str) fun r1 =>
     some r1) (
     iteE (!a0.bool) (
      some a1.bool) (
      some false))))
noncomputable def ref03_Op (a0 : Int) (a1 : TValue) (a2 : TValue) : Option (TValue × Int) :=
  iteE (decide (a0 < 4)) (
   some (TValue.mk 0 0 ([] : List UInt8) false, 1)) (
   iteE (decide (16 < a0)) (
    some (TValue.mk 0 0 ([] : List UInt8) false, 1)) (
    iteE (decide (a0 = 4)) (
     iteE (!decide (a1.kind = 3)) (
      some (TValue.mk 0 0 ([] : List UInt8) false, 8)) (
      bndE (ref03_truth (!a1.bool)) fun r1 =>
      some (r1.1, r1.2))) (
     iteE (decide (a0 = 5)) (
      iteE (!decide (a1.kind = 1)) (
       some (TValue.mk 0 0 ([] : List UInt8) false, 8)) (
       bndE (ref03_arith 9 0 a1.int) fun r2 =>
       some (r2.1, r2.2))) (
      iteE (!decide (a1.kind = a2.kind)) (
       some (TValue.mk 0 0 ([] : List UInt8) false, 8)) (
       iteE (decide (a0 = 13)) (
        bndE (ref03_truth (TValue.eqb a1 a2)) fun r3 =>
        some (r3.1, r3.2)) (
        iteE (decide (a0 = 14)) (
         bndE (ref03_truth (!(TValue.eqb a1 a2))) fun r4 =>
         some (r4.1, r4.2)) (
         iteE (decide (a1.kind = 3)) (
          iteE (decide (a0 = 6)) (
           iteE (a1.bool) (
            bndE (ref03_truth a2.bool) fun r5 =>
            some (r5.1, r5.2)) (
            bndE (ref03_truth false) fun r6 =>
            some (r6.1, r6.2))) (
           iteE (decide (a0 = 7)) (
            iteE (a1.bool) (
             bndE (ref03_truth true) fun r7 =>
             some (r7.1, r7.2)) (
             bndE (ref03_truth a2.bool) fun r8 =>
             some (r8.1, r8.2))) (
            some (TValue.mk 0 0 ([] : List UInt8) false, 8)))) (
          iteE (decide (a0 = 15)) (
           bndE (ref03_Less a1 a2) fun r9 =>
           bndE (ref03_truth r9) fun r10 =>
           some (r10.1, r10.2)) (
           iteE (decide (a0 = 16)) (
            bndE (ref03_Less a2 a1) fun r11 =>
            bndE (ref03_truth (!r11)) fun r12 =>
            some (r12.1, r12.2)) (
            iteE (decide (a1.kind = 1)) (
             iteE (decide (8 ≤ a0)) (
              iteE (decide (a0 ≤ 12)) (
               bndE (ref03_arith a0 a1.int a2.int) fun r13 =>
               some (r13.1, r13.2)) (
               iteE (decide (a1.kind = 2)) (
                iteE (decide (a0 = 8)) (
                 iteE (decide (4096 < (intVal .add .i64 (a1.str.length : Int) (a2.str.length : Int)))) (
                  some (TValue.mk 0 0 ([] : List UInt8) false, 3)) (
                  chkE (a1.str.length + a2.str.length ≤ 9223372036854775807) (
                   some (TValue.mk 2 0 (a1.str ++ a2.str) false, 0)))) (
                 some (TValue.mk 0 0 ([] : List UInt8) false, 8))) (
                some (TValue.mk 0 0 ([] : List UInt8) false, 8)))) (
              iteE (decide (a1.kind = 2)) (
               iteE (decide (a0 = 8)) (
                iteE (decide (4096 < (intVal .add .i64 (a1.str.length : Int) (a2.str.length : Int)))) (
                 some (TValue.mk 0 0 ([] : List UInt8) false, 3)) (
                 chkE (a1.str.length + a2.str.length ≤ 9223372036854775807) (
                  some (TValue.mk 2 0 (a1.str ++ a2.str) false, 0)))) (
                some (TValue.mk 0 0 ([] : List UInt8) false, 8))) (
               some (TValue.mk 0 0 ([] : List UInt8) false, 8)))) (
             iteE (decide (a1.kind = 2)) (
              iteE (decide (a0 = 8)) (
               iteE (decide (4096 < (intVal .add .i64 (a1.str.length : Int) (a2.str.length : Int)))) (
                some (TValue.mk 0 0 ([] : List UInt8) false, 3)) (
                chkE (a1.str.length + a2.str.length ≤ 9223372036854775807) (
                 some (TValue.mk 2 0 (a1.str ++ a2.str) false, 0)))) (
               some (TValue.mk 0 0 ([] : List UInt8) false, 8))) (
              some (TValue.mk 0 0 ([] : List UInt8) false, 8)))))))))))))
noncomputable def ref13_Type (a0 : Int) (a1 : Int) (a2 : Int) : Option (Int) :=
  iteE (decide (a1 < 1)) (
   some 0) (
   iteE (!decide (a1 = a2)) (
    some 0) (
    bndE (ref03_Op a0 (TValue.mk a1 0 ([] : List UInt8) false) (TValue.mk a2 0 ([] : List UInt8) false)) fun r1 =>
    iteE (decide (r1.2 = 7)) (
     some 1) (
     iteE (!decide (r1.2 = 0)) (
      some 0) (
      some r1.1.kind))))
noncomputable def ref13_below_F (self : TQea → Int → Option (Int × Int × Int)) (a0 : TQea) (a1 : Int) : Option (Int × Int × Int) :=
  iteE (decide (a1 < 0)) (
   some (0, 0, 0)) (
   iteE (decide ((a0.nodes.length : Int) ≤ a1)) (
    some (0, 0, 0)) (
    idxE a0.nodes a1 fun x1 =>
    iteE (decide (x1.op = 1)) (
     iteE (!decide (x1.a = 0)) (
      some (0, 0, 0)) (
      iteE (!decide (x1.b = 0)) (
       some (0, 0, 0)) (
       bndE (ref03_Right x1.value) fun r2 =>
       iteE (!r2) (
        some (0, 0, 0)) (
        some (x1.value.kind, 1, a1))))) (
     iteE (!(TValue.eqb x1.value (TValue.mk 0 0 ([] : List UInt8) false))) (
      some (0, 0, 0)) (
      iteE (decide (x1.op = 2)) (
       iteE (decide (x1.a < 0)) (
        some (0, 0, 0)) (
        iteE (decide ((a0.quants.length : Int) ≤ x1.a)) (
         some (0, 0, 0)) (
         iteE (!decide (x1.b = 0)) (
          some (0, 0, 0)) (
          idxE a0.quants x1.a fun x3 =>
          some (x3.type, 1, a1))))) (
       iteE (decide (x1.op = 3)) (
        iteE (decide (x1.a < 0)) (
         some (0, 0, 0)) (
         iteE (decide ((a0.frees.length : Int) ≤ x1.a)) (
          some (0, 0, 0)) (
          iteE (!decide (x1.b = 0)) (
           some (0, 0, 0)) (
           idxE a0.frees x1.a fun x4 =>
           some (x4.init_.kind, 1, a1))))) (
        iteE (decide (x1.op < 4)) (
         some (0, 0, 0)) (
         iteE (decide (16 < x1.op)) (
          some (0, 0, 0)) (
          bndE (self a0 (intVal .sub .i64 a1 1)) fun r5 =>
          iteE (decide (x1.op ≤ 5)) (
           iteE (decide (r5.1 = 0)) (
            some (0, 0, 0)) (
            iteE (!decide (x1.a = (intVal .sub .i64 a1 1))) (
             some (0, 0, 0)) (
             iteE (!decide (x1.b = 0)) (
              some (0, 0, 0)) (
              bndE (ref13_Type x1.op r5.1 r5.1) fun r6 =>
              some (r6, (intVal .add .i64 r5.2.1 1), r5.2.2))))) (
           iteE (decide (r5.1 = 0)) (
            some (0, 0, 0)) (
            iteE (!decide (x1.b = (intVal .sub .i64 a1 1))) (
             some (0, 0, 0)) (
             iteE (!decide (x1.a = (intVal .sub .i64 r5.2.2 1))) (
              some (0, 0, 0)) (
              bndE (self a0 (intVal .sub .i64 r5.2.2 1)) fun r7 =>
              bndE (ref13_Type x1.op r7.1 r5.1) fun r8 =>
              some (r8, (intVal .add .i64 (maxE r5.2.1 r7.2.1) 1), r7.2.2)))))))))))))
noncomputable def ref13_below_n : Nat → TQea → Int → Option (Int × Int × Int)
  | 0 => fun _ _  => none
  | n + 1 => fun a0 a1 => ref13_below_F (ref13_below_n n) a0 a1
noncomputable def ref13_below (a0 : TQea) (a1 : Int) : Option (Int × Int × Int) := ref13_below_n 100000 a0 a1
noncomputable def ref13_Kind (a0 : TQea) (a1 : Int) (a2 : Int) : Option (Int × Int) :=
  bndE (ref13_below a0 a2) fun r1 =>
  iteE (decide (r1.1 = 0)) (
   some (0, 0)) (
   iteE (!decide (r1.2.2 = a1)) (
    some (0, 0)) (
    some (r1.1, r1.2.1)))
noncomputable def ref13_Names_l1_s (s1 : Int) (w2 : TSymbol) (s5 : Int) : Option ((Int) ⊕ (Unit ⊕ Unit)) :=
  iteE (decide (s5 < (w2.args.length : Int))) (
   idxE w2.args s5 fun x1 =>
   iteE (decide (x1.kind = 2)) (
    idxE w2.args s5 fun x2 =>
    iteE (decide (x2.n = s1)) (
     some (.inr (.inr ()))) (
     some (.inl (intVal .add .i64 s5 1)))) (
    some (.inl (intVal .add .i64 s5 1)))) (
   some (.inr (.inl ())))
noncomputable def ref13_Names_l1 (s1 : Int) (w2 : TSymbol) (s5 : Int) : Option (Unit ⊕ Unit) := loopE (fun s : Int => ref13_Names_l1_s s1 w2 s) s5
noncomputable def ref13_Names (a0 : TSymbol) (a1 : Int) : Option (Bool) :=
  bndE (ref13_Names_l1 a1 a0 0) fun o3 =>
  sumE o3 (fun o4 =>
   some false) (fun o5 =>
   some true)
noncomputable def ref13_bound_l1_s (s3 : Int) (w4 : TQea) (w5 : TSymbol) (s9 : Int) : Option ((Int) ⊕ (Unit ⊕ Unit)) :=
  iteE (decide (s9 < s3)) (
   idxE w4.nodes s9 fun x1 =>
   iteE (decide (x1.op = 2)) (
    idxE w4.nodes s9 fun x2 =>
    bndE (ref13_Names w5 x2.a) fun r3 =>
    iteE (!r3) (
     some (.inr (.inr ()))) (
     some (.inl (intVal .add .i64 s9 1)))) (
    some (.inl (intVal .add .i64 s9 1)))) (
   some (.inr (.inl ())))
noncomputable def ref13_bound_l1 (s3 : Int) (w4 : TQea) (w5 : TSymbol) (s9 : Int) : Option (Unit ⊕ Unit) := loopE (fun s : Int => ref13_bound_l1_s s3 w4 w5 s) s9
noncomputable def ref13_bound (a0 : TQea) (a1 : TSymbol) (a2 : Int) (a3 : Int) : Option (Bool) :=
  bndE (ref13_bound_l1 a3 a0 a1 a2) fun o4 =>
  sumE o4 (fun o5 =>
   some true) (fun o6 =>
   some false)
noncomputable def ref13_trans_b1 (s2 : Int) (s8 : Int) (s56 : Bool) (w3 : TQea) (w4 : TTrans) : Option (Int ⊕ Unit) :=
  iteE (s56) (
   bndE (ref13_Kind w3 s8 w4.guard) fun r1 =>
   iteE (!decide (r1.1 = 3)) (
    some (.inr ())) (
    iteE (decide (64 < r1.2)) (
     some (.inr ())) (
     some (.inl (intVal .add .i64 w4.guard 1))))) (
   some (.inl s8))
noncomputable def ref13_trans_l3_s (s2 : Int) (s11 : Int) (w3 : TQea) (w4 : TTrans) (w12 : TSet) (s15 : Int) : Option ((Int) ⊕ (Unit ⊕ Unit)) :=
  iteE (decide (s15 < s11)) (
   idxE w4.sets s15 fun x8 =>
   iteE (decide (x8.free = w12.free)) (
    some (.inr (.inr ()))) (
    some (.inl (intVal .add .i64 s15 1)))) (
   some (.inr (.inl ())))
noncomputable def ref13_trans_l3 (s2 : Int) (s11 : Int) (w3 : TQea) (w4 : TTrans) (w12 : TSet) (s15 : Int) : Option (Unit ⊕ Unit) := loopE (fun s : Int => ref13_trans_l3_s s2 s11 w3 w4 w12 s) s15
noncomputable def ref13_trans_l2_s (s2 : Int) (w3 : TQea) (w4 : TTrans) (s8 : Int) (s11 : Int) : Option ((Int × Int) ⊕ (Int ⊕ Unit)) :=
  iteE (decide (s11 < (w4.sets.length : Int))) (
   idxE w4.sets s11 fun x5 =>
   bndE (ref13_Kind w3 s8 x5.expr) fun r6 =>
   iteE (decide (x5.free < 0)) (
    some (.inr (.inr ()))) (
    iteE (decide ((w3.frees.length : Int) ≤ x5.free)) (
     some (.inr (.inr ()))) (
     iteE (decide (r6.1 = 0)) (
      some (.inr (.inr ()))) (
      iteE (decide (64 < r6.2)) (
       some (.inr (.inr ()))) (
       idxE w3.frees x5.free fun x7 =>
       iteE (!decide (r6.1 = x7.init_.kind)) (
        some (.inr (.inr ()))) (
        bndE (ref13_trans_l3 s2 s11 w3 w4 x5 0) fun o9 =>
        sumE o9 (fun o10 =>
         some (.inl ((intVal .add .i64 x5.expr 1), (intVal .add .i64 s11 1)))) (fun o11 =>
         some (.inr (.inr ()))))))))) (
   some (.inr (.inl s8)))
noncomputable def ref13_trans_l2 (s2 : Int) (w3 : TQea) (w4 : TTrans) (s8 : Int) (s11 : Int) : Option (Int ⊕ Unit) := loopE (fun s : Int × Int => ref13_trans_l2_s s2 w3 w4 s.1 s.2) (s8, s11)
theorem ref13_trans_l2_eq (s2 : Int) (w3 : TQea) (w4 : TTrans) (s8 : Int) (s11 : Int) : ref13_trans_l2 s2 w3 w4 s8 s11 = nextE (ref13_trans_l2_s s2 w3 w4 s8 s11) (fun s : Int × Int => ref13_trans_l2 s2 w3 w4 s.1 s.2) := loopE_eq _ _
noncomputable def ref13_trans (a0 : TQea) (a1 : TTrans) (a2 : Int) : Option (Int × Bool) :=
  iteE (decide (a1.from_ < 0)) (
   some (0, false)) (
   iteE (decide ((a0.states.length : Int) ≤ a1.from_)) (
    some (0, false)) (
    iteE (decide (a1.to < 0)) (
     some (0, false)) (
     iteE (decide ((a0.states.length : Int) ≤ a1.to)) (
      some (0, false)) (
      iteE (decide (a1.symbol < 0)) (
       some (0, false)) (
       iteE (decide ((a0.symbols.length : Int) ≤ a1.symbol)) (
        some (0, false)) (
        bndE (ref13_trans_b1 a2 a2 (!decide (a1.guard = (-1))) a0 a1) fun o2 =>
        sumE o2 (fun o3 =>
         bndE (ref13_trans_l2 a2 a0 a1 o3 0) fun o12 =>
         sumE o12 (fun o13 =>
          idxE a0.symbols a1.symbol fun x15 =>
          bndE (ref13_bound a0 x15 a2 o13) fun r16 =>
          some (o13, r16)) (fun o14 =>
          some (0, false))) (fun o4 =>
         some (0, false))))))))
noncomputable def ref13_arg (a0 : TQea) (a1 : TArg) (a2 : Int) : Option (Bool) :=
  iteE (decide (a1.kind = 1)) (
   iteE (decide (a1.n = 0)) (
    bndE (ref03_Right a1.value) fun r1 =>
    iteE (r1) (
     some (decide (a1.value.kind = a2))) (
     some false)) (
    some false)) (
   iteE (!(TValue.eqb a1.value (TValue.mk 0 0 ([] : List UInt8) false))) (
    some false) (
    iteE (decide (a1.kind = 2)) (
     iteE (decide (0 ≤ a1.n)) (
      iteE (decide (a1.n < (a0.quants.length : Int))) (
       idxE a0.quants a1.n fun x2 =>
       some (decide (x2.type = a2))) (
       some false)) (
      some false)) (
     iteE (decide (a1.kind = 3)) (
      iteE (decide (0 ≤ a1.n)) (
       iteE (decide (a1.n < (a0.frees.length : Int))) (
        idxE a0.frees a1.n fun x3 =>
        some (decide (x3.init_.kind = a2))) (
        some false)) (
       some false)) (
      iteE (decide (a1.kind = 4)) (
       some (decide (a1.n = 0))) (
       some false)))))
noncomputable def ref13_symbol_l1_s (w2 : TQea) (w3 : TSymbol) (s5 : Int) : Option ((Int) ⊕ (Unit ⊕ Unit)) :=
  iteE (decide (s5 < (w3.args.length : Int))) (
   idxE w3.args s5 fun x2 =>
   idxE w2.decls w3.event fun x3 =>
   idxE x3.types s5 fun x4 =>
   bndE (ref13_arg w2 x2 x4) fun r5 =>
   iteE (!r5) (
    some (.inr (.inr ()))) (
    some (.inl (intVal .add .i64 s5 1)))) (
   some (.inr (.inl ())))
noncomputable def ref13_symbol_l1 (w2 : TQea) (w3 : TSymbol) (s5 : Int) : Option (Unit ⊕ Unit) := loopE (fun s : Int => ref13_symbol_l1_s w2 w3 s) s5
noncomputable def ref13_symbol (a0 : TQea) (a1 : TSymbol) : Option (Bool) :=
  iteE (decide (a1.event < 0)) (
   some false) (
   iteE (decide ((a0.decls.length : Int) ≤ a1.event)) (
    some false) (
    idxE a0.decls a1.event fun x1 =>
    iteE (!decide ((a1.args.length : Int) = (x1.types.length : Int))) (
     some false) (
     bndE (ref13_symbol_l1 a0 a1 0) fun o6 =>
     sumE o6 (fun o7 =>
      some true) (fun o8 =>
      some false))))
noncomputable def ref13_SameSymbol_l1_s (w2 : TSymbol) (w3 : TSymbol) (s5 : Int) : Option ((Int) ⊕ (Unit ⊕ Unit)) :=
  iteE (decide (s5 < (w2.args.length : Int))) (
   idxE w2.args s5 fun x1 =>
   idxE w3.args s5 fun x2 =>
   iteE (!(TArg.eqb x1 x2)) (
    some (.inr (.inr ()))) (
    some (.inl (intVal .add .i64 s5 1)))) (
   some (.inr (.inl ())))
noncomputable def ref13_SameSymbol_l1 (w2 : TSymbol) (w3 : TSymbol) (s5 : Int) : Option (Unit ⊕ Unit) := loopE (fun s : Int => ref13_SameSymbol_l1_s w2 w3 s) s5
noncomputable def ref13_SameSymbol (a0 : TSymbol) (a1 : TSymbol) : Option (Bool) :=
  iteE (!decide (a0.event = a1.event)) (
   some false) (
   iteE (!decide ((a0.args.length : Int) = (a1.args.length : Int))) (
    some false) (
    bndE (ref13_SameSymbol_l1 a0 a1 0) fun o3 =>
    sumE o3 (fun o4 =>
     some true) (fun o5 =>
     some false)))
noncomputable def ref13_symbols_b5 (s5 : Int) (s6 : Int) (s34 : Bool) (w1 : TQea) (w3 : List Bool) (w4 : List Int) : Option ((List Int)) :=
  iteE (s34) (
   chkE (fit w4.length [s6].length 8) (
    some (w4 ++ [s6]))) (
   some w4)
noncomputable def ref13_symbols_b4 (s5 : Int) (w1 : TQea) (w3 : List Bool) (w4 : List Int) : Option ((List Bool × List Int)) :=
  idxE w1.trans s5 fun x5 =>
  chkE (0 ≤ x5.symbol ∧ x5.symbol + 1 ≤ (w3.length : Int)) (
   idxE w3 x5.symbol fun x6 =>
   bndE (ref13_symbols_b5 s5 x5.symbol (!x6) w1 w3 w4) fun o7 =>
   chkE (0 ≤ x5.symbol ∧ x5.symbol + 1 ≤ (w3.length : Int)) (
    chkE (0 ≤ x5.symbol ∧ x5.symbol + 1 ≤ (w3.length : Int)) (
     some (w3.set x5.symbol.toNat true, o7))))
noncomputable def ref13_symbols_l1_s (w1 : TQea) (s5 : Int) (w3 : List Bool) (w4 : List Int) : Option ((Int × List Bool × List Int) ⊕ ((List Int))) :=
  iteE (decide (s5 < (w1.trans.length : Int))) (
   bndE (ref13_symbols_b4 s5 w1 w3 w4) fun o8 =>
   some (.inl ((intVal .add .i64 s5 1), o8.1, o8.2))) (
   some (.inr w4))
noncomputable def ref13_symbols_l1 (w1 : TQea) (s5 : Int) (w3 : List Bool) (w4 : List Int) : Option ((List Int)) := loopE (fun s : Int × List Bool × List Int => ref13_symbols_l1_s w1 s.1 s.2.1 s.2.2) (s5, w3, w4)
noncomputable def ref13_symbols_l6_s (w1 : TQea) (w4 : List Int) (s7 : Int) : Option ((Int) ⊕ (Unit ⊕ Unit)) :=
  iteE (decide (s7 < (w4.length : Int))) (
   idxE w4 s7 fun x10 =>
   iteE (!decide (x10 = (intVal .add .i64 (intVal .sub .i64 (w1.symbols.length : Int) (w4.length : Int)) s7))) (
    some (.inr (.inr ()))) (
    some (.inl (intVal .add .i64 s7 1)))) (
   some (.inr (.inl ())))
noncomputable def ref13_symbols_l6 (w1 : TQea) (w4 : List Int) (s7 : Int) : Option (Unit ⊕ Unit) := loopE (fun s : Int => ref13_symbols_l6_s w1 w4 s) s7
noncomputable def ref13_symbols_l8_s (s8 : Int) (w1 : TQea) (s9 : Int) : Option ((Int) ⊕ (Unit ⊕ Unit)) :=
  iteE (decide (s9 < s8)) (
   idxE w1.symbols s8 fun x16 =>
   idxE w1.symbols s9 fun x17 =>
   bndE (ref13_SameSymbol x16 x17) fun r18 =>
   iteE (r18) (
    some (.inr (.inr ()))) (
    some (.inl (intVal .add .i64 s9 1)))) (
   some (.inr (.inl ())))
noncomputable def ref13_symbols_l8 (s8 : Int) (w1 : TQea) (s9 : Int) : Option (Unit ⊕ Unit) := loopE (fun s : Int => ref13_symbols_l8_s s8 w1 s) s9
noncomputable def ref13_symbols_l7_s (w1 : TQea) (s8 : Int) : Option ((Int) ⊕ (Unit ⊕ Unit)) :=
  iteE (decide (s8 < (w1.symbols.length : Int))) (
   idxE w1.symbols s8 fun x14 =>
   bndE (ref13_symbol w1 x14) fun r15 =>
   iteE (!r15) (
    some (.inr (.inr ()))) (
    bndE (ref13_symbols_l8 s8 w1 0) fun o19 =>
    sumE o19 (fun o20 =>
     some (.inl (intVal .add .i64 s8 1))) (fun o21 =>
     some (.inr (.inr ()))))) (
   some (.inr (.inl ())))
noncomputable def ref13_symbols_l7 (w1 : TQea) (s8 : Int) : Option (Unit ⊕ Unit) := loopE (fun s : Int => ref13_symbols_l7_s w1 s) s8
noncomputable def ref13_symbols_l10_s (s10 : Int) (w1 : TQea) (s11 : Bool) (s12 : Int) : Option ((Bool × Int) ⊕ (Bool)) :=
  iteE (decide (s12 < (w1.symbols.length : Int))) (
   iteE (s11) (
    some (.inl (true, (intVal .add .i64 s12 1)))) (
    idxE w1.symbols s12 fun x25 =>
    bndE (ref13_Names x25 s10) fun r26 =>
    some (.inl (r26, (intVal .add .i64 s12 1))))) (
   some (.inr s11))
noncomputable def ref13_symbols_l10 (s10 : Int) (w1 : TQea) (s11 : Bool) (s12 : Int) : Option (Bool) := loopE (fun s : Bool × Int => ref13_symbols_l10_s s10 w1 s.1 s.2) (s11, s12)
noncomputable def ref13_symbols_l9_s (w1 : TQea) (s10 : Int) : Option ((Int) ⊕ (Unit ⊕ Unit)) :=
  iteE (decide (s10 < (w1.quants.length : Int))) (
   bndE (ref13_symbols_l10 s10 w1 false 0) fun o27 =>
   iteE (!o27) (
    some (.inr (.inr ()))) (
    some (.inl (intVal .add .i64 s10 1)))) (
   some (.inr (.inl ())))
noncomputable def ref13_symbols_l9 (w1 : TQea) (s10 : Int) : Option (Unit ⊕ Unit) := loopE (fun s : Int => ref13_symbols_l9_s w1 s) s10
noncomputable def ref13_symbols (a0 : TQea) : Option (Bool) :=
  chkE (0 ≤ (a0.symbols.length : Int) ∧ fit 0 (a0.symbols.length : Int).toNat 1) (
   bndE (ref13_symbols_l1 a0 0 (List.replicate (a0.symbols.length : Int).toNat false) ([] : List Int)) fun o9 =>
   bndE (ref13_symbols_l6 a0 o9 0) fun o11 =>
   sumE o11 (fun o12 =>
    bndE (ref13_symbols_l7 a0 0) fun o22 =>
    sumE o22 (fun o23 =>
     bndE (ref13_symbols_l9 a0 0) fun o28 =>
     sumE o28 (fun o29 =>
      some true) (fun o30 =>
      some false)) (fun o24 =>
     some false)) (fun o13 =>
    some false))
noncomputable def ref13_Right_l1_s (w1 : TQea) (s5 : Int) (s6 : Int) : Option ((Int × Int) ⊕ (Int ⊕ Unit)) :=
  iteE (decide (s6 < (w1.trans.length : Int))) (
   idxE w1.trans s6 fun x3 =>
   bndE (ref13_trans w1 x3 s5) fun r4 =>
   iteE (!r4.2) (
    some (.inr (.inr ()))) (
    some (.inl (r4.1, (intVal .add .i64 s6 1))))) (
   some (.inr (.inl s5)))
noncomputable def ref13_Right_l1 (w1 : TQea) (s5 : Int) (s6 : Int) : Option (Int ⊕ Unit) := loopE (fun s : Int × Int => ref13_Right_l1_s w1 s.1 s.2) (s5, s6)
noncomputable def ref13_Right (a0 : TQea) : Option (Bool) :=
  bndE (ref07_Check a0.decls) fun r1 =>
  iteE (!decide (r1.1 = 0)) (
   some false) (
   iteE (decide (8 < (a0.quants.length : Int))) (
    some false) (
    iteE (decide (16 < (a0.frees.length : Int))) (
     some false) (
     iteE (decide (32 < (a0.states.length : Int))) (
      some false) (
      iteE (decide (64 < (a0.symbols.length : Int))) (
       some false) (
       iteE (decide (2048 < (a0.nodes.length : Int))) (
        some false) (
        iteE (decide (256 < (a0.trans.length : Int))) (
         some false) (
         iteE (decide (a0.start < 0)) (
          some false) (
          iteE (decide ((a0.states.length : Int) ≤ a0.start)) (
           some false) (
           bndE (ref13_names a0) fun r2 =>
           iteE (!r2) (
            some false) (
            bndE (ref13_Right_l1 a0 0 0) fun o5 =>
            sumE o5 (fun o6 =>
             iteE (decide (o6 = (a0.nodes.length : Int))) (
              bndE (ref13_symbols a0) fun r8 =>
              some r8) (
              some false)) (fun o7 =>
             some false)))))))))))
noncomputable def ref22_Small_l1_s (w1 : TQea) (s3 : Int) : Option ((Int) ⊕ (Unit ⊕ Unit)) :=
  iteE (decide (s3 < (w1.trans.length : Int))) (
   idxE w1.trans s3 fun x1 =>
   iteE (!decide (x1.guard = (-1))) (
    some (.inr (.inr ()))) (
    some (.inl (intVal .add .i64 s3 1)))) (
   some (.inr (.inl ())))
noncomputable def ref22_Small_l1 (w1 : TQea) (s3 : Int) : Option (Unit ⊕ Unit) := loopE (fun s : Int => ref22_Small_l1_s w1 s) s3
noncomputable def ref22_Small (a0 : TQea) : Option (Bool) :=
  iteE (decide (0 < (a0.frees.length : Int))) (
   some false) (
   iteE (decide (1 < (a0.quants.length : Int))) (
    some false) (
    iteE (decide (8 < (a0.states.length : Int))) (
     some false) (
     iteE (decide (8 < (a0.symbols.length : Int))) (
      some false) (
      bndE (ref22_Small_l1 a0 0) fun o2 =>
      sumE o2 (fun o3 =>
       some true) (fun o4 =>
       some false)))))
noncomputable def ref05_Right_l1_s (s0 : List TSlot) (s3 : Int) : Option ((Int) ⊕ (Unit ⊕ Unit)) :=
  iteE (decide (s3 < (s0.length : Int))) (
   idxE s0 s3 fun x1 =>
   iteE (decide (x1.var < 0)) (
    some (.inr (.inr ()))) (
    idxE s0 s3 fun x2 =>
    iteE (decide (7 < x2.var)) (
     some (.inr (.inr ()))) (
     idxE s0 s3 fun x3 =>
     bndE (ref03_Right x3.value) fun r4 =>
     iteE (!r4) (
      some (.inr (.inr ()))) (
      iteE (decide (0 < s3)) (
       idxE s0 s3 fun x5 =>
       idxE s0 (intVal .sub .i64 s3 1) fun x6 =>
       iteE (decide (x5.var ≤ x6.var)) (
        some (.inr (.inr ()))) (
        some (.inl (intVal .add .i64 s3 1)))) (
       some (.inl (intVal .add .i64 s3 1))))))) (
   some (.inr (.inl ())))
noncomputable def ref05_Right_l1 (s0 : List TSlot) (s3 : Int) : Option (Unit ⊕ Unit) := loopE (fun s : Int => ref05_Right_l1_s s0 s) s3
noncomputable def ref05_Right (a0 : List TSlot) : Option (Bool) :=
  bndE (ref05_Right_l1 a0 0) fun o7 =>
  sumE o7 (fun o8 =>
   some true) (fun o9 =>
   some false)
noncomputable def ref22_Fits (a0 : TQea) (a1 : List TSlot) : Option (Bool) :=
  iteE (decide ((a1.length : Int) = 0)) (
   some true) (
   iteE (decide ((a1.length : Int) = 1)) (
    iteE (decide ((a0.quants.length : Int) = 1)) (
     idxE a1 0 fun x1 =>
     iteE (decide (x1.var = 0)) (
      idxE a1 0 fun x2 =>
      idxE a0.quants 0 fun x3 =>
      iteE (decide (x2.value.kind = x3.type)) (
       bndE (ref05_Right a1) fun r4 =>
       some r4) (
       some false)) (
      some false)) (
     some false)) (
    some false))
noncomputable def law22_small_l1_s (s1 : List TSlot) (w2 : TQea) (s5 : Int) : Option ((Int) ⊕ (Unit ⊕ Unit)) :=
  iteE (decide (s5 < (w2.decls.length : Int))) (
   idxE w2.decls s5 fun x5 =>
   iteE (decide (3 < (x5.types.length : Int))) (
    some (.inr (.inr ()))) (
    some (.inl (intVal .add .i64 s5 1)))) (
   some (.inr (.inl ())))
noncomputable def law22_small_l1 (s1 : List TSlot) (w2 : TQea) (s5 : Int) : Option (Unit ⊕ Unit) := loopE (fun s : Int => law22_small_l1_s s1 w2 s) s5
noncomputable def law22_small (a0 : TQea) (a1 : List TSlot) : Option (Bool) :=
  bndE (ref13_Few a0) fun r1 =>
  iteE (decide (r1 = 0)) (
   some false) (
   bndE (ref13_Right a0) fun r2 =>
   iteE (!r2) (
    some false) (
    bndE (ref22_Small a0) fun r3 =>
    iteE (!r3) (
     some false) (
     bndE (ref22_Fits a0 a1) fun r4 =>
     iteE (!r4) (
      some false) (
      iteE (!decide ((a1.length : Int) = (a0.quants.length : Int))) (
       some false) (
       bndE (law22_small_l1 a1 a0 0) fun o6 =>
       sumE o6 (fun o7 =>
        iteE (decide ((a1.length : Int) = 0)) (
         some true) (
         idxE a1 0 fun x9 =>
         some (decide ((x9.value.str.length : Int) ≤ 100)))) (fun o8 =>
        some false))))))
noncomputable def law22_number (a0 : Int) : Option (TValue) :=
  some (TValue.mk 1 a0 ([] : List UInt8) false)
noncomputable def joint_own_b3 (s1 : Int) (s5 : Int) (s6 : Int) (s9 : List TSymbol) (s10 : Int) (s11 : Int) (s19 : Bool) : Option (Int) :=
  iteE (s19) (
   chkE (0 ≤ (IntKind.wrap .u64 s6)) (
    some (intVal .or .u64 s5 (intVal .shl .u64 1 (IntKind.wrap .u64 s6))))) (
   some s5)
noncomputable def joint_own_b2 (s1 : Int) (s5 : Int) (s9 : List TSymbol) (s10 : Int) (s11 : Int) : Option (Int) :=
  idxE s9 s11 fun x1 =>
  bndE (joint_own_b3 s1 s5 s11 s9 s10 s11 (decide (x1.event = s1))) fun o2 =>
  some o2
noncomputable def joint_own_l1_s (s1 : Int) (s9 : List TSymbol) (s10 : Int) (s5 : Int) (s11 : Int) : Option ((Int × Int) ⊕ (Int)) :=
  iteE (decide (s11 < s10)) (
   bndE (joint_own_b2 s1 s5 s9 s10 s11) fun o3 =>
   some (.inl (o3, (intVal .add .i64 s11 1)))) (
   some (.inr s5))
noncomputable def joint_own_l1 (s1 : Int) (s9 : List TSymbol) (s10 : Int) (s5 : Int) (s11 : Int) : Option (Int) := loopE (fun s : Int × Int => joint_own_l1_s s1 s9 s10 s.1 s.2) (s5, s11)
noncomputable def joint_own (a0 : TQea) (a1 : Int) : Option (Int) :=
  bndE (joint_own_l1 a1 a0.symbols (a0.symbols.length : Int) 0 0) fun o4 =>
  some o4
noncomputable def domain_NewSet_Value_v2 : Option (Unit) :=
  some ()
noncomputable def value_Bool (a0 : Bool) : Option (TValue) :=
  some (TValue.mk 3 0 ([] : List UInt8) a0)
noncomputable def value_Less (a0 : TValue) (a1 : TValue) : Option (Bool) :=
  iteE (!decide (a0.kind = a1.kind)) (
   some (decide (a0.kind < a1.kind))) (
   iteE (decide (a0.kind = 1)) (
    some (decide (a0.int < a1.int))) (
    iteE (decide (a0.kind = 2)) (
     some (Op.bytesLess a0.str a1.str)) (
     iteE (!a0.bool) (
      some a1.bool) (
      some false))))
noncomputable def domain_Set_Value_Put_1 (a0 : TValue) (a1 : TValue) (a2 : List TValue) : Option (Int) :=
  bndE (value_Less a0 a1) fun r1 =>
  iteE (r1) (
   some (-1)) (
   bndE (value_Less a1 a0) fun r2 =>
   iteE (r2) (
    some 1) (
    some 0))
noncomputable def slices_BinarySearchFunc_Value_Value_Value_b3 (s0 : List TValue) (s2 : List TValue) (s8 : Int) (s9 : Int) (s10 : Int) (s11 : Int) (s31 : Bool) (w4 : TValue) : Option ((Int × Int)) :=
  iteE (s31) (
   some ((intVal .add .i64 s11 1), s10)) (
   some (s9, s11))
noncomputable def slices_BinarySearchFunc_Value_Value_Value_b2 (s0 : List TValue) (s2 : List TValue) (s8 : Int) (s9 : Int) (s10 : Int) (w4 : TValue) : Option ((Int × Int)) :=
  idxE s0 (IntKind.wrap .i64 (intVal .shr .u64 (IntKind.wrap .u64 (intVal .add .i64 s9 s10)) 1)) fun x1 =>
  bndE (domain_Set_Value_Put_1 x1 w4 s2) fun r2 =>
  bndE (slices_BinarySearchFunc_Value_Value_Value_b3 s0 s2 s8 s9 s10 (IntKind.wrap .i64 (intVal .shr .u64 (IntKind.wrap .u64 (intVal .add .i64 s9 s10)) 1)) (decide (r2 < 0)) w4) fun o3 =>
  some (o3.1, o3.2)
noncomputable def slices_BinarySearchFunc_Value_Value_Value_l1_s (s0 : List TValue) (s2 : List TValue) (s8 : Int) (w4 : TValue) (s9 : Int) (s10 : Int) : Option ((Int × Int) ⊕ (Int)) :=
  iteE (decide (s9 < s10)) (
   bndE (slices_BinarySearchFunc_Value_Value_Value_b2 s0 s2 s8 s9 s10 w4) fun o4 =>
   some (.inl (o4.1, o4.2))) (
   some (.inr s9))
noncomputable def slices_BinarySearchFunc_Value_Value_Value_l1 (s0 : List TValue) (s2 : List TValue) (s8 : Int) (w4 : TValue) (s9 : Int) (s10 : Int) : Option (Int) := loopE (fun s : Int × Int => slices_BinarySearchFunc_Value_Value_Value_l1_s s0 s2 s8 w4 s.1 s.2) (s9, s10)
noncomputable def slices_BinarySearchFunc_Value_Value_Value (a0 : List TValue) (a1 : TValue) (a2 : List TValue) : Option (Int × Bool) :=
  bndE (slices_BinarySearchFunc_Value_Value_Value_l1 a0 a2 (a0.length : Int) a1 0 (a0.length : Int)) fun o5 =>
  iteE (decide (o5 < (a0.length : Int))) (
   idxE a0 o5 fun x6 =>
   bndE (domain_Set_Value_Put_1 x6 a1 a2) fun r7 =>
   some (o5, decide (r7 = 0))) (
   some (o5, false))
def slices_Insert_Value_Value (i : Int) (ys : List TValue) : Option (List TValue) := insN 40 i ys
noncomputable def domain_Set_Value_Put_v2_b1 (s5 : Int) (s6 : Bool) (s20 : Bool) (w3 : TValue) : Option ((List TValue)) :=
  iteE (s20) (
   bndE (slices_Insert_Value_Value s5 [w3]) fun r2 =>
   some r2) (
   some ([] : List TValue))
noncomputable def domain_Set_Value_Put_v2 (a1 : TValue) : Option (Bool × List TValue) :=
  bndE (slices_BinarySearchFunc_Value_Value_Value ([] : List TValue) a1 ([] : List TValue)) fun r1 =>
  bndE (domain_Set_Value_Put_v2_b1 r1.1 r1.2 (!r1.2) a1) fun o3 =>
  some (!r1.2, o3)
def slices_Insert_Value_Value_v2 (i : Int) (xs ys : List TValue) : Option (List TValue) := insE 40 i xs ys
noncomputable def domain_Set_Value_Put_v3_b1 (s5 : Int) (s6 : Bool) (s20 : Bool) (w3 : TValue) (w501 : List TValue) : Option ((List TValue)) :=
  iteE (s20) (
   bndE (slices_Insert_Value_Value_v2 s5 w501 [w3]) fun r2 =>
   some r2) (
   some w501)
noncomputable def domain_Set_Value_Put_v3 (a1 : TValue) (w1 : List TValue) : Option (Bool × List TValue) :=
  bndE (slices_BinarySearchFunc_Value_Value_Value w1 a1 w1) fun r1 =>
  bndE (domain_Set_Value_Put_v3_b1 r1.1 r1.2 (!r1.2) a1 w1) fun o3 =>
  some (!r1.2, o3)
def slices_Clone_Value_Value (l : List TValue) : Option (List TValue) := cloneE 40 l
noncomputable def domain_Set_Value_All (w1 : List TValue) : Option (List TValue × List TValue) :=
  bndE (slices_Clone_Value_Value w1) fun r1 =>
  some (r1, w1)
noncomputable def joint_Consts_b1 (s1 : Int) (s12 : Bool) (w2 : TQea) : Option ((List TValue)) :=
  iteE (s12) (
   bndE (value_Bool false) fun r2 =>
   bndE (domain_Set_Value_Put_v2 r2) fun r3 =>
   bndE (value_Bool true) fun r4 =>
   bndE (domain_Set_Value_Put_v3 r4 r3.2) fun r5 =>
   some r5.2) (
   some ([] : List TValue))
noncomputable def joint_Consts_b5 (s1 : Int) (s20 : List TSymbol) (s21 : Int) (s22 : Int) (s27 : List TArg) (s28 : Int) (s29 : Int) (s42 : Bool) (w9 : TArg) (w518 : List TValue) : Option ((List TValue)) :=
  iteE (s42) (
   bndE (domain_Set_Value_Put_v3 w9.value w518) fun r9 =>
   some r9.2) (
   some w518)
noncomputable def joint_Consts_b4 (s1 : Int) (s20 : List TSymbol) (s21 : Int) (s22 : Int) (s27 : List TArg) (s28 : Int) (s29 : Int) (w518 : List TValue) : Option ((List TValue)) :=
  idxE s27 s29 fun x8 =>
  iteE (decide (x8.kind = 1)) (
   bndE (joint_Consts_b5 s1 s20 s21 s22 s27 s28 s29 (decide (x8.value.kind = s1)) x8 w518) fun o10 =>
   some o10) (
   bndE (joint_Consts_b5 s1 s20 s21 s22 s27 s28 s29 false x8 w518) fun o11 =>
   some o11)
noncomputable def joint_Consts_l3_s (s1 : Int) (s20 : List TSymbol) (s21 : Int) (s22 : Int) (s27 : List TArg) (s28 : Int) (s29 : Int) (w518 : List TValue) : Option ((Int × List TValue) ⊕ ((List TValue))) :=
  iteE (decide (s29 < s28)) (
   bndE (joint_Consts_b4 s1 s20 s21 s22 s27 s28 s29 w518) fun o12 =>
   some (.inl ((intVal .add .i64 s29 1), o12))) (
   some (.inr w518))
noncomputable def joint_Consts_l3 (s1 : Int) (s20 : List TSymbol) (s21 : Int) (s22 : Int) (s27 : List TArg) (s28 : Int) (s29 : Int) (w518 : List TValue) : Option ((List TValue)) := loopE (fun s : Int × List TValue => joint_Consts_l3_s s1 s20 s21 s22 s27 s28 s.1 s.2) (s29, w518)
noncomputable def joint_Consts_l2_s (s1 : Int) (s20 : List TSymbol) (s21 : Int) (s22 : Int) (w518 : List TValue) : Option ((Int × List TValue) ⊕ ((List TValue))) :=
  iteE (decide (s22 < s21)) (
   idxE s20 s22 fun x7 =>
   bndE (joint_Consts_l3 s1 s20 s21 s22 x7.args (x7.args.length : Int) 0 w518) fun o13 =>
   some (.inl ((intVal .add .i64 s22 1), o13))) (
   some (.inr w518))
noncomputable def joint_Consts_l2 (s1 : Int) (s20 : List TSymbol) (s21 : Int) (s22 : Int) (w518 : List TValue) : Option ((List TValue)) := loopE (fun s : Int × List TValue => joint_Consts_l2_s s1 s20 s21 s.1 s.2) (s22, w518)
noncomputable def joint_Consts (a0 : TQea) (a1 : Int) : Option (List TValue) :=
  bndE (domain_NewSet_Value_v2) fun r1 =>
  bndE (joint_Consts_b1 a1 (decide (a1 = 3)) a0) fun o6 =>
  bndE (joint_Consts_l2 a1 a0.symbols (a0.symbols.length : Int) 0 o6) fun o14 =>
  bndE (domain_Set_Value_All o14) fun r15 =>
  some r15.1
noncomputable def slices_Index_Value_Value_l1_s (s0 : List TValue) (s7 : Int) (w3 : TValue) (s8 : Int) : Option ((Int) ⊕ (Unit ⊕ Int)) :=
  iteE (decide (s8 < s7)) (
   idxE s0 s8 fun x1 =>
   iteE ((TValue.eqb w3 x1)) (
    some (.inr (.inr s8))) (
    some (.inl (intVal .add .i64 s8 1)))) (
   some (.inr (.inl ())))
noncomputable def slices_Index_Value_Value_l1 (s0 : List TValue) (s7 : Int) (w3 : TValue) (s8 : Int) : Option (Unit ⊕ Int) := loopE (fun s : Int => slices_Index_Value_Value_l1_s s0 s7 w3 s) s8
noncomputable def slices_Index_Value_Value (a0 : List TValue) (a1 : TValue) : Option (Int) :=
  bndE (slices_Index_Value_Value_l1 a0 (a0.length : Int) a1 0) fun o2 =>
  sumE o2 (fun o3 =>
   some (-1)) (fun o4 =>
   some o4)
noncomputable def slices_Contains_Value_Value (a0 : List TValue) (a1 : TValue) : Option (Bool) :=
  bndE (slices_Index_Value_Value a0 a1) fun r1 =>
  some (decide (0 ≤ r1))
def slices_Grow_Value_Value (n : Int) : Option (List TValue) := growE 40 n
noncomputable def slices_Concat_Value_Value_b3 (s0 : List (List TValue)) (s3 : Int) (s9 : List (List TValue)) (s10 : Int) (s11 : Int) (s20 : Bool) : Option (Unit) :=
  iteE (s20) (
   none) (
   some ())
noncomputable def slices_Concat_Value_Value_b2 (s0 : List (List TValue)) (s3 : Int) (s9 : List (List TValue)) (s10 : Int) (s11 : Int) : Option (Int) :=
  idxE s9 s11 fun x1 =>
  bndE (slices_Concat_Value_Value_b3 s0 (intVal .add .i64 s3 (x1.length : Int)) s9 s10 s11 (decide ((intVal .add .i64 s3 (x1.length : Int)) < 0))) fun o2 =>
  some (intVal .add .i64 s3 (x1.length : Int))
noncomputable def slices_Concat_Value_Value_l1_s (s0 : List (List TValue)) (s9 : List (List TValue)) (s10 : Int) (s3 : Int) (s11 : Int) : Option ((Int × Int) ⊕ (Int)) :=
  iteE (decide (s11 < s10)) (
   bndE (slices_Concat_Value_Value_b2 s0 s3 s9 s10 s11) fun o3 =>
   some (.inl (o3, (intVal .add .i64 s11 1)))) (
   some (.inr s3))
noncomputable def slices_Concat_Value_Value_l1 (s0 : List (List TValue)) (s9 : List (List TValue)) (s10 : Int) (s3 : Int) (s11 : Int) : Option (Int) := loopE (fun s : Int × Int => slices_Concat_Value_Value_l1_s s0 s9 s10 s.1 s.2) (s3, s11)
noncomputable def slices_Concat_Value_Value_l4_s (s25 : List (List TValue)) (s26 : Int) (s27 : Int) (w6 : List TValue) : Option ((Int × List TValue) ⊕ ((List TValue))) :=
  iteE (decide (s27 < s26)) (
   idxE s25 s27 fun x6 =>
   chkE (fit w6.length x6.length 40) (
    some (.inl ((intVal .add .i64 s27 1), w6 ++ x6)))) (
   some (.inr w6))
noncomputable def slices_Concat_Value_Value_l4 (s25 : List (List TValue)) (s26 : Int) (s27 : Int) (w6 : List TValue) : Option ((List TValue)) := loopE (fun s : Int × List TValue => slices_Concat_Value_Value_l4_s s25 s26 s.1 s.2) (s27, w6)
noncomputable def slices_Concat_Value_Value (a0 : List (List TValue)) : Option (List TValue) :=
  bndE (slices_Concat_Value_Value_l1 a0 a0 (a0.length : Int) 0 0) fun o4 =>
  bndE (slices_Grow_Value_Value o4) fun r5 =>
  bndE (slices_Concat_Value_Value_l4 a0 (a0.length : Int) 0 r5) fun o7 =>
  some o7
noncomputable def joint_New_b3 (s0 : Int) (s1 : List TValue) (s20 : Bool) (w4 : TValue) (w6 : TValue) : Option (TValue) :=
  iteE (s20) (
   some (TValue.mk w6.kind (intVal .add .i64 w6.int 1) w6.str w6.bool)) (
   chkE (w6.str.length + ([97] : List UInt8).length ≤ 9223372036854775807) (
    some (TValue.mk w6.kind w6.int (w6.str ++ ([97] : List UInt8)) w6.bool)))
noncomputable def joint_New_b2 (s0 : Int) (s1 : List TValue) (w4 : TValue) (w6 : TValue) : Option (TValue) :=
  bndE (joint_New_b3 s0 s1 (decide (s0 = 1)) w4 w6) fun o2 =>
  some o2
noncomputable def joint_New_l1_s (s0 : Int) (s1 : List TValue) (w4 : TValue) (w6 : TValue) : Option ((TValue) ⊕ (TValue)) :=
  bndE (slices_Contains_Value_Value s1 w6) fun r1 =>
  iteE (r1) (
   bndE (joint_New_b2 s0 s1 w4 w6) fun o3 =>
   some (.inl o3)) (
   some (.inr w6))
noncomputable def joint_New_l1 (s0 : Int) (s1 : List TValue) (w4 : TValue) (w6 : TValue) : Option (TValue) := loopE (fun s : TValue => joint_New_l1_s s0 s1 w4 s) w6
noncomputable def joint_New (a0 : Int) (a1 : List TValue) : Option (TValue × Bool) :=
  iteE (!decide (a0 = 1)) (
   iteE (!decide (a0 = 2)) (
    some (TValue.mk 0 0 ([] : List UInt8) false, false)) (
    bndE (joint_New_l1 a0 a1 (TValue.mk 0 0 ([] : List UInt8) false) (TValue.mk a0 0 ([] : List UInt8) false)) fun o4 =>
    some (o4, true))) (
   bndE (joint_New_l1 a0 a1 (TValue.mk 0 0 ([] : List UInt8) false) (TValue.mk a0 0 ([] : List UInt8) false)) fun o5 =>
   some (o5, true))
noncomputable def joint_place_values_b3 (s1 : List TValue) (s5 : Int) (s28 : List TSlot) (s29 : Int) (s30 : Int) (s45 : Bool) (w6 : List TValue) (w8 : TSlot) : Option ((List TValue)) :=
  iteE (s45) (
   chkE (fit w6.length [w8.value].length 40) (
    some (w6 ++ [w8.value]))) (
   some w6)
noncomputable def joint_place_values_b2 (s1 : List TValue) (s5 : Int) (s28 : List TSlot) (s29 : Int) (s30 : Int) (w6 : List TValue) : Option ((List TValue)) :=
  idxE s28 s30 fun x4 =>
  iteE (decide (x4.value.kind = s5)) (
   bndE (slices_Contains_Value_Value w6 x4.value) fun r5 =>
   bndE (joint_place_values_b3 s1 s5 s28 s29 s30 (!r5) w6 x4) fun o6 =>
   some o6) (
   bndE (joint_place_values_b3 s1 s5 s28 s29 s30 false w6 x4) fun o7 =>
   some o7)
noncomputable def joint_place_values_l1_s (s1 : List TValue) (s5 : Int) (s28 : List TSlot) (s29 : Int) (s30 : Int) (w6 : List TValue) : Option ((Int × List TValue) ⊕ ((List TValue))) :=
  iteE (decide (s30 < s29)) (
   bndE (joint_place_values_b2 s1 s5 s28 s29 s30 w6) fun o8 =>
   some (.inl ((intVal .add .i64 s30 1), o8))) (
   some (.inr w6))
noncomputable def joint_place_values_l1 (s1 : List TValue) (s5 : Int) (s28 : List TSlot) (s29 : Int) (s30 : Int) (w6 : List TValue) : Option ((List TValue)) := loopE (fun s : Int × List TValue => joint_place_values_l1_s s1 s5 s28 s29 s.1 s.2) (s30, w6)
noncomputable def joint_place_values_b4 (s61 : Bool) (w6 : List TValue) (w9 : TValue) : Option ((List TValue)) :=
  iteE (s61) (
   chkE (fit w6.length [w9].length 40) (
    some (w6 ++ [w9]))) (
   some w6)
noncomputable def joint_place_values (a0 : Tjoint_place) (a1 : List TValue) : Option (List TValue) :=
  idxE a0.q.decls a0.d_ fun x1 =>
  idxE x1.types a0.at_ fun x2 =>
  bndE (joint_Consts a0.q x2) fun r3 =>
  bndE (joint_place_values_l1 a1 x2 a0.b (a0.b.length : Int) 0 r3) fun o9 =>
  bndE (slices_Concat_Value_Value [o9, a1]) fun r10 =>
  bndE (joint_New x2 r10) fun r11 =>
  bndE (joint_place_values_b4 r11.2 o9 r11.1) fun o12 =>
  some o12
noncomputable def binding_Get_l1_s (s1 : Int) (s8 : List TSlot) (s9 : Int) (w4 : TValue) (s10 : Int) : Option ((Int) ⊕ (Unit ⊕ TValue)) :=
  iteE (decide (s10 < s9)) (
   idxE s8 s10 fun x1 =>
   iteE (decide (x1.var = s1)) (
    some (.inr (.inr x1.value))) (
    some (.inl (intVal .add .i64 s10 1)))) (
   some (.inr (.inl ())))
noncomputable def binding_Get_l1 (s1 : Int) (s8 : List TSlot) (s9 : Int) (w4 : TValue) (s10 : Int) : Option (Unit ⊕ TValue) := loopE (fun s : Int => binding_Get_l1_s s1 s8 s9 w4 s) s10
noncomputable def binding_Get (a0 : List TSlot) (a1 : Int) : Option (TValue × Bool) :=
  bndE (binding_Get_l1 a1 a0 (a0.length : Int) (TValue.mk 0 0 ([] : List UInt8) false) 0) fun o2 =>
  sumE o2 (fun o3 =>
   some (TValue.mk 0 0 ([] : List UInt8) false, false)) (fun o4 =>
   some (o4, true))
noncomputable def joint_place_fits (a0 : Tjoint_place) (a1 : TArg) (a2 : TValue) : Option (Bool) :=
  iteE (decide (a1.kind = 1)) (
   some (TValue.eqb a1.value a2)) (
   iteE (decide (a1.kind = 2)) (
    bndE (binding_Get a0.b a1.n) fun r1 =>
    iteE (r1.2) (
     some (TValue.eqb r1.1 a2)) (
     some false)) (
    some true))
noncomputable def joint_place_with_b3 (s6 : Int) (s7 : Int) (s11 : List TSymbol) (s12 : Int) (s13 : Int) (s34 : Bool) (w2 : Tjoint_place) (w3 : TValue) : Option (Int) :=
  iteE (s34) (
   chkE (0 ≤ (IntKind.wrap .u64 s7)) (
    some (intVal .or .u64 s6 (intVal .shl .u64 1 (IntKind.wrap .u64 s7))))) (
   some s6)
noncomputable def joint_place_with_b2 (s6 : Int) (s11 : List TSymbol) (s12 : Int) (s13 : Int) (w2 : Tjoint_place) (w3 : TValue) : Option (Int) :=
  idxE s11 s13 fun x1 =>
  iteE (decide (x1.event = w2.d_)) (
   idxE x1.args w2.at_ fun x2 =>
   bndE (joint_place_fits w2 x2 w3) fun r3 =>
   bndE (joint_place_with_b3 s6 s13 s11 s12 s13 r3 w2 w3) fun o4 =>
   some o4) (
   bndE (joint_place_with_b3 s6 s13 s11 s12 s13 false w2 w3) fun o5 =>
   some o5)
noncomputable def joint_place_with_l1_s (s11 : List TSymbol) (s12 : Int) (w2 : Tjoint_place) (w3 : TValue) (s6 : Int) (s13 : Int) : Option ((Int × Int) ⊕ (Int)) :=
  iteE (decide (s13 < s12)) (
   bndE (joint_place_with_b2 s6 s11 s12 s13 w2 w3) fun o6 =>
   some (.inl (o6, (intVal .add .i64 s13 1)))) (
   some (.inr s6))
noncomputable def joint_place_with_l1 (s11 : List TSymbol) (s12 : Int) (w2 : Tjoint_place) (w3 : TValue) (s6 : Int) (s13 : Int) : Option (Int) := loopE (fun s : Int × Int => joint_place_with_l1_s s11 s12 w2 w3 s.1 s.2) (s6, s13)
noncomputable def joint_place_with (a0 : Tjoint_place) (a1 : TValue) : Option (Int) :=
  bndE (joint_place_with_l1 a0.q.symbols (a0.q.symbols.length : Int) a0 a1 0 0) fun o7 =>
  some o7
noncomputable def joint_narrow_m3_s (s8 : Int) (s12 : List TValue) (s13 : Int) (s14 : Int) (w0 : List (Int × Bool)) (w3 : Tjoint_place) (k : Int) (v : Bool) (w5 : List (Int × Bool)) : Option ((List (Int × Bool))) :=
  some (putS (intVal .and .u64 k s8) true w5)
def joint_narrow_m3_c (s8 : Int) (s12 : List TValue) (s13 : Int) (s14 : Int) (w0 : List (Int × Bool)) (w3 : Tjoint_place) (s : (List (Int × Bool))) : (List (Int × Bool)) := (fun s : (List (Int × Bool)) => (keyC s : (List (Int × Bool)))) s
noncomputable def joint_narrow_m3 (s8 : Int) (s12 : List TValue) (s13 : Int) (s14 : Int) (w0 : List (Int × Bool)) (w3 : Tjoint_place) (w5 : List (Int × Bool)) : Option ((List (Int × Bool))) := exactE (joint_narrow_m3_c s8 s12 s13 s14 w0 w3) w0 (fun (x : Int × Bool) (s : (List (Int × Bool))) => joint_narrow_m3_s s8 s12 s13 s14 w0 w3 x.1 x.2 s) w5
noncomputable def joint_narrow_b2 (s8 : Int) (s12 : List TValue) (s13 : Int) (s14 : Int) (w0 : List (Int × Bool)) (w3 : Tjoint_place) (w5 : List (Int × Bool)) : Option ((List (Int × Bool))) :=
  bndE (joint_narrow_m3 s8 s12 s13 s14 w0 w3 w5) fun o4 =>
  some o4
noncomputable def joint_narrow_l1_s (s12 : List TValue) (s13 : Int) (w0 : List (Int × Bool)) (w3 : Tjoint_place) (s14 : Int) (w5 : List (Int × Bool)) : Option ((Int × (List (Int × Bool))) ⊕ ((List (Int × Bool)))) :=
  iteE (decide (s14 < s13)) (
   idxE s12 s14 fun x2 =>
   bndE (joint_place_with w3 x2) fun r3 =>
   bndE (joint_narrow_b2 r3 s12 s13 s14 w0 w3 w5) fun o5 =>
   some (.inl ((intVal .add .i64 s14 1), o5))) (
   some (.inr w5))
noncomputable def joint_narrow_l1 (s12 : List TValue) (s13 : Int) (w0 : List (Int × Bool)) (w3 : Tjoint_place) (s14 : Int) (w5 : List (Int × Bool)) : Option ((List (Int × Bool))) := loopE (fun s : Int × (List (Int × Bool)) => joint_narrow_l1_s s12 s13 w0 w3 s.1 s.2) (s14, w5)
noncomputable def joint_narrow (a1 : Tjoint_place) (w0 : List (Int × Bool)) : Option ((List (Int × Bool))) :=
  bndE (joint_place_values a1 ([] : List TValue)) fun r1 =>
  bndE (joint_narrow_l1 r1 (r1.length : Int) w0 a1 0 ([] : List (Int × Bool))) fun o6 =>
  some o6
noncomputable def math_bits_Len64_b1 (s0 : Int) (s2 : Int) (s4 : Bool) : Option ((Int × Int)) :=
  iteE (s4) (
   some ((intVal .shr .u64 s0 32), 32)) (
   some (s0, s2))
noncomputable def math_bits_Len64_b2 (s0 : Int) (s2 : Int) (s8 : Bool) : Option ((Int × Int)) :=
  iteE (s8) (
   some ((intVal .shr .u64 s0 16), (intVal .add .i64 s2 16))) (
   some (s0, s2))
noncomputable def math_bits_Len64_b3 (s0 : Int) (s2 : Int) (s14 : Bool) : Option ((Int × Int)) :=
  iteE (s14) (
   some ((intVal .shr .u64 s0 8), (intVal .add .i64 s2 8))) (
   some (s0, s2))
noncomputable def math_bits_Len64 (a0 : Int) : Option (Int) :=
  bndE (math_bits_Len64_b1 a0 0 (decide (4294967296 ≤ a0))) fun o1 =>
  bndE (math_bits_Len64_b2 o1.1 o1.2 (decide (65536 ≤ o1.1))) fun o2 =>
  bndE (math_bits_Len64_b3 o2.1 o2.2 (decide (256 ≤ o2.1))) fun o3 =>
  idxE ([0, 1, 2, 2, 3, 3, 3, 3, 4, 4, 4, 4, 4, 4, 4, 4, 5, 5, 5, 5, 5, 5, 5, 5, 5, 5, 5, 5, 5, 5, 5, 5, 6, 6, 6, 6, 6, 6, 6, 6, 6, 6, 6, 6, 6, 6, 6, 6, 6, 6, 6, 6, 6, 6, 6, 6, 6, 6, 6, 6, 6, 6, 6, 6, 7, 7, 7, 7, 7, 7, 7, 7, 7, 7, 7, 7, 7, 7, 7, 7, 7, 7, 7, 7, 7, 7, 7, 7, 7, 7, 7, 7, 7, 7, 7, 7, 7, 7, 7, 7, 7, 7, 7, 7, 7, 7, 7, 7, 7, 7, 7, 7, 7, 7, 7, 7, 7, 7, 7, 7, 7, 7, 7, 7, 7, 7, 7, 7, 8, 8, 8, 8, 8, 8, 8, 8, 8, 8, 8, 8, 8, 8, 8, 8, 8, 8, 8, 8, 8, 8, 8, 8, 8, 8, 8, 8, 8, 8, 8, 8, 8, 8, 8, 8, 8, 8, 8, 8, 8, 8, 8, 8, 8, 8, 8, 8, 8, 8, 8, 8, 8, 8, 8, 8, 8, 8, 8, 8, 8, 8, 8, 8, 8, 8, 8, 8, 8, 8, 8, 8, 8, 8, 8, 8, 8, 8, 8, 8, 8, 8, 8, 8, 8, 8, 8, 8, 8, 8, 8, 8, 8, 8, 8, 8, 8, 8, 8, 8, 8, 8, 8, 8, 8, 8, 8, 8, 8, 8, 8, 8, 8, 8, 8, 8, 8, 8, 8, 8, 8, 8, 8, 8, 8, 8, 8, 8] : List UInt8) ((u8w o3.1).toNat : Int) fun x4 =>
  some (intVal .add .i64 o3.2 (x4.toNat : Int))
noncomputable def math_bits_Len (a0 : Int) : Option (Int) :=
  bndE (math_bits_Len64 a0) fun r1 =>
  some r1
noncomputable def cmp_isNaN_uint64 (a0 : Int) : Option (Bool) :=
  some (!decide (a0 = a0))
noncomputable def cmp_Less_uint64 (a0 : Int) (a1 : Int) : Option (Bool) :=
  bndE (cmp_isNaN_uint64 a0) fun r1 =>
  iteE (r1) (
   bndE (cmp_isNaN_uint64 a1) fun r2 =>
   iteE (!r2) (
    some true) (
    some (decide (a0 < a1)))) (
   some (decide (a0 < a1)))
noncomputable def slices_insertionSortOrdered_uint64_l2_s (s1 : Int) (s2 : Int) (s6 : Int) (s7 : Int) (w0 : List Int) : Option ((Int × List Int) ⊕ ((List Int))) :=
  iteE (decide (s1 < s7)) (
   chkE (0 ≤ s7 ∧ s7 + 1 ≤ (w0.length : Int)) (
    idxE w0 s7 fun x1 =>
    chkE (0 ≤ (intVal .sub .i64 s7 1) ∧ (intVal .sub .i64 s7 1) + 1 ≤ (w0.length : Int)) (
     idxE w0 (intVal .sub .i64 s7 1) fun x2 =>
     bndE (cmp_Less_uint64 x1 x2) fun r3 =>
     iteE (r3) (
      chkE (0 ≤ (intVal .sub .i64 s7 1) ∧ (intVal .sub .i64 s7 1) + 1 ≤ (w0.length : Int)) (
       idxE w0 (intVal .sub .i64 s7 1) fun x4 =>
       chkE (0 ≤ s7 ∧ s7 + 1 ≤ (w0.length : Int)) (
        idxE w0 s7 fun x5 =>
        chkE (0 ≤ s7 ∧ s7 + 1 ≤ (w0.length : Int)) (
         chkE (0 ≤ s7 ∧ s7 + 1 ≤ (w0.length : Int)) (
          chkE (0 ≤ (intVal .sub .i64 s7 1) ∧ (intVal .sub .i64 s7 1) + 1 ≤ ((w0.set s7.toNat x4).length : Int)) (
           chkE (0 ≤ (intVal .sub .i64 s7 1) ∧ (intVal .sub .i64 s7 1) + 1 ≤ ((w0.set s7.toNat x4).length : Int)) (
            some (.inl ((intVal .sub .i64 s7 1), (w0.set s7.toNat x4).set (intVal .sub .i64 s7 1).toNat x5))))))))) (
      some (.inr w0))))) (
   some (.inr w0))
noncomputable def slices_insertionSortOrdered_uint64_l2 (s1 : Int) (s2 : Int) (s6 : Int) (s7 : Int) (w0 : List Int) : Option ((List Int)) := loopE (fun s : Int × List Int => slices_insertionSortOrdered_uint64_l2_s s1 s2 s6 s.1 s.2) (s7, w0)
noncomputable def slices_insertionSortOrdered_uint64_l1_s (s1 : Int) (s2 : Int) (s6 : Int) (w0 : List Int) : Option ((Int × List Int) ⊕ ((List Int))) :=
  iteE (decide (s6 < s2)) (
   bndE (slices_insertionSortOrdered_uint64_l2 s1 s2 s6 s6 w0) fun o6 =>
   some (.inl ((intVal .add .i64 s6 1), o6))) (
   some (.inr w0))
noncomputable def slices_insertionSortOrdered_uint64_l1 (s1 : Int) (s2 : Int) (s6 : Int) (w0 : List Int) : Option ((List Int)) := loopE (fun s : Int × List Int => slices_insertionSortOrdered_uint64_l1_s s1 s2 s.1 s.2) (s6, w0)
noncomputable def slices_insertionSortOrdered_uint64 (a1 : Int) (a2 : Int) (w0 : List Int) : Option (List Int) :=
  bndE (slices_insertionSortOrdered_uint64_l1 a1 a2 (intVal .add .i64 a1 1) w0) fun o7 =>
  some o7
noncomputable def slices_pdqsortOrdered_uint64_b3 (s1 : Int) (s2 : Int) (s3 : Int) (s8 : Bool) (s9 : Bool) (s10 : Int) (s35 : Bool) (w0 : List Int) : Option (Unit) :=
  iteE (s35) (
   none) (
   some ())
noncomputable def slices_pdqsortOrdered_uint64_b2 (s1 : Int) (s2 : Int) (s3 : Int) (s8 : Bool) (s9 : Bool) (w0 : List Int) : Option ((List Int)) :=
  iteE (decide ((intVal .sub .i64 s2 s1) ≤ 12)) (
   bndE (slices_insertionSortOrdered_uint64 s1 s2 w0) fun r1 =>
   some r1) (
   iteE (decide (s3 = 0)) (
    none) (
    bndE (slices_pdqsortOrdered_uint64_b3 s1 s2 s3 s8 s9 (intVal .sub .i64 s2 s1) (!s8) w0) fun o2 =>
    none))
noncomputable def slices_pdqsortOrdered_uint64_l1_s (s1 : Int) (s2 : Int) (s3 : Int) (s8 : Bool) (s9 : Bool) (w0 : List Int) : Option ((Unit) ⊕ ((List Int))) :=
  bndE (slices_pdqsortOrdered_uint64_b2 s1 s2 s3 s8 s9 w0) fun o3 =>
  some (.inr o3)
noncomputable def slices_pdqsortOrdered_uint64_l1 (s1 : Int) (s2 : Int) (s3 : Int) (s8 : Bool) (s9 : Bool) (w0 : List Int) : Option ((List Int)) := loopE (fun s : Unit => slices_pdqsortOrdered_uint64_l1_s s1 s2 s3 s8 s9 w0) ()
noncomputable def slices_pdqsortOrdered_uint64 (a1 : Int) (a2 : Int) (a3 : Int) (w0 : List Int) : Option (List Int) :=
  bndE (slices_pdqsortOrdered_uint64_l1 a1 a2 a3 true true w0) fun o4 =>
  some o4
noncomputable def slices_Sort_uint64_uint64 (w0 : List Int) : Option (List Int) :=
  bndE (math_bits_Len (IntKind.wrap .u64 (w0.length : Int))) fun r1 =>
  bndE (slices_pdqsortOrdered_uint64 0 (w0.length : Int) r1 w0) fun r2 =>
  some r2
noncomputable def slices_Sort_uint64_uint64_v2 (xs : List Int) : Option (List Int) := bagE slices_Sort_uint64_uint64 xs
noncomputable def joint_Sets_l2_s (s1 : List TSlot) (s6 : Int) (s15 : Int) (s16 : Int) (s30 : Int) (w2 : TQea) (w5 : List (Int × Bool)) (s31 : Int) (w7 : List (Int × Bool)) : Option ((Int × (List (Int × Bool))) ⊕ ((List (Int × Bool)))) :=
  iteE (decide (s31 < s30)) (
   bndE (joint_narrow (Tjoint_place.mk w2 s1 s6 s31) w7) fun r3 =>
   some (.inl ((intVal .add .i64 s31 1), r3))) (
   some (.inr w7))
noncomputable def joint_Sets_l2 (s1 : List TSlot) (s6 : Int) (s15 : Int) (s16 : Int) (s30 : Int) (w2 : TQea) (w5 : List (Int × Bool)) (s31 : Int) (w7 : List (Int × Bool)) : Option ((List (Int × Bool))) := loopE (fun s : Int × (List (Int × Bool)) => joint_Sets_l2_s s1 s6 s15 s16 s30 w2 w5 s.1 s.2) (s31, w7)
noncomputable def joint_Sets_m4_s (s1 : List TSlot) (s15 : Int) (s16 : Int) (w2 : TQea) (w7 : List (Int × Bool)) (k : Int) (v : Bool) (w5 : List (Int × Bool)) : Option ((List (Int × Bool))) :=
  some (putS k true w5)
def joint_Sets_m4_c (s1 : List TSlot) (s15 : Int) (s16 : Int) (w2 : TQea) (w7 : List (Int × Bool)) (s : (List (Int × Bool))) : (List (Int × Bool)) := (fun s : (List (Int × Bool)) => (keyC s : (List (Int × Bool)))) s
noncomputable def joint_Sets_m4 (s1 : List TSlot) (s15 : Int) (s16 : Int) (w2 : TQea) (w7 : List (Int × Bool)) (w5 : List (Int × Bool)) : Option ((List (Int × Bool))) := exactE (joint_Sets_m4_c s1 s15 s16 w2 w7) w7 (fun (x : Int × Bool) (s : (List (Int × Bool))) => joint_Sets_m4_s s1 s15 s16 w2 w7 x.1 x.2 s) w5
noncomputable def joint_Sets_b3 (s1 : List TSlot) (s15 : Int) (s16 : Int) (w2 : TQea) (w5 : List (Int × Bool)) (w7 : List (Int × Bool)) : Option ((List (Int × Bool))) :=
  bndE (joint_Sets_m4 s1 s15 s16 w2 w7 w5) fun o5 =>
  some o5
noncomputable def joint_Sets_l1_s (s1 : List TSlot) (s15 : Int) (w2 : TQea) (s16 : Int) (w5 : List (Int × Bool)) : Option ((Int × (List (Int × Bool))) ⊕ ((List (Int × Bool)))) :=
  iteE (decide (s16 < s15)) (
   bndE (joint_own w2 s16) fun r1 =>
   idxE w2.decls s16 fun x2 =>
   bndE (joint_Sets_l2 s1 s16 s15 s16 (x2.types.length : Int) w2 w5 0 (putS r1 true ([] : List (Int × Bool)))) fun o4 =>
   bndE (joint_Sets_b3 s1 s15 s16 w2 w5 o4) fun o6 =>
   some (.inl ((intVal .add .i64 s16 1), o6))) (
   some (.inr w5))
noncomputable def joint_Sets_l1 (s1 : List TSlot) (s15 : Int) (w2 : TQea) (s16 : Int) (w5 : List (Int × Bool)) : Option ((List (Int × Bool))) := loopE (fun s : Int × (List (Int × Bool)) => joint_Sets_l1_s s1 s15 w2 s.1 s.2) (s16, w5)
noncomputable def joint_Sets_m6_s (w5 : List (Int × Bool)) (k : Int) (v : Bool) (w10 : List Int) : Option (List Int) :=
  chkE (fit w10.length [k].length 8) (
   some (w10 ++ [k]))
def joint_Sets_m6_c (w5 : List (Int × Bool)) (s : List Int) : List Int := (fun s : List Int => (rowC s : List Int)) s
noncomputable def joint_Sets_m6 (w5 : List (Int × Bool)) (w10 : List Int) : Option (List Int) := exactE (joint_Sets_m6_c w5) w5 (fun (x : Int × Bool) (s : List Int) => joint_Sets_m6_s w5 x.1 x.2 s) w10
noncomputable def joint_Sets_b5 (w5 : List (Int × Bool)) : Option ((List Int)) :=
  bndE (joint_Sets_m6 w5 ([] : List Int)) fun o8 =>
  some o8
noncomputable def joint_Sets (a0 : TQea) (a1 : List TSlot) : Option (List Int) :=
  bndE (joint_Sets_l1 a1 (a0.decls.length : Int) a0 0 ([] : List (Int × Bool))) fun o7 =>
  bndE (joint_Sets_b5 (delS 0 o7)) fun o9 =>
  bndE (slices_Sort_uint64_uint64_v2 o9) fun r10 =>
  some r10
noncomputable def core_Plain_1 (a0 : TTrans) : Option (Bool) :=
  some (decide (0 ≤ a0.guard))
noncomputable def slices_IndexFunc_Trans_Trans_l1_s (s0 : List TTrans) (s7 : Int) (s8 : Int) : Option ((Int) ⊕ (Unit ⊕ Int)) :=
  iteE (decide (s8 < s7)) (
   idxE s0 s8 fun x1 =>
   bndE (core_Plain_1 x1) fun r2 =>
   iteE (r2) (
    some (.inr (.inr s8))) (
    some (.inl (intVal .add .i64 s8 1)))) (
   some (.inr (.inl ())))
noncomputable def slices_IndexFunc_Trans_Trans_l1 (s0 : List TTrans) (s7 : Int) (s8 : Int) : Option (Unit ⊕ Int) := loopE (fun s : Int => slices_IndexFunc_Trans_Trans_l1_s s0 s7 s) s8
noncomputable def slices_IndexFunc_Trans_Trans (a0 : List TTrans) : Option (Int) :=
  bndE (slices_IndexFunc_Trans_Trans_l1 a0 (a0.length : Int) 0) fun o3 =>
  sumE o3 (fun o4 =>
   some (-1)) (fun o5 =>
   some o5)
noncomputable def slices_ContainsFunc_Trans_Trans (a0 : List TTrans) : Option (Bool) :=
  bndE (slices_IndexFunc_Trans_Trans a0) fun r1 =>
  some (decide (0 ≤ r1))
noncomputable def core_Plain (a0 : TQea) : Option (Bool) :=
  iteE (decide ((a0.frees.length : Int) = 0)) (
   bndE (slices_ContainsFunc_Trans_Trans a0.trans) fun r1 =>
   some (!r1)) (
   some false)
noncomputable def joint_Small (a0 : TQea) : Option (Bool) :=
  bndE (core_Plain a0) fun r1 =>
  iteE (r1) (
   iteE (decide ((a0.quants.length : Int) ≤ 1)) (
    iteE (decide ((a0.states.length : Int) ≤ 8)) (
     some (decide ((a0.symbols.length : Int) ≤ 8))) (
     some false)) (
    some false)) (
   some false)
noncomputable def law22_awake : Option (Bool) :=
  bndE (law22_number 3) fun r1 =>
  bndE (law22_number 3) fun r2 =>
  bndE (joint_Sets (TQea.mk ([113] : List UInt8) ([TDecl.mk ([97] : List UInt8) [1]]) ([TQuant.mk false ([120] : List UInt8) 1]) ([] : List TFree) ([TState.mk ([115] : List UInt8) false false]) 0 ([TSymbol.mk 0 ([TArg.mk 2 0 (TValue.mk 0 0 ([] : List UInt8) false)]), TSymbol.mk 0 [TArg.mk 1 0 r1]]) ([] : List TNode) ([] : List TTrans)) [TSlot.mk 0 r2]) fun r3 =>
  bndE (law22_number 4) fun r4 =>
  bndE (joint_Sets (TQea.mk ([113] : List UInt8) ([TDecl.mk ([97] : List UInt8) [1]]) ([TQuant.mk false ([120] : List UInt8) 1]) ([] : List TFree) ([TState.mk ([115] : List UInt8) false false]) 0 ([TSymbol.mk 0 ([TArg.mk 2 0 (TValue.mk 0 0 ([] : List UInt8) false)]), TSymbol.mk 0 [TArg.mk 1 0 r1]]) ([] : List TNode) ([] : List TTrans)) [TSlot.mk 0 r4]) fun r5 =>
  bndE (joint_Small (TQea.mk ([113] : List UInt8) ([TDecl.mk ([97] : List UInt8) [1]]) ([TQuant.mk false ([120] : List UInt8) 1]) ([] : List TFree) ([TState.mk ([115] : List UInt8) false false]) 0 ([TSymbol.mk 0 ([TArg.mk 2 0 (TValue.mk 0 0 ([] : List UInt8) false)]), TSymbol.mk 0 [TArg.mk 1 0 r1]]) ([] : List TNode) ([] : List TTrans))) fun r6 =>
  iteE (r6) (
   iteE (decide ((r3.length : Int) = 1)) (
    idxE r3 0 fun x7 =>
    iteE (decide (x7 = 3)) (
     iteE (decide ((r5.length : Int) = 2)) (
      idxE r5 0 fun x8 =>
      iteE (decide (x8 = 1)) (
       idxE r5 1 fun x9 =>
       some (decide (x9 = 2))) (
       some false)) (
      some false)) (
     some false)) (
    some false)) (
   some false)
noncomputable def ref08_Right_l1_s (s0 : List TDecl) (s5 : Int) (w3 : TEvent) (s6 : Int) : Option ((Int) ⊕ (Unit ⊕ Unit)) :=
  iteE (decide (s6 < (w3.args.length : Int))) (
   idxE w3.args s6 fun x3 =>
   idxE s0 s5 fun x4 =>
   idxE x4.types s6 fun x5 =>
   iteE (!decide (x3.kind = x5)) (
    some (.inr (.inr ()))) (
    idxE w3.args s6 fun x6 =>
    bndE (ref03_Right x6) fun r7 =>
    iteE (!r7) (
     some (.inr (.inr ()))) (
     some (.inl (intVal .add .i64 s6 1))))) (
   some (.inr (.inl ())))
noncomputable def ref08_Right_l1 (s0 : List TDecl) (s5 : Int) (w3 : TEvent) (s6 : Int) : Option (Unit ⊕ Unit) := loopE (fun s : Int => ref08_Right_l1_s s0 s5 w3 s) s6
noncomputable def ref08_Right (a0 : List TDecl) (a1 : TEvent) : Option (Bool) :=
  bndE (ref07_Find a0 a1.name) fun r1 =>
  iteE (decide (r1 < 0)) (
   some false) (
   idxE a0 r1 fun x2 =>
   iteE (!decide ((x2.types.length : Int) = (a1.args.length : Int))) (
    some false) (
    bndE (ref08_Right_l1 a0 r1 a1 0) fun o8 =>
    sumE o8 (fun o9 =>
     some true) (fun o10 =>
     some false)))
noncomputable def joint_Next_b5 (s1 : Int) (s2 : Int) (s7 : Int) (s8 : Int) (s10 : Int) (s14 : List TState) (s15 : Int) (s16 : Int) (s28 : List TTrans) (s29 : Int) (s30 : Int) (s46 : Bool) (w3 : TQea) (w9 : TState) (w12 : TTrans) : Option (Int) :=
  iteE (s46) (
   chkE (0 ≤ (IntKind.wrap .u64 w12.to)) (
    some (intVal .or .u32 s10 (intVal .shl .u32 1 (IntKind.wrap .u64 w12.to))))) (
   some s10)
noncomputable def joint_Next_b4 (s1 : Int) (s2 : Int) (s7 : Int) (s8 : Int) (s10 : Int) (s14 : List TState) (s15 : Int) (s16 : Int) (s28 : List TTrans) (s29 : Int) (s30 : Int) (w3 : TQea) (w9 : TState) : Option (Int) :=
  idxE s28 s30 fun x2 =>
  iteE (decide (x2.from_ = s8)) (
   chkE (0 ≤ (IntKind.wrap .u64 x2.symbol)) (
    bndE (joint_Next_b5 s1 s2 s7 s8 s10 s14 s15 s16 s28 s29 s30 (!decide ((intVal .and .u64 s2 (intVal .shl .u64 1 (IntKind.wrap .u64 x2.symbol))) = 0)) w3 w9 x2) fun o3 =>
    some o3)) (
   bndE (joint_Next_b5 s1 s2 s7 s8 s10 s14 s15 s16 s28 s29 s30 false w3 w9 x2) fun o4 =>
   some o4)
noncomputable def joint_Next_l3_s (s1 : Int) (s2 : Int) (s7 : Int) (s8 : Int) (s14 : List TState) (s15 : Int) (s16 : Int) (s28 : List TTrans) (s29 : Int) (w3 : TQea) (w9 : TState) (s10 : Int) (s30 : Int) : Option ((Int × Int) ⊕ (Int)) :=
  iteE (decide (s30 < s29)) (
   bndE (joint_Next_b4 s1 s2 s7 s8 s10 s14 s15 s16 s28 s29 s30 w3 w9) fun o5 =>
   some (.inl (o5, (intVal .add .i64 s30 1)))) (
   some (.inr s10))
noncomputable def joint_Next_l3 (s1 : Int) (s2 : Int) (s7 : Int) (s8 : Int) (s14 : List TState) (s15 : Int) (s16 : Int) (s28 : List TTrans) (s29 : Int) (w3 : TQea) (w9 : TState) (s10 : Int) (s30 : Int) : Option (Int) := loopE (fun s : Int × Int => joint_Next_l3_s s1 s2 s7 s8 s14 s15 s16 s28 s29 w3 w9 s.1 s.2) (s10, s30)
noncomputable def joint_Next_b6 (s1 : Int) (s2 : Int) (s7 : Int) (s8 : Int) (s10 : Int) (s14 : List TState) (s15 : Int) (s16 : Int) (s60 : Bool) (w3 : TQea) : Option (Int) :=
  iteE (s60) (
   chkE (0 ≤ (IntKind.wrap .u64 s8)) (
    some (intVal .shl .u32 1 (IntKind.wrap .u64 s8)))) (
   some s10)
noncomputable def joint_Next_b2 (s1 : Int) (s2 : Int) (s7 : Int) (s14 : List TState) (s15 : Int) (s16 : Int) (w3 : TQea) : Option (Int) :=
  idxE s14 s16 fun x1 =>
  chkE (0 ≤ (IntKind.wrap .u64 s16)) (
   iteE (decide ((intVal .and .u32 s1 (intVal .shl .u32 1 (IntKind.wrap .u64 s16))) = 0)) (
    some s7) (
    bndE (joint_Next_l3 s1 s2 s7 s16 s14 s15 s16 w3.trans (w3.trans.length : Int) w3 x1 0 0) fun o6 =>
    iteE (decide (o6 = 0)) (
     bndE (joint_Next_b6 s1 s2 s7 s16 o6 s14 s15 s16 (!x1.next) w3) fun o7 =>
     some (intVal .or .u32 s7 o7)) (
     bndE (joint_Next_b6 s1 s2 s7 s16 o6 s14 s15 s16 false w3) fun o8 =>
     some (intVal .or .u32 s7 o8))))
noncomputable def joint_Next_l1_s (s1 : Int) (s2 : Int) (s14 : List TState) (s15 : Int) (w3 : TQea) (s7 : Int) (s16 : Int) : Option ((Int × Int) ⊕ (Int)) :=
  iteE (decide (s16 < s15)) (
   bndE (joint_Next_b2 s1 s2 s7 s14 s15 s16 w3) fun o9 =>
   some (.inl (o9, (intVal .add .i64 s16 1)))) (
   some (.inr s7))
noncomputable def joint_Next_l1 (s1 : Int) (s2 : Int) (s14 : List TState) (s15 : Int) (w3 : TQea) (s7 : Int) (s16 : Int) : Option (Int) := loopE (fun s : Int × Int => joint_Next_l1_s s1 s2 s14 s15 w3 s.1 s.2) (s7, s16)
noncomputable def joint_Next (a0 : TQea) (a1 : Int) (a2 : Int) : Option (Int) :=
  bndE (joint_Next_l1 a1 a2 a0.states (a0.states.length : Int) a0 0 0) fun o10 =>
  some o10
noncomputable def ref22_Next_b5 (s1 : Int) (s2 : Int) (s7 : Int) (s8 : Int) (s9 : Int) (s10 : Int) (s49 : Bool) (w3 : TQea) (w11 : TTrans) : Option (Int) :=
  iteE (s49) (
   chkE (0 ≤ (IntKind.wrap .u64 w11.to)) (
    some (intVal .or .u32 s9 (intVal .shl .u32 1 (IntKind.wrap .u64 w11.to))))) (
   some s9)
noncomputable def ref22_Next_b4 (s1 : Int) (s2 : Int) (s7 : Int) (s8 : Int) (s9 : Int) (s10 : Int) (w3 : TQea) : Option (Int) :=
  idxE w3.trans s10 fun x1 =>
  iteE (decide (x1.from_ = s8)) (
   chkE (0 ≤ (IntKind.wrap .u64 x1.symbol)) (
    bndE (ref22_Next_b5 s1 s2 s7 s8 s9 s10 (decide ((intVal .rem .u64 (intVal .shr .u64 s2 (IntKind.wrap .u64 x1.symbol)) 2) = 1)) w3 x1) fun o2 =>
    some o2)) (
   bndE (ref22_Next_b5 s1 s2 s7 s8 s9 s10 false w3 x1) fun o3 =>
   some o3)
noncomputable def ref22_Next_l3_s (s1 : Int) (s2 : Int) (s7 : Int) (s8 : Int) (w3 : TQea) (s9 : Int) (s10 : Int) : Option ((Int × Int) ⊕ (Int)) :=
  iteE (decide (s10 < (w3.trans.length : Int))) (
   bndE (ref22_Next_b4 s1 s2 s7 s8 s9 s10 w3) fun o4 =>
   some (.inl (o4, (intVal .add .i64 s10 1)))) (
   some (.inr s9))
noncomputable def ref22_Next_l3 (s1 : Int) (s2 : Int) (s7 : Int) (s8 : Int) (w3 : TQea) (s9 : Int) (s10 : Int) : Option (Int) := loopE (fun s : Int × Int => ref22_Next_l3_s s1 s2 s7 s8 w3 s.1 s.2) (s9, s10)
noncomputable def ref22_Next_b6 (s1 : Int) (s2 : Int) (s7 : Int) (s8 : Int) (s9 : Int) (s66 : Bool) (w3 : TQea) : Option (Int) :=
  iteE (s66) (
   chkE (0 ≤ (IntKind.wrap .u64 s8)) (
    some (intVal .shl .u32 1 (IntKind.wrap .u64 s8)))) (
   some s9)
noncomputable def ref22_Next_b2 (s1 : Int) (s2 : Int) (s7 : Int) (s8 : Int) (w3 : TQea) : Option (Int) :=
  chkE (0 ≤ (IntKind.wrap .u64 s8)) (
   iteE (decide ((intVal .rem .u32 (intVal .shr .u32 s1 (IntKind.wrap .u64 s8)) 2) = 0)) (
    some s7) (
    bndE (ref22_Next_l3 s1 s2 s7 s8 w3 0 0) fun o5 =>
    iteE (decide (o5 = 0)) (
     idxE w3.states s8 fun x6 =>
     bndE (ref22_Next_b6 s1 s2 s7 s8 o5 (!x6.next) w3) fun o7 =>
     some (intVal .or .u32 s7 o7)) (
     bndE (ref22_Next_b6 s1 s2 s7 s8 o5 false w3) fun o8 =>
     some (intVal .or .u32 s7 o8))))
noncomputable def ref22_Next_l1_s (s1 : Int) (s2 : Int) (w3 : TQea) (s7 : Int) (s8 : Int) : Option ((Int × Int) ⊕ (Int)) :=
  iteE (decide (s8 < (w3.states.length : Int))) (
   bndE (ref22_Next_b2 s1 s2 s7 s8 w3) fun o9 =>
   some (.inl (o9, (intVal .add .i64 s8 1)))) (
   some (.inr s7))
noncomputable def ref22_Next_l1 (s1 : Int) (s2 : Int) (w3 : TQea) (s7 : Int) (s8 : Int) : Option (Int) := loopE (fun s : Int × Int => ref22_Next_l1_s s1 s2 w3 s.1 s.2) (s7, s8)
noncomputable def ref22_Next (a0 : TQea) (a1 : Int) (a2 : Int) : Option (Int) :=
  bndE (ref22_Next_l1 a1 a2 a0 0 0) fun o10 =>
  some o10
noncomputable def ref05_Get_l1_s (s0 : List TSlot) (s1 : Int) (w4 : TValue) (s6 : Int) : Option ((Int) ⊕ (Unit ⊕ TValue)) :=
  iteE (decide (s6 < (s0.length : Int))) (
   idxE s0 s6 fun x1 =>
   iteE (decide (x1.var = s1)) (
    idxE s0 s6 fun x2 =>
    some (.inr (.inr x2.value))) (
    some (.inl (intVal .add .i64 s6 1)))) (
   some (.inr (.inl ())))
noncomputable def ref05_Get_l1 (s0 : List TSlot) (s1 : Int) (w4 : TValue) (s6 : Int) : Option (Unit ⊕ TValue) := loopE (fun s : Int => ref05_Get_l1_s s0 s1 w4 s) s6
noncomputable def ref05_Get (a0 : List TSlot) (a1 : Int) : Option (TValue × Bool) :=
  bndE (ref05_Get_l1 a0 a1 (TValue.mk 0 0 ([] : List UInt8) false) 0) fun o3 =>
  sumE o3 (fun o4 =>
   some (TValue.mk 0 0 ([] : List UInt8) false, false)) (fun o5 =>
   some (o5, true))
noncomputable def ref05_Fits_l1_s (s0 : List TSlot) (s1 : List TSlot) (s5 : Int) : Option ((Int) ⊕ (Unit ⊕ Unit)) :=
  iteE (decide (s5 < (s0.length : Int))) (
   idxE s0 s5 fun x1 =>
   bndE (ref05_Get s1 x1.var) fun r2 =>
   iteE (r2.2) (
    idxE s0 s5 fun x3 =>
    iteE (!(TValue.eqb r2.1 x3.value)) (
     some (.inr (.inr ()))) (
     some (.inl (intVal .add .i64 s5 1)))) (
    some (.inl (intVal .add .i64 s5 1)))) (
   some (.inr (.inl ())))
noncomputable def ref05_Fits_l1 (s0 : List TSlot) (s1 : List TSlot) (s5 : Int) : Option (Unit ⊕ Unit) := loopE (fun s : Int => ref05_Fits_l1_s s0 s1 s) s5
noncomputable def ref05_Fits (a0 : List TSlot) (a1 : List TSlot) : Option (Bool) :=
  bndE (ref05_Fits_l1 a0 a1 0) fun o4 =>
  sumE o4 (fun o5 =>
   some true) (fun o6 =>
   some false)
noncomputable def ref05_Union_b7 (s0 : List TSlot) (s1 : List TSlot) (s6 : Int) (s34 : Bool) (w5 : List TSlot) (w9 : TValue) : Option ((List TSlot)) :=
  iteE (s34) (
   chkE (fit w5.length [TSlot.mk s6 w9].length 48) (
    some (w5 ++ [TSlot.mk s6 w9]))) (
   some w5)
noncomputable def ref05_Union_b6 (s0 : List TSlot) (s1 : List TSlot) (s6 : Int) (s10 : Bool) (s27 : Bool) (w5 : List TSlot) (w7 : TValue) (w9 : TValue) : Option ((List TSlot)) :=
  iteE (s27) (
   chkE (fit w5.length [TSlot.mk s6 w7].length 48) (
    some (w5 ++ [TSlot.mk s6 w7]))) (
   bndE (ref05_Union_b7 s0 s1 s6 s10 w5 w9) fun o8 =>
   some o8)
noncomputable def ref05_Union_b5 (s0 : List TSlot) (s1 : List TSlot) (s6 : Int) (w5 : List TSlot) : Option ((List TSlot)) :=
  bndE (ref05_Get s0 s6) fun r6 =>
  bndE (ref05_Get s1 s6) fun r7 =>
  bndE (ref05_Union_b6 s0 s1 s6 r7.2 r6.2 w5 r6.1 r7.1) fun o9 =>
  some o9
noncomputable def ref05_Union_l1_s (s0 : List TSlot) (s1 : List TSlot) (s6 : Int) (w5 : List TSlot) : Option ((Int × List TSlot) ⊕ ((List TSlot))) :=
  iteE (decide (s6 < 8)) (
   bndE (ref05_Union_b5 s0 s1 s6 w5) fun o10 =>
   some (.inl ((intVal .add .i64 s6 1), o10))) (
   some (.inr w5))
noncomputable def ref05_Union_l1 (s0 : List TSlot) (s1 : List TSlot) (s6 : Int) (w5 : List TSlot) : Option ((List TSlot)) := loopE (fun s : Int × List TSlot => ref05_Union_l1_s s0 s1 s.1 s.2) (s6, w5)
noncomputable def ref05_Union (a0 : List TSlot) (a1 : List TSlot) : Option (List TSlot) :=
  bndE (ref05_Union_l1 a0 a1 0 ([] : List TSlot)) fun o11 =>
  some o11
noncomputable def ref17_put_l1_s (s0 : List TSlot) (w3 : TSlot) (s5 : Int) : Option ((Int) ⊕ (Int)) :=
  iteE (decide (0 < s5)) (
   idxE s0 (intVal .sub .i64 s5 1) fun x1 =>
   iteE (decide (w3.var < x1.var)) (
    some (.inl (intVal .sub .i64 s5 1))) (
    some (.inr s5))) (
   some (.inr s5))
noncomputable def ref17_put_l1 (s0 : List TSlot) (w3 : TSlot) (s5 : Int) : Option (Int) := loopE (fun s : Int => ref17_put_l1_s s0 w3 s) s5
noncomputable def ref17_put (a0 : List TSlot) (a1 : TSlot) : Option (List TSlot) :=
  bndE (ref17_put_l1 a0 a1 (a0.length : Int)) fun o2 =>
  chkE ((0 : Int) ≤ 0 ∧ (0 : Int) ≤ o2 ∧ o2 ≤ (a0.length : Int)) (
   chkE (fit ([] : List TSlot).length (sub a0 0 o2).length 48) (
    chkE (fit (([] : List TSlot) ++ (sub a0 0 o2)).length [a1].length 48) (
     chkE ((0 : Int) ≤ o2 ∧ (o2 : Int) ≤ (a0.length : Int) ∧ (a0.length : Int) ≤ (a0.length : Int)) (
      chkE (fit ((([] : List TSlot) ++ (sub a0 0 o2)) ++ [a1]).length (sub a0 o2 (a0.length : Int)).length 48) (
       some (((([] : List TSlot) ++ (sub a0 0 o2)) ++ [a1]) ++ (sub a0 o2 (a0.length : Int))))))))
noncomputable def ref17_Hit_b7 (s1 : Int) (s10 : List TSlot) (s11 : List TSlot) (s12 : Int) (s80 : Bool) (w5 : TEvent) (w6 : Int) (w8 : TSymbol) (w9 : THit) (w13 : TArg) (w14 : List TSlot) : Option ((List TSlot) ⊕ Unit) :=
  iteE (s80) (
   bndE (ref05_Fits s10 w14) fun r32 =>
   iteE (!r32) (
    some (.inr ())) (
    bndE (ref05_Union s10 w14) fun r33 =>
    some (.inl r33))) (
   some (.inl s10))
noncomputable def ref17_Hit_b9 (s1 : Int) (s10 : List TSlot) (s11 : List TSlot) (s12 : Int) (s111 : Bool) (w5 : TEvent) (w6 : Int) (w8 : TSymbol) (w9 : THit) (w14 : List TSlot) : Option ((List TSlot)) :=
  iteE (s111) (
   idxE w14 0 fun x39 =>
   bndE (ref17_put s11 x39) fun r40 =>
   some r40) (
   some s11)
noncomputable def ref17_Hit_b8 (s1 : Int) (s10 : List TSlot) (s11 : List TSlot) (s12 : Int) (s91 : Bool) (w5 : TEvent) (w6 : Int) (w8 : TSymbol) (w9 : THit) (w13 : TArg) (w14 : List TSlot) : Option ((List TSlot) ⊕ Unit) :=
  iteE (s91) (
   bndE (ref05_Get s11 w13.n) fun r37 =>
   iteE (r37.2) (
    idxE w5.args s12 fun x38 =>
    iteE (!(TValue.eqb r37.1 x38)) (
     some (.inr ())) (
     bndE (ref17_Hit_b9 s1 s10 s11 s12 (!r37.2) w5 w6 w8 w9 w14) fun o41 =>
     some (.inl o41))) (
    bndE (ref17_Hit_b9 s1 s10 s11 s12 (!r37.2) w5 w6 w8 w9 w14) fun o42 =>
    some (.inl o42))) (
   some (.inl s11))
noncomputable def ref17_Hit_b6 (s1 : Int) (s10 : List TSlot) (s11 : List TSlot) (s12 : Int) (w5 : TEvent) (w6 : Int) (w8 : TSymbol) (w9 : THit) : Option ((List TSlot × List TSlot) ⊕ Unit) :=
  idxE w8.args s12 fun x29 =>
  idxE w5.args s12 fun x30 =>
  iteE (decide (x29.kind = 1)) (
   idxE w5.args s12 fun x31 =>
   iteE (!(TValue.eqb x29.value x31)) (
    some (.inr ())) (
    bndE (ref17_Hit_b7 s1 s10 s11 s12 (decide (x29.kind = 2)) w5 w6 w8 w9 x29 [TSlot.mk x29.n x30]) fun o34 =>
    sumE o34 (fun o35 =>
     bndE (ref17_Hit_b8 s1 o35 s11 s12 (decide (x29.kind = 3)) w5 w6 w8 w9 x29 [TSlot.mk x29.n x30]) fun o43 =>
     sumE o43 (fun o44 =>
      some (.inl (o35, o44))) (fun o45 =>
      some (.inr ()))) (fun o36 =>
     some (.inr ())))) (
   bndE (ref17_Hit_b7 s1 s10 s11 s12 (decide (x29.kind = 2)) w5 w6 w8 w9 x29 [TSlot.mk x29.n x30]) fun o46 =>
   sumE o46 (fun o47 =>
    bndE (ref17_Hit_b8 s1 o47 s11 s12 (decide (x29.kind = 3)) w5 w6 w8 w9 x29 [TSlot.mk x29.n x30]) fun o49 =>
    sumE o49 (fun o50 =>
     some (.inl (o47, o50))) (fun o51 =>
     some (.inr ()))) (fun o48 =>
    some (.inr ())))
noncomputable def ref17_Hit_l1_s (s1 : Int) (w5 : TEvent) (w6 : Int) (w8 : TSymbol) (w9 : THit) (s10 : List TSlot) (s11 : List TSlot) (s12 : Int) : Option ((List TSlot × List TSlot × Int) ⊕ ((List TSlot × List TSlot) ⊕ Unit)) :=
  iteE (decide (s12 < (w8.args.length : Int))) (
   bndE (ref17_Hit_b6 s1 s10 s11 s12 w5 w6 w8 w9) fun o52 =>
   sumE o52 (fun o53 =>
    some (.inl (o53.1, o53.2, (intVal .add .i64 s12 1)))) (fun o54 =>
    some (.inr (.inr ())))) (
   some (.inr (.inl (s10, s11))))
noncomputable def ref17_Hit_l1 (s1 : Int) (w5 : TEvent) (w6 : Int) (w8 : TSymbol) (w9 : THit) (s10 : List TSlot) (s11 : List TSlot) (s12 : Int) : Option ((List TSlot × List TSlot) ⊕ Unit) := loopE (fun s : List TSlot × List TSlot × Int => ref17_Hit_l1_s s1 w5 w6 w8 w9 s.1 s.2.1 s.2.2) (s10, s11, s12)
theorem ref17_Hit_l1_eq (s1 : Int) (w5 : TEvent) (w6 : Int) (w8 : TSymbol) (w9 : THit) (s10 : List TSlot) (s11 : List TSlot) (s12 : Int) : ref17_Hit_l1 s1 w5 w6 w8 w9 s10 s11 s12 = nextE (ref17_Hit_l1_s s1 w5 w6 w8 w9 s10 s11 s12) (fun s : List TSlot × List TSlot × Int => ref17_Hit_l1 s1 w5 w6 w8 w9 s.1 s.2.1 s.2.2) := loopE_eq _ _
noncomputable def ref17_Hit (a0 : TQea) (a1 : Int) (a2 : TEvent) : Option (THit × Bool) :=
  idxE a0.symbols a1 fun x1 =>
  idxE a0.decls x1.event fun x2 =>
  iteE (!decide (x2.name = a2.name)) (
   some (THit.mk 0 ([] : List TSlot) ([] : List TSlot), false)) (
   iteE (!decide ((x1.args.length : Int) = (a2.args.length : Int))) (
    some (THit.mk 0 ([] : List TSlot) ([] : List TSlot), false)) (
    bndE (ref17_Hit_l1 a1 a2 0 x1 (THit.mk 0 ([] : List TSlot) ([] : List TSlot)) ([] : List TSlot) ([] : List TSlot) 0) fun o55 =>
    sumE o55 (fun o56 =>
     some (THit.mk a1 o56.1 o56.2, true)) (fun o57 =>
     some ((THit.mk 0 ([] : List TSlot) ([] : List TSlot)), false))))
noncomputable def ref17_All_b5 (s6 : Int) (s23 : Bool) (w2 : TQea) (w3 : TEvent) (w5 : List THit) (w7 : THit) : Option ((List THit)) :=
  iteE (s23) (
   chkE (fit w5.length [w7].length 56) (
    some (w5 ++ [w7]))) (
   some w5)
noncomputable def ref17_All_b4 (s6 : Int) (w2 : TQea) (w3 : TEvent) (w5 : List THit) : Option ((List THit)) :=
  bndE (ref17_Hit w2 s6 w3) fun r4 =>
  bndE (ref17_All_b5 s6 r4.2 w2 w3 w5 r4.1) fun o5 =>
  some o5
noncomputable def ref17_All_l1_s (w2 : TQea) (w3 : TEvent) (s6 : Int) (w5 : List THit) : Option ((Int × List THit) ⊕ ((List THit))) :=
  iteE (decide (s6 < (w2.symbols.length : Int))) (
   bndE (ref17_All_b4 s6 w2 w3 w5) fun o6 =>
   some (.inl ((intVal .add .i64 s6 1), o6))) (
   some (.inr w5))
noncomputable def ref17_All_l1 (w2 : TQea) (w3 : TEvent) (s6 : Int) (w5 : List THit) : Option ((List THit)) := loopE (fun s : Int × List THit => ref17_All_l1_s w2 w3 s.1 s.2) (s6, w5)
noncomputable def ref17_All (a0 : TQea) (a1 : TEvent) : Option (List THit) :=
  bndE (ref17_All_l1 a0 a1 0 ([] : List THit)) fun o7 =>
  some o7
noncomputable def ref05_Under_l1_s (s0 : List TSlot) (s1 : List TSlot) (s5 : Int) : Option ((Int) ⊕ (Unit ⊕ Unit)) :=
  iteE (decide (s5 < (s0.length : Int))) (
   idxE s0 s5 fun x1 =>
   bndE (ref05_Get s1 x1.var) fun r2 =>
   iteE (!r2.2) (
    some (.inr (.inr ()))) (
    idxE s0 s5 fun x3 =>
    iteE (!(TValue.eqb r2.1 x3.value)) (
     some (.inr (.inr ()))) (
     some (.inl (intVal .add .i64 s5 1))))) (
   some (.inr (.inl ())))
noncomputable def ref05_Under_l1 (s0 : List TSlot) (s1 : List TSlot) (s5 : Int) : Option (Unit ⊕ Unit) := loopE (fun s : Int => ref05_Under_l1_s s0 s1 s) s5
noncomputable def ref05_Under (a0 : List TSlot) (a1 : List TSlot) : Option (Bool) :=
  bndE (ref05_Under_l1 a0 a1 0) fun o4 =>
  sumE o4 (fun o5 =>
   some true) (fun o6 =>
   some false)
noncomputable def ref17_Under_b5 (s0 : List THit) (s1 : List TSlot) (s6 : Int) (s19 : Bool) (w5 : List THit) : Option ((List THit)) :=
  iteE (s19) (
   idxE s0 s6 fun x8 =>
   chkE (fit w5.length [x8].length 56) (
    some (w5 ++ [x8]))) (
   some w5)
noncomputable def ref17_Under_b4 (s0 : List THit) (s1 : List TSlot) (s6 : Int) (w5 : List THit) : Option ((List THit)) :=
  idxE s0 s6 fun x6 =>
  bndE (ref05_Under x6.bind s1) fun r7 =>
  bndE (ref17_Under_b5 s0 s1 s6 r7 w5) fun o9 =>
  some o9
noncomputable def ref17_Under_l1_s (s0 : List THit) (s1 : List TSlot) (s6 : Int) (w5 : List THit) : Option ((Int × List THit) ⊕ ((List THit))) :=
  iteE (decide (s6 < (s0.length : Int))) (
   bndE (ref17_Under_b4 s0 s1 s6 w5) fun o10 =>
   some (.inl ((intVal .add .i64 s6 1), o10))) (
   some (.inr w5))
noncomputable def ref17_Under_l1 (s0 : List THit) (s1 : List TSlot) (s6 : Int) (w5 : List THit) : Option ((List THit)) := loopE (fun s : Int × List THit => ref17_Under_l1_s s0 s1 s.1 s.2) (s6, w5)
noncomputable def ref17_Under (a0 : List THit) (a1 : List TSlot) : Option (List THit) :=
  bndE (ref17_Under_l1 a0 a1 0 ([] : List THit)) fun o11 =>
  some o11
noncomputable def ref18_Less_l1_s (w2 : TConfig) (w3 : TConfig) (s5 : Int) : Option ((Int) ⊕ (Unit ⊕ Bool)) :=
  iteE (decide (s5 < (w2.vals.length : Int))) (
   iteE (decide (s5 < (w3.vals.length : Int))) (
    idxE w2.vals s5 fun x1 =>
    idxE w3.vals s5 fun x2 =>
    iteE (!(TValue.eqb x1 x2)) (
     idxE w2.vals s5 fun x3 =>
     idxE w3.vals s5 fun x4 =>
     bndE (ref03_Less x3 x4) fun r5 =>
     some (.inr (.inr r5))) (
     some (.inl (intVal .add .i64 s5 1)))) (
    some (.inr (.inl ())))) (
   some (.inr (.inl ())))
noncomputable def ref18_Less_l1 (w2 : TConfig) (w3 : TConfig) (s5 : Int) : Option (Unit ⊕ Bool) := loopE (fun s : Int => ref18_Less_l1_s w2 w3 s) s5
theorem ref18_Less_l1_eq (w2 : TConfig) (w3 : TConfig) (s5 : Int) : ref18_Less_l1 w2 w3 s5 = nextE (ref18_Less_l1_s w2 w3 s5) (fun s : Int => ref18_Less_l1 w2 w3 s) := loopE_eq _ _
noncomputable def ref18_Less (a0 : TConfig) (a1 : TConfig) : Option (Bool) :=
  iteE (!decide (a0.state = a1.state)) (
   some (decide (a0.state < a1.state))) (
   bndE (ref18_Less_l1 a0 a1 0) fun o6 =>
   sumE o6 (fun o7 =>
    some (decide ((a0.vals.length : Int) < (a1.vals.length : Int)))) (fun o8 =>
    some o8))
noncomputable def ref18_One (a0 : TConfig) (a1 : TConfig) : Option (Bool) :=
  bndE (ref18_Less a0 a1) fun r1 =>
  iteE (!r1) (
   bndE (ref18_Less a1 a0) fun r2 =>
   some (!r2)) (
   some false)
noncomputable def ref18_Put_l1_s (s0 : List TConfig) (w3 : TConfig) (s5 : Int) : Option ((Int) ⊕ (Int)) :=
  iteE (decide (0 < s5)) (
   idxE s0 (intVal .sub .i64 s5 1) fun x1 =>
   bndE (ref18_Less w3 x1) fun r2 =>
   iteE (r2) (
    some (.inl (intVal .sub .i64 s5 1))) (
    some (.inr s5))) (
   some (.inr s5))
noncomputable def ref18_Put_l1 (s0 : List TConfig) (w3 : TConfig) (s5 : Int) : Option (Int) := loopE (fun s : Int => ref18_Put_l1_s s0 w3 s) s5
theorem ref18_Put_l1_eq (s0 : List TConfig) (w3 : TConfig) (s5 : Int) : ref18_Put_l1 s0 w3 s5 = nextE (ref18_Put_l1_s s0 w3 s5) (fun s : Int => ref18_Put_l1 s0 w3 s) := loopE_eq _ _
noncomputable def ref18_Put (a0 : List TConfig) (a1 : TConfig) : Option (List TConfig) :=
  bndE (ref18_Put_l1 a0 a1 (a0.length : Int)) fun o3 =>
  iteE (decide (0 < o3)) (
   idxE a0 (intVal .sub .i64 o3 1) fun x4 =>
   bndE (ref18_One x4 a1) fun r5 =>
   iteE (r5) (
    some a0) (
    chkE ((0 : Int) ≤ 0 ∧ (0 : Int) ≤ o3 ∧ o3 ≤ (a0.length : Int)) (
     chkE (fit ([] : List TConfig).length (sub a0 0 o3).length 32) (
      chkE (fit (([] : List TConfig) ++ (sub a0 0 o3)).length [a1].length 32) (
       chkE ((0 : Int) ≤ o3 ∧ (o3 : Int) ≤ (a0.length : Int) ∧ (a0.length : Int) ≤ (a0.length : Int)) (
        chkE (fit ((([] : List TConfig) ++ (sub a0 0 o3)) ++ [a1]).length (sub a0 o3 (a0.length : Int)).length 32) (
         some (((([] : List TConfig) ++ (sub a0 0 o3)) ++ [a1]) ++ (sub a0 o3 (a0.length : Int)))))))))) (
   chkE ((0 : Int) ≤ 0 ∧ (0 : Int) ≤ o3 ∧ o3 ≤ (a0.length : Int)) (
    chkE (fit ([] : List TConfig).length (sub a0 0 o3).length 32) (
     chkE (fit (([] : List TConfig) ++ (sub a0 0 o3)).length [a1].length 32) (
      chkE ((0 : Int) ≤ o3 ∧ (o3 : Int) ≤ (a0.length : Int) ∧ (a0.length : Int) ≤ (a0.length : Int)) (
       chkE (fit ((([] : List TConfig) ++ (sub a0 0 o3)) ++ [a1]).length (sub a0 o3 (a0.length : Int)).length 32) (
        some (((([] : List TConfig) ++ (sub a0 0 o3)) ++ [a1]) ++ (sub a0 o3 (a0.length : Int)))))))))
noncomputable def ref18_Of_l1_s (s0 : List TConfig) (s3 : List TConfig) (s4 : Int) : Option ((List TConfig × Int) ⊕ ((List TConfig))) :=
  iteE (decide (s4 < (s0.length : Int))) (
   idxE s0 s4 fun x3 =>
   bndE (ref18_Put s3 x3) fun r4 =>
   some (.inl (r4, (intVal .add .i64 s4 1)))) (
   some (.inr s3))
noncomputable def ref18_Of_l1 (s0 : List TConfig) (s3 : List TConfig) (s4 : Int) : Option ((List TConfig)) := loopE (fun s : List TConfig × Int => ref18_Of_l1_s s0 s.1 s.2) (s3, s4)
noncomputable def ref18_Of (a0 : List TConfig) : Option (List TConfig) :=
  bndE (ref18_Of_l1 a0 ([] : List TConfig) 0) fun o5 =>
  some o5
noncomputable def ref19_free_l1_s (s1 : List TSlot) (s6 : Int) (w5 : List TValue) : Option ((Int × List TValue) ⊕ ((List TValue))) :=
  iteE (decide (s6 < (s1.length : Int))) (
   idxE s1 s6 fun x1 =>
   idxE s1 s6 fun x2 =>
   chkE (0 ≤ x1.var ∧ x1.var + 1 ≤ (w5.length : Int)) (
    chkE (0 ≤ x1.var ∧ x1.var + 1 ≤ (w5.length : Int)) (
     some (.inl ((intVal .add .i64 s6 1), w5.set x1.var.toNat x2.value))))) (
   some (.inr w5))
noncomputable def ref19_free_l1 (s1 : List TSlot) (s6 : Int) (w5 : List TValue) : Option ((List TValue)) := loopE (fun s : Int × List TValue => ref19_free_l1_s s1 s.1 s.2) (s6, w5)
noncomputable def ref19_free (a0 : List TValue) (a1 : List TSlot) : Option (List TValue) :=
  chkE (fit ([] : List TValue).length a0.length 40) (
   bndE (ref19_free_l1 a1 0 a0) fun o3 =>
   some o3)
noncomputable def ref16_Value_F (self : TQea → Int → (List TSlot) → (List TValue) → Option (TValue × Int)) (a0 : TQea) (a1 : Int) (a2 : List TSlot) (a3 : List TValue) : Option (TValue × Int) :=
  idxE a0.nodes a1 fun x1 =>
  iteE (decide (x1.op = 1)) (
   some (x1.value, 0)) (
   iteE (decide (x1.op = 2)) (
    bndE (ref05_Get a2 x1.a) fun r2 =>
    iteE (!r2.2) (
     some (TValue.mk 0 0 ([] : List UInt8) false, 9)) (
     idxE a0.quants x1.a fun x3 =>
     iteE (!decide (r2.1.kind = x3.type)) (
      some (TValue.mk 0 0 ([] : List UInt8) false, 9)) (
      some (r2.1, 0)))) (
    iteE (decide (x1.op = 3)) (
     idxE a3 x1.a fun x4 =>
     some (x4, 0)) (
     bndE (self a0 x1.a a2 a3) fun r5 =>
     iteE (!decide (r5.2 = 0)) (
      some (TValue.mk 0 0 ([] : List UInt8) false, r5.2)) (
      iteE (decide (x1.op ≤ 5)) (
       bndE (ref03_Op x1.op r5.1 (TValue.mk 0 0 ([] : List UInt8) false)) fun r6 =>
       some (r6.1, r6.2)) (
       iteE (decide (x1.op = 6)) (
        iteE (!r5.1.bool) (
         some (r5.1, 0)) (
         iteE (decide (x1.op = 7)) (
          iteE (r5.1.bool) (
           some (r5.1, 0)) (
           bndE (self a0 x1.b a2 a3) fun r7 =>
           iteE (!decide (r7.2 = 0)) (
            some (TValue.mk 0 0 ([] : List UInt8) false, r7.2)) (
            bndE (ref03_Op x1.op r5.1 r7.1) fun r8 =>
            some (r8.1, r8.2)))) (
          bndE (self a0 x1.b a2 a3) fun r9 =>
          iteE (!decide (r9.2 = 0)) (
           some (TValue.mk 0 0 ([] : List UInt8) false, r9.2)) (
           bndE (ref03_Op x1.op r5.1 r9.1) fun r10 =>
           some (r10.1, r10.2))))) (
        iteE (decide (x1.op = 7)) (
         iteE (r5.1.bool) (
          some (r5.1, 0)) (
          bndE (self a0 x1.b a2 a3) fun r11 =>
          iteE (!decide (r11.2 = 0)) (
           some (TValue.mk 0 0 ([] : List UInt8) false, r11.2)) (
           bndE (ref03_Op x1.op r5.1 r11.1) fun r12 =>
           some (r12.1, r12.2)))) (
         bndE (self a0 x1.b a2 a3) fun r13 =>
         iteE (!decide (r13.2 = 0)) (
          some (TValue.mk 0 0 ([] : List UInt8) false, r13.2)) (
          bndE (ref03_Op x1.op r5.1 r13.1) fun r14 =>
          some (r14.1, r14.2)))))))))
noncomputable def ref16_Value_n : Nat → TQea → Int → (List TSlot) → (List TValue) → Option (TValue × Int)
  | 0 => fun _ _ _ _  => none
  | n + 1 => fun a0 a1 a2 a3 => ref16_Value_F (ref16_Value_n n) a0 a1 a2 a3
noncomputable def ref16_Value (a0 : TQea) (a1 : Int) (a2 : List TSlot) (a3 : List TValue) : Option (TValue × Int) := ref16_Value_n 100000 a0 a1 a2 a3
noncomputable def ref16_Guard (a0 : TQea) (a1 : Int) (a2 : List TSlot) (a3 : List TValue) : Option (Bool × Int) :=
  idxE a0.trans a1 fun x1 =>
  iteE (decide (x1.guard < 0)) (
   some (true, 0)) (
   bndE (ref16_Value a0 x1.guard a2 a3) fun r2 =>
   some (r2.1.bool, r2.2))
noncomputable def ref16_Sets_l1_s (s2 : List TSlot) (s11 : List TSet) (w3 : List TValue) (w4 : TQea) (s12 : Int) (w10 : List TValue) : Option ((Int × List TValue) ⊕ ((List TValue) ⊕ Int)) :=
  iteE (decide (s12 < (s11.length : Int))) (
   idxE s11 s12 fun x2 =>
   bndE (ref16_Value w4 x2.expr s2 w3) fun r3 =>
   iteE (!decide (r3.2 = 0)) (
    some (.inr (.inr r3.2))) (
    idxE s11 s12 fun x4 =>
    chkE (0 ≤ x4.free ∧ x4.free + 1 ≤ (w10.length : Int)) (
     chkE (0 ≤ x4.free ∧ x4.free + 1 ≤ (w10.length : Int)) (
      some (.inl ((intVal .add .i64 s12 1), w10.set x4.free.toNat r3.1)))))) (
   some (.inr (.inl w10)))
noncomputable def ref16_Sets_l1 (s2 : List TSlot) (s11 : List TSet) (w3 : List TValue) (w4 : TQea) (s12 : Int) (w10 : List TValue) : Option ((List TValue) ⊕ Int) := loopE (fun s : Int × List TValue => ref16_Sets_l1_s s2 s11 w3 w4 s.1 s.2) (s12, w10)
noncomputable def ref16_Sets (a0 : TQea) (a1 : Int) (a2 : List TSlot) (w0 : List TValue) : Option (List TValue × Int) :=
  chkE (fit ([] : List TValue).length w0.length 40) (
   idxE a0.trans a1 fun x1 =>
   bndE (ref16_Sets_l1 a2 x1.sets w0 a0 0 w0) fun o5 =>
   sumE o5 (fun o6 =>
    some (o6, 0)) (fun o7 =>
    some (([] : List TValue), o7)))
noncomputable def ref19_fired (a0 : TQea) (a1 : Int) (a2 : TConfig) (a3 : THit) : Option (TConfig × Bool × Int) :=
  bndE (ref19_free a2.vals a3.frees) fun r1 =>
  bndE (ref16_Guard a0 a1 a3.bind r1) fun r2 =>
  iteE (!decide (r2.2 = 0)) (
   some (TConfig.mk 0 ([] : List TValue), false, r2.2)) (
   iteE (!r2.1) (
    some (TConfig.mk 0 ([] : List TValue), false, r2.2)) (
    bndE (ref16_Sets a0 a1 a3.bind r1) fun r3 =>
    iteE (!decide (r3.2 = 0)) (
     some (TConfig.mk 0 ([] : List TValue), false, r3.2)) (
     idxE a0.trans a1 fun x4 =>
     some (TConfig.mk x4.to r3.1, true, 0))))
noncomputable def ref19_worse (a0 : Int) (a1 : Int) : Option (Int) :=
  iteE (decide (a0 = 0)) (
   some a1) (
   iteE (!decide (a1 = 0)) (
    iteE (decide (a1 < a0)) (
     some a1) (
     some a0)) (
    some a0))
noncomputable def ref18_Put_v2_l1_s (w0 : List TConfig) (w3 : TConfig) (s5 : Int) : Option ((Int) ⊕ (Int)) :=
  iteE (decide (0 < s5)) (
   chkE (0 ≤ (intVal .sub .i64 s5 1) ∧ (intVal .sub .i64 s5 1) + 1 ≤ (w0.length : Int)) (
    idxE w0 (intVal .sub .i64 s5 1) fun x1 =>
    bndE (ref18_Less w3 x1) fun r2 =>
    iteE (r2) (
     some (.inl (intVal .sub .i64 s5 1))) (
     some (.inr s5)))) (
   some (.inr s5))
noncomputable def ref18_Put_v2_l1 (w0 : List TConfig) (w3 : TConfig) (s5 : Int) : Option (Int) := loopE (fun s : Int => ref18_Put_v2_l1_s w0 w3 s) s5
theorem ref18_Put_v2_l1_eq (w0 : List TConfig) (w3 : TConfig) (s5 : Int) : ref18_Put_v2_l1 w0 w3 s5 = nextE (ref18_Put_v2_l1_s w0 w3 s5) (fun s : Int => ref18_Put_v2_l1 w0 w3 s) := loopE_eq _ _
noncomputable def ref18_Put_v2 (a1 : TConfig) (w0 : List TConfig) : Option (List TConfig) :=
  bndE (ref18_Put_v2_l1 w0 a1 (w0.length : Int)) fun o3 =>
  iteE (decide (0 < o3)) (
   chkE (0 ≤ (intVal .sub .i64 o3 1) ∧ (intVal .sub .i64 o3 1) + 1 ≤ (w0.length : Int)) (
    idxE w0 (intVal .sub .i64 o3 1) fun x4 =>
    bndE (ref18_One x4 a1) fun r5 =>
    iteE (r5) (
     some w0) (
     chkE ((0 : Int) ≤ 0 ∧ (0 : Int) ≤ o3 ∧ o3 ≤ (w0.length : Int)) (
      chkE (fit ([] : List TConfig).length (sub w0 0 o3).length 32) (
       chkE (fit (sub w0 0 o3).length [a1].length 32) (
        chkE ((0 : Int) ≤ o3 ∧ (o3 : Int) ≤ (w0.length : Int) ∧ (w0.length : Int) ≤ (w0.length : Int)) (
         chkE (fit ((sub w0 0 o3) ++ [a1]).length (sub w0 o3 (w0.length : Int)).length 32) (
          some (((sub w0 0 o3) ++ [a1]) ++ (sub w0 o3 (w0.length : Int))))))))))) (
   chkE ((0 : Int) ≤ 0 ∧ (0 : Int) ≤ o3 ∧ o3 ≤ (w0.length : Int)) (
    chkE (fit ([] : List TConfig).length (sub w0 0 o3).length 32) (
     chkE (fit (sub w0 0 o3).length [a1].length 32) (
      chkE ((0 : Int) ≤ o3 ∧ (o3 : Int) ≤ (w0.length : Int) ∧ (w0.length : Int) ≤ (w0.length : Int)) (
       chkE (fit ((sub w0 0 o3) ++ [a1]).length (sub w0 o3 (w0.length : Int)).length 32) (
        some (((sub w0 0 o3) ++ [a1]) ++ (sub w0 o3 (w0.length : Int)))))))))
noncomputable def ref19_One_b5 (s2 : List THit) (s9 : Int) (s10 : Int) (s11 : Int) (s64 : Bool) (w3 : TQea) (w4 : TConfig) (w8 : List TConfig) (w12 : TConfig) : Option ((List TConfig)) :=
  iteE (s64) (
   bndE (ref18_Put_v2 w12 w8) fun r7 =>
   some r7) (
   some w8)
noncomputable def ref19_One_b4 (s2 : List THit) (s9 : Int) (s10 : Int) (s11 : Int) (w3 : TQea) (w4 : TConfig) (w8 : List TConfig) : Option ((Int × List TConfig)) :=
  idxE s2 s11 fun x2 =>
  idxE w3.trans s10 fun x3 =>
  iteE (!decide (x2.symbol = x3.symbol)) (
   some (s9, w8)) (
   idxE s2 s11 fun x4 =>
   bndE (ref19_fired w3 s10 w4 x4) fun r5 =>
   bndE (ref19_worse s9 r5.2.2) fun r6 =>
   bndE (ref19_One_b5 s2 r6 s10 s11 r5.2.1 w3 w4 w8 r5.1) fun o8 =>
   some (r6, o8))
noncomputable def ref19_One_l3_s (s2 : List THit) (s10 : Int) (w3 : TQea) (w4 : TConfig) (s9 : Int) (s11 : Int) (w8 : List TConfig) : Option ((Int × Int × List TConfig) ⊕ ((Int × List TConfig))) :=
  iteE (decide (s11 < (s2.length : Int))) (
   bndE (ref19_One_b4 s2 s9 s10 s11 w3 w4 w8) fun o9 =>
   some (.inl (o9.1, (intVal .add .i64 s11 1), o9.2))) (
   some (.inr (s9, w8)))
noncomputable def ref19_One_l3 (s2 : List THit) (s10 : Int) (w3 : TQea) (w4 : TConfig) (s9 : Int) (s11 : Int) (w8 : List TConfig) : Option ((Int × List TConfig)) := loopE (fun s : Int × Int × List TConfig => ref19_One_l3_s s2 s10 w3 w4 s.1 s.2.1 s.2.2) (s9, s11, w8)
noncomputable def ref19_One_b2 (s2 : List THit) (s9 : Int) (s10 : Int) (w3 : TQea) (w4 : TConfig) (w8 : List TConfig) : Option ((Int × List TConfig)) :=
  idxE w3.trans s10 fun x1 =>
  iteE (!decide (x1.from_ = w4.state)) (
   some (s9, w8)) (
   bndE (ref19_One_l3 s2 s10 w3 w4 s9 0 w8) fun o10 =>
   some (o10.1, o10.2))
noncomputable def ref19_One_l1_s (s2 : List THit) (w3 : TQea) (w4 : TConfig) (s9 : Int) (s10 : Int) (w8 : List TConfig) : Option ((Int × Int × List TConfig) ⊕ ((Int × List TConfig))) :=
  iteE (decide (s10 < (w3.trans.length : Int))) (
   bndE (ref19_One_b2 s2 s9 s10 w3 w4 w8) fun o11 =>
   some (.inl (o11.1, (intVal .add .i64 s10 1), o11.2))) (
   some (.inr (s9, w8)))
noncomputable def ref19_One_l1 (s2 : List THit) (w3 : TQea) (w4 : TConfig) (s9 : Int) (s10 : Int) (w8 : List TConfig) : Option ((Int × List TConfig)) := loopE (fun s : Int × Int × List TConfig => ref19_One_l1_s s2 w3 w4 s.1 s.2.1 s.2.2) (s9, s10, w8)
noncomputable def ref19_One_b6 (s83 : Bool) (w4 : TConfig) (w8 : List TConfig) : Option ((List TConfig)) :=
  iteE (s83) (
   chkE (fit w8.length [w4].length 32) (
    some (w8 ++ [w4]))) (
   some w8)
noncomputable def ref19_One (a0 : TQea) (a1 : TConfig) (a2 : List THit) : Option (List TConfig × Int) :=
  bndE (ref19_One_l1 a2 a0 a1 0 0 ([] : List TConfig)) fun o12 =>
  iteE (!decide (o12.1 = 0)) (
   some (([] : List TConfig), o12.1)) (
   iteE (decide ((o12.2.length : Int) = 0)) (
    idxE a0.states a1.state fun x13 =>
    bndE (ref19_One_b6 (!x13.next) a1 o12.2) fun o14 =>
    some (o14, 0)) (
    bndE (ref19_One_b6 false a1 o12.2) fun o15 =>
    some (o15, 0)))
noncomputable def ref19_All_l3_s (s1 : List TConfig) (s2 : List THit) (s9 : Int) (s10 : Int) (s11 : List TConfig) (w3 : TQea) (s8 : List TConfig) (s13 : Int) : Option ((List TConfig × Int) ⊕ ((List TConfig))) :=
  iteE (decide (s13 < (s11.length : Int))) (
   idxE s11 s13 fun x12 =>
   bndE (ref18_Put s8 x12) fun r13 =>
   some (.inl (r13, (intVal .add .i64 s13 1)))) (
   some (.inr s8))
noncomputable def ref19_All_l3 (s1 : List TConfig) (s2 : List THit) (s9 : Int) (s10 : Int) (s11 : List TConfig) (w3 : TQea) (s8 : List TConfig) (s13 : Int) : Option ((List TConfig)) := loopE (fun s : List TConfig × Int => ref19_All_l3_s s1 s2 s9 s10 s11 w3 s.1 s.2) (s8, s13)
noncomputable def ref19_All_l1_s (s1 : List TConfig) (s2 : List THit) (w3 : TQea) (s8 : List TConfig) (s9 : Int) (s10 : Int) : Option ((List TConfig × Int × Int) ⊕ ((List TConfig × Int))) :=
  iteE (decide (s10 < (s1.length : Int))) (
   idxE s1 s10 fun x9 =>
   bndE (ref19_One w3 x9 s2) fun r10 =>
   bndE (ref19_worse s9 r10.2) fun r11 =>
   bndE (ref19_All_l3 s1 s2 r11 s10 r10.1 w3 s8 0) fun o14 =>
   some (.inl (o14, r11, (intVal .add .i64 s10 1)))) (
   some (.inr (s8, s9)))
noncomputable def ref19_All_l1 (s1 : List TConfig) (s2 : List THit) (w3 : TQea) (s8 : List TConfig) (s9 : Int) (s10 : Int) : Option ((List TConfig × Int)) := loopE (fun s : List TConfig × Int × Int => ref19_All_l1_s s1 s2 w3 s.1 s.2.1 s.2.2) (s8, s9, s10)
noncomputable def ref19_All_b4 (s8 : List TConfig) (s9 : Int) (s51 : Bool) : Option (Int) :=
  iteE (s51) (
   some 14) (
   some s9)
noncomputable def ref19_All (a0 : TQea) (a1 : List TConfig) (a2 : List THit) : Option (List TConfig × Int) :=
  bndE (ref19_All_l1 a1 a2 a0 ([] : List TConfig) 0 0) fun o15 =>
  iteE (decide (o15.2 = 0)) (
   bndE (ref19_All_b4 o15.1 o15.2 (decide (256 < (o15.1.length : Int)))) fun o16 =>
   iteE (!decide (o16 = 0)) (
    some (([] : List TConfig), o16)) (
    some (o15.1, 0))) (
   bndE (ref19_All_b4 o15.1 o15.2 false) fun o17 =>
   iteE (!decide (o17 = 0)) (
    some (([] : List TConfig), o17)) (
    some (o15.1, 0)))
noncomputable def ref22_Mask_l1_s (s0 : List THit) (s3 : Int) (s4 : Int) : Option ((Int × Int) ⊕ (Int)) :=
  iteE (decide (s4 < (s0.length : Int))) (
   idxE s0 s4 fun x1 =>
   chkE (0 ≤ (IntKind.wrap .u64 x1.symbol)) (
    some (.inl ((intVal .add .u64 s3 (intVal .shl .u64 1 (IntKind.wrap .u64 x1.symbol))), (intVal .add .i64 s4 1))))) (
   some (.inr s3))
noncomputable def ref22_Mask_l1 (s0 : List THit) (s3 : Int) (s4 : Int) : Option (Int) := loopE (fun s : Int × Int => ref22_Mask_l1_s s0 s.1 s.2) (s3, s4)
noncomputable def ref22_Mask (a0 : List THit) : Option (Int) :=
  bndE (ref22_Mask_l1 a0 0 0) fun o2 =>
  some o2
noncomputable def law22_JointNext_b5 (s1 : List TSlot) (s2 : Int) (s12 : Int) (s51 : Bool) (w5 : TQea) (w9 : TEvent) (w11 : List TConfig) : Option ((List TConfig)) :=
  iteE (s51) (
   chkE (fit w11.length ([TConfig.mk s12 ([] : List TValue)]).length 32) (
    some (w11 ++ ([TConfig.mk s12 ([] : List TValue)])))) (
   some w11)
noncomputable def law22_JointNext_b4 (s1 : List TSlot) (s2 : Int) (s12 : Int) (w5 : TQea) (w9 : TEvent) (w11 : List TConfig) : Option ((List TConfig)) :=
  chkE (0 ≤ (IntKind.wrap .u64 s12)) (
   bndE (law22_JointNext_b5 s1 s2 s12 (decide ((intVal .rem .u32 (intVal .shr .u32 s2 (IntKind.wrap .u64 s12)) 2) = 1)) w5 w9 w11) fun o9 =>
   some o9)
noncomputable def law22_JointNext_l1_s (s1 : List TSlot) (s2 : Int) (w5 : TQea) (w9 : TEvent) (s12 : Int) (w11 : List TConfig) : Option ((Int × List TConfig) ⊕ ((List TConfig))) :=
  iteE (decide (s12 < (w5.states.length : Int))) (
   bndE (law22_JointNext_b4 s1 s2 s12 w5 w9 w11) fun o10 =>
   some (.inl ((intVal .add .i64 s12 1), o10))) (
   some (.inr w11))
noncomputable def law22_JointNext_l1 (s1 : List TSlot) (s2 : Int) (w5 : TQea) (w9 : TEvent) (s12 : Int) (w11 : List TConfig) : Option ((List TConfig)) := loopE (fun s : Int × List TConfig => law22_JointNext_l1_s s1 s2 w5 w9 s.1 s.2) (s12, w11)
noncomputable def law22_JointNext_l6_s (s2 : Int) (s13 : List THit) (s14 : List TConfig) (w5 : TQea) (s16 : Int) (s17 : Int) : Option ((Int × Int) ⊕ (Int)) :=
  iteE (decide (s17 < (s14.length : Int))) (
   idxE s14 s17 fun x17 =>
   chkE (0 ≤ (IntKind.wrap .u64 x17.state)) (
    some (.inl ((intVal .or .u32 s16 (intVal .shl .u32 1 (IntKind.wrap .u64 x17.state))), (intVal .add .i64 s17 1))))) (
   some (.inr s16))
noncomputable def law22_JointNext_l6 (s2 : Int) (s13 : List THit) (s14 : List TConfig) (w5 : TQea) (s16 : Int) (s17 : Int) : Option (Int) := loopE (fun s : Int × Int => law22_JointNext_l6_s s2 s13 s14 w5 s.1 s.2) (s16, s17)
noncomputable def law22_JointNext (a0 : TQea) (a1 : List TSlot) (a2 : Int) (a3 : Int) (a4 : TEvent) : Option (Bool) :=
  bndE (law22_small a0 a1) fun r1 =>
  iteE (!r1) (
   bndE (law22_awake) fun r2 =>
   some r2) (
   bndE (ref08_Right a0.decls a4) fun r3 =>
   iteE (!r3) (
    bndE (law22_awake) fun r4 =>
    some r4) (
    bndE (joint_Next a0 a2 a3) fun r5 =>
    bndE (ref22_Next a0 a2 a3) fun r6 =>
    iteE (!decide (r5 = r6)) (
     some false) (
     bndE (law22_JointNext_l1 a1 a2 a0 a4 0 ([] : List TConfig)) fun o11 =>
     bndE (ref17_All a0 a4) fun r12 =>
     bndE (ref17_Under r12 a1) fun r13 =>
     iteE (decide ((r13.length : Int) = 0)) (
      bndE (law22_awake) fun r14 =>
      some r14) (
      bndE (ref18_Of o11) fun r15 =>
      bndE (ref19_All a0 r15 r13) fun r16 =>
      bndE (law22_JointNext_l6 a2 r13 r16.1 a0 0 0) fun o18 =>
      bndE (ref22_Mask r13) fun r19 =>
      bndE (joint_Next a0 a2 r19) fun r20 =>
      iteE (decide (r20 = o18)) (
       bndE (law22_awake) fun r21 =>
       some r21) (
       some false)))))
end Go.Ac
