/- Own work, printed: the functions as Lean functions. -/
import Derived.Test.YtgcfokfcilgnlaaGreatAcC
set_option linter.unusedVariables false
set_option linter.unusedSimpArgs false
namespace Go.Ac
noncomputable section
abbrev aOn (P : Program) (rd : Option Nat) (root : Code) (p : List Nat) (s : St) (x : Ex × St) : Prop := E3 P rd root p s x.1 x.2
abbrev dI (x : Int) : A := .d (D.i .i64 x)
abbrev sI (n : Nat) (x : Int) : Nat × A := (n,dI x)
abbrev sD {α : Type} (n : Nat) (f : α → D) (x : α) : Nat × A := (n,.d (f x))
abbrev bx (n : Nat) : Nat × A := (n,.box n 0)
abbrev rx (n : Nat) : Nat × A := (n,.row n)
abbrev cL {α : Type} (n : Nat) (f : α → D) (x : α) : Nat × Bk := (n,.cells (aHv (f x)))
abbrev rW {α : Type} (n e k : Nat) (f : α → D) (x : List α) : Nat × Bk := (n,.rw e k (x.map f))
abbrev eP {α : Type} (n : Nat) (f : α → D) (x : α) : Nat × A := (n,.eptr (D.cells (f x)))
abbrev dU : Int → D := D.i .u64
abbrev dW : Int → D := D.i .u32
abbrev dZ : Int → D := D.i .i64
abbrev bT (n : Nat) : Nat × W := (n,.bit true)
abbrev bF (n : Nat) : Nat × W := (n,.bit false)
structure Xn where
  name : List UInt8
  types : List Int
  deriving DecidableEq
def Xn.D (v : Xn) : D := .agg ([D.s v.name] ++ [(D.l (D.i .i64)) v.types])
instance : De Xn.D 2 := ⟨fun _ => rfl⟩
structure Ya where
  all : Bool
  name : List UInt8
  type : Int
def Ya.D (v : Ya) : D := .agg ([D.b v.all] ++ [D.s v.name] ++ [(D.i .i64) v.type])
instance : De Ya.D 3 := ⟨fun _ => rfl⟩
def Ya.eqb (a b : Ya) : Bool := ((a.all == b.all) && (decide (a.name = b.name) && (decide (a.type = b.type) && true)))
theorem Ya.eqb_iff (a b : Ya) : Ya.eqb a b = true ↔ a = b := by
  cases a; cases b; simp [Ya.eqb]
instance : DecidableEq Ya := fun a b => decidable_of_iff (Ya.eqb a b = true) (Ya.eqb_iff a b)
structure X0 where
  kind : Int
  int : Int
  str : List UInt8
  bool : Bool
def X0.D (v : X0) : D := .agg ([(D.i .i64) v.kind] ++ [(D.i .i64) v.int] ++ [D.s v.str] ++ [D.b v.bool])
instance : De X0.D 4 := ⟨fun _ => rfl⟩
def X0.eqb (a b : X0) : Bool := (decide (a.kind = b.kind) && (decide (a.int = b.int) && (decide (a.str = b.str) && ((a.bool == b.bool) && true))))
theorem X0.eqb_iff (a b : X0) : X0.eqb a b = true ↔ a = b := by
  cases a; cases b; simp [X0.eqb]
instance : DecidableEq X0 := fun a b => decidable_of_iff (X0.eqb a b = true) (X0.eqb_iff a b)
structure Y2 where
  name : List UInt8
  init_ : X0
def Y2.D (v : Y2) : D := .agg ([D.s v.name] ++ (X0.D v.init_).cells)
instance : De Y2.D 5 := ⟨fun _ => rfl⟩
def Y2.eqb (a b : Y2) : Bool := (decide (a.name = b.name) && (X0.eqb a.init_ b.init_ && true))
theorem Y2.eqb_iff (a b : Y2) : Y2.eqb a b = true ↔ a = b := by
  cases a; cases b; simp [Y2.eqb,X0.eqb_iff]
instance : DecidableEq Y2 := fun a b => decidable_of_iff (Y2.eqb a b = true) (Y2.eqb_iff a b)
structure X8 where
  name : List UInt8
  next : Bool
  accept : Bool
def X8.D (v : X8) : D := .agg ([D.s v.name] ++ [D.b v.next] ++ [D.b v.accept])
instance : De X8.D 3 := ⟨fun _ => rfl⟩
def X8.eqb (a b : X8) : Bool := (decide (a.name = b.name) && ((a.next == b.next) && ((a.accept == b.accept) && true)))
theorem X8.eqb_iff (a b : X8) : X8.eqb a b = true ↔ a = b := by
  cases a; cases b; simp [X8.eqb]
instance : DecidableEq X8 := fun a b => decidable_of_iff (X8.eqb a b = true) (X8.eqb_iff a b)
structure CX where
  kind : Int
  n : Int
  value : X0
def CX.D (v : CX) : D := .agg ([(D.i .i64) v.kind] ++ [(D.i .i64) v.n] ++ (X0.D v.value).cells)
instance : De CX.D 6 := ⟨fun _ => rfl⟩
def CX.eqb (a b : CX) : Bool := (decide (a.kind = b.kind) && (decide (a.n = b.n) && (X0.eqb a.value b.value && true)))
theorem CX.eqb_iff (a b : CX) : CX.eqb a b = true ↔ a = b := by
  cases a; cases b; simp [CX.eqb,X0.eqb_iff]
instance : DecidableEq CX := fun a b => decidable_of_iff (CX.eqb a b = true) (CX.eqb_iff a b)
structure X4 where
  event : Int
  args : List CX
  deriving DecidableEq
def X4.D (v : X4) : D := .agg ([(D.i .i64) v.event] ++ [(D.l CX.D) v.args])
instance : De X4.D 2 := ⟨fun _ => rfl⟩
structure Yb where
  op : Int
  a : Int
  b : Int
  value : X0
def Yb.D (v : Yb) : D := .agg ([(D.i .i64) v.op] ++ [(D.i .i64) v.a] ++ [(D.i .i64) v.b] ++ (X0.D v.value).cells)
instance : De Yb.D 7 := ⟨fun _ => rfl⟩
def Yb.eqb (a b : Yb) : Bool := (decide (a.op = b.op) && (decide (a.a = b.a) && (decide (a.b = b.b) && (X0.eqb a.value b.value && true))))
theorem Yb.eqb_iff (a b : Yb) : Yb.eqb a b = true ↔ a = b := by
  cases a; cases b; simp [Yb.eqb,X0.eqb_iff]
instance : DecidableEq Yb := fun a b => decidable_of_iff (Yb.eqb a b = true) (Yb.eqb_iff a b)
structure E5 where
  free : Int
  expr : Int
def E5.D (v : E5) : D := .agg ([(D.i .i64) v.free] ++ [(D.i .i64) v.expr])
instance : De E5.D 2 := ⟨fun _ => rfl⟩
def E5.eqb (a b : E5) : Bool := (decide (a.free = b.free) && (decide (a.expr = b.expr) && true))
theorem E5.eqb_iff (a b : E5) : E5.eqb a b = true ↔ a = b := by
  cases a; cases b; simp [E5.eqb]
instance : DecidableEq E5 := fun a b => decidable_of_iff (E5.eqb a b = true) (E5.eqb_iff a b)
structure Xe where
  from_ : Int
  symbol : Int
  to : Int
  guard : Int
  sets : List E5
  deriving DecidableEq
def Xe.D (v : Xe) : D := .agg ([(D.i .i64) v.from_] ++ [(D.i .i64) v.symbol] ++ [(D.i .i64) v.to] ++ [(D.i .i64) v.guard] ++ [(D.l E5.D) v.sets])
instance : De Xe.D 5 := ⟨fun _ => rfl⟩
structure AB where
  name : List UInt8
  decls : List Xn
  quants : List Ya
  frees : List Y2
  states : List X8
  start : Int
  symbols : List X4
  nodes : List Yb
  trans : List Xe
  deriving DecidableEq
def AB.D (v : AB) : D := .agg ([D.s v.name] ++ [(D.l Xn.D) v.decls] ++ [(D.l Ya.D) v.quants] ++ [(D.l Y2.D) v.frees] ++ [(D.l X8.D) v.states] ++ [(D.i .i64) v.start] ++ [(D.l X4.D) v.symbols] ++ [(D.l Yb.D) v.nodes] ++ [(D.l Xe.D) v.trans])
instance : De AB.D 9 := ⟨fun _ => rfl⟩
structure X2 where
  state : Int
  vals : List X0
  deriving DecidableEq
def X2.D (v : X2) : D := .agg ([(D.i .i64) v.state] ++ [(D.l X0.D) v.vals])
instance : De X2.D 2 := ⟨fun _ => rfl⟩
structure Xb where
  var : Int
  value : X0
def Xb.D (v : Xb) : D := .agg ([(D.i .i64) v.var] ++ (X0.D v.value).cells)
instance : De Xb.D 5 := ⟨fun _ => rfl⟩
def Xb.eqb (a b : Xb) : Bool := (decide (a.var = b.var) && (X0.eqb a.value b.value && true))
theorem Xb.eqb_iff (a b : Xb) : Xb.eqb a b = true ↔ a = b := by
  cases a; cases b; simp [Xb.eqb,X0.eqb_iff]
instance : DecidableEq Xb := fun a b => decidable_of_iff (Xb.eqb a b = true) (Xb.eqb_iff a b)
structure Xl where
  q : AB
  b : List Xb
  d_ : Int
  at_ : Int
  deriving DecidableEq
def Xl.D (v : Xl) : D := .agg ((AB.D v.q).cells ++ [(D.l Xb.D) v.b] ++ [(D.i .i64) v.d_] ++ [(D.i .i64) v.at_])
instance : De Xl.D 12 := ⟨fun _ => rfl⟩
def Gw (w1 : AB) (s3 : Int) : Option ((Int) ⊕ (Unit ⊕ Unit)) :=
  AE (decide (s3 < (w1.decls.length : Int))) (
   AX w1.decls s3 fun x1 =>
   AE (decide (12 < (x1.types.length : Int))) (
    some (.inr (.inr ()))) (
    AX w1.decls s3 fun x2 =>
    AE (decide (100 < (x2.name.length : Int))) (
     some (.inr (.inr ()))) (
     some (.inl (AA .add .i64 s3 1))))) (
   some (.inr (.inl ())))
def aDn (w1 : AB) (s3 : Int) : Option (Unit ⊕ Unit) := AY (fun s : Int => Gw w1 s) s3
def Gy (s4 : Int) (w1 : AB) (s5 : Int) : Option ((Int) ⊕ (Unit ⊕ Unit)) :=
  AX w1.symbols s4 fun x7 =>
  AE (decide (s5 < (x7.args.length : Int))) (
   AX w1.symbols s4 fun x8 =>
   AX x8.args s5 fun x9 =>
   AE (decide (100 < (x9.value.str.length : Int))) (
    some (.inr (.inr ()))) (
    some (.inl (AA .add .i64 s5 1)))) (
   some (.inr (.inl ())))
def aDp (s4 : Int) (w1 : AB) (s5 : Int) : Option (Unit ⊕ Unit) := AY (fun s : Int => Gy s4 w1 s) s5
def Gx (w1 : AB) (s4 : Int) : Option ((Int) ⊕ (Unit ⊕ Unit)) :=
  AE (decide (s4 < (w1.symbols.length : Int))) (
   AX w1.symbols s4 fun x6 =>
   AE (decide (12 < (x6.args.length : Int))) (
    some (.inr (.inr ()))) (
    AG (aDp s4 w1 0) fun o10 =>
    Cj o10 (fun o11 =>
     some (.inl (AA .add .i64 s4 1))) (fun o12 =>
     some (.inr (.inr ()))))) (
   some (.inr (.inl ())))
def aDo (w1 : AB) (s4 : Int) : Option (Unit ⊕ Unit) := AY (fun s : Int => Gx w1 s) s4
def Gz (w1 : AB) (s6 : Int) : Option ((Int) ⊕ (Unit ⊕ Unit)) :=
  AE (decide (s6 < (w1.frees.length : Int))) (
   AX w1.frees s6 fun x16 =>
   AE (decide (100 < (x16.init_.str.length : Int))) (
    some (.inr (.inr ()))) (
    some (.inl (AA .add .i64 s6 1)))) (
   some (.inr (.inl ())))
def aDq (w1 : AB) (s6 : Int) : Option (Unit ⊕ Unit) := AY (fun s : Int => Gz w1 s) s6
def G0 (w1 : AB) (s7 : Int) : Option ((Int) ⊕ (Unit ⊕ Unit)) :=
  AE (decide (s7 < (w1.nodes.length : Int))) (
   AX w1.nodes s7 fun x20 =>
   AE (decide (100 < (x20.value.str.length : Int))) (
    some (.inr (.inr ()))) (
    some (.inl (AA .add .i64 s7 1)))) (
   some (.inr (.inl ())))
def aDr (w1 : AB) (s7 : Int) : Option (Unit ⊕ Unit) := AY (fun s : Int => G0 w1 s) s7
def G1 (w1 : AB) (s8 : Int) : Option ((Int) ⊕ (Unit ⊕ Unit)) :=
  AE (decide (s8 < (w1.trans.length : Int))) (
   AX w1.trans s8 fun x24 =>
   AE (decide (12 < (x24.sets.length : Int))) (
    some (.inr (.inr ()))) (
    some (.inl (AA .add .i64 s8 1)))) (
   some (.inr (.inl ())))
def aDs (w1 : AB) (s8 : Int) : Option (Unit ⊕ Unit) := AY (fun s : Int => G1 w1 s) s8
def Xc (a0 : AB) : Option (Int) :=
  AE (decide (12 < (a0.decls.length : Int))) (
   some 0) (
   AE (decide (9 < (a0.quants.length : Int))) (
    some 0) (
    AE (decide (12 < (a0.frees.length : Int))) (
     some 0) (
     AE (decide (12 < (a0.states.length : Int))) (
      some 0) (
      AE (decide (12 < (a0.symbols.length : Int))) (
       some 0) (
       AE (decide (12 < (a0.trans.length : Int))) (
        some 0) (
        AE (decide (40 < (a0.nodes.length : Int))) (
         some 0) (
         AE (decide (100 < (a0.name.length : Int))) (
          some 0) (
          AG (aDn a0 0) fun o3 =>
          Cj o3 (fun o4 =>
           AG (aDo a0 0) fun o13 =>
           Cj o13 (fun o14 =>
            AG (aDq a0 0) fun o17 =>
            Cj o17 (fun o18 =>
             AG (aDr a0 0) fun o21 =>
             Cj o21 (fun o22 =>
              AG (aDs a0 0) fun o25 =>
              Cj o25 (fun o26 =>
               some 1) (fun o27 =>
               some 0)) (fun o23 =>
              some 0)) (fun o19 =>
             some 0)) (fun o15 =>
            some 0)) (fun o5 =>
           some 0)))))))))
def Q9 : Option (List (List UInt8)) :=
  some ([([97,99,99,101,112,116] : List UInt8),([97,108,115,111] : List UInt8),([97,110,100] : List UInt8),([98,111,111,108] : List UInt8),([100,111] : List UInt8),([101,118,101,110,116] : List UInt8),([101,120,105,115,116,115] : List UInt8),([102,97,108,115,101] : List UInt8),([102,111,114,97,108,108] : List UInt8),([102,114,101,101] : List UInt8),([105,102] : List UInt8),([105,110,116] : List UInt8),([110,101,120,116] : List UInt8),([110,111,116] : List UInt8),([111,110] : List UInt8),([111,114] : List UInt8),([113,101,97] : List UInt8),([115,107,105,112] : List UInt8),([115,116,97,114,116] : List UInt8),([115,116,114,105,110,103] : List UInt8),([116,111] : List UInt8),([116,114,117,101] : List UInt8)])
def HW (s0 : List UInt8) (s3 : Int) : Option ((Int) ⊕ (Unit ⊕ Unit)) :=
  AE (decide (s3 < (s0.length : Int))) (
   AX s0 s3 fun x1 =>
   AE (decide (((65 : UInt8).toNat : Int) ≤ (x1.toNat : Int))) (
    AE (decide ((x1.toNat : Int) ≤ ((90 : UInt8).toNat : Int))) (
     some (.inl (AA .add .i64 s3 1))) (
     AE (decide (((97 : UInt8).toNat : Int) ≤ (x1.toNat : Int))) (
      AE (decide ((x1.toNat : Int) ≤ ((122 : UInt8).toNat : Int))) (
       some (.inl (AA .add .i64 s3 1))) (
       AE (!(decide ((x1.toNat : Int) = ((95 : UInt8).toNat : Int)))) (
        AE (decide (s3 = 0)) (
         some (.inr (.inr ()))) (
         AE (decide ((x1.toNat : Int) < ((48 : UInt8).toNat : Int))) (
          some (.inr (.inr ()))) (
          AE (decide (((57 : UInt8).toNat : Int) < (x1.toNat : Int))) (
           some (.inr (.inr ()))) (
           some (.inl (AA .add .i64 s3 1)))))) (
        some (.inl (AA .add .i64 s3 1))))) (
      AE (!(decide ((x1.toNat : Int) = ((95 : UInt8).toNat : Int)))) (
       AE (decide (s3 = 0)) (
        some (.inr (.inr ()))) (
        AE (decide ((x1.toNat : Int) < ((48 : UInt8).toNat : Int))) (
         some (.inr (.inr ()))) (
         AE (decide (((57 : UInt8).toNat : Int) < (x1.toNat : Int))) (
          some (.inr (.inr ()))) (
          some (.inl (AA .add .i64 s3 1)))))) (
       some (.inl (AA .add .i64 s3 1)))))) (
    AE (decide (((97 : UInt8).toNat : Int) ≤ (x1.toNat : Int))) (
     AE (decide ((x1.toNat : Int) ≤ ((122 : UInt8).toNat : Int))) (
      some (.inl (AA .add .i64 s3 1))) (
      AE (!(decide ((x1.toNat : Int) = ((95 : UInt8).toNat : Int)))) (
       AE (decide (s3 = 0)) (
        some (.inr (.inr ()))) (
        AE (decide ((x1.toNat : Int) < ((48 : UInt8).toNat : Int))) (
         some (.inr (.inr ()))) (
         AE (decide (((57 : UInt8).toNat : Int) < (x1.toNat : Int))) (
          some (.inr (.inr ()))) (
          some (.inl (AA .add .i64 s3 1)))))) (
       some (.inl (AA .add .i64 s3 1))))) (
     AE (!(decide ((x1.toNat : Int) = ((95 : UInt8).toNat : Int)))) (
      AE (decide (s3 = 0)) (
       some (.inr (.inr ()))) (
       AE (decide ((x1.toNat : Int) < ((48 : UInt8).toNat : Int))) (
        some (.inr (.inr ()))) (
        AE (decide (((57 : UInt8).toNat : Int) < (x1.toNat : Int))) (
         some (.inr (.inr ()))) (
         some (.inl (AA .add .i64 s3 1)))))) (
      some (.inl (AA .add .i64 s3 1)))))) (
   some (.inr (.inl ())))
def aEh (s0 : List UInt8) (s3 : Int) : Option (Unit ⊕ Unit) := AY (fun s : Int => HW s0 s) s3
def Yp (a0 : List UInt8) : Option (Bool) :=
  AE (decide ((a0.length : Int) < 1)) (
   some false) (
   AE (decide (32 < (a0.length : Int))) (
    some false) (
    AG (aEh a0 0) fun o2 =>
    Cj o2 (fun o3 =>
     some true) (fun o4 =>
     some false)))
def HR (s0 : List UInt8) (s3 : List (List UInt8)) (s4 : Int) : Option ((Int) ⊕ (Unit ⊕ Unit)) :=
  AE (decide (s4 < (s3.length : Int))) (
   AX s3 s4 fun x2 =>
   AE (decide (x2 = s0)) (
    some (.inr (.inr ()))) (
    some (.inl (AA .add .i64 s4 1)))) (
   some (.inr (.inl ())))
def aEb (s0 : List UInt8) (s3 : List (List UInt8)) (s4 : Int) : Option (Unit ⊕ Unit) := AY (fun s : Int => HR s0 s3 s) s4
def Yc (a0 : List UInt8) : Option (Bool) :=
  AG (Q9) fun r1 =>
  AG (aEb a0 r1 0) fun o3 =>
  Cj o3 (fun o4 =>
   AG (Yp a0) fun r6 =>
   AE (r6) (
    some (!decide (a0 = ([95] : List UInt8)))) (
    some false)) (fun o5 =>
   some false)
def JQ (s0 : List Xn) (s1 : List UInt8) (s5 : Int) : Option ((Int) ⊕ (Unit ⊕ Int)) :=
  AE (decide (s5 < (s0.length : Int))) (
   AX s0 s5 fun x1 =>
   AE (decide (x1.name = s1)) (
    some (.inr (.inr s5))) (
    some (.inl (AA .add .i64 s5 1)))) (
   some (.inr (.inl ())))
def aEk (s0 : List Xn) (s1 : List UInt8) (s5 : Int) : Option (Unit ⊕ Int) := AY (fun s : Int => JQ s0 s1 s) s5
def Ys (a0 : List Xn) (a1 : List UInt8) : Option (Int) :=
  AG (aEk a0 a1 0) fun o2 =>
  Cj o2 (fun o3 =>
   some (-1)) (fun o4 =>
   some o4)
def HO (s0 : List Xn) (s4 s5 : Int) : Option ((Int) ⊕ (Unit ⊕ Unit)) :=
  AX s0 s4 fun x6 =>
  AE (decide (s5 < (x6.types.length : Int))) (
   AX s0 s4 fun x7 =>
   AX x7.types s5 fun x8 =>
   AE (decide (x8 < 1)) (
    some (.inr (.inr ()))) (
    AX s0 s4 fun x9 =>
    AX x9.types s5 fun x10 =>
    AE (decide (3 < x10)) (
     some (.inr (.inr ()))) (
     some (.inl (AA .add .i64 s5 1))))) (
   some (.inr (.inl ())))
def aEa (s0 : List Xn) (s4 s5 : Int) : Option (Unit ⊕ Unit) := AY (fun s : Int => HO s0 s4 s) s5
def HN (s0 : List Xn) (s4 : Int) : Option ((Int) ⊕ (Unit ⊕ (Int × Int))) :=
  AE (decide (s4 < (s0.length : Int))) (
   AX s0 s4 fun x1 =>
   AG (Yc x1.name) fun r2 =>
   AE (!r2) (
    some (.inr (.inr (11,s4)))) (
    AX s0 s4 fun x3 =>
    AG (Ys s0 x3.name) fun r4 =>
    AE (decide (r4 < s4)) (
     some (.inr (.inr (10,s4)))) (
     AX s0 s4 fun x5 =>
     AE (decide (8 < (x5.types.length : Int))) (
      some (.inr (.inr (14,s4)))) (
      AG (aEa s0 s4 0) fun o11 =>
      Cj o11 (fun o12 =>
       some (.inl (AA .add .i64 s4 1))) (fun o13 =>
       some (.inr (.inr (8,s4)))))))) (
   some (.inr (.inl ())))
def aD9 (s0 : List Xn) (s4 : Int) : Option (Unit ⊕ (Int × Int)) := AY (fun s : Int => HN s0 s) s4
def Y1 (a0 : List Xn) : Option (Int × Int) :=
  AE (decide (32 < (a0.length : Int))) (
   some (14,32)) (
   AG (aD9 a0 0) fun o14 =>
   Cj o14 (fun o15 =>
    some (0,(-1))) (fun o16 =>
    some (o16.1,o16.2)))
def Z3 (a0 : X0) : Option (Bool) :=
  AE (decide (a0.kind = 1)) (
   AE (decide (a0.str = ([] : List UInt8))) (
    some (!a0.bool)) (
    some false)) (
   AE (decide (a0.kind = 2)) (
    AE (decide (a0.int = 0)) (
     AE (!a0.bool) (
      some (decide ((a0.str.length : Int) ≤ 4096))) (
      some false)) (
     some false)) (
    AE (decide (a0.kind = 3)) (
     AE (decide (a0.int = 0)) (
      some (decide (a0.str = ([] : List UInt8)))) (
      some false)) (
     some false)))
def HY (s0 : List (List UInt8)) (s1 s5 : Int) : Option ((Int) ⊕ (Unit ⊕ Unit)) :=
  AE (decide (s5 < s1)) (
   AX s0 s5 fun x1 =>
   AX s0 s1 fun x2 =>
   AE (decide (x1 = x2)) (
    some (.inr (.inr ()))) (
    some (.inl (AA .add .i64 s5 1)))) (
   some (.inr (.inl ())))
def aG9 (s0 : List (List UInt8)) (s1 s5 : Int) : Option (Unit ⊕ Unit) := AY (fun s : Int => HY s0 s1 s) s5
def Yt (a0 : List (List UInt8)) (a1 : Int) : Option (Bool) :=
  AG (aG9 a0 a1 0) fun o3 =>
  Cj o3 (fun o4 =>
   some false) (fun o5 =>
   some true)
def HB (w1 : AB) (s4 : Int) (w3 : List (List UInt8)) : Option ((Int × List (List UInt8)) ⊕ ((List (List UInt8)) ⊕ Unit)) :=
  AE (decide (s4 < (w1.quants.length : Int))) (
   AX w1.quants s4 fun x4 =>
   Aa (fit w3.length [x4.name].length 16) (
    AX w1.quants s4 fun x5 =>
    AE (decide (x5.type < 1)) (
     some (.inr (.inr ()))) (
     AX w1.quants s4 fun x6 =>
     AE (decide (3 < x6.type)) (
      some (.inr (.inr ()))) (
      some (.inl ((AA .add .i64 s4 1),w3 ++ [x4.name])))))) (
   some (.inr (.inl w3)))
def aGo (w1 : AB) (s4 : Int) (w3 : List (List UInt8)) : Option ((List (List UInt8)) ⊕ Unit) := AY (fun s : Int × List (List UInt8) => HB w1 s.1 s.2) (s4,w3)
def HC (w1 : AB) (s5 : Int) (w3 : List (List UInt8)) : Option ((Int × List (List UInt8)) ⊕ ((List (List UInt8)) ⊕ Unit)) :=
  AE (decide (s5 < (w1.frees.length : Int))) (
   AX w1.frees s5 fun x10 =>
   Aa (fit w3.length [x10.name].length 16) (
    AX w1.frees s5 fun x11 =>
    AG (Z3 x11.init_) fun r12 =>
    AE (!r12) (
     some (.inr (.inr ()))) (
     some (.inl ((AA .add .i64 s5 1),w3 ++ [x10.name]))))) (
   some (.inr (.inl w3)))
def aGp (w1 : AB) (s5 : Int) (w3 : List (List UInt8)) : Option ((List (List UInt8)) ⊕ Unit) := AY (fun s : Int × List (List UInt8) => HC w1 s.1 s.2) (s5,w3)
def HD (w1 : AB) (w3 : List (List UInt8)) (s6 : Int) : Option ((Int) ⊕ (Unit ⊕ Unit)) :=
  AE (decide (s6 < (w3.length : Int))) (
   AX w3 s6 fun x16 =>
   AG (Yc x16) fun r17 =>
   AE (!r17) (
    some (.inr (.inr ()))) (
    AG (Yt w3 s6) fun r18 =>
    AE (r18) (
     some (.inr (.inr ()))) (
     some (.inl (AA .add .i64 s6 1))))) (
   some (.inr (.inl ())))
def aGq (w1 : AB) (w3 : List (List UInt8)) (s6 : Int) : Option (Unit ⊕ Unit) := AY (fun s : Int => HD w1 w3 s) s6
def HE (w1 : AB) (s8 : Int) (w7 : List (List UInt8)) : Option ((Int × List (List UInt8)) ⊕ (Unit ⊕ Unit)) :=
  AE (decide (s8 < (w1.states.length : Int))) (
   AX w1.states s8 fun x26 =>
   Aa (fit w7.length [x26.name].length 16) (
    AX (w7 ++ [x26.name]) s8 fun x27 =>
    AG (Yc x27) fun r28 =>
    AE (!r28) (
     some (.inr (.inr ()))) (
     AG (Yt (w7 ++ [x26.name]) s8) fun r29 =>
     AE (r29) (
      some (.inr (.inr ()))) (
      some (.inl ((AA .add .i64 s8 1),w7 ++ [x26.name])))))) (
   some (.inr (.inl ())))
def aGr (w1 : AB) (s8 : Int) (w7 : List (List UInt8)) : Option (Unit ⊕ Unit) := AY (fun s : Int × List (List UInt8) => HE w1 s.1 s.2) (s8,w7)
def Xk (a0 : AB) : Option (Bool) :=
  AG (aGo a0 0 ([] : List (List UInt8))) fun o7 =>
  Cj o7 (fun o8 =>
   AG (aGp a0 0 o8) fun o13 =>
   Cj o13 (fun o14 =>
    AG (aGq a0 o14 0) fun o19 =>
    Cj o19 (fun o20 =>
     AG (aGr a0 0 ([] : List (List UInt8))) fun o30 =>
     Cj o30 (fun o31 =>
      AG (Yc a0.name) fun r33 =>
      some r33) (fun o32 =>
      some false)) (fun o21 =>
     some false)) (fun o15 =>
    some false)) (fun o9 =>
   some false)
def Z0 (a0 : Bool) : Option (X0 × Int) :=
  some (X0.mk 3 0 ([] : List UInt8) a0,0)
def Zy (a0 a1 : Int) : Option (Int × Bool) :=
  AE (decide (0 < a1)) (
   AE (decide ((AA .sub .i64 9223372036854775807 a1) < a0)) (
    some (0,false)) (
    AE (decide (a1 < 0)) (
     AE (decide (a0 < (AA .sub .i64 (-9223372036854775808) a1))) (
      some (0,false)) (
      some ((AA .add .i64 a0 a1),true))) (
     some ((AA .add .i64 a0 a1),true)))) (
   AE (decide (a1 < 0)) (
    AE (decide (a0 < (AA .sub .i64 (-9223372036854775808) a1))) (
     some (0,false)) (
     some ((AA .add .i64 a0 a1),true))) (
    some ((AA .add .i64 a0 a1),true)))
def Zl (a0 : Int) (a1 : Bool) : Option (X0 × Int) :=
  AE (!a1) (
   some (X0.mk 0 0 ([] : List UInt8) false,6)) (
   some (X0.mk 1 a0 ([] : List UInt8) false,0))
def Z9 (a0 a1 : Int) : Option (Int × Bool) :=
  AE (decide (a1 < 0)) (
   AE (decide ((AA .add .i64 9223372036854775807 a1) < a0)) (
    some (0,false)) (
    AE (decide (0 < a1)) (
     AE (decide (a0 < (AA .add .i64 (-9223372036854775808) a1))) (
      some (0,false)) (
      some ((AA .sub .i64 a0 a1),true))) (
     some ((AA .sub .i64 a0 a1),true)))) (
   AE (decide (0 < a1)) (
    AE (decide (a0 < (AA .add .i64 (-9223372036854775808) a1))) (
     some (0,false)) (
     some ((AA .sub .i64 a0 a1),true))) (
    some ((AA .sub .i64 a0 a1),true)))
def Zz (a0 a1 : Int) : Option (Int × Bool) :=
  AE (decide (a0 = 0)) (
   some (0,true)) (
   AE (decide (a1 = 0)) (
    some (0,true)) (
    AE (decide (a0 = (-1))) (
     AG (Z9 0 a1) fun r1 =>
     some (r1.1,r1.2)) (
     AE (decide (a1 = (-1))) (
      AG (Z9 0 a0) fun r2 =>
      some (r2.1,r2.2)) (
      AE (decide (0 < a0)) (
       AE (decide (0 < a1)) (
        Aa (a1 ≠ 0) (
         AE (decide ((AA .quo .i64 9223372036854775807 a1) < a0)) (
          some (0,false)) (
          AE (decide (a1 < 0)) (
           Aa (a0 ≠ 0) (
            AE (decide (a1 < (AA .quo .i64 (-9223372036854775808) a0))) (
             some (0,false)) (
             AE (decide (a0 < 0)) (
              Aa (a1 ≠ 0) (
               AE (decide (a0 < (AA .quo .i64 (-9223372036854775808) a1))) (
                some (0,false)) (
                Aa (a1 ≠ 0) (
                 AE (decide (a0 < (AA .quo .i64 9223372036854775807 a1))) (
                  some (0,false)) (
                  some ((AA .mul .i64 a0 a1),true)))))) (
              some ((AA .mul .i64 a0 a1),true))))) (
           AE (decide (a0 < 0)) (
            Aa (a1 ≠ 0) (
             AE (decide (a0 < (AA .quo .i64 (-9223372036854775808) a1))) (
              some (0,false)) (
              some ((AA .mul .i64 a0 a1),true)))) (
            some ((AA .mul .i64 a0 a1),true)))))) (
        AE (decide (a1 < 0)) (
         Aa (a0 ≠ 0) (
          AE (decide (a1 < (AA .quo .i64 (-9223372036854775808) a0))) (
           some (0,false)) (
           AE (decide (a0 < 0)) (
            Aa (a1 ≠ 0) (
             AE (decide (a0 < (AA .quo .i64 9223372036854775807 a1))) (
              some (0,false)) (
              some ((AA .mul .i64 a0 a1),true)))) (
            some ((AA .mul .i64 a0 a1),true))))) (
         AE (decide (a0 < 0)) (
          some ((AA .mul .i64 a0 a1),true)) (
          some ((AA .mul .i64 a0 a1),true))))) (
       AE (decide (a0 < 0)) (
        AE (decide (0 < a1)) (
         Aa (a1 ≠ 0) (
          AE (decide (a0 < (AA .quo .i64 (-9223372036854775808) a1))) (
           some (0,false)) (
           AE (decide (a1 < 0)) (
            Aa (a1 ≠ 0) (
             AE (decide (a0 < (AA .quo .i64 9223372036854775807 a1))) (
              some (0,false)) (
              some ((AA .mul .i64 a0 a1),true)))) (
            some ((AA .mul .i64 a0 a1),true))))) (
         AE (decide (a1 < 0)) (
          Aa (a1 ≠ 0) (
           AE (decide (a0 < (AA .quo .i64 9223372036854775807 a1))) (
            some (0,false)) (
            some ((AA .mul .i64 a0 a1),true)))) (
          some ((AA .mul .i64 a0 a1),true)))) (
        some ((AA .mul .i64 a0 a1),true)))))))
def Q0 (a0 a1 : Int) : Option (Int × Int × Int) :=
  AE (decide (a1 = 0)) (
   some (0,0,7)) (
   AE (decide (a1 = (-1))) (
    AG (Z9 0 a0) fun r1 =>
    AE (!r1.2) (
     some (0,0,6)) (
     some (r1.1,0,0))) (
    Aa (a1 ≠ 0) (
     Aa (a1 ≠ 0) (
      some ((AA .quo .i64 a0 a1),(AA .rem .i64 a0 a1),0)))))
def Za (a0 a1 a2 : Int) : Option (X0 × Int) :=
  AE (decide (a0 = 8)) (
   AG (Zy a1 a2) fun r1 =>
   AG (Zl r1.1 r1.2) fun r2 =>
   some (r2.1,r2.2)) (
   AE (decide (a0 = 9)) (
    AG (Z9 a1 a2) fun r3 =>
    AG (Zl r3.1 r3.2) fun r4 =>
    some (r4.1,r4.2)) (
    AE (decide (a0 = 10)) (
     AG (Zz a1 a2) fun r5 =>
     AG (Zl r5.1 r5.2) fun r6 =>
     some (r6.1,r6.2)) (
     AG (Q0 a1 a2) fun r7 =>
     AE (decide (r7.2.2 = 7)) (
      some (X0.mk 0 0 ([] : List UInt8) false,7)) (
      AE (decide (a0 = 12)) (
       some (X0.mk 1 r7.2.1 ([] : List UInt8) false,0)) (
       AG (Zl r7.1 (decide (r7.2.2 = 0))) fun r8 =>
       some (r8.1,r8.2))))))
def F4 (s0 s1 : List UInt8) (s5 : Int) : Option ((Int) ⊕ (Unit ⊕ Bool)) :=
  AE (decide (s5 < (s0.length : Int))) (
   AE (decide (s5 < (s1.length : Int))) (
    AX s0 s5 fun x1 =>
    AX s1 s5 fun x2 =>
    AE (!decide ((x1.toNat : Int) = (x2.toNat : Int))) (
     AX s0 s5 fun x3 =>
     AX s1 s5 fun x4 =>
     some (.inr (.inr (decide ((x3.toNat : Int) < (x4.toNat : Int)))))) (
     some (.inl (AA .add .i64 s5 1)))) (
    some (.inr (.inl ())))) (
   some (.inr (.inl ())))
def aAg (s0 s1 : List UInt8) (s5 : Int) : Option (Unit ⊕ Bool) := AY (fun s : Int => F4 s0 s1 s) s5
def Yh (a0 a1 : List UInt8) : Option (Bool) :=
  AG (aAg a0 a1 0) fun o5 =>
  Cj o5 (fun o6 =>
   some (decide ((a0.length : Int) < (a1.length : Int)))) (fun o7 =>
   some o7)
def Z4 (a0 a1 : X0) : Option (Bool) :=
  AE (!decide (a0.kind = a1.kind)) (
   some (decide (a0.kind < a1.kind))) (
   AE (decide (a0.kind = 1)) (
    some (decide (a0.int < a1.int))) (
    AE (decide (a0.kind = 2)) (
     AG (Yh a0.str a1.str) fun r1 =>
     some r1) (
     AE (!a0.bool) (
      some a1.bool) (
      some false))))
def Zs (a0 : Int) (a1 a2 : X0) : Option (X0 × Int) :=
  AE (decide (a0 < 4)) (
   some (X0.mk 0 0 ([] : List UInt8) false,1)) (
   AE (decide (16 < a0)) (
    some (X0.mk 0 0 ([] : List UInt8) false,1)) (
    AE (decide (a0 = 4)) (
     AE (!decide (a1.kind = 3)) (
      some (X0.mk 0 0 ([] : List UInt8) false,8)) (
      AG (Z0 (!a1.bool)) fun r1 =>
      some (r1.1,r1.2))) (
     AE (decide (a0 = 5)) (
      AE (!decide (a1.kind = 1)) (
       some (X0.mk 0 0 ([] : List UInt8) false,8)) (
       AG (Za 9 0 a1.int) fun r2 =>
       some (r2.1,r2.2))) (
      AE (!decide (a1.kind = a2.kind)) (
       some (X0.mk 0 0 ([] : List UInt8) false,8)) (
       AE (decide (a0 = 13)) (
        AG (Z0 (X0.eqb a1 a2)) fun r3 =>
        some (r3.1,r3.2)) (
        AE (decide (a0 = 14)) (
         AG (Z0 (!(X0.eqb a1 a2))) fun r4 =>
         some (r4.1,r4.2)) (
         AE (decide (a1.kind = 3)) (
          AE (decide (a0 = 6)) (
           AE (a1.bool) (
            AG (Z0 a2.bool) fun r5 =>
            some (r5.1,r5.2)) (
            AG (Z0 false) fun r6 =>
            some (r6.1,r6.2))) (
           AE (decide (a0 = 7)) (
            AE (a1.bool) (
             AG (Z0 true) fun r7 =>
             some (r7.1,r7.2)) (
             AG (Z0 a2.bool) fun r8 =>
             some (r8.1,r8.2))) (
            some (X0.mk 0 0 ([] : List UInt8) false,8)))) (
          AE (decide (a0 = 15)) (
           AG (Z4 a1 a2) fun r9 =>
           AG (Z0 r9) fun r10 =>
           some (r10.1,r10.2)) (
           AE (decide (a0 = 16)) (
            AG (Z4 a2 a1) fun r11 =>
            AG (Z0 (!r11)) fun r12 =>
            some (r12.1,r12.2)) (
            AE (decide (a1.kind = 1)) (
             AE (decide (8 ≤ a0)) (
              AE (decide (a0 ≤ 12)) (
               AG (Za a0 a1.int a2.int) fun r13 =>
               some (r13.1,r13.2)) (
               AE (decide (a1.kind = 2)) (
                AE (decide (a0 = 8)) (
                 AE (decide (4096 < (AA .add .i64 (a1.str.length : Int) (a2.str.length : Int)))) (
                  some (X0.mk 0 0 ([] : List UInt8) false,3)) (
                  Aa (a1.str.length + a2.str.length ≤ 9223372036854775807) (
                   some (X0.mk 2 0 (a1.str ++ a2.str) false,0)))) (
                 some (X0.mk 0 0 ([] : List UInt8) false,8))) (
                some (X0.mk 0 0 ([] : List UInt8) false,8)))) (
              AE (decide (a1.kind = 2)) (
               AE (decide (a0 = 8)) (
                AE (decide (4096 < (AA .add .i64 (a1.str.length : Int) (a2.str.length : Int)))) (
                 some (X0.mk 0 0 ([] : List UInt8) false,3)) (
                 Aa (a1.str.length + a2.str.length ≤ 9223372036854775807) (
                  some (X0.mk 2 0 (a1.str ++ a2.str) false,0)))) (
                some (X0.mk 0 0 ([] : List UInt8) false,8))) (
               some (X0.mk 0 0 ([] : List UInt8) false,8)))) (
             AE (decide (a1.kind = 2)) (
              AE (decide (a0 = 8)) (
               AE (decide (4096 < (AA .add .i64 (a1.str.length : Int) (a2.str.length : Int)))) (
                some (X0.mk 0 0 ([] : List UInt8) false,3)) (
                Aa (a1.str.length + a2.str.length ≤ 9223372036854775807) (
                 some (X0.mk 2 0 (a1.str ++ a2.str) false,0)))) (
               some (X0.mk 0 0 ([] : List UInt8) false,8))) (
              some (X0.mk 0 0 ([] : List UInt8) false,8)))))))))))))
def Zm (a0 a1 a2 : Int) : Option (Int) :=
  AE (decide (a1 < 1)) (
   some 0) (
   AE (!decide (a1 = a2)) (
    some 0) (
    AG (Zs a0 (X0.mk a1 0 ([] : List UInt8) false) (X0.mk a2 0 ([] : List UInt8) false)) fun r1 =>
    AE (decide (r1.2 = 7)) (
     some 1) (
     AE (!decide (r1.2 = 0)) (
      some 0) (
      some r1.1.kind))))
def aEi (self : AB → Int → Option (Int × Int × Int)) (a0 : AB) (a1 : Int) : Option (Int × Int × Int) :=
  AE (decide (a1 < 0)) (
   some (0,0,0)) (
   AE (decide ((a0.nodes.length : Int) ≤ a1)) (
    some (0,0,0)) (
    AX a0.nodes a1 fun x1 =>
    AE (decide (x1.op = 1)) (
     AE (!decide (x1.a = 0)) (
      some (0,0,0)) (
      AE (!decide (x1.b = 0)) (
       some (0,0,0)) (
       AG (Z3 x1.value) fun r2 =>
       AE (!r2) (
        some (0,0,0)) (
        some (x1.value.kind,1,a1))))) (
     AE (!(X0.eqb x1.value (X0.mk 0 0 ([] : List UInt8) false))) (
      some (0,0,0)) (
      AE (decide (x1.op = 2)) (
       AE (decide (x1.a < 0)) (
        some (0,0,0)) (
        AE (decide ((a0.quants.length : Int) ≤ x1.a)) (
         some (0,0,0)) (
         AE (!decide (x1.b = 0)) (
          some (0,0,0)) (
          AX a0.quants x1.a fun x3 =>
          some (x3.type,1,a1))))) (
       AE (decide (x1.op = 3)) (
        AE (decide (x1.a < 0)) (
         some (0,0,0)) (
         AE (decide ((a0.frees.length : Int) ≤ x1.a)) (
          some (0,0,0)) (
          AE (!decide (x1.b = 0)) (
           some (0,0,0)) (
           AX a0.frees x1.a fun x4 =>
           some (x4.init_.kind,1,a1))))) (
        AE (decide (x1.op < 4)) (
         some (0,0,0)) (
         AE (decide (16 < x1.op)) (
          some (0,0,0)) (
          AG (self a0 (AA .sub .i64 a1 1)) fun r5 =>
          AE (decide (x1.op ≤ 5)) (
           AE (decide (r5.1 = 0)) (
            some (0,0,0)) (
            AE (!decide (x1.a = (AA .sub .i64 a1 1))) (
             some (0,0,0)) (
             AE (!decide (x1.b = 0)) (
              some (0,0,0)) (
              AG (Zm x1.op r5.1 r5.1) fun r6 =>
              some (r6,(AA .add .i64 r5.2.1 1),r5.2.2))))) (
           AE (decide (r5.1 = 0)) (
            some (0,0,0)) (
            AE (!decide (x1.b = (AA .sub .i64 a1 1))) (
             some (0,0,0)) (
             AE (!decide (x1.a = (AA .sub .i64 r5.2.2 1))) (
              some (0,0,0)) (
              AG (self a0 (AA .sub .i64 r5.2.2 1)) fun r7 =>
              AG (Zm x1.op r7.1 r5.1) fun r8 =>
              some (r8,(AA .add .i64 (aIx r5.2.1 r7.2.1) 1),r7.2.2)))))))))))))
def aCq : Nat → AB → Int → Option (Int × Int × Int)
  | 0 => fun _ _  => none
  | n + 1 => fun a0 a1 => aEi (aCq n) a0 a1
def Yq (a0 : AB) (a1 : Int) : Option (Int × Int × Int) := aCq 100000 a0 a1
def Zp (a0 : AB) (a1 a2 : Int) : Option (Int × Int) :=
  AG (Yq a0 a2) fun r1 =>
  AE (decide (r1.1 = 0)) (
   some (0,0)) (
   AE (!decide (r1.2.2 = a1)) (
    some (0,0)) (
    some (r1.1,r1.2.1)))
def HU (s1 : Int) (w2 : X4) (s5 : Int) : Option ((Int) ⊕ (Unit ⊕ Unit)) :=
  AE (decide (s5 < (w2.args.length : Int))) (
   AX w2.args s5 fun x1 =>
   AE (decide (x1.kind = 2)) (
    AX w2.args s5 fun x2 =>
    AE (decide (x2.n = s1)) (
     some (.inr (.inr ()))) (
     some (.inl (AA .add .i64 s5 1)))) (
    some (.inl (AA .add .i64 s5 1)))) (
   some (.inr (.inl ())))
def aEf (s1 : Int) (w2 : X4) (s5 : Int) : Option (Unit ⊕ Unit) := AY (fun s : Int => HU s1 w2 s) s5
def Ym (a0 : X4) (a1 : Int) : Option (Bool) :=
  AG (aEf a1 a0 0) fun o3 =>
  Cj o3 (fun o4 =>
   some false) (fun o5 =>
   some true)
def Ha (s3 : Int) (w4 : AB) (w5 : X4) (s9 : Int) : Option ((Int) ⊕ (Unit ⊕ Unit)) :=
  AE (decide (s9 < s3)) (
   AX w4.nodes s9 fun x1 =>
   AE (decide (x1.op = 2)) (
    AX w4.nodes s9 fun x2 =>
    AG (Ym w5 x2.a) fun r3 =>
    AE (!r3) (
     some (.inr (.inr ()))) (
     some (.inl (AA .add .i64 s9 1)))) (
    some (.inl (AA .add .i64 s9 1)))) (
   some (.inr (.inl ())))
def aEl (s3 : Int) (w4 : AB) (w5 : X4) (s9 : Int) : Option (Unit ⊕ Unit) := AY (fun s : Int => Ha s3 w4 w5 s) s9
def Yv (a0 : AB) (a1 : X4) (a2 a3 : Int) : Option (Bool) :=
  AG (aEl a3 a0 a1 a2) fun o4 =>
  Cj o4 (fun o5 =>
   some true) (fun o6 =>
   some false)
def SQ (s2 s8 : Int) (s56 : Bool) (w3 : AB) (w4 : Xe) : Option (Int ⊕ Unit) :=
  AE (s56) (
   AG (Zp w3 s8 w4.guard) fun r1 =>
   AE (!decide (r1.1 = 3)) (
    some (.inr ())) (
    AE (decide (64 < r1.2)) (
     some (.inr ())) (
     some (.inl (AA .add .i64 w4.guard 1))))) (
   some (.inl s8))
def HM (s2 s11 : Int) (w3 : AB) (w4 : Xe) (w12 : E5) (s15 : Int) : Option ((Int) ⊕ (Unit ⊕ Unit)) :=
  AE (decide (s15 < s11)) (
   AX w4.sets s15 fun x8 =>
   AE (decide (x8.free = w12.free)) (
    some (.inr (.inr ()))) (
    some (.inl (AA .add .i64 s15 1)))) (
   some (.inr (.inl ())))
def aD4 (s2 s11 : Int) (w3 : AB) (w4 : Xe) (w12 : E5) (s15 : Int) : Option (Unit ⊕ Unit) := AY (fun s : Int => HM s2 s11 w3 w4 w12 s) s15
def HL (s2 : Int) (w3 : AB) (w4 : Xe) (s8 s11 : Int) : Option ((Int × Int) ⊕ (Int ⊕ Unit)) :=
  AE (decide (s11 < (w4.sets.length : Int))) (
   AX w4.sets s11 fun x5 =>
   AG (Zp w3 s8 x5.expr) fun r6 =>
   AE (decide (x5.free < 0)) (
    some (.inr (.inr ()))) (
    AE (decide ((w3.frees.length : Int) ≤ x5.free)) (
     some (.inr (.inr ()))) (
     AE (decide (r6.1 = 0)) (
      some (.inr (.inr ()))) (
      AE (decide (64 < r6.2)) (
       some (.inr (.inr ()))) (
       AX w3.frees x5.free fun x7 =>
       AE (!decide (r6.1 = x7.init_.kind)) (
        some (.inr (.inr ()))) (
        AG (aD4 s2 s11 w3 w4 x5 0) fun o9 =>
        Cj o9 (fun o10 =>
         some (.inl ((AA .add .i64 x5.expr 1),(AA .add .i64 s11 1)))) (fun o11 =>
         some (.inr (.inr ()))))))))) (
   some (.inr (.inl s8)))
def aD3 (s2 : Int) (w3 : AB) (w4 : Xe) (s8 s11 : Int) : Option (Int ⊕ Unit) := AY (fun s : Int × Int => HL s2 w3 w4 s.1 s.2) (s8,s11)
def Xy (a0 : AB) (a1 : Xe) (a2 : Int) : Option (Int × Bool) :=
  AE (decide (a1.from_ < 0)) (
   some (0,false)) (
   AE (decide ((a0.states.length : Int) ≤ a1.from_)) (
    some (0,false)) (
    AE (decide (a1.to < 0)) (
     some (0,false)) (
     AE (decide ((a0.states.length : Int) ≤ a1.to)) (
      some (0,false)) (
      AE (decide (a1.symbol < 0)) (
       some (0,false)) (
       AE (decide ((a0.symbols.length : Int) ≤ a1.symbol)) (
        some (0,false)) (
        AG (SQ a2 a2 (!decide (a1.guard = (-1))) a0 a1) fun o2 =>
        Cj o2 (fun o3 =>
         AG (aD3 a2 a0 a1 o3 0) fun o12 =>
         Cj o12 (fun o13 =>
          AX a0.symbols a1.symbol fun x15 =>
          AG (Yv a0 x15 a2 o13) fun r16 =>
          some (o13,r16)) (fun o14 =>
          some (0,false))) (fun o4 =>
         some (0,false))))))))
def Zt (a0 : AB) (a1 : CX) (a2 : Int) : Option (Bool) :=
  AE (decide (a1.kind = 1)) (
   AE (decide (a1.n = 0)) (
    AG (Z3 a1.value) fun r1 =>
    AE (r1) (
     some (decide (a1.value.kind = a2))) (
     some false)) (
    some false)) (
   AE (!(X0.eqb a1.value (X0.mk 0 0 ([] : List UInt8) false))) (
    some false) (
    AE (decide (a1.kind = 2)) (
     AE (decide (0 ≤ a1.n)) (
      AE (decide (a1.n < (a0.quants.length : Int))) (
       AX a0.quants a1.n fun x2 =>
       some (decide (x2.type = a2))) (
       some false)) (
      some false)) (
     AE (decide (a1.kind = 3)) (
      AE (decide (0 ≤ a1.n)) (
       AE (decide (a1.n < (a0.frees.length : Int))) (
        AX a0.frees a1.n fun x3 =>
        some (decide (x3.init_.kind = a2))) (
        some false)) (
       some false)) (
      AE (decide (a1.kind = 4)) (
       some (decide (a1.n = 0))) (
       some false)))))
def HZ (w2 : AB) (w3 : X4) (s5 : Int) : Option ((Int) ⊕ (Unit ⊕ Unit)) :=
  AE (decide (s5 < (w3.args.length : Int))) (
   AX w3.args s5 fun x2 =>
   AX w2.decls w3.event fun x3 =>
   AX x3.types s5 fun x4 =>
   AG (Zt w2 x2 x4) fun r5 =>
   AE (!r5) (
    some (.inr (.inr ()))) (
    some (.inl (AA .add .i64 s5 1)))) (
   some (.inr (.inl ())))
def aHb (w2 : AB) (w3 : X4) (s5 : Int) : Option (Unit ⊕ Unit) := AY (fun s : Int => HZ w2 w3 s) s5
def Yu (a0 : AB) (a1 : X4) : Option (Bool) :=
  AE (decide (a1.event < 0)) (
   some false) (
   AE (decide ((a0.decls.length : Int) ≤ a1.event)) (
    some false) (
    AX a0.decls a1.event fun x1 =>
    AE (!decide ((a1.args.length : Int) = (x1.types.length : Int))) (
     some false) (
     AG (aHb a0 a1 0) fun o6 =>
     Cj o6 (fun o7 =>
      some true) (fun o8 =>
      some false))))
def Hd (w2 w3 : X4) (s5 : Int) : Option ((Int) ⊕ (Unit ⊕ Unit)) :=
  AE (decide (s5 < (w2.args.length : Int))) (
   AX w2.args s5 fun x1 =>
   AX w3.args s5 fun x2 =>
   AE (!(CX.eqb x1 x2)) (
    some (.inr (.inr ()))) (
    some (.inl (AA .add .i64 s5 1)))) (
   some (.inr (.inl ())))
def aHc (w2 w3 : X4) (s5 : Int) : Option (Unit ⊕ Unit) := AY (fun s : Int => Hd w2 w3 s) s5
def Yy (a0 a1 : X4) : Option (Bool) :=
  AE (!decide (a0.event = a1.event)) (
   some false) (
   AE (!decide ((a0.args.length : Int) = (a1.args.length : Int))) (
    some false) (
    AG (aHc a0 a1 0) fun o3 =>
    Cj o3 (fun o4 =>
     some true) (fun o5 =>
     some false)))
def QH (s5 s6 : Int) (s34 : Bool) (w1 : AB) (w3 : List Bool) (w4 : List Int) : Option ((List Int)) :=
  AE (s34) (
   Aa (fit w4.length [s6].length 8) (
    some (w4 ++ [s6]))) (
   some w4)
def Vk (s5 : Int) (w1 : AB) (w3 : List Bool) (w4 : List Int) : Option ((List Bool × List Int)) :=
  AX w1.trans s5 fun x5 =>
  Aa (0 ≤ x5.symbol ∧ x5.symbol + 1 ≤ (w3.length : Int)) (
   AX w3 x5.symbol fun x6 =>
   AG (QH s5 x5.symbol (!x6) w1 w3 w4) fun o7 =>
   Aa (0 ≤ x5.symbol ∧ x5.symbol + 1 ≤ (w3.length : Int)) (
    Aa (0 ≤ x5.symbol ∧ x5.symbol + 1 ≤ (w3.length : Int)) (
     some (w3.set x5.symbol.toNat true,o7))))
def Gn (w1 : AB) (s5 : Int) (w3 : List Bool) (w4 : List Int) : Option ((Int × List Bool × List Int) ⊕ ((List Int))) :=
  AE (decide (s5 < (w1.trans.length : Int))) (
   AG (Vk s5 w1 w3 w4) fun o8 =>
   some (.inl ((AA .add .i64 s5 1),o8.1,o8.2))) (
   some (.inr w4))
def aGj (w1 : AB) (s5 : Int) (w3 : List Bool) (w4 : List Int) : Option ((List Int)) := AY (fun s : Int × List Bool × List Int => Gn w1 s.1 s.2.1 s.2.2) (s5,w3,w4)
def Gp (w1 : AB) (w4 : List Int) (s7 : Int) : Option ((Int) ⊕ (Unit ⊕ Unit)) :=
  AE (decide (s7 < (w4.length : Int))) (
   AX w4 s7 fun x10 =>
   AE (!decide (x10 = (AA .add .i64 (AA .sub .i64 (w1.symbols.length : Int) (w4.length : Int)) s7))) (
    some (.inr (.inr ()))) (
    some (.inl (AA .add .i64 s7 1)))) (
   some (.inr (.inl ())))
def aGk (w1 : AB) (w4 : List Int) (s7 : Int) : Option (Unit ⊕ Unit) := AY (fun s : Int => Gp w1 w4 s) s7
def Gr (s8 : Int) (w1 : AB) (s9 : Int) : Option ((Int) ⊕ (Unit ⊕ Unit)) :=
  AE (decide (s9 < s8)) (
   AX w1.symbols s8 fun x16 =>
   AX w1.symbols s9 fun x17 =>
   AG (Yy x16 x17) fun r18 =>
   AE (r18) (
    some (.inr (.inr ()))) (
    some (.inl (AA .add .i64 s9 1)))) (
   some (.inr (.inl ())))
def aDk (s8 : Int) (w1 : AB) (s9 : Int) : Option (Unit ⊕ Unit) := AY (fun s : Int => Gr s8 w1 s) s9
def Gq (w1 : AB) (s8 : Int) : Option ((Int) ⊕ (Unit ⊕ Unit)) :=
  AE (decide (s8 < (w1.symbols.length : Int))) (
   AX w1.symbols s8 fun x14 =>
   AG (Yu w1 x14) fun r15 =>
   AE (!r15) (
    some (.inr (.inr ()))) (
    AG (aDk s8 w1 0) fun o19 =>
    Cj o19 (fun o20 =>
     some (.inl (AA .add .i64 s8 1))) (fun o21 =>
     some (.inr (.inr ()))))) (
   some (.inr (.inl ())))
def aGl (w1 : AB) (s8 : Int) : Option (Unit ⊕ Unit) := AY (fun s : Int => Gq w1 s) s8
def Eb (s10 : Int) (w1 : AB) (s11 : Bool) (s12 : Int) : Option ((Bool × Int) ⊕ (Bool)) :=
  AE (decide (s12 < (w1.symbols.length : Int))) (
   AE (s11) (
    some (.inl (true,(AA .add .i64 s12 1)))) (
    AX w1.symbols s12 fun x25 =>
    AG (Ym x25 s10) fun r26 =>
    some (.inl (r26,(AA .add .i64 s12 1))))) (
   some (.inr s11))
def QI (s10 : Int) (w1 : AB) (s11 : Bool) (s12 : Int) : Option (Bool) := AY (fun s : Bool × Int => Eb s10 w1 s.1 s.2) (s11,s12)
def Gs (w1 : AB) (s10 : Int) : Option ((Int) ⊕ (Unit ⊕ Unit)) :=
  AE (decide (s10 < (w1.quants.length : Int))) (
   AG (QI s10 w1 false 0) fun o27 =>
   AE (!o27) (
    some (.inr (.inr ()))) (
    some (.inl (AA .add .i64 s10 1)))) (
   some (.inr (.inl ())))
def aGm (w1 : AB) (s10 : Int) : Option (Unit ⊕ Unit) := AY (fun s : Int => Gs w1 s) s10
def X7 (a0 : AB) : Option (Bool) :=
  Aa (0 ≤ (a0.symbols.length : Int) ∧ fit 0 (a0.symbols.length : Int).toNat 1) (
   AG (aGj a0 0 (List.replicate (a0.symbols.length : Int).toNat false) ([] : List Int)) fun o9 =>
   AG (aGk a0 o9 0) fun o11 =>
   Cj o11 (fun o12 =>
    AG (aGl a0 0) fun o22 =>
    Cj o22 (fun o23 =>
     AG (aGm a0 0) fun o28 =>
     Cj o28 (fun o29 =>
      some true) (fun o30 =>
      some false)) (fun o24 =>
     some false)) (fun o13 =>
    some false))
def HX (w1 : AB) (s5 s6 : Int) : Option ((Int × Int) ⊕ (Int ⊕ Unit)) :=
  AE (decide (s6 < (w1.trans.length : Int))) (
   AX w1.trans s6 fun x3 =>
   AG (Xy w1 x3 s5) fun r4 =>
   AE (!r4.2) (
    some (.inr (.inr ()))) (
    some (.inl (r4.1,(AA .add .i64 s6 1))))) (
   some (.inr (.inl s5)))
def aG8 (w1 : AB) (s5 s6 : Int) : Option (Int ⊕ Unit) := AY (fun s : Int × Int => HX w1 s.1 s.2) (s5,s6)
def Yr (a0 : AB) : Option (Bool) :=
  AG (Y1 a0.decls) fun r1 =>
  AE (!decide (r1.1 = 0)) (
   some false) (
   AE (decide (8 < (a0.quants.length : Int))) (
    some false) (
    AE (decide (16 < (a0.frees.length : Int))) (
     some false) (
     AE (decide (32 < (a0.states.length : Int))) (
      some false) (
      AE (decide (64 < (a0.symbols.length : Int))) (
       some false) (
       AE (decide (2048 < (a0.nodes.length : Int))) (
        some false) (
        AE (decide (256 < (a0.trans.length : Int))) (
         some false) (
         AE (decide (a0.start < 0)) (
          some false) (
          AE (decide ((a0.states.length : Int) ≤ a0.start)) (
           some false) (
           AG (Xk a0) fun r2 =>
           AE (!r2) (
            some false) (
            AG (aG8 a0 0 0) fun o5 =>
            Cj o5 (fun o6 =>
             AE (decide (o6 = (a0.nodes.length : Int))) (
              AG (X7 a0) fun r8 =>
              some r8) (
              some false)) (fun o7 =>
             some false)))))))))))
def Hb (w1 : AB) (s3 : Int) : Option ((Int) ⊕ (Unit ⊕ Unit)) :=
  AE (decide (s3 < (w1.decls.length : Int))) (
   AX w1.decls s3 fun x3 =>
   AE (decide (3 < (x3.types.length : Int))) (
    some (.inr (.inr ()))) (
    some (.inl (AA .add .i64 s3 1)))) (
   some (.inr (.inl ())))
def aEm (w1 : AB) (s3 : Int) : Option (Unit ⊕ Unit) := AY (fun s : Int => Hb w1 s) s3
def Yw (a0 : AB) : Option (Bool) :=
  AG (Xc a0) fun r1 =>
  AE (decide (r1 = 0)) (
   some false) (
   AG (Yr a0) fun r2 =>
   AE (!r2) (
    some false) (
    AG (aEm a0 0) fun o4 =>
    Cj o4 (fun o5 =>
     some true) (fun o6 =>
     some false)))
def F1 (s0 : List Int) (s1 s7 s8 : Int) : Option ((Int) ⊕ (Unit ⊕ Int)) :=
  AE (decide (s8 < s7)) (
   AX s0 s8 fun x1 =>
   AE (decide (s1 = x1)) (
    some (.inr (.inr s8))) (
    some (.inl (AA .add .i64 s8 1)))) (
   some (.inr (.inl ())))
def Sh (s0 : List Int) (s1 s7 s8 : Int) : Option (Unit ⊕ Int) := AY (fun s : Int => F1 s0 s1 s7 s) s8
def Y5 (a0 : List Int) (a1 : Int) : Option (Int) :=
  AG (Sh a0 a1 (a0.length : Int) 0) fun o2 =>
  Cj o2 (fun o3 =>
   some (-1)) (fun o4 =>
   some o4)
def Z6 (a0 : List Int) (a1 : Int) : Option (Bool) :=
  AG (Y5 a0 a1) fun r1 =>
  some (decide (0 ≤ r1))
def LR (s6 : Int) (s18 : List Xe) (s19 s20 : Int) (s37 : Bool) (w2 : AB) (w5 : List Int) (w8 : Xe) : Option ((List Int)) :=
  AE (s37) (
   Aa (fit w5.length [w8.to].length 8) (
    some (w5 ++ [w8.to]))) (
   some w5)
def OO (s6 : Int) (s18 : List Xe) (s19 s20 : Int) (w2 : AB) (w5 : List Int) : Option ((List Int)) :=
  AX s18 s20 fun x1 =>
  AX w5 s6 fun x2 =>
  AE (decide (x1.from_ = x2)) (
   AG (Z6 w5 x1.to) fun r3 =>
   AG (LR s6 s18 s19 s20 (!r3) w2 w5 x1) fun o4 =>
   some o4) (
   AG (LR s6 s18 s19 s20 false w2 w5 x1) fun o5 =>
   some o5)
def E8 (s6 : Int) (s18 : List Xe) (s19 : Int) (w2 : AB) (s20 : Int) (w5 : List Int) : Option ((Int × List Int) ⊕ ((List Int))) :=
  AE (decide (s20 < s19)) (
   AG (OO s6 s18 s19 s20 w2 w5) fun o6 =>
   some (.inl ((AA .add .i64 s20 1),o6))) (
   some (.inr w5))
def Qz (s6 : Int) (s18 : List Xe) (s19 : Int) (w2 : AB) (s20 : Int) (w5 : List Int) : Option ((List Int)) := AY (fun s : Int × List Int => E8 s6 s18 s19 w2 s.1 s.2) (s20,w5)
def E7 (w2 : AB) (s6 : Int) (w5 : List Int) : Option ((Int × List Int) ⊕ ((List Int))) :=
  AE (decide (s6 < (w5.length : Int))) (
   AG (Qz s6 w2.trans (w2.trans.length : Int) w2 0 w5) fun o7 =>
   some (.inl ((AA .add .i64 s6 1),o7))) (
   some (.inr w5))
def Qw (w2 : AB) (s6 : Int) (w5 : List Int) : Option ((List Int)) := AY (fun s : Int × List Int => E7 w2 s.1 s.2) (s6,w5)
def Xd (a0 : AB) (a1 : Int) : Option (List Int) :=
  AG (Qw a0 0 [a1]) fun o8 =>
  some o8
def Q3 (a0 : Int) (a1 : AB) : Option (Bool) :=
  AX a1.states a0 fun x1 =>
  AE (!x1.accept) (
   some true) (
   AX a1.states a0 fun x2 =>
   some x2.next)
def F2 (s0 : List Int) (s1 : AB) (s7 s8 : Int) : Option ((Int) ⊕ (Unit ⊕ Int)) :=
  AE (decide (s8 < s7)) (
   AX s0 s8 fun x1 =>
   AG (Q3 x1 s1) fun r2 =>
   AE (r2) (
    some (.inr (.inr s8))) (
    some (.inl (AA .add .i64 s8 1)))) (
   some (.inr (.inl ())))
def Sk (s0 : List Int) (s1 : AB) (s7 s8 : Int) : Option (Unit ⊕ Int) := AY (fun s : Int => F2 s0 s1 s7 s) s8
def Y7 (a0 : List Int) (a1 : AB) : Option (Int) :=
  AG (Sk a0 a1 (a0.length : Int) 0) fun o3 =>
  Cj o3 (fun o4 =>
   some (-1)) (fun o5 =>
   some o5)
def Z7 (a0 : List Int) (a1 : AB) : Option (Bool) :=
  AG (Y7 a0 a1) fun r1 =>
  some (decide (0 ≤ r1))
def Q4 (a0 : Int) (a1 : AB) : Option (Bool) :=
  AX a1.states a0 fun x1 =>
  some x1.accept
def F3 (s0 : List Int) (s1 : AB) (s7 s8 : Int) : Option ((Int) ⊕ (Unit ⊕ Int)) :=
  AE (decide (s8 < s7)) (
   AX s0 s8 fun x1 =>
   AG (Q4 x1 s1) fun r2 =>
   AE (r2) (
    some (.inr (.inr s8))) (
    some (.inl (AA .add .i64 s8 1)))) (
   some (.inr (.inl ())))
def Sn (s0 : List Int) (s1 : AB) (s7 s8 : Int) : Option (Unit ⊕ Int) := AY (fun s : Int => F3 s0 s1 s7 s) s8
def Y8 (a0 : List Int) (a1 : AB) : Option (Int) :=
  AG (Sn a0 a1 (a0.length : Int) 0) fun o3 =>
  Cj o3 (fun o4 =>
   some (-1)) (fun o5 =>
   some o5)
def Z8 (a0 : List Int) (a1 : AB) : Option (Bool) :=
  AG (Y8 a0 a1) fun r1 =>
  some (decide (0 ≤ r1))
def Yf (a0 : AB) (a1 : Int) : Option (Int) :=
  AE (decide (a1 < 0)) (
   some 0) (
   AE (decide ((a0.states.length : Int) ≤ a1)) (
    some 0) (
    AG (Xd a0 a1) fun r1 =>
    AG (Z7 r1 a0) fun r2 =>
    AE (!r2) (
     some 1) (
     AG (Z8 r1 a0) fun r3 =>
     AE (!r3) (
      some 2) (
      some 0))))
def Wj (s5 : Int) (s8 : List X2) (s9 s10 : Int) (s20 : Bool) (w2 : AB) : Option (Int) :=
  AE (s20) (
   some 0) (
   some s5)
def RQ (s5 : Int) (s8 : List X2) (s9 s10 s17 : Int) (s18 : Bool) (w2 : AB) : Option (Int ⊕ Unit) :=
  AE (s18) (
   some (.inr ())) (
   AG (Wj s5 s8 s9 s10 (decide (s17 = 0)) w2) fun o3 =>
   some (.inl o3))
def OU (s5 : Int) (s8 : List X2) (s9 s10 s17 : Int) (w2 : AB) : Option (Int ⊕ Unit) :=
  AG (RQ s5 s8 s9 s10 s17 (decide (s17 = 1)) w2) fun o4 =>
  Cj o4 (fun o5 =>
   some (.inl o5)) (fun o6 =>
   some (.inr ()))
def Lb (s5 : Int) (s8 : List X2) (s9 s10 : Int) (w2 : AB) : Option (Int ⊕ Unit) :=
  AX s8 s10 fun x1 =>
  AG (Yf w2 x1.state) fun r2 =>
  AG (OU s5 s8 s9 s10 r2 w2) fun o7 =>
  Cj o7 (fun o8 =>
   some (.inl o8)) (fun o9 =>
   some (.inr ()))
def EP (s8 : List X2) (s9 : Int) (w2 : AB) (s5 s10 : Int) : Option ((Int × Int) ⊕ (Int ⊕ Unit)) :=
  AE (decide (s10 < s9)) (
   AG (Lb s5 s8 s9 s10 w2) fun o10 =>
   Cj o10 (fun o11 =>
    some (.inl (o11,(AA .add .i64 s10 1)))) (fun o12 =>
    some (.inr (.inr ())))) (
   some (.inr (.inl s5)))
def RR (s8 : List X2) (s9 : Int) (w2 : AB) (s5 s10 : Int) : Option (Int ⊕ Unit) := AY (fun s : Int × Int => EP s8 s9 w2 s.1 s.2) (s5,s10)
def Xh (a0 : AB) (a1 : List X2) : Option (Int) :=
  AG (RR a1 (a1.length : Int) a0 2 0) fun o13 =>
  Cj o13 (fun o14 =>
   some o14) (fun o15 =>
   some 1)
def aD8 (s1 s5 s6 : Int) (s9 : List X4) (s10 s11 : Int) (s19 : Bool) : Option (Int) :=
  AE (s19) (
   Aa (0 ≤ (IntKind.wrap .u64 s6)) (
    some (AA .or .u64 s5 (AA .shl .u64 1 (IntKind.wrap .u64 s6))))) (
   some s5)
def aD7 (s1 s5 : Int) (s9 : List X4) (s10 s11 : Int) : Option (Int) :=
  AX s9 s11 fun x1 =>
  AG (aD8 s1 s5 s11 s9 s10 s11 (decide (x1.event = s1))) fun o2 =>
  some o2
def L1 (s1 : Int) (s9 : List X4) (s10 s5 s11 : Int) : Option ((Int × Int) ⊕ (Int)) :=
  AE (decide (s11 < s10)) (
   AG (aD7 s1 s5 s9 s10 s11) fun o3 =>
   some (.inl (o3,(AA .add .i64 s11 1)))) (
   some (.inr s5))
def ZC (s1 : Int) (s9 : List X4) (s10 s5 s11 : Int) : Option (Int) := AY (fun s : Int × Int => L1 s1 s9 s10 s.1 s.2) (s5,s11)
def Y0 (a0 : AB) (a1 : Int) : Option (Int) :=
  AG (ZC a1 a0.symbols (a0.symbols.length : Int) 0 0) fun o4 =>
  some o4
def Qa : Option (Unit) :=
  some ()
def Zu (a0 : Bool) : Option (X0) :=
  some (X0.mk 3 0 ([] : List UInt8) a0)
def Q5 (a0 a1 : X0) : Option (Bool) :=
  AE (!decide (a0.kind = a1.kind)) (
   some (decide (a0.kind < a1.kind))) (
   AE (decide (a0.kind = 1)) (
    some (decide (a0.int < a1.int))) (
    AE (decide (a0.kind = 2)) (
     some (Op.bytesLess a0.str a1.str)) (
     AE (!a0.bool) (
      some a1.bool) (
      some false))))
def Zv (a0 a1 : X0) (a2 : List X0) : Option (Int) :=
  AG (Q5 a0 a1) fun r1 =>
  AE (r1) (
   some (-1)) (
   AG (Q5 a1 a0) fun r2 =>
   AE (r2) (
    some 1) (
    some 0))
def aD6 (s0 s2 : List X0) (s8 s9 : Int) (s10 s11 : Int) (s31 : Bool) (w4 : X0) : Option ((Int × Int)) :=
  AE (s31) (
   some ((AA .add .i64 s11 1),s10)) (
   some (s9,s11))
def aD5 (s0 s2 : List X0) (s8 s9 s10 : Int) (w4 : X0) : Option ((Int × Int)) :=
  AX s0 (IntKind.wrap .i64 (AA .shr .u64 (IntKind.wrap .u64 (AA .add .i64 s9 s10)) 1)) fun x1 =>
  AG (Zv x1 w4 s2) fun r2 =>
  AG (aD6 s0 s2 s8 s9 s10 (IntKind.wrap .i64 (AA .shr .u64 (IntKind.wrap .u64 (AA .add .i64 s9 s10)) 1)) (decide (r2 < 0)) w4) fun o3 =>
  some (o3.1,o3.2)
def Ly (s0 s2 : List X0) (s8 : Int) (w4 : X0) (s9 s10 : Int) : Option ((Int × Int) ⊕ (Int)) :=
  AE (decide (s9 < s10)) (
   AG (aD5 s0 s2 s8 s9 s10 w4) fun o4 =>
   some (.inl (o4.1,o4.2))) (
   some (.inr s9))
def YX (s0 s2 : List X0) (s8 : Int) (w4 : X0) (s9 s10 : Int) : Option (Int) := AY (fun s : Int × Int => Ly s0 s2 s8 w4 s.1 s.2) (s9,s10)
def Xz (a0 : List X0) (a1 : X0) (a2 : List X0) : Option (Int × Bool) :=
  AG (YX a0 a2 (a0.length : Int) a1 0 (a0.length : Int)) fun o5 =>
  AE (decide (o5 < (a0.length : Int))) (
   AX a0 o5 fun x6 =>
   AG (Zv x6 a1 a2) fun r7 =>
   some (o5,decide (r7 = 0))) (
   some (o5,false))
def Qe (i : Int) (ys : List X0) : Option (List X0) := aNn 40 i ys
def aA4 (s5 : Int) (s6 s20 : Bool) (w3 : X0) : Option ((List X0)) :=
  AE (s20) (
   AG (Qe s5 [w3]) fun r2 =>
   some r2) (
   some ([] : List X0))
def Z2 (a1 : X0) : Option (Bool × List X0) :=
  AG (Xz ([] : List X0) a1 ([] : List X0)) fun r1 =>
  AG (aA4 r1.1 r1.2 (!r1.2) a1) fun o3 =>
  some (!r1.2,o3)
def Qf (i : Int) (xs ys : List X0) : Option (List X0) := aNm 40 i xs ys
def aA1 (s5 : Int) (s6 s20 : Bool) (w3 : X0) (w501 : List X0) : Option ((List X0)) :=
  AE (s20) (
   AG (Qf s5 w501 [w3]) fun r2 =>
   some r2) (
   some w501)
def Yz (a1 : X0) (w1 : List X0) : Option (Bool × List X0) :=
  AG (Xz w1 a1 w1) fun r1 =>
  AG (aA1 r1.1 r1.2 (!r1.2) a1 w1) fun o3 =>
  some (!r1.2,o3)
def Qg (l : List X0) : Option (List X0) := T9 40 l
def Qb (w1 : List X0) : Option (List X0 × List X0) :=
  AG (Qg w1) fun r1 =>
  some (r1,w1)
def QX (s1 : Int) (s12 : Bool) (w2 : AB) : Option ((List X0)) :=
  AE (s12) (
   AG (Zu false) fun r2 =>
   AG (Z2 r2) fun r3 =>
   AG (Zu true) fun r4 =>
   AG (Yz r4 r3.2) fun r5 =>
   some r5.2) (
   some ([] : List X0))
def OL (s1 : Int) (s20 : List X4) (s21 s22 : Int) (s27 : List CX) (s28 s29 : Int) (s42 : Bool) (w9 : CX) (w518 : List X0) : Option ((List X0)) :=
  AE (s42) (
   AG (Yz w9.value w518) fun r9 =>
   some r9.2) (
   some w518)
def QY (s1 : Int) (s20 : List X4) (s21 s22 : Int) (s27 : List CX) (s28 s29 : Int) (w518 : List X0) : Option ((List X0)) :=
  AX s27 s29 fun x8 =>
  AE (decide (x8.kind = 1)) (
   AG (OL s1 s20 s21 s22 s27 s28 s29 (decide (x8.value.kind = s1)) x8 w518) fun o10 =>
   some o10) (
   AG (OL s1 s20 s21 s22 s27 s28 s29 false x8 w518) fun o11 =>
   some o11)
def JC (s1 : Int) (s20 : List X4) (s21 s22 : Int) (s27 : List CX) (s28 s29 : Int) (w518 : List X0) : Option ((Int × List X0) ⊕ ((List X0))) :=
  AE (decide (s29 < s28)) (
   AG (QY s1 s20 s21 s22 s27 s28 s29 w518) fun o12 =>
   some (.inl ((AA .add .i64 s29 1),o12))) (
   some (.inr w518))
def V6 (s1 : Int) (s20 : List X4) (s21 s22 : Int) (s27 : List CX) (s28 s29 : Int) (w518 : List X0) : Option ((List X0)) := AY (fun s : Int × List X0 => JC s1 s20 s21 s22 s27 s28 s.1 s.2) (s29,w518)
def JB (s1 : Int) (s20 : List X4) (s21 s22 : Int) (w518 : List X0) : Option ((Int × List X0) ⊕ ((List X0))) :=
  AE (decide (s22 < s21)) (
   AX s20 s22 fun x7 =>
   AG (V6 s1 s20 s21 s22 x7.args (x7.args.length : Int) 0 w518) fun o13 =>
   some (.inl ((AA .add .i64 s22 1),o13))) (
   some (.inr w518))
def V3 (s1 : Int) (s20 : List X4) (s21 s22 : Int) (w518 : List X0) : Option ((List X0)) := AY (fun s : Int × List X0 => JB s1 s20 s21 s.1 s.2) (s22,w518)
def Xa (a0 : AB) (a1 : Int) : Option (List X0) :=
  AG (Qa) fun r1 =>
  AG (QX a1 (decide (a1 = 3)) a0) fun o6 =>
  AG (V3 a1 a0.symbols (a0.symbols.length : Int) 0 o6) fun o14 =>
  AG (Qb o14) fun r15 =>
  some r15.1
def MA (s0 : List X0) (s7 : Int) (w3 : X0) (s8 : Int) : Option ((Int) ⊕ (Unit ⊕ Int)) :=
  AE (decide (s8 < s7)) (
   AX s0 s8 fun x1 =>
   AE ((X0.eqb w3 x1)) (
    some (.inr (.inr s8))) (
    some (.inl (AA .add .i64 s8 1)))) (
   some (.inr (.inl ())))
def ZY (s0 : List X0) (s7 : Int) (w3 : X0) (s8 : Int) : Option (Unit ⊕ Int) := AY (fun s : Int => MA s0 s7 w3 s) s8
def Yd (a0 : List X0) (a1 : X0) : Option (Int) :=
  AG (ZY a0 (a0.length : Int) a1 0) fun o2 =>
  Cj o2 (fun o3 =>
   some (-1)) (fun o4 =>
   some o4)
def Z5 (a0 : List X0) (a1 : X0) : Option (Bool) :=
  AG (Yd a0 a1) fun r1 =>
  some (decide (0 ≤ r1))
def Qd (n : Int) : Option (List X0) := aFi 40 n
def aDy (s0 : List (List X0)) (s3 : Int) (s9 : List (List X0)) (s10 s11 : Int) (s20 : Bool) : Option (Unit) :=
  AE (s20) (
   none) (
   some ())
def aDx (s0 : List (List X0)) (s3 : Int) (s9 : List (List X0)) (s10 s11 : Int) : Option (Int) :=
  AX s9 s11 fun x1 =>
  AG (aDy s0 (AA .add .i64 s3 (x1.length : Int)) s9 s10 s11 (decide ((AA .add .i64 s3 (x1.length : Int)) < 0))) fun o2 =>
  some (AA .add .i64 s3 (x1.length : Int))
def Ll (s0 s9 : List (List X0)) (s10 s3 s11 : Int) : Option ((Int × Int) ⊕ (Int)) :=
  AE (decide (s11 < s10)) (
   AG (aDx s0 s3 s9 s10 s11) fun o3 =>
   some (.inl (o3,(AA .add .i64 s11 1)))) (
   some (.inr s3))
def XI (s0 s9 : List (List X0)) (s10 s3 s11 : Int) : Option (Int) := AY (fun s : Int × Int => Ll s0 s9 s10 s.1 s.2) (s3,s11)
def Ln (s25 : List (List X0)) (s26 s27 : Int) (w6 : List X0) : Option ((Int × List X0) ⊕ ((List X0))) :=
  AE (decide (s27 < s26)) (
   AX s25 s27 fun x6 =>
   Aa (fit w6.length x6.length 40) (
    some (.inl ((AA .add .i64 s27 1),w6 ++ x6)))) (
   some (.inr w6))
def XL (s25 : List (List X0)) (s26 s27 : Int) (w6 : List X0) : Option ((List X0)) := AY (fun s : Int × List X0 => Ln s25 s26 s.1 s.2) (s27,w6)
def Xo (a0 : List (List X0)) : Option (List X0) :=
  AG (XI a0 a0 (a0.length : Int) 0 0) fun o4 =>
  AG (Qd o4) fun r5 =>
  AG (XL a0 (a0.length : Int) 0 r5) fun o7 =>
  some o7
def aD0 (s0 : Int) (s1 : List X0) (s20 : Bool) (w4 w6 : X0) : Option (X0) :=
  AE (s20) (
   some (X0.mk w6.kind (AA .add .i64 w6.int 1) w6.str w6.bool)) (
   Aa (w6.str.length + ([97] : List UInt8).length ≤ 9223372036854775807) (
    some (X0.mk w6.kind w6.int (w6.str ++ ([97] : List UInt8)) w6.bool)))
def YG (s0 : Int) (s1 : List X0) (w4 w6 : X0) : Option (X0) :=
  AG (aD0 s0 s1 (decide (s0 = 1)) w4 w6) fun o2 =>
  some o2
def JN (s0 : Int) (s1 : List X0) (w4 w6 : X0) : Option ((X0) ⊕ (X0)) :=
  AG (Z5 s1 w6) fun r1 =>
  AE (r1) (
   AG (YG s0 s1 w4 w6) fun o3 =>
   some (.inl o3)) (
   some (.inr w6))
def SF (s0 : Int) (s1 : List X0) (w4 w6 : X0) : Option (X0) := AY (fun s : X0 => JN s0 s1 w4 s) w6
def Xv (a0 : Int) (a1 : List X0) : Option (X0 × Bool) :=
  AE (!decide (a0 = 1)) (
   AE (!decide (a0 = 2)) (
    some (X0.mk 0 0 ([] : List UInt8) false,false)) (
    AG (SF a0 a1 (X0.mk 0 0 ([] : List UInt8) false) (X0.mk a0 0 ([] : List UInt8) false)) fun o4 =>
    some (o4,true))) (
   AG (SF a0 a1 (X0.mk 0 0 ([] : List UInt8) false) (X0.mk a0 0 ([] : List UInt8) false)) fun o5 =>
   some (o5,true))
def Oc (s1 : List X0) (s5 : Int) (s28 : List Xb) (s29 s30 : Int) (s45 : Bool) (w6 : List X0) (w8 : Xb) : Option ((List X0)) :=
  AE (s45) (
   Aa (fit w6.length [w8.value].length 40) (
    some (w6 ++ [w8.value]))) (
   some w6)
def Rp (s1 : List X0) (s5 : Int) (s28 : List Xb) (s29 s30 : Int) (w6 : List X0) : Option ((List X0)) :=
  AX s28 s30 fun x4 =>
  AE (decide (x4.value.kind = s5)) (
   AG (Z5 w6 x4.value) fun r5 =>
   AG (Oc s1 s5 s28 s29 s30 (!r5) w6 x4) fun o6 =>
   some o6) (
   AG (Oc s1 s5 s28 s29 s30 false w6 x4) fun o7 =>
   some o7)
def JI (s1 : List X0) (s5 : Int) (s28 : List Xb) (s29 s30 : Int) (w6 : List X0) : Option ((Int × List X0) ⊕ ((List X0))) :=
  AE (decide (s30 < s29)) (
   AG (Rp s1 s5 s28 s29 s30 w6) fun o8 =>
   some (.inl ((AA .add .i64 s30 1),o8))) (
   some (.inr w6))
def XC (s1 : List X0) (s5 : Int) (s28 : List Xb) (s29 s30 : Int) (w6 : List X0) : Option ((List X0)) := AY (fun s : Int × List X0 => JI s1 s5 s28 s29 s.1 s.2) (s30,w6)
def XA (s61 : Bool) (w6 : List X0) (w9 : X0) : Option ((List X0)) :=
  AE (s61) (
   Aa (fit w6.length [w9].length 40) (
    some (w6 ++ [w9]))) (
   some w6)
def Xm (a0 : Xl) (a1 : List X0) : Option (List X0) :=
  AX a0.q.decls a0.d_ fun x1 =>
  AX x1.types a0.at_ fun x2 =>
  AG (Xa a0.q x2) fun r3 =>
  AG (XC a1 x2 a0.b (a0.b.length : Int) 0 r3) fun o9 =>
  AG (Xo [o9,a1]) fun r10 =>
  AG (Xv x2 r10) fun r11 =>
  AG (XA r11.2 o9 r11.1) fun o12 =>
  some o12
def MC (s1 : Int) (s8 : List Xb) (s9 : Int) (w4 : X0) (s10 : Int) : Option ((Int) ⊕ (Unit ⊕ X0)) :=
  AE (decide (s10 < s9)) (
   AX s8 s10 fun x1 =>
   AE (decide (x1.var = s1)) (
    some (.inr (.inr x1.value))) (
    some (.inl (AA .add .i64 s10 1)))) (
   some (.inr (.inl ())))
def aAb (s1 : Int) (s8 : List Xb) (s9 : Int) (w4 : X0) (s10 : Int) : Option (Unit ⊕ X0) := AY (fun s : Int => MC s1 s8 s9 w4 s) s10
def Ye (a0 : List Xb) (a1 : Int) : Option (X0 × Bool) :=
  AG (aAb a1 a0 (a0.length : Int) (X0.mk 0 0 ([] : List UInt8) false) 0) fun o2 =>
  Cj o2 (fun o3 =>
   some (X0.mk 0 0 ([] : List UInt8) false,false)) (fun o4 =>
   some (o4,true))
def Zb (a0 : Xl) (a1 : CX) (a2 : X0) : Option (Bool) :=
  AE (decide (a1.kind = 1)) (
   some (X0.eqb a1.value a2)) (
   AE (decide (a1.kind = 2)) (
    AG (Ye a0.b a1.n) fun r1 =>
    AE (r1.2) (
     some (X0.eqb r1.1 a2)) (
     some false)) (
    some true))
def Of (s6 s7 : Int) (s11 : List X4) (s12 s13 : Int) (s34 : Bool) (w2 : Xl) (w3 : X0) : Option (Int) :=
  AE (s34) (
   Aa (0 ≤ (IntKind.wrap .u64 s7)) (
    some (AA .or .u64 s6 (AA .shl .u64 1 (IntKind.wrap .u64 s7))))) (
   some s6)
def R1 (s6 : Int) (s11 : List X4) (s12 s13 : Int) (w2 : Xl) (w3 : X0) : Option (Int) :=
  AX s11 s13 fun x1 =>
  AE (decide (x1.event = w2.d_)) (
   AX x1.args w2.at_ fun x2 =>
   AG (Zb w2 x2 w3) fun r3 =>
   AG (Of s6 s13 s11 s12 s13 r3 w2 w3) fun o4 =>
   some o4) (
   AG (Of s6 s13 s11 s12 s13 false w2 w3) fun o5 =>
   some o5)
def JJ (s11 : List X4) (s12 : Int) (w2 : Xl) (w3 : X0) (s6 s13 : Int) : Option ((Int × Int) ⊕ (Int)) :=
  AE (decide (s13 < s12)) (
   AG (R1 s6 s11 s12 s13 w2 w3) fun o6 =>
   some (.inl (o6,(AA .add .i64 s13 1)))) (
   some (.inr s6))
def XS (s11 : List X4) (s12 : Int) (w2 : Xl) (w3 : X0) (s6 s13 : Int) : Option (Int) := AY (fun s : Int × Int => JJ s11 s12 w2 w3 s.1 s.2) (s6,s13)
def Xq (a0 : Xl) (a1 : X0) : Option (Int) :=
  AG (XS a0.q.symbols (a0.q.symbols.length : Int) a0 a1 0 0) fun o7 =>
  some o7
def G6 (s8 : Int) (s12 : List X0) (s13 s14 : Int) (w0 : List (Int × Bool)) (w3 : Xl) (k : Int) (v : Bool) (w5 : List (Int × Bool)) : Option ((List (Int × Bool))) :=
  some (Pc (AA .and .u64 k s8) true w5)
def JF (s8 : Int) (s12 : List X0) (s13 s14 : Int) (w0 : List (Int × Bool)) (w3 : Xl) (s : (List (Int × Bool))) : (List (Int × Bool)) := (fun s : (List (Int × Bool)) => (aIu s : (List (Int × Bool)))) s
def Wb (s8 : Int) (s12 : List X0) (s13 s14 : Int) (w0 : List (Int × Bool)) (w3 : Xl) (w5 : List (Int × Bool)) : Option ((List (Int × Bool))) := FL (JF s8 s12 s13 s14 w0 w3) w0 (fun (x : Int × Bool) (s : (List (Int × Bool))) => G6 s8 s12 s13 s14 w0 w3 x.1 x.2 s) w5
def RK (s8 : Int) (s12 : List X0) (s13 s14 : Int) (w0 : List (Int × Bool)) (w3 : Xl) (w5 : List (Int × Bool)) : Option ((List (Int × Bool))) :=
  AG (Wb s8 s12 s13 s14 w0 w3 w5) fun o4 =>
  some o4
def JE (s12 : List X0) (s13 : Int) (w0 : List (Int × Bool)) (w3 : Xl) (s14 : Int) (w5 : List (Int × Bool)) : Option ((Int × (List (Int × Bool))) ⊕ ((List (Int × Bool)))) :=
  AE (decide (s14 < s13)) (
   AX s12 s14 fun x2 =>
   AG (Xq w3 x2) fun r3 =>
   AG (RK r3 s12 s13 s14 w0 w3 w5) fun o5 =>
   some (.inl ((AA .add .i64 s14 1),o5))) (
   some (.inr w5))
def WY (s12 : List X0) (s13 : Int) (w0 : List (Int × Bool)) (w3 : Xl) (s14 : Int) (w5 : List (Int × Bool)) : Option ((List (Int × Bool))) := AY (fun s : Int × (List (Int × Bool)) => JE s12 s13 w0 w3 s.1 s.2) (s14,w5)
def Xg (a1 : Xl) (w0 : List (Int × Bool)) : Option ((List (Int × Bool))) :=
  AG (Xm a1 ([] : List X0)) fun r1 =>
  AG (WY r1 (r1.length : Int) w0 a1 0 ([] : List (Int × Bool))) fun o6 =>
  some o6
def S9 (s0 s2 : Int) (s4 : Bool) : Option ((Int × Int)) :=
  AE (s4) (
   some ((AA .shr .u64 s0 32),32)) (
   some (s0,s2))
def TA (s0 s2 : Int) (s8 : Bool) : Option ((Int × Int)) :=
  AE (s8) (
   some ((AA .shr .u64 s0 16),(AA .add .i64 s2 16))) (
   some (s0,s2))
def TB (s0 s2 : Int) (s14 : Bool) : Option ((Int × Int)) :=
  AE (s14) (
   some ((AA .shr .u64 s0 8),(AA .add .i64 s2 8))) (
   some (s0,s2))
def Yk (a0 : Int) : Option (Int) :=
  AG (S9 a0 0 (decide (4294967296 ≤ a0))) fun o1 =>
  AG (TA o1.1 o1.2 (decide (65536 ≤ o1.1))) fun o2 =>
  AG (TB o2.1 o2.2 (decide (256 ≤ o2.1))) fun o3 =>
  AX ([0,1,2,2,3,3,3,3,4,4,4,4,4,4,4,4,5,5,5,5,5,5,5,5,5,5,5,5,5,5,5,5,6,6,6,6,6,6,6,6,6,6,6,6,6,6,6,6,6,6,6,6,6,6,6,6,6,6,6,6,6,6,6,6,7,7,7,7,7,7,7,7,7,7,7,7,7,7,7,7,7,7,7,7,7,7,7,7,7,7,7,7,7,7,7,7,7,7,7,7,7,7,7,7,7,7,7,7,7,7,7,7,7,7,7,7,7,7,7,7,7,7,7,7,7,7,7,7,8,8,8,8,8,8,8,8,8,8,8,8,8,8,8,8,8,8,8,8,8,8,8,8,8,8,8,8,8,8,8,8,8,8,8,8,8,8,8,8,8,8,8,8,8,8,8,8,8,8,8,8,8,8,8,8,8,8,8,8,8,8,8,8,8,8,8,8,8,8,8,8,8,8,8,8,8,8,8,8,8,8,8,8,8,8,8,8,8,8,8,8,8,8,8,8,8,8,8,8,8,8,8,8,8,8,8,8,8,8,8,8,8,8,8,8,8,8,8,8,8,8,8,8,8,8,8,8] : List UInt8) ((u8w o3.1).toNat : Int) fun x4 =>
  some (AA .add .i64 o3.2 (x4.toNat : Int))
def Zq (a0 : Int) : Option (Int) :=
  AG (Yk a0) fun r1 =>
  some r1
def Zr (a0 : Int) : Option (Bool) :=
  some (!decide (a0 = a0))
def Y6 (a0 a1 : Int) : Option (Bool) :=
  AG (Zr a0) fun r1 =>
  AE (r1) (
   AG (Zr a1) fun r2 =>
   AE (!r2) (
    some true) (
    some (decide (a0 < a1)))) (
   some (decide (a0 < a1)))
def EQ (s1 s2 : Int) (s6 s7 : Int) (w0 : List Int) : Option ((Int × List Int) ⊕ ((List Int))) :=
  AE (decide (s1 < s7)) (
   Aa (0 ≤ s7 ∧ s7 + 1 ≤ (w0.length : Int)) (
    AX w0 s7 fun x1 =>
    Aa (0 ≤ (AA .sub .i64 s7 1) ∧ (AA .sub .i64 s7 1) + 1 ≤ (w0.length : Int)) (
     AX w0 (AA .sub .i64 s7 1) fun x2 =>
     AG (Y6 x1 x2) fun r3 =>
     AE (r3) (
      Aa (0 ≤ (AA .sub .i64 s7 1) ∧ (AA .sub .i64 s7 1) + 1 ≤ (w0.length : Int)) (
       AX w0 (AA .sub .i64 s7 1) fun x4 =>
       Aa (0 ≤ s7 ∧ s7 + 1 ≤ (w0.length : Int)) (
        AX w0 s7 fun x5 =>
        Aa (0 ≤ s7 ∧ s7 + 1 ≤ (w0.length : Int)) (
         Aa (0 ≤ s7 ∧ s7 + 1 ≤ (w0.length : Int)) (
          Aa (0 ≤ (AA .sub .i64 s7 1) ∧ (AA .sub .i64 s7 1) + 1 ≤ ((w0.set s7.toNat x4).length : Int)) (
           Aa (0 ≤ (AA .sub .i64 s7 1) ∧ (AA .sub .i64 s7 1) + 1 ≤ ((w0.set s7.toNat x4).length : Int)) (
            some (.inl ((AA .sub .i64 s7 1),(w0.set s7.toNat x4).set (AA .sub .i64 s7 1).toNat x5))))))))) (
      some (.inr w0))))) (
   some (.inr w0))
def Om (s1 s2 : Int) (s6 s7 : Int) (w0 : List Int) : Option ((List Int)) := AY (fun s : Int × List Int => EQ s1 s2 s6 s.1 s.2) (s7,w0)
theorem NM (s1 s2 : Int) (s6 s7 : Int) (w0 : List Int) : Om s1 s2 s6 s7 w0 = Df (EQ s1 s2 s6 s7 w0) (fun s : Int × List Int => Om s1 s2 s6 s.1 s.2) := A5 _ _
def Fx (s1 s2 s6 : Int) (w0 : List Int) : Option ((Int × List Int) ⊕ ((List Int))) :=
  AE (decide (s6 < s2)) (
   AG (Om s1 s2 s6 s6 w0) fun o6 =>
   some (.inl ((AA .add .i64 s6 1),o6))) (
   some (.inr w0))
def Ol (s1 s2 s6 : Int) (w0 : List Int) : Option ((List Int)) := AY (fun s : Int × List Int => Fx s1 s2 s.1 s.2) (s6,w0)
theorem NL (s1 s2 s6 : Int) (w0 : List Int) : Ol s1 s2 s6 w0 = Df (Fx s1 s2 s6 w0) (fun s : Int × List Int => Ol s1 s2 s.1 s.2) := A5 _ _
def Xu (a1 a2 : Int) (w0 : List Int) : Option (List Int) :=
  AG (Ol a1 a2 (AA .add .i64 a1 1) w0) fun o7 =>
  some o7
def JK (s2 s3 : Int) (s8 s9 : Int) (s36 : Bool) (w0 : List Int) : Option (Int) :=
  AE (s36) (
   some (AA .add .i64 s9 1)) (
   some s9)
def IO (s2 s3 s8 : Int) (w0 : List Int) : Option ((Int × List Int) ⊕ (Unit ⊕ Unit)) :=
  AE (decide (s2 ≤ (AA .add .i64 (AA .mul .i64 2 s8) 1))) (
   some (.inr (.inl ()))) (
   AE (decide ((AA .add .i64 (AA .add .i64 (AA .mul .i64 2 s8) 1) 1) < s2)) (
    Aa (0 ≤ (AA .add .i64 s3 (AA .add .i64 (AA .mul .i64 2 s8) 1)) ∧ (AA .add .i64 s3 (AA .add .i64 (AA .mul .i64 2 s8) 1)) + 1 ≤ (w0.length : Int)) (
     AX w0 (AA .add .i64 s3 (AA .add .i64 (AA .mul .i64 2 s8) 1)) fun x1 =>
     Aa (0 ≤ (AA .add .i64 (AA .add .i64 s3 (AA .add .i64 (AA .mul .i64 2 s8) 1)) 1) ∧ (AA .add .i64 (AA .add .i64 s3 (AA .add .i64 (AA .mul .i64 2 s8) 1)) 1) + 1 ≤ (w0.length : Int)) (
      AX w0 (AA .add .i64 (AA .add .i64 s3 (AA .add .i64 (AA .mul .i64 2 s8) 1)) 1) fun x2 =>
      AG (Y6 x1 x2) fun r3 =>
      AG (JK s2 s3 s8 (AA .add .i64 (AA .mul .i64 2 s8) 1) r3 w0) fun o4 =>
      Aa (0 ≤ (AA .add .i64 s3 s8) ∧ (AA .add .i64 s3 s8) + 1 ≤ (w0.length : Int)) (
       AX w0 (AA .add .i64 s3 s8) fun x5 =>
       Aa (0 ≤ (AA .add .i64 s3 o4) ∧ (AA .add .i64 s3 o4) + 1 ≤ (w0.length : Int)) (
        AX w0 (AA .add .i64 s3 o4) fun x6 =>
        AG (Y6 x5 x6) fun r7 =>
        AE (!r7) (
         some (.inr (.inr ()))) (
         Aa (0 ≤ (AA .add .i64 s3 o4) ∧ (AA .add .i64 s3 o4) + 1 ≤ (w0.length : Int)) (
          AX w0 (AA .add .i64 s3 o4) fun x8 =>
          Aa (0 ≤ (AA .add .i64 s3 s8) ∧ (AA .add .i64 s3 s8) + 1 ≤ (w0.length : Int)) (
           AX w0 (AA .add .i64 s3 s8) fun x9 =>
           Aa (0 ≤ (AA .add .i64 s3 s8) ∧ (AA .add .i64 s3 s8) + 1 ≤ (w0.length : Int)) (
            Aa (0 ≤ (AA .add .i64 s3 s8) ∧ (AA .add .i64 s3 s8) + 1 ≤ (w0.length : Int)) (
             Aa (0 ≤ (AA .add .i64 s3 o4) ∧ (AA .add .i64 s3 o4) + 1 ≤ ((w0.set (AA .add .i64 s3 s8).toNat x8).length : Int)) (
              Aa (0 ≤ (AA .add .i64 s3 o4) ∧ (AA .add .i64 s3 o4) + 1 ≤ ((w0.set (AA .add .i64 s3 s8).toNat x8).length : Int)) (
               some (.inl (o4,(w0.set (AA .add .i64 s3 s8).toNat x8).set (AA .add .i64 s3 o4).toNat x9)))))))))))))) (
    AG (JK s2 s3 s8 (AA .add .i64 (AA .mul .i64 2 s8) 1) false w0) fun o10 =>
    Aa (0 ≤ (AA .add .i64 s3 s8) ∧ (AA .add .i64 s3 s8) + 1 ≤ (w0.length : Int)) (
     AX w0 (AA .add .i64 s3 s8) fun x11 =>
     Aa (0 ≤ (AA .add .i64 s3 o10) ∧ (AA .add .i64 s3 o10) + 1 ≤ (w0.length : Int)) (
      AX w0 (AA .add .i64 s3 o10) fun x12 =>
      AG (Y6 x11 x12) fun r13 =>
      AE (!r13) (
       some (.inr (.inr ()))) (
       Aa (0 ≤ (AA .add .i64 s3 o10) ∧ (AA .add .i64 s3 o10) + 1 ≤ (w0.length : Int)) (
        AX w0 (AA .add .i64 s3 o10) fun x14 =>
        Aa (0 ≤ (AA .add .i64 s3 s8) ∧ (AA .add .i64 s3 s8) + 1 ≤ (w0.length : Int)) (
         AX w0 (AA .add .i64 s3 s8) fun x15 =>
         Aa (0 ≤ (AA .add .i64 s3 s8) ∧ (AA .add .i64 s3 s8) + 1 ≤ (w0.length : Int)) (
          Aa (0 ≤ (AA .add .i64 s3 s8) ∧ (AA .add .i64 s3 s8) + 1 ≤ (w0.length : Int)) (
           Aa (0 ≤ (AA .add .i64 s3 o10) ∧ (AA .add .i64 s3 o10) + 1 ≤ ((w0.set (AA .add .i64 s3 s8).toNat x14).length : Int)) (
            Aa (0 ≤ (AA .add .i64 s3 o10) ∧ (AA .add .i64 s3 o10) + 1 ≤ ((w0.set (AA .add .i64 s3 s8).toNat x14).length : Int)) (
             some (.inl (o10,(w0.set (AA .add .i64 s3 s8).toNat x14).set (AA .add .i64 s3 o10).toNat x15)))))))))))))
def D8 (s2 s3 s8 : Int) (w0 : List Int) : Option ((Int × List Int) ⊕ ((List Int) ⊕ (List Int))) :=
  AG (IO s2 s3 s8 w0) fun o16 =>
  Cj o16 (fun o17 =>
   some (.inl (o17.1,o17.2))) (fun o18 =>
   Cj o18 (fun o19 =>
    some (.inr (.inl w0))) (fun o20 =>
    some (.inr (.inr w0))))
def Oh (s2 s3 s8 : Int) (w0 : List Int) : Option ((List Int) ⊕ (List Int)) := AY (fun s : Int × List Int => D8 s2 s3 s.1 s.2) (s8,w0)
theorem NI (s2 s3 s8 : Int) (w0 : List Int) : Oh s2 s3 s8 w0 = Df (D8 s2 s3 s8 w0) (fun s : Int × List Int => Oh s2 s3 s.1 s.2) := A5 _ _
def Xr (a1 a2 a3 : Int) (w0 : List Int) : Option (List Int) :=
  AG (Oh a2 a3 a1 w0) fun o21 =>
  Cj o21 (fun o22 =>
   some o22) (fun o23 =>
   some o23)
def Fy (s6 s7 : Int) (s8 s9 : Int) (w0 : List Int) : Option ((Int × List Int) ⊕ ((List Int))) :=
  AE (decide (0 ≤ s9)) (
   AG (Xr s9 s8 s6 w0) fun r1 =>
   some (.inl ((AA .sub .i64 s9 1),r1))) (
   some (.inr w0))
def Oo (s6 s7 : Int) (s8 s9 : Int) (w0 : List Int) : Option ((List Int)) := AY (fun s : Int × List Int => Fy s6 s7 s8 s.1 s.2) (s9,w0)
theorem NO (s6 s7 : Int) (s8 s9 : Int) (w0 : List Int) : Oo s6 s7 s8 s9 w0 = Df (Fy s6 s7 s8 s9 w0) (fun s : Int × List Int => Oo s6 s7 s8 s.1 s.2) := A5 _ _
def Fz (s6 s7 s10 : Int) (w0 : List Int) : Option ((Int × List Int) ⊕ ((List Int))) :=
  AE (decide (0 ≤ s10)) (
   Aa (0 ≤ (AA .add .i64 s6 s10) ∧ (AA .add .i64 s6 s10) + 1 ≤ (w0.length : Int)) (
    AX w0 (AA .add .i64 s6 s10) fun x3 =>
    Aa (0 ≤ s6 ∧ s6 + 1 ≤ (w0.length : Int)) (
     AX w0 s6 fun x4 =>
     Aa (0 ≤ s6 ∧ s6 + 1 ≤ (w0.length : Int)) (
      Aa (0 ≤ s6 ∧ s6 + 1 ≤ (w0.length : Int)) (
       Aa (0 ≤ (AA .add .i64 s6 s10) ∧ (AA .add .i64 s6 s10) + 1 ≤ ((w0.set s6.toNat x3).length : Int)) (
        Aa (0 ≤ (AA .add .i64 s6 s10) ∧ (AA .add .i64 s6 s10) + 1 ≤ ((w0.set s6.toNat x3).length : Int)) (
         AG (Xr s7 s10 s6 ((w0.set s6.toNat x3).set (AA .add .i64 s6 s10).toNat x4)) fun r5 =>
         some (.inl ((AA .sub .i64 s10 1),r5))))))))) (
   some (.inr w0))
def Oq (s6 s7 s10 : Int) (w0 : List Int) : Option ((List Int)) := AY (fun s : Int × List Int => Fz s6 s7 s.1 s.2) (s10,w0)
theorem NP (s6 s7 s10 : Int) (w0 : List Int) : Oq s6 s7 s10 w0 = Df (Fz s6 s7 s10 w0) (fun s : Int × List Int => Oq s6 s7 s.1 s.2) := A5 _ _
def Xw (a1 a2 : Int) (w0 : List Int) : Option (List Int) :=
  AG (Oo a1 0 (AA .sub .i64 a2 a1) (AA .quo .i64 (AA .sub .i64 (AA .sub .i64 a2 a1) 1) 2) w0) fun o2 =>
  AG (Oq a1 0 (AA .sub .i64 (AA .sub .i64 a2 a1) 1) o2) fun o6 =>
  some o6
def Zw (a0 : Int) : Option (Int) :=
  AG (Zq (IntKind.wrap .u64 a0)) fun r1 =>
  Aa (0 ≤ r1) (
   some (AA .shl .u64 1 r1))
def Zx (w0 : Int) : Option (Int × Int) :=
  some ((AA .xor .u64 (AA .xor .u64 (AA .xor .u64 w0 (AA .shl .u64 w0 13)) (AA .shr .u64 (AA .xor .u64 w0 (AA .shl .u64 w0 13)) 7)) (AA .shl .u64 (AA .xor .u64 (AA .xor .u64 w0 (AA .shl .u64 w0 13)) (AA .shr .u64 (AA .xor .u64 w0 (AA .shl .u64 w0 13)) 7)) 17)),(AA .xor .u64 (AA .xor .u64 (AA .xor .u64 w0 (AA .shl .u64 w0 13)) (AA .shr .u64 (AA .xor .u64 w0 (AA .shl .u64 w0 13)) 7)) (AA .shl .u64 (AA .xor .u64 (AA .xor .u64 w0 (AA .shl .u64 w0 13)) (AA .shr .u64 (AA .xor .u64 w0 (AA .shl .u64 w0 13)) 7)) 17)))
def Lv (s1 s6 : Int) (s8 s9 s10 : Int) (s43 : Bool) (w0 : List Int) (w7 : Int) : Option (Int) :=
  AE (s43) (
   some (AA .sub .i64 s10 s6)) (
   some s10)
def Oj (s1 s6 : Int) (s8 s9 : Int) (w0 : List Int) (w7 : Int) : Option ((List Int × Int)) :=
  AG (Zx w7) fun r2 =>
  AG (Lv s1 s6 s8 s9 (IntKind.wrap .i64 (AA .and .u64 r2.1 (AA .sub .u64 s8 1))) (decide (s6 ≤ (IntKind.wrap .i64 (AA .and .u64 r2.1 (AA .sub .u64 s8 1))))) w0 r2.2) fun o3 =>
  Aa (0 ≤ (AA .add .i64 s1 o3) ∧ (AA .add .i64 s1 o3) + 1 ≤ (w0.length : Int)) (
   AX w0 (AA .add .i64 s1 o3) fun x4 =>
   Aa (0 ≤ s9 ∧ s9 + 1 ≤ (w0.length : Int)) (
    AX w0 s9 fun x5 =>
    Aa (0 ≤ s9 ∧ s9 + 1 ≤ (w0.length : Int)) (
     Aa (0 ≤ s9 ∧ s9 + 1 ≤ (w0.length : Int)) (
      Aa (0 ≤ (AA .add .i64 s1 o3) ∧ (AA .add .i64 s1 o3) + 1 ≤ ((w0.set s9.toNat x4).length : Int)) (
       Aa (0 ≤ (AA .add .i64 s1 o3) ∧ (AA .add .i64 s1 o3) + 1 ≤ ((w0.set s9.toNat x4).length : Int)) (
        some ((w0.set s9.toNat x4).set (AA .add .i64 s1 o3).toNat x5,r2.2)))))))
def Fw (s1 s6 : Int) (s8 s9 : Int) (w0 : List Int) (w7 : Int) : Option ((Int × List Int × Int) ⊕ ((List Int))) :=
  AE (decide (s9 ≤ (AA .add .i64 (AA .add .i64 s1 (AA .mul .i64 (AA .quo .i64 s6 4) 2)) 1))) (
   AG (Oj s1 s6 s8 s9 w0 w7) fun o6 =>
   some (.inl ((AA .add .i64 s9 1),o6.1,o6.2))) (
   some (.inr w0))
def Ok (s1 s6 : Int) (s8 s9 : Int) (w0 : List Int) (w7 : Int) : Option ((List Int)) := AY (fun s : Int × List Int × Int => Fw s1 s6 s8 s.1 s.2.1 s.2.2) (s9,w0,w7)
theorem NK (s1 s6 : Int) (s8 s9 : Int) (w0 : List Int) (w7 : Int) : Ok s1 s6 s8 s9 w0 w7 = Df (Fw s1 s6 s8 s9 w0 w7) (fun s : Int × List Int × Int => Ok s1 s6 s8 s.1 s.2.1 s.2.2) := A5 _ _
def Oi (s1 s6 : Int) (s15 : Bool) (w0 : List Int) : Option ((List Int)) :=
  AE (s15) (
   AG (Zw s6) fun r1 =>
   AG (Ok s1 s6 r1 (AA .sub .i64 (AA .add .i64 s1 (AA .mul .i64 (AA .quo .i64 s6 4) 2)) 1) w0 (IntKind.wrap .u64 s6)) fun o7 =>
   some o7) (
   some w0)
def Xt (a1 a2 : Int) (w0 : List Int) : Option (List Int) :=
  AG (Oi a1 (AA .sub .i64 a2 a1) (decide (8 ≤ (AA .sub .i64 a2 a1))) w0) fun o8 =>
  some o8
def Zc (a0 : List Int) (a1 a2 w0 : Int) : Option (Int × Int × Int) :=
  AX a0 a2 fun x1 =>
  AX a0 a1 fun x2 =>
  AG (Y6 x1 x2) fun r3 =>
  AE (r3) (
   some (a2,a1,(AA .add .i64 w0 1))) (
   some (a1,a2,w0))
def Zo (a0 : List Int) (a1 a2 : Int) (a3 w0 : Int) : Option (Int × Int) :=
  AG (Zc a0 a1 a2 w0) fun r1 =>
  AG (Zc a0 r1.2.1 a3 r1.2.2) fun r2 =>
  AG (Zc a0 r1.1 r2.1 r2.2.2) fun r3 =>
  some (r3.2.1,r3.2.2)
def Zd (a0 : List Int) (a1 w0 : Int) : Option (Int × Int) :=
  AG (Zo a0 (AA .sub .i64 a1 1) a1 (AA .add .i64 a1 1) w0) fun r1 =>
  some (r1.1,r1.2)
def MD (s0 : List Int) (s10 s11 s12 : Int) (s34 : Bool) (w9 : Int) : Option ((Int × Int × Int × Int)) :=
  AE (s34) (
   AG (Zd s0 s10 w9) fun r1 =>
   AG (Zd s0 s11 r1.2) fun r2 =>
   AG (Zd s0 s12 r2.2) fun r3 =>
   some (r1.1,r2.1,r3.1,r3.2)) (
   some (s10,s11,s12,w9))
def Ox (s0 : List Int) (s8 s10 : Int) (s11 s12 : Int) (s32 : Bool) (w9 : Int) : Option ((Int × Int)) :=
  AE (s32) (
   AG (MD s0 s10 s11 s12 (decide (50 ≤ s8)) w9) fun o4 =>
   AG (Zo s0 o4.1 o4.2.1 o4.2.2.1 o4.2.2.2) fun r5 =>
   some (r5.1,r5.2)) (
   some (s11,w9))
def Yn (a0 : List Int) (a1 a2 : Int) : Option (Int × Int) :=
  AG (Ox a0 (AA .sub .i64 a2 a1) (AA .add .i64 a1 (AA .mul .i64 (AA .quo .i64 (AA .sub .i64 a2 a1) 4) 1)) (AA .add .i64 a1 (AA .mul .i64 (AA .quo .i64 (AA .sub .i64 a2 a1) 4) 2)) (AA .add .i64 a1 (AA .mul .i64 (AA .quo .i64 (AA .sub .i64 a2 a1) 4) 3)) (decide (8 ≤ (AA .sub .i64 a2 a1))) 0) fun o6 =>
  AE (decide (o6.2 = 0)) (
   some (o6.1,1)) (
   AE (decide (o6.2 = 12)) (
    some (o6.1,2)) (
    some (o6.1,0)))
def HS (s6 s7 : Int) (w0 : List Int) : Option ((Int × Int × List Int) ⊕ ((List Int))) :=
  AE (decide (s6 < s7)) (
   Aa (0 ≤ s7 ∧ s7 + 1 ≤ (w0.length : Int)) (
    AX w0 s7 fun x1 =>
    Aa (0 ≤ s6 ∧ s6 + 1 ≤ (w0.length : Int)) (
     AX w0 s6 fun x2 =>
     Aa (0 ≤ s6 ∧ s6 + 1 ≤ (w0.length : Int)) (
      Aa (0 ≤ s6 ∧ s6 + 1 ≤ (w0.length : Int)) (
       Aa (0 ≤ s7 ∧ s7 + 1 ≤ ((w0.set s6.toNat x1).length : Int)) (
        Aa (0 ≤ s7 ∧ s7 + 1 ≤ ((w0.set s6.toNat x1).length : Int)) (
         some (.inl ((AA .add .i64 s6 1),(AA .sub .i64 s7 1),(w0.set s6.toNat x1).set s7.toNat x2))))))))) (
   some (.inr w0))
def Ov (s6 s7 : Int) (w0 : List Int) : Option ((List Int)) := AY (fun s : Int × Int × List Int => HS s.1 s.2.1 s.2.2) (s6,s7,w0)
theorem aAe (s6 s7 : Int) (w0 : List Int) : Ov s6 s7 w0 = Df (HS s6 s7 w0) (fun s : Int × Int × List Int => Ov s.1 s.2.1 s.2.2) := A5 _ _
def Yg (a1 a2 : Int) (w0 : List Int) : Option (List Int) :=
  AG (Ov a1 (AA .sub .i64 a2 1) w0) fun o3 =>
  some o3
def Fl (s1 s2 s8 : Int) (w0 : List Int) (s7 : Int) : Option ((Int) ⊕ (Int)) :=
  AE (decide (s7 < s2)) (
   Aa (0 ≤ s7 ∧ s7 + 1 ≤ (w0.length : Int)) (
    AX w0 s7 fun x1 =>
    Aa (0 ≤ (AA .sub .i64 s7 1) ∧ (AA .sub .i64 s7 1) + 1 ≤ (w0.length : Int)) (
     AX w0 (AA .sub .i64 s7 1) fun x2 =>
     AG (Y6 x1 x2) fun r3 =>
     AE (!r3) (
      some (.inl (AA .add .i64 s7 1))) (
      some (.inr s7))))) (
   some (.inr s7))
def OF (s1 s2 s8 : Int) (w0 : List Int) (s7 : Int) : Option (Int) := AY (fun s : Int => Fl s1 s2 s8 w0 s) s7
theorem Mz (s1 s2 s8 : Int) (w0 : List Int) (s7 : Int) : OF s1 s2 s8 w0 s7 = Df (Fl s1 s2 s8 w0 s7) (fun s : Int => OF s1 s2 s8 w0 s) := A5 _ _
def Fm (s1 s2 : Int) (s7 s8 s9 : Int) (w0 : List Int) : Option ((Int × List Int) ⊕ ((List Int))) :=
  AE (decide (1 ≤ s9)) (
   Aa (0 ≤ s9 ∧ s9 + 1 ≤ (w0.length : Int)) (
    AX w0 s9 fun x7 =>
    Aa (0 ≤ (AA .sub .i64 s9 1) ∧ (AA .sub .i64 s9 1) + 1 ≤ (w0.length : Int)) (
     AX w0 (AA .sub .i64 s9 1) fun x8 =>
     AG (Y6 x7 x8) fun r9 =>
     AE (!r9) (
      some (.inr w0)) (
      Aa (0 ≤ (AA .sub .i64 s9 1) ∧ (AA .sub .i64 s9 1) + 1 ≤ (w0.length : Int)) (
       AX w0 (AA .sub .i64 s9 1) fun x10 =>
       Aa (0 ≤ s9 ∧ s9 + 1 ≤ (w0.length : Int)) (
        AX w0 s9 fun x11 =>
        Aa (0 ≤ s9 ∧ s9 + 1 ≤ (w0.length : Int)) (
         Aa (0 ≤ s9 ∧ s9 + 1 ≤ (w0.length : Int)) (
          Aa (0 ≤ (AA .sub .i64 s9 1) ∧ (AA .sub .i64 s9 1) + 1 ≤ ((w0.set s9.toNat x10).length : Int)) (
           Aa (0 ≤ (AA .sub .i64 s9 1) ∧ (AA .sub .i64 s9 1) + 1 ≤ ((w0.set s9.toNat x10).length : Int)) (
            some (.inl ((AA .sub .i64 s9 1),(w0.set s9.toNat x10).set (AA .sub .i64 s9 1).toNat x11)))))))))))) (
   some (.inr w0))
def OG (s1 s2 : Int) (s7 s8 s9 : Int) (w0 : List Int) : Option ((List Int)) := AY (fun s : Int × List Int => Fm s1 s2 s7 s8 s.1 s.2) (s9,w0)
theorem M0 (s1 s2 : Int) (s7 s8 s9 : Int) (w0 : List Int) : OG s1 s2 s7 s8 s9 w0 = Df (Fm s1 s2 s7 s8 s9 w0) (fun s : Int × List Int => OG s1 s2 s7 s8 s.1 s.2) := A5 _ _
def LC (s1 s2 : Int) (s7 s8 : Int) (s61 : Bool) (w0 : List Int) : Option ((List Int)) :=
  AE (s61) (
   AG (OG s1 s2 s7 s8 (AA .sub .i64 s7 1) w0) fun o12 =>
   some o12) (
   some w0)
def Fo (s1 s2 : Int) (s7 s8 s10 : Int) (w0 : List Int) : Option ((Int × List Int) ⊕ ((List Int))) :=
  AE (decide (s10 < s2)) (
   Aa (0 ≤ s10 ∧ s10 + 1 ≤ (w0.length : Int)) (
    AX w0 s10 fun x14 =>
    Aa (0 ≤ (AA .sub .i64 s10 1) ∧ (AA .sub .i64 s10 1) + 1 ≤ (w0.length : Int)) (
     AX w0 (AA .sub .i64 s10 1) fun x15 =>
     AG (Y6 x14 x15) fun r16 =>
     AE (!r16) (
      some (.inr w0)) (
      Aa (0 ≤ (AA .sub .i64 s10 1) ∧ (AA .sub .i64 s10 1) + 1 ≤ (w0.length : Int)) (
       AX w0 (AA .sub .i64 s10 1) fun x17 =>
       Aa (0 ≤ s10 ∧ s10 + 1 ≤ (w0.length : Int)) (
        AX w0 s10 fun x18 =>
        Aa (0 ≤ s10 ∧ s10 + 1 ≤ (w0.length : Int)) (
         Aa (0 ≤ s10 ∧ s10 + 1 ≤ (w0.length : Int)) (
          Aa (0 ≤ (AA .sub .i64 s10 1) ∧ (AA .sub .i64 s10 1) + 1 ≤ ((w0.set s10.toNat x17).length : Int)) (
           Aa (0 ≤ (AA .sub .i64 s10 1) ∧ (AA .sub .i64 s10 1) + 1 ≤ ((w0.set s10.toNat x17).length : Int)) (
            some (.inl ((AA .add .i64 s10 1),(w0.set s10.toNat x17).set (AA .sub .i64 s10 1).toNat x18)))))))))))) (
   some (.inr w0))
def OH (s1 s2 : Int) (s7 s8 s10 : Int) (w0 : List Int) : Option ((List Int)) := AY (fun s : Int × List Int => Fo s1 s2 s7 s8 s.1 s.2) (s10,w0)
theorem M1 (s1 s2 : Int) (s7 s8 s10 : Int) (w0 : List Int) : OH s1 s2 s7 s8 s10 w0 = Df (Fo s1 s2 s7 s8 s10 w0) (fun s : Int × List Int => OH s1 s2 s7 s8 s.1 s.2) := A5 _ _
def LD (s1 s2 : Int) (s7 s8 : Int) (s98 : Bool) (w0 : List Int) : Option ((List Int)) :=
  AE (s98) (
   AG (OH s1 s2 s7 s8 (AA .add .i64 s7 1) w0) fun o19 =>
   some o19) (
   some w0)
def OE (s1 s2 : Int) (s7 s8 : Int) (w0 : List Int) : Option ((Int × List Int) ⊕ Bool) :=
  AG (OF s1 s2 s8 w0 s7) fun o4 =>
  AE (decide (o4 = s2)) (
   some (.inr true)) (
   AE (decide ((AA .sub .i64 s2 s1) < 50)) (
    some (.inr false)) (
    Aa (0 ≤ (AA .sub .i64 o4 1) ∧ (AA .sub .i64 o4 1) + 1 ≤ (w0.length : Int)) (
     AX w0 (AA .sub .i64 o4 1) fun x5 =>
     Aa (0 ≤ o4 ∧ o4 + 1 ≤ (w0.length : Int)) (
      AX w0 o4 fun x6 =>
      Aa (0 ≤ o4 ∧ o4 + 1 ≤ (w0.length : Int)) (
       Aa (0 ≤ o4 ∧ o4 + 1 ≤ (w0.length : Int)) (
        Aa (0 ≤ (AA .sub .i64 o4 1) ∧ (AA .sub .i64 o4 1) + 1 ≤ ((w0.set o4.toNat x5).length : Int)) (
         Aa (0 ≤ (AA .sub .i64 o4 1) ∧ (AA .sub .i64 o4 1) + 1 ≤ ((w0.set o4.toNat x5).length : Int)) (
          AG (LC s1 s2 o4 s8 (decide (2 ≤ (AA .sub .i64 o4 s1))) ((w0.set o4.toNat x5).set (AA .sub .i64 o4 1).toNat x6)) fun o13 =>
          AG (LD s1 s2 o4 s8 (decide (2 ≤ (AA .sub .i64 s2 o4))) o13) fun o20 =>
          some (.inl (o4,o20))))))))))
def Fk (s1 s2 : Int) (s7 s8 : Int) (w0 : List Int) : Option ((Int × Int × List Int) ⊕ ((List Int) ⊕ (Bool × List Int))) :=
  AE (decide (s8 < 5)) (
   AG (OE s1 s2 s7 s8 w0) fun o21 =>
   Cj o21 (fun o22 =>
    some (.inl (o22.1,(AA .add .i64 s8 1),o22.2))) (fun o23 =>
    some (.inr (.inr (o23,w0))))) (
   some (.inr (.inl w0)))
def LE (s1 s2 : Int) (s7 s8 : Int) (w0 : List Int) : Option ((List Int) ⊕ (Bool × List Int)) := AY (fun s : Int × Int × List Int => Fk s1 s2 s.1 s.2.1 s.2.2) (s7,s8,w0)
theorem My (s1 s2 : Int) (s7 s8 : Int) (w0 : List Int) : LE s1 s2 s7 s8 w0 = Df (Fk s1 s2 s7 s8 w0) (fun s : Int × Int × List Int => LE s1 s2 s.1 s.2.1 s.2.2) := A5 _ _
def X5 (a1 a2 : Int) (w0 : List Int) : Option (Bool × List Int) :=
  AG (LE a1 a2 (AA .add .i64 a1 1) 0 w0) fun o24 =>
  Cj o24 (fun o25 =>
   some (false,o25)) (fun o26 =>
   some (o26.1,o26.2))
def Ft (s1 s10 : Int) (w0 : List Int) (s9 : Int) : Option ((Int) ⊕ (Int)) :=
  AE (decide (s9 ≤ s10)) (
   Aa (0 ≤ s1 ∧ s1 + 1 ≤ (w0.length : Int)) (
    AX w0 s1 fun x3 =>
    Aa (0 ≤ s9 ∧ s9 + 1 ≤ (w0.length : Int)) (
     AX w0 s9 fun x4 =>
     AG (Y6 x3 x4) fun r5 =>
     AE (!r5) (
      some (.inl (AA .add .i64 s9 1))) (
      some (.inr s9))))) (
   some (.inr s9))
def OZ (s1 s10 : Int) (w0 : List Int) (s9 : Int) : Option (Int) := AY (fun s : Int => Ft s1 s10 w0 s) s9
theorem NA (s1 s10 : Int) (w0 : List Int) (s9 : Int) : OZ s1 s10 w0 s9 = Df (Ft s1 s10 w0 s9) (fun s : Int => OZ s1 s10 w0 s) := A5 _ _
def Fu (s1 s9 : Int) (w0 : List Int) (s10 : Int) : Option ((Int) ⊕ (Int)) :=
  AE (decide (s9 ≤ s10)) (
   Aa (0 ≤ s1 ∧ s1 + 1 ≤ (w0.length : Int)) (
    AX w0 s1 fun x7 =>
    Aa (0 ≤ s10 ∧ s10 + 1 ≤ (w0.length : Int)) (
     AX w0 s10 fun x8 =>
     AG (Y6 x7 x8) fun r9 =>
     AE (r9) (
      some (.inl (AA .sub .i64 s10 1))) (
      some (.inr s10))))) (
   some (.inr s10))
def Oa (s1 s9 : Int) (w0 : List Int) (s10 : Int) : Option (Int) := AY (fun s : Int => Fu s1 s9 w0 s) s10
theorem NB (s1 s9 : Int) (w0 : List Int) (s10 : Int) : Oa s1 s9 w0 s10 = Df (Fu s1 s9 w0 s10) (fun s : Int => Oa s1 s9 w0 s) := A5 _ _
def HA (s1 s9 s10 : Int) (w0 : List Int) : Option ((Int × Int × List Int) ⊕ ((Int × List Int))) :=
  AG (OZ s1 s10 w0 s9) fun o6 =>
  AG (Oa s1 o6 w0 s10) fun o10 =>
  AE (decide (o10 < o6)) (
   some (.inr (o6,w0))) (
   Aa (0 ≤ o10 ∧ o10 + 1 ≤ (w0.length : Int)) (
    AX w0 o10 fun x11 =>
    Aa (0 ≤ o6 ∧ o6 + 1 ≤ (w0.length : Int)) (
     AX w0 o6 fun x12 =>
     Aa (0 ≤ o6 ∧ o6 + 1 ≤ (w0.length : Int)) (
      Aa (0 ≤ o6 ∧ o6 + 1 ≤ (w0.length : Int)) (
       Aa (0 ≤ o10 ∧ o10 + 1 ≤ ((w0.set o6.toNat x11).length : Int)) (
        Aa (0 ≤ o10 ∧ o10 + 1 ≤ ((w0.set o6.toNat x11).length : Int)) (
         some (.inl ((AA .add .i64 o6 1),(AA .sub .i64 o10 1),(w0.set o6.toNat x11).set o10.toNat x12)))))))))
def OY (s1 s9 s10 : Int) (w0 : List Int) : Option ((Int × List Int)) := AY (fun s : Int × Int × List Int => HA s1 s.1 s.2.1 s.2.2) (s9,s10,w0)
theorem Wz (s1 s9 s10 : Int) (w0 : List Int) : OY s1 s9 s10 w0 = Df (HA s1 s9 s10 w0) (fun s : Int × Int × List Int => OY s1 s.1 s.2.1 s.2.2) := A5 _ _
def Xj (a1 a2 a3 : Int) (w0 : List Int) : Option (Int × List Int) :=
  Aa (0 ≤ a3 ∧ a3 + 1 ≤ (w0.length : Int)) (
   AX w0 a3 fun x1 =>
   Aa (0 ≤ a1 ∧ a1 + 1 ≤ (w0.length : Int)) (
    AX w0 a1 fun x2 =>
    Aa (0 ≤ a1 ∧ a1 + 1 ≤ (w0.length : Int)) (
     Aa (0 ≤ a1 ∧ a1 + 1 ≤ (w0.length : Int)) (
      Aa (0 ≤ a3 ∧ a3 + 1 ≤ ((w0.set a1.toNat x1).length : Int)) (
       Aa (0 ≤ a3 ∧ a3 + 1 ≤ ((w0.set a1.toNat x1).length : Int)) (
        AG (OY a1 (AA .add .i64 a1 1) (AA .sub .i64 a2 1) ((w0.set a1.toNat x1).set a3.toNat x2)) fun o13 =>
        some (o13.1,o13.2)))))))
def Fp (s1 s11 : Int) (w0 : List Int) (s10 : Int) : Option ((Int) ⊕ (Int)) :=
  AE (decide (s10 ≤ s11)) (
   Aa (0 ≤ s10 ∧ s10 + 1 ≤ (w0.length : Int)) (
    AX w0 s10 fun x3 =>
    Aa (0 ≤ s1 ∧ s1 + 1 ≤ (w0.length : Int)) (
     AX w0 s1 fun x4 =>
     AG (Y6 x3 x4) fun r5 =>
     AE (r5) (
      some (.inl (AA .add .i64 s10 1))) (
      some (.inr s10))))) (
   some (.inr s10))
def LF (s1 s11 : Int) (w0 : List Int) (s10 : Int) : Option (Int) := AY (fun s : Int => Fp s1 s11 w0 s) s10
theorem M2 (s1 s11 : Int) (w0 : List Int) (s10 : Int) : LF s1 s11 w0 s10 = Df (Fp s1 s11 w0 s10) (fun s : Int => LF s1 s11 w0 s) := A5 _ _
def Fq (s1 s10 : Int) (w0 : List Int) (s11 : Int) : Option ((Int) ⊕ (Int)) :=
  AE (decide (s10 ≤ s11)) (
   Aa (0 ≤ s11 ∧ s11 + 1 ≤ (w0.length : Int)) (
    AX w0 s11 fun x7 =>
    Aa (0 ≤ s1 ∧ s1 + 1 ≤ (w0.length : Int)) (
     AX w0 s1 fun x8 =>
     AG (Y6 x7 x8) fun r9 =>
     AE (!r9) (
      some (.inl (AA .sub .i64 s11 1))) (
      some (.inr s11))))) (
   some (.inr s11))
def LG (s1 s10 : Int) (w0 : List Int) (s11 : Int) : Option (Int) := AY (fun s : Int => Fq s1 s10 w0 s) s11
theorem M3 (s1 s10 : Int) (w0 : List Int) (s11 : Int) : LG s1 s10 w0 s11 = Df (Fq s1 s10 w0 s11) (fun s : Int => LG s1 s10 w0 s) := A5 _ _
def LH (s1 s11 : Int) (w0 : List Int) (s10 : Int) : Option ((Int) ⊕ (Int)) :=
  AE (decide (s10 ≤ s11)) (
   Aa (0 ≤ s10 ∧ s10 + 1 ≤ (w0.length : Int)) (
    AX w0 s10 fun x15 =>
    Aa (0 ≤ s1 ∧ s1 + 1 ≤ (w0.length : Int)) (
     AX w0 s1 fun x16 =>
     AG (Y6 x15 x16) fun r17 =>
     AE (r17) (
      some (.inl (AA .add .i64 s10 1))) (
      some (.inr s10))))) (
   some (.inr s10))
def Vg (s1 s11 : Int) (w0 : List Int) (s10 : Int) : Option (Int) := AY (fun s : Int => LH s1 s11 w0 s) s10
def LI (s1 s10 : Int) (w0 : List Int) (s11 : Int) : Option ((Int) ⊕ (Int)) :=
  AE (decide (s10 ≤ s11)) (
   Aa (0 ≤ s11 ∧ s11 + 1 ≤ (w0.length : Int)) (
    AX w0 s11 fun x19 =>
    Aa (0 ≤ s1 ∧ s1 + 1 ≤ (w0.length : Int)) (
     AX w0 s1 fun x20 =>
     AG (Y6 x19 x20) fun r21 =>
     AE (!r21) (
      some (.inl (AA .sub .i64 s11 1))) (
      some (.inr s11))))) (
   some (.inr s11))
def Vi (s1 s10 : Int) (w0 : List Int) (s11 : Int) : Option (Int) := AY (fun s : Int => LI s1 s10 w0 s) s11
def Gm (s1 s10 s11 : Int) (w0 : List Int) : Option ((Int × Int × List Int) ⊕ ((Int × List Int))) :=
  AG (Vg s1 s11 w0 s10) fun o18 =>
  AG (Vi s1 o18 w0 s11) fun o22 =>
  AE (decide (o22 < o18)) (
   some (.inr (o22,w0))) (
   Aa (0 ≤ o22 ∧ o22 + 1 ≤ (w0.length : Int)) (
    AX w0 o22 fun x23 =>
    Aa (0 ≤ o18 ∧ o18 + 1 ≤ (w0.length : Int)) (
     AX w0 o18 fun x24 =>
     Aa (0 ≤ o18 ∧ o18 + 1 ≤ (w0.length : Int)) (
      Aa (0 ≤ o18 ∧ o18 + 1 ≤ (w0.length : Int)) (
       Aa (0 ≤ o22 ∧ o22 + 1 ≤ ((w0.set o18.toNat x23).length : Int)) (
        Aa (0 ≤ o22 ∧ o22 + 1 ≤ ((w0.set o18.toNat x23).length : Int)) (
         some (.inl ((AA .add .i64 o18 1),(AA .sub .i64 o22 1),(w0.set o18.toNat x23).set o22.toNat x24)))))))))
def OI (s1 s10 s11 : Int) (w0 : List Int) : Option ((Int × List Int)) := AY (fun s : Int × Int × List Int => Gm s1 s.1 s.2.1 s.2.2) (s10,s11,w0)
theorem Ve (s1 s10 s11 : Int) (w0 : List Int) : OI s1 s10 s11 w0 = Df (Gm s1 s10 s11 w0) (fun s : Int × Int × List Int => OI s1 s.1 s.2.1 s.2.2) := A5 _ _
def X6 (a1 a2 a3 : Int) (w0 : List Int) : Option (Int × Bool × List Int) :=
  Aa (0 ≤ a3 ∧ a3 + 1 ≤ (w0.length : Int)) (
   AX w0 a3 fun x1 =>
   Aa (0 ≤ a1 ∧ a1 + 1 ≤ (w0.length : Int)) (
    AX w0 a1 fun x2 =>
    Aa (0 ≤ a1 ∧ a1 + 1 ≤ (w0.length : Int)) (
     Aa (0 ≤ a1 ∧ a1 + 1 ≤ (w0.length : Int)) (
      Aa (0 ≤ a3 ∧ a3 + 1 ≤ ((w0.set a1.toNat x1).length : Int)) (
       Aa (0 ≤ a3 ∧ a3 + 1 ≤ ((w0.set a1.toNat x1).length : Int)) (
        AG (LF a1 (AA .sub .i64 a2 1) ((w0.set a1.toNat x1).set a3.toNat x2) (AA .add .i64 a1 1)) fun o6 =>
        AG (LG a1 o6 ((w0.set a1.toNat x1).set a3.toNat x2) (AA .sub .i64 a2 1)) fun o10 =>
        AE (decide (o10 < o6)) (
         Aa (0 ≤ a1 ∧ a1 + 1 ≤ (((w0.set a1.toNat x1).set a3.toNat x2).length : Int)) (
          AX ((w0.set a1.toNat x1).set a3.toNat x2) a1 fun x11 =>
          Aa (0 ≤ o10 ∧ o10 + 1 ≤ (((w0.set a1.toNat x1).set a3.toNat x2).length : Int)) (
           AX ((w0.set a1.toNat x1).set a3.toNat x2) o10 fun x12 =>
           Aa (0 ≤ o10 ∧ o10 + 1 ≤ (((w0.set a1.toNat x1).set a3.toNat x2).length : Int)) (
            Aa (0 ≤ o10 ∧ o10 + 1 ≤ (((w0.set a1.toNat x1).set a3.toNat x2).length : Int)) (
             Aa (0 ≤ a1 ∧ a1 + 1 ≤ ((((w0.set a1.toNat x1).set a3.toNat x2).set o10.toNat x11).length : Int)) (
              Aa (0 ≤ a1 ∧ a1 + 1 ≤ ((((w0.set a1.toNat x1).set a3.toNat x2).set o10.toNat x11).length : Int)) (
               some (o10,true,(((w0.set a1.toNat x1).set a3.toNat x2).set o10.toNat x11).set a1.toNat x12)))))))) (
         Aa (0 ≤ o10 ∧ o10 + 1 ≤ (((w0.set a1.toNat x1).set a3.toNat x2).length : Int)) (
          AX ((w0.set a1.toNat x1).set a3.toNat x2) o10 fun x13 =>
          Aa (0 ≤ o6 ∧ o6 + 1 ≤ (((w0.set a1.toNat x1).set a3.toNat x2).length : Int)) (
           AX ((w0.set a1.toNat x1).set a3.toNat x2) o6 fun x14 =>
           Aa (0 ≤ o6 ∧ o6 + 1 ≤ (((w0.set a1.toNat x1).set a3.toNat x2).length : Int)) (
            Aa (0 ≤ o6 ∧ o6 + 1 ≤ (((w0.set a1.toNat x1).set a3.toNat x2).length : Int)) (
             Aa (0 ≤ o10 ∧ o10 + 1 ≤ ((((w0.set a1.toNat x1).set a3.toNat x2).set o6.toNat x13).length : Int)) (
              Aa (0 ≤ o10 ∧ o10 + 1 ≤ ((((w0.set a1.toNat x1).set a3.toNat x2).set o6.toNat x13).length : Int)) (
               AG (OI a1 (AA .add .i64 o6 1) (AA .sub .i64 o10 1) ((((w0.set a1.toNat x1).set a3.toNat x2).set o6.toNat x13).set o10.toNat x14)) fun o25 =>
               Aa (0 ≤ a1 ∧ a1 + 1 ≤ (o25.2.length : Int)) (
                AX o25.2 a1 fun x26 =>
                Aa (0 ≤ o25.1 ∧ o25.1 + 1 ≤ (o25.2.length : Int)) (
                 AX o25.2 o25.1 fun x27 =>
                 Aa (0 ≤ o25.1 ∧ o25.1 + 1 ≤ (o25.2.length : Int)) (
                  Aa (0 ≤ o25.1 ∧ o25.1 + 1 ≤ (o25.2.length : Int)) (
                   Aa (0 ≤ a1 ∧ a1 + 1 ≤ ((o25.2.set o25.1.toNat x26).length : Int)) (
                    Aa (0 ≤ a1 ∧ a1 + 1 ≤ ((o25.2.set o25.1.toNat x26).length : Int)) (
                     some (o25.1,false,(o25.2.set o25.1.toNat x26).set a1.toNat x27))))))))))))))))))))
def LK (self : Int → Int → Int → (List Int) → Option (List Int)) (s1 s2 s3 : Int) (s8 s9 : Bool) (s10 : Int) (s35 : Bool) (w0 : List Int) : Option ((Int × List Int)) :=
  AE (s35) (
   AG (Xt s1 s2 w0) fun r3 =>
   some ((AA .sub .i64 s3 1),r3)) (
   some (s3,w0))
def LL (self : Int → Int → Int → (List Int) → Option (List Int)) (s1 s2 s3 : Int) (s8 s9 : Bool) (s10 s11 s12 : Int) (s50 : Bool) (w0 : List Int) : Option ((Int × Int × List Int)) :=
  AE (s50) (
   AG (Yg s1 s2 w0) fun r6 =>
   some ((AA .sub .i64 (AA .sub .i64 s2 1) (AA .sub .i64 s11 s1)),1,r6)) (
   some (s11,s12,w0))
def IN (self : Int → Int → Int → (List Int) → Option (List Int)) (s1 s2 s3 : Int) (s8 s9 : Bool) (s10 s11 : Int) (s68 : Bool) (w0 : List Int) : Option ((List Int) ⊕ (List Int)) :=
  AE (s68) (
   AG (X5 s1 s2 w0) fun r8 =>
   AE (r8.1) (
    some (.inr r8.2)) (
    some (.inl r8.2))) (
   some (.inl w0))
def E6 (self : Int → Int → Int → (List Int) → Option (List Int)) (s1 s2 s3 : Int) (s9 : Bool) (s14 s16 : Int) (s17 s18 : Int) (s113 : Bool) (w0 : List Int) : Option ((Int × Int × Bool × List Int)) :=
  AE (s113) (
   AG (self s1 s14 s3 w0) fun r17 =>
   some ((AA .add .i64 s14 1),s2,decide (s18 ≤ s16),r17)) (
   AG (self (AA .add .i64 s14 1) s2 s3 w0) fun r18 =>
   some (s1,s14,decide (s18 ≤ s17),r18))
def LJ (self : Int → Int → Int → (List Int) → Option (List Int)) (s1 s2 s3 : Int) (s8 s9 : Bool) (w0 : List Int) : Option ((Int × Int × Int × Bool × Bool × List Int) ⊕ (List Int)) :=
  AE (decide ((AA .sub .i64 s2 s1) ≤ 12)) (
   AG (Xu s1 s2 w0) fun r1 =>
   some (.inr r1)) (
   AE (decide (s3 = 0)) (
    AG (Xw s1 s2 w0) fun r2 =>
    some (.inr r2)) (
    AG (LK self s1 s2 s3 s8 s9 (AA .sub .i64 s2 s1) (!s8) w0) fun o4 =>
    AG (Yn o4.2 s1 s2) fun r5 =>
    AG (LL self s1 s2 o4.1 s8 s9 (AA .sub .i64 s2 s1) r5.1 r5.2 (decide (r5.2 = 2)) o4.2) fun o7 =>
    AE (s8) (
     AE (s9) (
      AG (IN self s1 s2 o4.1 s8 s9 (AA .sub .i64 s2 s1) o7.1 (decide (o7.2.1 = 1)) o7.2.2) fun o9 =>
      Cj o9 (fun o10 =>
       AE (decide (0 < s1)) (
        Aa (0 ≤ (AA .sub .i64 s1 1) ∧ (AA .sub .i64 s1 1) + 1 ≤ (o10.length : Int)) (
         AX o10 (AA .sub .i64 s1 1) fun x12 =>
         Aa (0 ≤ o7.1 ∧ o7.1 + 1 ≤ (o10.length : Int)) (
          AX o10 o7.1 fun x13 =>
          AG (Y6 x12 x13) fun r14 =>
          AE (!r14) (
           AG (Xj s1 s2 o7.1 o10) fun r15 =>
           some (.inl (r15.1,s2,o4.1,s8,s9,r15.2))) (
           AG (X6 s1 s2 o7.1 o10) fun r16 =>
           AG (E6 self s1 s2 o4.1 r16.2.1 r16.1 (AA .sub .i64 r16.1 s1) (AA .sub .i64 s2 r16.1) (AA .quo .i64 (AA .sub .i64 s2 s1) 8) (decide ((AA .sub .i64 r16.1 s1) < (AA .sub .i64 s2 r16.1))) r16.2.2) fun o19 =>
           some (.inl (o19.1,o19.2.1,o4.1,o19.2.2.1,r16.2.1,o19.2.2.2)))))) (
        AG (X6 s1 s2 o7.1 o10) fun r20 =>
        AG (E6 self s1 s2 o4.1 r20.2.1 r20.1 (AA .sub .i64 r20.1 s1) (AA .sub .i64 s2 r20.1) (AA .quo .i64 (AA .sub .i64 s2 s1) 8) (decide ((AA .sub .i64 r20.1 s1) < (AA .sub .i64 s2 r20.1))) r20.2.2) fun o21 =>
        some (.inl (o21.1,o21.2.1,o4.1,o21.2.2.1,r20.2.1,o21.2.2.2)))) (fun o11 =>
       some (.inr o11))) (
      AG (IN self s1 s2 o4.1 s8 s9 (AA .sub .i64 s2 s1) o7.1 false o7.2.2) fun o22 =>
      Cj o22 (fun o23 =>
       AE (decide (0 < s1)) (
        Aa (0 ≤ (AA .sub .i64 s1 1) ∧ (AA .sub .i64 s1 1) + 1 ≤ (o23.length : Int)) (
         AX o23 (AA .sub .i64 s1 1) fun x25 =>
         Aa (0 ≤ o7.1 ∧ o7.1 + 1 ≤ (o23.length : Int)) (
          AX o23 o7.1 fun x26 =>
          AG (Y6 x25 x26) fun r27 =>
          AE (!r27) (
           AG (Xj s1 s2 o7.1 o23) fun r28 =>
           some (.inl (r28.1,s2,o4.1,s8,s9,r28.2))) (
           AG (X6 s1 s2 o7.1 o23) fun r29 =>
           AG (E6 self s1 s2 o4.1 r29.2.1 r29.1 (AA .sub .i64 r29.1 s1) (AA .sub .i64 s2 r29.1) (AA .quo .i64 (AA .sub .i64 s2 s1) 8) (decide ((AA .sub .i64 r29.1 s1) < (AA .sub .i64 s2 r29.1))) r29.2.2) fun o30 =>
           some (.inl (o30.1,o30.2.1,o4.1,o30.2.2.1,r29.2.1,o30.2.2.2)))))) (
        AG (X6 s1 s2 o7.1 o23) fun r31 =>
        AG (E6 self s1 s2 o4.1 r31.2.1 r31.1 (AA .sub .i64 r31.1 s1) (AA .sub .i64 s2 r31.1) (AA .quo .i64 (AA .sub .i64 s2 s1) 8) (decide ((AA .sub .i64 r31.1 s1) < (AA .sub .i64 s2 r31.1))) r31.2.2) fun o32 =>
        some (.inl (o32.1,o32.2.1,o4.1,o32.2.2.1,r31.2.1,o32.2.2.2)))) (fun o24 =>
       some (.inr o24)))) (
     AG (IN self s1 s2 o4.1 s8 s9 (AA .sub .i64 s2 s1) o7.1 false o7.2.2) fun o33 =>
     Cj o33 (fun o34 =>
      AE (decide (0 < s1)) (
       Aa (0 ≤ (AA .sub .i64 s1 1) ∧ (AA .sub .i64 s1 1) + 1 ≤ (o34.length : Int)) (
        AX o34 (AA .sub .i64 s1 1) fun x36 =>
        Aa (0 ≤ o7.1 ∧ o7.1 + 1 ≤ (o34.length : Int)) (
         AX o34 o7.1 fun x37 =>
         AG (Y6 x36 x37) fun r38 =>
         AE (!r38) (
          AG (Xj s1 s2 o7.1 o34) fun r39 =>
          some (.inl (r39.1,s2,o4.1,s8,s9,r39.2))) (
          AG (X6 s1 s2 o7.1 o34) fun r40 =>
          AG (E6 self s1 s2 o4.1 r40.2.1 r40.1 (AA .sub .i64 r40.1 s1) (AA .sub .i64 s2 r40.1) (AA .quo .i64 (AA .sub .i64 s2 s1) 8) (decide ((AA .sub .i64 r40.1 s1) < (AA .sub .i64 s2 r40.1))) r40.2.2) fun o41 =>
          some (.inl (o41.1,o41.2.1,o4.1,o41.2.2.1,r40.2.1,o41.2.2.2)))))) (
       AG (X6 s1 s2 o7.1 o34) fun r42 =>
       AG (E6 self s1 s2 o4.1 r42.2.1 r42.1 (AA .sub .i64 r42.1 s1) (AA .sub .i64 s2 r42.1) (AA .quo .i64 (AA .sub .i64 s2 s1) 8) (decide ((AA .sub .i64 r42.1 s1) < (AA .sub .i64 s2 r42.1))) r42.2.2) fun o43 =>
       some (.inl (o43.1,o43.2.1,o4.1,o43.2.2.1,r42.2.1,o43.2.2.2)))) (fun o35 =>
      some (.inr o35)))))
def Gt (self : Int → Int → Int → (List Int) → Option (List Int)) (s1 s2 s3 : Int) (s8 s9 : Bool) (w0 : List Int) : Option ((Int × Int × Int × Bool × Bool × List Int) ⊕ ((List Int))) :=
  AG (LJ self s1 s2 s3 s8 s9 w0) fun o44 =>
  Cj o44 (fun o45 =>
   some (.inl (o45.1,o45.2.1,o45.2.2.1,o45.2.2.2.1,o45.2.2.2.2.1,o45.2.2.2.2.2))) (fun o46 =>
   some (.inr o46))
def OK (self : Int → Int → Int → (List Int) → Option (List Int)) (s1 s2 s3 : Int) (s8 s9 : Bool) (w0 : List Int) : Option ((List Int)) := AY (fun s : Int × Int × Int × Bool × Bool × List Int => Gt self s.1 s.2.1 s.2.2.1 s.2.2.2.1 s.2.2.2.2.1 s.2.2.2.2.2) (s1,s2,s3,s8,s9,w0)
theorem Vv (self : Int → Int → Int → (List Int) → Option (List Int)) (s1 s2 s3 : Int) (s8 s9 : Bool) (w0 : List Int) : OK self s1 s2 s3 s8 s9 w0 = Df (Gt self s1 s2 s3 s8 s9 w0) (fun s : Int × Int × Int × Bool × Bool × List Int => OK self s.1 s.2.1 s.2.2.1 s.2.2.2.1 s.2.2.2.2.1 s.2.2.2.2.2) := A5 _ _
def aDl (self : Int → Int → Int → (List Int) → Option (List Int)) (a1 a2 a3 : Int) (w0 : List Int) : Option (List Int) :=
  AG (OK self a1 a2 a3 true true w0) fun o47 =>
  some o47
def aCp : Nat → Int → Int → Int → (List Int) → Option (List Int)
  | 0 => fun _ _ _ _  => none
  | n + 1 => fun a1 a2 a3 w0 => aDl (aCp n) a1 a2 a3 w0
def X9 (a1 a2 a3 : Int) (w0 : List Int) : Option (List Int) := aCp 100000 a1 a2 a3 w0
def Zn (w0 : List Int) : Option (List Int) :=
  AG (Zq (IntKind.wrap .u64 (w0.length : Int))) fun r1 =>
  AG (X9 0 (w0.length : Int) r1 w0) fun r2 =>
  some r2
def Q7 (xs : List Int) : Option (List Int) := bagE Zn xs
def I6 (s1 : List Xb) (s6 s15 : Int) (s16 s30 : Int) (w2 : AB) (w5 : List (Int × Bool)) (s31 : Int) (w7 : List (Int × Bool)) : Option ((Int × (List (Int × Bool))) ⊕ ((List (Int × Bool)))) :=
  AE (decide (s31 < s30)) (
   AG (Xg (Xl.mk w2 s1 s6 s31) w7) fun r3 =>
   some (.inl ((AA .add .i64 s31 1),r3))) (
   some (.inr w7))
def VM (s1 : List Xb) (s6 s15 : Int) (s16 s30 : Int) (w2 : AB) (w5 : List (Int × Bool)) (s31 : Int) (w7 : List (Int × Bool)) : Option ((List (Int × Bool))) := AY (fun s : Int × (List (Int × Bool)) => I6 s1 s6 s15 s16 s30 w2 w5 s.1 s.2) (s31,w7)
def Gj (s1 : List Xb) (s15 s16 : Int) (w2 : AB) (w7 : List (Int × Bool)) (k : Int) (v : Bool) (w5 : List (Int × Bool)) : Option ((List (Int × Bool))) :=
  some (Pc k true w5)
def I7 (s1 : List Xb) (s15 s16 : Int) (w2 : AB) (w7 : List (Int × Bool)) (s : (List (Int × Bool))) : (List (Int × Bool)) := (fun s : (List (Int × Bool)) => (aIu s : (List (Int × Bool)))) s
def VP (s1 : List Xb) (s15 s16 : Int) (w2 : AB) (w7 w5 : List (Int × Bool)) : Option ((List (Int × Bool))) := FL (I7 s1 s15 s16 w2 w7) w7 (fun (x : Int × Bool) (s : (List (Int × Bool))) => Gj s1 s15 s16 w2 w7 x.1 x.2 s) w5
def Pp (s1 : List Xb) (s15 s16 : Int) (w2 : AB) (w5 w7 : List (Int × Bool)) : Option ((List (Int × Bool))) :=
  AG (VP s1 s15 s16 w2 w7 w5) fun o5 =>
  some o5
def I5 (s1 : List Xb) (s15 : Int) (w2 : AB) (s16 : Int) (w5 : List (Int × Bool)) : Option ((Int × (List (Int × Bool))) ⊕ ((List (Int × Bool)))) :=
  AE (decide (s16 < s15)) (
   AG (Y0 w2 s16) fun r1 =>
   AX w2.decls s16 fun x2 =>
   AG (VM s1 s16 s15 s16 (x2.types.length : Int) w2 w5 0 (Pc r1 true ([] : List (Int × Bool)))) fun o4 =>
   AG (Pp s1 s15 s16 w2 w5 o4) fun o6 =>
   some (.inl ((AA .add .i64 s16 1),o6))) (
   some (.inr w5))
def VJ (s1 : List Xb) (s15 : Int) (w2 : AB) (s16 : Int) (w5 : List (Int × Bool)) : Option ((List (Int × Bool))) := AY (fun s : Int × (List (Int × Bool)) => I5 s1 s15 w2 s.1 s.2) (s16,w5)
def Gk (w5 : List (Int × Bool)) (k : Int) (v : Bool) (w10 : List Int) : Option (List Int) :=
  Aa (fit w10.length [k].length 8) (
   some (w10 ++ [k]))
def I8 (w5 : List (Int × Bool)) (s : List Int) : List Int := (fun s : List Int => (aI0 s : List Int)) s
def VS (w5 : List (Int × Bool)) (w10 : List Int) : Option (List Int) := FL (I8 w5) w5 (fun (x : Int × Bool) (s : List Int) => Gk w5 x.1 x.2 s) w10
def Pq (w5 : List (Int × Bool)) : Option ((List Int)) :=
  AG (VS w5 ([] : List Int)) fun o8 =>
  some o8
def X3 (a0 : AB) (a1 : List Xb) : Option (List Int) :=
  AG (VJ a1 (a0.decls.length : Int) a0 0 ([] : List (Int × Bool))) fun o7 =>
  AG (Pq (aCx 0 o7)) fun o9 =>
  AG (Q7 o9) fun r10 =>
  some r10
def Qc (a0 : Int) : Option (Bool) :=
  some false
def WP (s1 s2 : Int) (s7 s8 s10 : Int) (s14 : List X8) (s15 s16 : Int) (s28 : List Xe) (s29 s30 : Int) (s46 : Bool) (w3 : AB) (w9 : X8) (w12 : Xe) : Option (Int) :=
  AE (s46) (
   Aa (0 ≤ (IntKind.wrap .u64 w12.to)) (
    some (AA .or .u32 s10 (AA .shl .u32 1 (IntKind.wrap .u64 w12.to))))) (
   some s10)
def aDt (s1 s2 : Int) (s7 s8 s10 : Int) (s14 : List X8) (s15 s16 : Int) (s28 : List Xe) (s29 s30 : Int) (w3 : AB) (w9 : X8) : Option (Int) :=
  AX s28 s30 fun x2 =>
  AE (decide (x2.from_ = s8)) (
   Aa (0 ≤ (IntKind.wrap .u64 x2.symbol)) (
    AG (WP s1 s2 s7 s8 s10 s14 s15 s16 s28 s29 s30 (!decide ((AA .and .u64 s2 (AA .shl .u64 1 (IntKind.wrap .u64 x2.symbol))) = 0)) w3 w9 x2) fun o3 =>
    some o3)) (
   AG (WP s1 s2 s7 s8 s10 s14 s15 s16 s28 s29 s30 false w3 w9 x2) fun o4 =>
   some o4)
def LX (s1 s2 : Int) (s7 s8 : Int) (s14 : List X8) (s15 s16 : Int) (s28 : List Xe) (s29 : Int) (w3 : AB) (w9 : X8) (s10 s30 : Int) : Option ((Int × Int) ⊕ (Int)) :=
  AE (decide (s30 < s29)) (
   AG (aDt s1 s2 s7 s8 s10 s14 s15 s16 s28 s29 s30 w3 w9) fun o5 =>
   some (.inl (o5,(AA .add .i64 s30 1)))) (
   some (.inr s10))
def WT (s1 s2 : Int) (s7 s8 : Int) (s14 : List X8) (s15 s16 : Int) (s28 : List Xe) (s29 : Int) (w3 : AB) (w9 : X8) (s10 s30 : Int) : Option (Int) := AY (fun s : Int × Int => LX s1 s2 s7 s8 s14 s15 s16 s28 s29 w3 w9 s.1 s.2) (s10,s30)
def OR (s1 s2 : Int) (s7 s8 s10 : Int) (s14 : List X8) (s15 s16 : Int) (s60 : Bool) (w3 : AB) : Option (Int) :=
  AE (s60) (
   Aa (0 ≤ (IntKind.wrap .u64 s8)) (
    some (AA .shl .u32 1 (IntKind.wrap .u64 s8)))) (
   some s10)
def RF (s1 s2 s7 : Int) (s14 : List X8) (s15 s16 : Int) (w3 : AB) : Option (Int) :=
  AX s14 s16 fun x1 =>
  Aa (0 ≤ (IntKind.wrap .u64 s16)) (
   AE (decide ((AA .and .u32 s1 (AA .shl .u32 1 (IntKind.wrap .u64 s16))) = 0)) (
    some s7) (
    AG (WT s1 s2 s7 s16 s14 s15 s16 w3.trans (w3.trans.length : Int) w3 x1 0 0) fun o6 =>
    AE (decide (o6 = 0)) (
     AG (OR s1 s2 s7 s16 o6 s14 s15 s16 (!x1.next) w3) fun o7 =>
     some (AA .or .u32 s7 o7)) (
     AG (OR s1 s2 s7 s16 o6 s14 s15 s16 false w3) fun o8 =>
     some (AA .or .u32 s7 o8))))
def JD (s1 s2 : Int) (s14 : List X8) (s15 : Int) (w3 : AB) (s7 s16 : Int) : Option ((Int × Int) ⊕ (Int)) :=
  AE (decide (s16 < s15)) (
   AG (RF s1 s2 s7 s14 s15 s16 w3) fun o9 =>
   some (.inl (o9,(AA .add .i64 s16 1)))) (
   some (.inr s7))
def WQ (s1 s2 : Int) (s14 : List X8) (s15 : Int) (w3 : AB) (s7 s16 : Int) : Option (Int) := AY (fun s : Int × Int => JD s1 s2 s14 s15 w3 s.1 s.2) (s7,s16)
def Xf (a0 : AB) (a1 a2 : Int) : Option (Int) :=
  AG (WQ a1 a2 a0.states (a0.states.length : Int) a0 0 0) fun o10 =>
  some o10
def Wq (s11 : List Int) (s12 s14 s15 : Int) (s44 : List Int) (s45 s46 : Int) (s64 : Bool) (w4 : AB) (w8 : List Int) (w9 w10 : MP Int Int) : Option ((List Int × MP Int Int × MP Int Int)) :=
  AE (s64) (
   Aa (0 ≤ s12 ∧ s12 + 1 ≤ (w8.length : Int)) (
    AX w8 s12 fun x7 =>
    Aa (aB1 0 w9 s15 ≤ 4611686018427387904) (
     Aa (aH5 (Jm 0 w9 s15) ((aB1 0 w9 s15 : Nat) : Int) = true) (
      Aa (fit w8.length [s15].length 4) (
       some (w8 ++ [s15],aB2 (Jm 0 w9 s15) ((aB1 0 w9 s15 : Nat) : Int) x7,Jn w10 s15 s14)))))) (
   some (w8,w9,w10))
def RU (s11 : List Int) (s12 : Int) (s44 : List Int) (s45 s46 : Int) (w4 : AB) (w8 : List Int) (w9 w10 : MP Int Int) : Option ((List Int × MP Int Int × MP Int Int)) :=
  AX s44 s46 fun x4 =>
  Aa (0 ≤ s12 ∧ s12 + 1 ≤ (w8.length : Int)) (
   AX w8 s12 fun x5 =>
   AG (Xf w4 x5 x4) fun r6 =>
   AG (Wq s11 s12 x4 r6 s44 s45 s46 (!((PP 0 w9 r6).2)) w4 w8 w9 w10) fun o8 =>
   some (o8.1,o8.2.1,o8.2.2))
def JH (s11 : List Int) (s12 : Int) (s44 : List Int) (s45 : Int) (w4 : AB) (s46 : Int) (w8 : List Int) (w9 w10 : MP Int Int) : Option ((Int × List Int × MP Int Int × MP Int Int) ⊕ ((List Int × MP Int Int × MP Int Int))) :=
  AE (decide (s46 < s45)) (
   AG (RU s11 s12 s44 s45 s46 w4 w8 w9 w10) fun o9 =>
   some (.inl ((AA .add .i64 s46 1),o9.1,o9.2.1,o9.2.2))) (
   some (.inr (w8,w9,w10)))
def Ww (s11 : List Int) (s12 : Int) (s44 : List Int) (s45 : Int) (w4 : AB) (s46 : Int) (w8 : List Int) (w9 w10 : MP Int Int) : Option ((List Int × MP Int Int × MP Int Int)) := AY (fun s : Int × List Int × MP Int Int × MP Int Int => JH s11 s12 s44 s45 w4 s.1 s.2.1 s.2.2.1 s.2.2.2) (s46,w8,w9,w10)
def JG (s11 : List Int) (w4 : AB) (s12 : Int) (w8 : List Int) (w9 w10 : MP Int Int) : Option ((Int × List Int × MP Int Int × MP Int Int) ⊕ ((List Int × MP Int Int × MP Int Int))) :=
  AE (decide (s12 < (w8.length : Int))) (
   Aa (0 ≤ s12 ∧ s12 + 1 ≤ (w8.length : Int)) (
    AX w8 s12 fun x2 =>
    AG (Qc x2) fun r3 =>
    AE (r3) (
     Aa (0 ≤ (AA .add .i64 s12 1) ∧ (AA .add .i64 s12 1) ≤ (w8.length : Int)) (
      some (.inr (w8.take ((AA .add .i64 s12 1)).toNat,w9,w10)))) (
     AG (Ww s11 s12 s11 (s11.length : Int) w4 0 w8 w9 w10) fun o10 =>
     some (.inl ((AA .add .i64 s12 1),o10.1,o10.2.1,o10.2.2))))) (
   some (.inr (w8,w9,w10)))
def Wt (s11 : List Int) (w4 : AB) (s12 : Int) (w8 : List Int) (w9 w10 : MP Int Int) : Option ((List Int × MP Int Int × MP Int Int)) := AY (fun s : Int × List Int × MP Int Int × MP Int Int => JG s11 w4 s.1 s.2.1 s.2.2.1 s.2.2.2) (s12,w8,w9,w10)
def Xi (a0 : AB) (a1 : List Xb) (a2 : Int) : Option (List Int × MP Int Int × MP Int Int) :=
  AG (X3 a0 a1) fun r1 =>
  AG (Wt r1 a0 0 [a2] (Jn (Mm : MP Int Int) a2 a2) (Mm : MP Int Int)) fun o11 =>
  some (o11.1,o11.2.1,o11.2.2)
def Ze (a0 : AB) (a1 : List Xb) (a2 : Int) : Option (List Int) :=
  AG (Xi a0 a1 a2) fun r1 =>
  AG (Zn r1.1) fun r2 =>
  some r2
def L8 (s1 : Int) (s8 : List X8) (s9 s10 : Int) : Option ((Int) ⊕ (Unit ⊕ Unit)) :=
  AE (decide (s10 < s9)) (
   AX s8 s10 fun x1 =>
   AE (x1.accept) (
    Aa (0 ≤ (IntKind.wrap .u64 s10)) (
     AE (!decide ((AA .and .u32 s1 (AA .shl .u32 1 (IntKind.wrap .u64 s10))) = 0)) (
      some (.inr (.inr ()))) (
      some (.inl (AA .add .i64 s10 1))))) (
    some (.inl (AA .add .i64 s10 1)))) (
   some (.inr (.inl ())))
def ZT (s1 : Int) (s8 : List X8) (s9 s10 : Int) : Option (Unit ⊕ Unit) := AY (fun s : Int => L8 s1 s8 s9 s) s10
def Y9 (a0 : AB) (a1 : Int) : Option (Bool) :=
  AG (ZT a1 a0.states (a0.states.length : Int) 0) fun o2 =>
  Cj o2 (fun o3 =>
   some false) (fun o4 =>
   some true)
def Zf (a0 : Int) (a1 : AB) : Option (Bool) :=
  AG (Y9 a1 a0) fun r1 =>
  some (!r1)
def JO (s0 : List Int) (s1 : AB) (s7 s8 : Int) : Option ((Int) ⊕ (Unit ⊕ Int)) :=
  AE (decide (s8 < s7)) (
   AX s0 s8 fun x1 =>
   AG (Zf x1 s1) fun r2 =>
   AE (r2) (
    some (.inr (.inr s8))) (
    some (.inl (AA .add .i64 s8 1)))) (
   some (.inr (.inl ())))
def ZH (s0 : List Int) (s1 : AB) (s7 s8 : Int) : Option (Unit ⊕ Int) := AY (fun s : Int => JO s0 s1 s7 s) s8
def Y3 (a0 : List Int) (a1 : AB) : Option (Int) :=
  AG (ZH a0 a1 (a0.length : Int) 0) fun o3 =>
  Cj o3 (fun o4 =>
   some (-1)) (fun o5 =>
   some o5)
def Zg (a0 : List Int) (a1 : AB) : Option (Bool) :=
  AG (Y3 a0 a1) fun r1 =>
  some (decide (0 ≤ r1))
def Zh (a0 : Int) (a1 : AB) : Option (Bool) :=
  AG (Y9 a1 a0) fun r1 =>
  some r1
def JP (s0 : List Int) (s1 : AB) (s7 s8 : Int) : Option ((Int) ⊕ (Unit ⊕ Int)) :=
  AE (decide (s8 < s7)) (
   AX s0 s8 fun x1 =>
   AG (Zh x1 s1) fun r2 =>
   AE (r2) (
    some (.inr (.inr s8))) (
    some (.inl (AA .add .i64 s8 1)))) (
   some (.inr (.inl ())))
def ZK (s0 : List Int) (s1 : AB) (s7 s8 : Int) : Option (Unit ⊕ Int) := AY (fun s : Int => JP s0 s1 s7 s) s8
def Y4 (a0 : List Int) (a1 : AB) : Option (Int) :=
  AG (ZK a0 a1 (a0.length : Int) 0) fun o3 =>
  Cj o3 (fun o4 =>
   some (-1)) (fun o5 =>
   some o5)
def Zi (a0 : List Int) (a1 : AB) : Option (Bool) :=
  AG (Y4 a0 a1) fun r1 =>
  some (decide (0 ≤ r1))
def Zj (a0 : AB) (a1 : List Int) : Option (Int) :=
  AG (Zg a1 a0) fun r1 =>
  AE (!r1) (
   some 1) (
   AG (Zi a1 a0) fun r2 =>
   AE (!r2) (
    some 2) (
    some 0))
def Zk (a0 : AB) (a1 : List Xb) (a2 : Int) : Option (Int) :=
  AG (Ze a0 a1 a2) fun r1 =>
  AG (Zj a0 r1) fun r2 =>
  some r2
def Z1 : Option (Bool) :=
  AG (Yf (AB.mk ([113] : List UInt8) ([] : List Xn) ([] : List Ya) ([] : List Y2) ([X8.mk ([115] : List UInt8) false true,X8.mk ([116] : List UInt8) true false]) 0 ([] : List X4) ([] : List Yb) ([] : List Xe)) 0) fun r1 =>
  AE (decide (r1 = 1)) (
   AG (Yf (AB.mk ([113] : List UInt8) ([] : List Xn) ([] : List Ya) ([] : List Y2) ([X8.mk ([115] : List UInt8) false true,X8.mk ([116] : List UInt8) true false]) 0 ([] : List X4) ([] : List Yb) ([] : List Xe)) 1) fun r2 =>
   AE (decide (r2 = 2)) (
    AG (Xh (AB.mk ([113] : List UInt8) ([] : List Xn) ([] : List Ya) ([] : List Y2) ([X8.mk ([115] : List UInt8) false true,X8.mk ([116] : List UInt8) true false]) 0 ([] : List X4) ([] : List Yb) ([] : List Xe)) ([] : List X2)) fun r3 =>
    AE (decide (r3 = 2)) (
     AG (Zk (AB.mk ([113] : List UInt8) ([] : List Xn) ([] : List Ya) ([] : List Y2) ([X8.mk ([115] : List UInt8) false true,X8.mk ([116] : List UInt8) true false]) 0 ([] : List X4) ([] : List Yb) ([] : List Xe)) ([] : List Xb) 1) fun r4 =>
     some (decide (r4 = 1))) (
     some false)) (
    some false)) (
   some false)
def YO (s6 s7 : Int) (s37 : Bool) (w2 : AB) (w5 : List Bool) : Option ((List Bool)) :=
  AE (s37) (
   AX w2.trans s7 fun x3 =>
   Aa (0 ≤ x3.to ∧ x3.to + 1 ≤ (w5.length : Int)) (
    Aa (0 ≤ x3.to ∧ x3.to + 1 ≤ (w5.length : Int)) (
     some (w5.set x3.to.toNat true)))) (
   some w5)
def YM (s6 s7 : Int) (w2 : AB) (w5 : List Bool) : Option ((List Bool)) :=
  AX w2.trans s7 fun x1 =>
  Aa (0 ≤ x1.from_ ∧ x1.from_ + 1 ≤ (w5.length : Int)) (
   AX w5 x1.from_ fun x2 =>
   AG (YO s6 s7 x2 w2 w5) fun o4 =>
   some o4)
def HK (s6 : Int) (w2 : AB) (s7 : Int) (w5 : List Bool) : Option ((Int × List Bool) ⊕ ((List Bool))) :=
  AE (decide (s7 < (w2.trans.length : Int))) (
   AG (YM s6 s7 w2 w5) fun o5 =>
   some (.inl ((AA .add .i64 s7 1),o5))) (
   some (.inr w5))
def aD2 (s6 : Int) (w2 : AB) (s7 : Int) (w5 : List Bool) : Option ((List Bool)) := AY (fun s : Int × List Bool => HK s6 w2 s.1 s.2) (s7,w5)
def HJ (w2 : AB) (s6 : Int) (w5 : List Bool) : Option ((Int × List Bool) ⊕ ((List Bool))) :=
  AE (decide (s6 < (w2.states.length : Int))) (
   AG (aD2 s6 w2 0 w5) fun o6 =>
   some (.inl ((AA .add .i64 s6 1),o6))) (
   some (.inr w5))
def aD1 (w2 : AB) (s6 : Int) (w5 : List Bool) : Option ((List Bool)) := AY (fun s : Int × List Bool => HJ w2 s.1 s.2) (s6,w5)
def Xx (a0 : AB) (a1 : Int) : Option (List Bool) :=
  Aa (0 ≤ (a0.states.length : Int) ∧ fit 0 (a0.states.length : Int).toNat 1) (
   Aa (0 ≤ a1 ∧ a1 + 1 ≤ ((List.replicate (a0.states.length : Int).toNat false).length : Int)) (
    Aa (0 ≤ a1 ∧ a1 + 1 ≤ ((List.replicate (a0.states.length : Int).toNat false).length : Int)) (
     AG (aD1 a0 0 ((List.replicate (a0.states.length : Int).toNat false).set a1.toNat true)) fun o7 =>
     some o7)))
def R6 (s5 : List Bool) (s6 s7 : Bool) (s8 : Int) (s29 : Bool) (w2 : AB) : Option (Bool) :=
  AE (s29) (
   some false) (
   some s7)
def JL (s5 : List Bool) (s6 s7 : Bool) (s8 : Int) (s50 : Bool) (w2 : AB) : Option (Bool) :=
  AE (s50) (
   some false) (
   some s6)
def XX (s5 : List Bool) (s6 s7 : Bool) (s8 : Int) (w2 : AB) : Option ((Bool × Bool)) :=
  AX s5 s8 fun x2 =>
  AE (x2) (
   AX w2.states s8 fun x3 =>
   AG (R6 s5 s6 s7 s8 x3.accept w2) fun o4 =>
   AX s5 s8 fun x5 =>
   AE (x5) (
    AX w2.states s8 fun x6 =>
    AE (!x6.accept) (
     AG (JL s5 s6 o4 s8 true w2) fun o7 =>
     some (o7,o4)) (
     AX w2.states s8 fun x8 =>
     AG (JL s5 s6 o4 s8 x8.next w2) fun o9 =>
     some (o9,o4))) (
    AG (JL s5 s6 o4 s8 false w2) fun o10 =>
    some (o10,o4))) (
   AG (R6 s5 s6 s7 s8 false w2) fun o11 =>
   AX s5 s8 fun x12 =>
   AE (x12) (
    AX w2.states s8 fun x13 =>
    AE (!x13.accept) (
     AG (JL s5 s6 o11 s8 true w2) fun o14 =>
     some (o14,o11)) (
     AX w2.states s8 fun x15 =>
     AG (JL s5 s6 o11 s8 x15.next w2) fun o16 =>
     some (o16,o11))) (
    AG (JL s5 s6 o11 s8 false w2) fun o17 =>
    some (o17,o11)))
def HH (s5 : List Bool) (w2 : AB) (s6 s7 : Bool) (s8 : Int) : Option ((Bool × Bool × Int) ⊕ ((Bool × Bool))) :=
  AE (decide (s8 < (s5.length : Int))) (
   AG (XX s5 s6 s7 s8 w2) fun o18 =>
   some (.inl (o18.1,o18.2,(AA .add .i64 s8 1)))) (
   some (.inr (s6,s7)))
def aDz (s5 : List Bool) (w2 : AB) (s6 s7 : Bool) (s8 : Int) : Option ((Bool × Bool)) := AY (fun s : Bool × Bool × Int => HH s5 w2 s.1 s.2.1 s.2.2) (s6,s7,s8)
def Xs (a0 : AB) (a1 : Int) : Option (Int) :=
  AG (Xx a0 a1) fun r1 =>
  AG (aDz r1 a0 true true 0) fun o19 =>
  AE (o19.1) (
   some 1) (
   AE (o19.2) (
    some 2) (
    some 0))
def Hc (w1 : AB) (w3 s4 : Int) (w600 : List X0) : Option ((Int × List X0) ⊕ ((List X0))) :=
  AE (decide (s4 < (w1.frees.length : Int))) (
   AX w1.frees s4 fun x2 =>
   Aa (fit w600.length [x2.init_].length 40) (
    some (.inl ((AA .add .i64 s4 1),w600 ++ [x2.init_])))) (
   some (.inr w600))
def aEn (w1 : AB) (w3 s4 : Int) (w600 : List X0) : Option ((List X0)) := AY (fun s : Int × List X0 => Hc w1 w3 s.1 s.2) (s4,w600)
def Yx (a0 : AB) : Option (List X2) :=
  AG (aEn a0 a0.start 0 ([] : List X0)) fun o3 =>
  some [X2.mk a0.start o3]
def F6 (w2 w3 : X2) (s5 : Int) : Option ((Int) ⊕ (Unit ⊕ Bool)) :=
  AE (decide (s5 < (w2.vals.length : Int))) (
   AE (decide (s5 < (w3.vals.length : Int))) (
    AX w2.vals s5 fun x1 =>
    AX w3.vals s5 fun x2 =>
    AE (!(X0.eqb x1 x2)) (
     AX w2.vals s5 fun x3 =>
     AX w3.vals s5 fun x4 =>
     AG (Z4 x3 x4) fun r5 =>
     some (.inr (.inr r5))) (
     some (.inl (AA .add .i64 s5 1)))) (
    some (.inr (.inl ())))) (
   some (.inr (.inl ())))
def aEd (w2 w3 : X2) (s5 : Int) : Option (Unit ⊕ Bool) := AY (fun s : Int => F6 w2 w3 s) s5
def Yl (a0 a1 : X2) : Option (Bool) :=
  AE (!decide (a0.state = a1.state)) (
   some (decide (a0.state < a1.state))) (
   AG (aEd a0 a1 0) fun o6 =>
   Cj o6 (fun o7 =>
    some (decide ((a0.vals.length : Int) < (a1.vals.length : Int)))) (fun o8 =>
    some o8))
def Q8 (a0 a1 : X2) : Option (Bool) :=
  AG (Yl a0 a1) fun r1 =>
  AE (!r1) (
   AG (Yl a1 a0) fun r2 =>
   some (!r2)) (
   some false)
def HT (s0 : List X2) (w3 : X2) (s5 : Int) : Option ((Int) ⊕ (Int)) :=
  AE (decide (0 < s5)) (
   AX s0 (AA .sub .i64 s5 1) fun x1 =>
   AG (Yl w3 x1) fun r2 =>
   AE (r2) (
    some (.inl (AA .sub .i64 s5 1))) (
    some (.inr s5))) (
   some (.inr s5))
def Ow (s0 : List X2) (w3 : X2) (s5 : Int) : Option (Int) := AY (fun s : Int => HT s0 w3 s) s5
theorem NR (s0 : List X2) (w3 : X2) (s5 : Int) : Ow s0 w3 s5 = Df (HT s0 w3 s5) (fun s : Int => Ow s0 w3 s) := A5 _ _
def Yi (a0 : List X2) (a1 : X2) : Option (List X2) :=
  AG (Ow a0 a1 (a0.length : Int)) fun o3 =>
  AE (decide (0 < o3)) (
   AX a0 (AA .sub .i64 o3 1) fun x4 =>
   AG (Q8 x4 a1) fun r5 =>
   AE (r5) (
    some a0) (
    Aa ((0 : Int) ≤ 0 ∧ (0 : Int) ≤ o3 ∧ o3 ≤ (a0.length : Int)) (
     Aa (fit ([] : List X2).length (sub a0 0 o3).length 32) (
      Aa (fit (([] : List X2) ++ (sub a0 0 o3)).length [a1].length 32) (
       Aa ((0 : Int) ≤ o3 ∧ (o3 : Int) ≤ (a0.length : Int) ∧ (a0.length : Int) ≤ (a0.length : Int)) (
        Aa (fit ((([] : List X2) ++ (sub a0 0 o3)) ++ [a1]).length (sub a0 o3 (a0.length : Int)).length 32) (
         some (((([] : List X2) ++ (sub a0 0 o3)) ++ [a1]) ++ (sub a0 o3 (a0.length : Int)))))))))) (
   Aa ((0 : Int) ≤ 0 ∧ (0 : Int) ≤ o3 ∧ o3 ≤ (a0.length : Int)) (
    Aa (fit ([] : List X2).length (sub a0 0 o3).length 32) (
     Aa (fit (([] : List X2) ++ (sub a0 0 o3)).length [a1].length 32) (
      Aa ((0 : Int) ≤ o3 ∧ (o3 : Int) ≤ (a0.length : Int) ∧ (a0.length : Int) ≤ (a0.length : Int)) (
       Aa (fit ((([] : List X2) ++ (sub a0 0 o3)) ++ [a1]).length (sub a0 o3 (a0.length : Int)).length 32) (
        some (((([] : List X2) ++ (sub a0 0 o3)) ++ [a1]) ++ (sub a0 o3 (a0.length : Int)))))))))
def HV (s0 s3 : List X2) (s4 : Int) : Option ((List X2 × Int) ⊕ ((List X2))) :=
  AE (decide (s4 < (s0.length : Int))) (
   AX s0 s4 fun x3 =>
   AG (Yi s3 x3) fun r4 =>
   some (.inl (r4,(AA .add .i64 s4 1)))) (
   some (.inr s3))
def aEg (s0 s3 : List X2) (s4 : Int) : Option ((List X2)) := AY (fun s : List X2 × Int => HV s0 s.1 s.2) (s3,s4)
def Yo (a0 : List X2) : Option (List X2) :=
  AG (aEg a0 ([] : List X2) 0) fun o5 =>
  some o5
def F5 (s1 : List X2) (w2 : AB) (s5 : Bool) (s6 : Int) : Option ((Bool × Int) ⊕ (Bool ⊕ Unit)) :=
  AE (decide (s6 < (s1.length : Int))) (
   AX s1 s6 fun x1 =>
   AG (Xs w2 x1.state) fun r2 =>
   AE (decide (r2 = 1)) (
    some (.inr (.inr ()))) (
    AE (s5) (
     some (.inl (decide (r2 = 2),(AA .add .i64 s6 1)))) (
     some (.inl (false,(AA .add .i64 s6 1)))))) (
   some (.inr (.inl s5)))
def aEc (s1 : List X2) (w2 : AB) (s5 : Bool) (s6 : Int) : Option (Bool ⊕ Unit) := AY (fun s : Bool × Int => F5 s1 w2 s.1 s.2) (s5,s6)
def Yj (a0 : AB) (a1 : List X2) : Option (Int) :=
  AG (aEc a1 a0 true 0) fun o3 =>
  Cj o3 (fun o4 =>
   AE (o4) (
    some 2) (
    some 0)) (fun o5 =>
   some 1)
def Lr (s1 : Int) (s2 : List Int) (s7 : Int) (s27 : Bool) (w3 : AB) : Option (Int) :=
  AE (s27) (
   AG (Xs w3 s1) fun r4 =>
   some r4) (
   some s7)
def Oe (s1 : Int) (s2 : List Int) (s7 s9 : Int) (s51 : Bool) (w3 : AB) (w8 : List X2) : Option ((List X2)) :=
  AE (s51) (
   AX s2 s9 fun x16 =>
   AG (Yx w3) fun r17 =>
   AX r17 0 fun x18 =>
   Aa (fit w8.length [X2.mk x16 x18.vals].length 32) (
    some (w8 ++ [X2.mk x16 x18.vals]))) (
   some w8)
def Rw (s1 : Int) (s2 : List Int) (s7 s9 : Int) (w3 : AB) (w8 : List X2) : Option ((List X2)) :=
  AX s2 s9 fun x14 =>
  AE (decide (0 ≤ x14)) (
   AX s2 s9 fun x15 =>
   AG (Oe s1 s2 s7 s9 (decide (x15 < (w3.states.length : Int))) w3 w8) fun o19 =>
   some o19) (
   AG (Oe s1 s2 s7 s9 false w3 w8) fun o20 =>
   some o20)
def Fv (s1 : Int) (s2 : List Int) (s7 : Int) (w3 : AB) (s9 : Int) (w8 : List X2) : Option ((Int × List X2) ⊕ ((List X2))) :=
  AE (decide (s9 < (s2.length : Int))) (
   AG (Rw s1 s2 s7 s9 w3 w8) fun o21 =>
   some (.inl ((AA .add .i64 s9 1),o21))) (
   some (.inr w8))
def Rx (s1 : Int) (s2 : List Int) (s7 : Int) (w3 : AB) (s9 : Int) (w8 : List X2) : Option ((List X2)) := AY (fun s : Int × List X2 => Fv s1 s2 s7 w3 s.1 s.2) (s9,w8)
def Xp (a0 : AB) (a1 : Int) (a2 : List Int) : Option (Bool) :=
  AG (Yw a0) fun r1 =>
  AE (!r1) (
   AG (Z1) fun r2 =>
   some r2) (
   AE (decide (20 < (a2.length : Int))) (
    AG (Z1) fun r3 =>
    some r3) (
    AE (decide (0 ≤ a1)) (
     AG (Lr a1 a2 0 (decide (a1 < (a0.states.length : Int))) a0) fun o5 =>
     AG (Rx a1 a2 o5 a0 0 ([] : List X2)) fun o22 =>
     AG (Yo o22) fun r23 =>
     AG (Yf a0 a1) fun r24 =>
     AE (decide (r24 = o5)) (
      AG (Xh a0 r23) fun r25 =>
      AG (Yj a0 r23) fun r26 =>
      AE (decide (r25 = r26)) (
       AG (Z1) fun r27 =>
       some r27) (
       some false)) (
      some false)) (
     AG (Lr a1 a2 0 false a0) fun o28 =>
     AG (Rx a1 a2 o28 a0 0 ([] : List X2)) fun o29 =>
     AG (Yo o29) fun r30 =>
     AG (Yf a0 a1) fun r31 =>
     AE (decide (r31 = o28)) (
      AG (Xh a0 r30) fun r32 =>
      AG (Yj a0 r30) fun r33 =>
      AE (decide (r32 = r33)) (
       AG (Z1) fun r34 =>
       some r34) (
       some false)) (
      some false))))
end
end Go.Ac
