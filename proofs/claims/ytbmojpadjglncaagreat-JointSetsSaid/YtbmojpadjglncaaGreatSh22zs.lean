/- Own work, printed: the functions as Lean functions. -/
import Derived.Test.YtbmojpadjglncaaGreatAcC
set_option linter.unusedVariables false
set_option linter.unusedSimpArgs false
namespace Go.Ac
noncomputable section
abbrev aTr (P : Program) (rd : Option Nat) (root : Code) (p : List Nat) (s : St) (x : Ex × St) : Prop := Cl P rd root p s x.1 x.2
abbrev dI (x : Int) : A := .d (D.i .i64 x)
abbrev sI (n : Nat) (x : Int) : Nat × A := (n,dI x)
abbrev sD {α : Type} (n : Nat) (f : α → D) (x : α) : Nat × A := (n,.d (f x))
abbrev bx (n : Nat) : Nat × A := (n,.box n 0)
abbrev rx (n : Nat) : Nat × A := (n,.row n)
abbrev cL {α : Type} (n : Nat) (f : α → D) (x : α) : Nat × Bk := (n,.cells (aMv (f x)))
abbrev rW {α : Type} (n e k : Nat) (f : α → D) (x : List α) : Nat × Bk := (n,.rw e k (x.map f))
abbrev eP {α : Type} (n : Nat) (f : α → D) (x : α) : Nat × A := (n,.eptr (D.cells (f x)))
abbrev dU : Int → D := D.i .u64
abbrev dW : Int → D := D.i .u32
abbrev dZ : Int → D := D.i .i64
abbrev bT (n : Nat) : Nat × W := (n,.bit true)
abbrev bF (n : Nat) : Nat × W := (n,.bit false)
structure X6 where
  name : List UInt8
  types : List Int
  deriving DecidableEq
def X6.D (v : X6) : D := .agg ([D.s v.name] ++ [(D.l (D.i .i64)) v.types])
instance : CT X6.D 2 := ⟨fun _ => rfl⟩
structure Y4 where
  all : Bool
  name : List UInt8
  type : Int
def Y4.D (v : Y4) : D := .agg ([D.b v.all] ++ [D.s v.name] ++ [(D.i .i64) v.type])
instance : CT Y4.D 3 := ⟨fun _ => rfl⟩
def Y4.eqb (a b : Y4) : Bool := ((a.all == b.all) && (decide (a.name = b.name) && (decide (a.type = b.type) && true)))
theorem Y4.eqb_iff (a b : Y4) : Y4.eqb a b = true ↔ a = b := by
  cases a; cases b; simp [Y4.eqb]
instance : DecidableEq Y4 := fun a b => decidable_of_iff (Y4.eqb a b = true) (Y4.eqb_iff a b)
structure X0 where
  kind : Int
  int : Int
  str : List UInt8
  bool : Bool
def X0.D (v : X0) : D := .agg ([(D.i .i64) v.kind] ++ [(D.i .i64) v.int] ++ [D.s v.str] ++ [D.b v.bool])
instance : CT X0.D 4 := ⟨fun _ => rfl⟩
def X0.eqb (a b : X0) : Bool := (decide (a.kind = b.kind) && (decide (a.int = b.int) && (decide (a.str = b.str) && ((a.bool == b.bool) && true))))
theorem X0.eqb_iff (a b : X0) : X0.eqb a b = true ↔ a = b := by
  cases a; cases b; simp [X0.eqb]
instance : DecidableEq X0 := fun a b => decidable_of_iff (X0.eqb a b = true) (X0.eqb_iff a b)
structure Ya where
  name : List UInt8
  init_ : X0
def Ya.D (v : Ya) : D := .agg ([D.s v.name] ++ (X0.D v.init_).cells)
instance : CT Ya.D 5 := ⟨fun _ => rfl⟩
def Ya.eqb (a b : Ya) : Bool := (decide (a.name = b.name) && (X0.eqb a.init_ b.init_ && true))
theorem Ya.eqb_iff (a b : Ya) : Ya.eqb a b = true ↔ a = b := by
  cases a; cases b; simp [Ya.eqb,X0.eqb_iff]
instance : DecidableEq Ya := fun a b => decidable_of_iff (Ya.eqb a b = true) (Ya.eqb_iff a b)
structure Yh where
  name : List UInt8
  next : Bool
  accept : Bool
def Yh.D (v : Yh) : D := .agg ([D.s v.name] ++ [D.b v.next] ++ [D.b v.accept])
instance : CT Yh.D 3 := ⟨fun _ => rfl⟩
def Yh.eqb (a b : Yh) : Bool := (decide (a.name = b.name) && ((a.next == b.next) && ((a.accept == b.accept) && true)))
theorem Yh.eqb_iff (a b : Yh) : Yh.eqb a b = true ↔ a = b := by
  cases a; cases b; simp [Yh.eqb]
instance : DecidableEq Yh := fun a b => decidable_of_iff (Yh.eqb a b = true) (Yh.eqb_iff a b)
structure Av where
  kind : Int
  n : Int
  value : X0
def Av.D (v : Av) : D := .agg ([(D.i .i64) v.kind] ++ [(D.i .i64) v.n] ++ (X0.D v.value).cells)
instance : CT Av.D 6 := ⟨fun _ => rfl⟩
def Av.eqb (a b : Av) : Bool := (decide (a.kind = b.kind) && (decide (a.n = b.n) && (X0.eqb a.value b.value && true)))
theorem Av.eqb_iff (a b : Av) : Av.eqb a b = true ↔ a = b := by
  cases a; cases b; simp [Av.eqb,X0.eqb_iff]
instance : DecidableEq Av := fun a b => decidable_of_iff (Av.eqb a b = true) (Av.eqb_iff a b)
structure X5 where
  event : Int
  args : List Av
  deriving DecidableEq
def X5.D (v : X5) : D := .agg ([(D.i .i64) v.event] ++ [(D.l Av.D) v.args])
instance : CT X5.D 2 := ⟨fun _ => rfl⟩
structure Ym where
  op : Int
  a : Int
  b : Int
  value : X0
def Ym.D (v : Ym) : D := .agg ([(D.i .i64) v.op] ++ [(D.i .i64) v.a] ++ [(D.i .i64) v.b] ++ (X0.D v.value).cells)
instance : CT Ym.D 7 := ⟨fun _ => rfl⟩
def Ym.eqb (a b : Ym) : Bool := (decide (a.op = b.op) && (decide (a.a = b.a) && (decide (a.b = b.b) && (X0.eqb a.value b.value && true))))
theorem Ym.eqb_iff (a b : Ym) : Ym.eqb a b = true ↔ a = b := by
  cases a; cases b; simp [Ym.eqb,X0.eqb_iff]
instance : DecidableEq Ym := fun a b => decidable_of_iff (Ym.eqb a b = true) (Ym.eqb_iff a b)
structure EG where
  free : Int
  expr : Int
def EG.D (v : EG) : D := .agg ([(D.i .i64) v.free] ++ [(D.i .i64) v.expr])
instance : CT EG.D 2 := ⟨fun _ => rfl⟩
def EG.eqb (a b : EG) : Bool := (decide (a.free = b.free) && (decide (a.expr = b.expr) && true))
theorem EG.eqb_iff (a b : EG) : EG.eqb a b = true ↔ a = b := by
  cases a; cases b; simp [EG.eqb]
instance : DecidableEq EG := fun a b => decidable_of_iff (EG.eqb a b = true) (EG.eqb_iff a b)
structure Xm where
  from_ : Int
  symbol : Int
  to : Int
  guard : Int
  sets : List EG
  deriving DecidableEq
def Xm.D (v : Xm) : D := .agg ([(D.i .i64) v.from_] ++ [(D.i .i64) v.symbol] ++ [(D.i .i64) v.to] ++ [(D.i .i64) v.guard] ++ [(D.l EG.D) v.sets])
instance : CT Xm.D 5 := ⟨fun _ => rfl⟩
structure AE where
  name : List UInt8
  decls : List X6
  quants : List Y4
  frees : List Ya
  states : List Yh
  start : Int
  symbols : List X5
  nodes : List Ym
  trans : List Xm
  deriving DecidableEq
def AE.D (v : AE) : D := .agg ([D.s v.name] ++ [(D.l X6.D) v.decls] ++ [(D.l Y4.D) v.quants] ++ [(D.l Ya.D) v.frees] ++ [(D.l Yh.D) v.states] ++ [(D.i .i64) v.start] ++ [(D.l X5.D) v.symbols] ++ [(D.l Ym.D) v.nodes] ++ [(D.l Xm.D) v.trans])
instance : CT AE.D 9 := ⟨fun _ => rfl⟩
structure X2 where
  var : Int
  value : X0
def X2.D (v : X2) : D := .agg ([(D.i .i64) v.var] ++ (X0.D v.value).cells)
instance : CT X2.D 5 := ⟨fun _ => rfl⟩
def X2.eqb (a b : X2) : Bool := (decide (a.var = b.var) && (X0.eqb a.value b.value && true))
theorem X2.eqb_iff (a b : X2) : X2.eqb a b = true ↔ a = b := by
  cases a; cases b; simp [X2.eqb,X0.eqb_iff]
instance : DecidableEq X2 := fun a b => decidable_of_iff (X2.eqb a b = true) (X2.eqb_iff a b)
structure Xh where
  q : AE
  b : List X2
  d_ : Int
  at_ : Int
  deriving DecidableEq
def Xh.D (v : Xh) : D := .agg ((AE.D v.q).cells ++ [(D.l X2.D) v.b] ++ [(D.i .i64) v.d_] ++ [(D.i .i64) v.at_])
instance : CT Xh.D 12 := ⟨fun _ => rfl⟩
structure X3 where
  name : List UInt8
  args : List X0
  deriving DecidableEq
def X3.D (v : X3) : D := .agg ([D.s v.name] ++ [(D.l X0.D) v.args])
instance : CT X3.D 2 := ⟨fun _ => rfl⟩
structure AN where
  symbol : Int
  bind : List X2
  frees : List X2
  deriving DecidableEq
def AN.D (v : AN) : D := .agg ([(D.i .i64) v.symbol] ++ [(D.l X2.D) v.bind] ++ [(D.l X2.D) v.frees])
instance : CT AN.D 3 := ⟨fun _ => rfl⟩
def GW (w1 : AE) (s3 : Int) : Option ((Int) ⊕ (Unit ⊕ Unit)) :=
  AD (decide (s3 < (w1.decls.length : Int))) (
   AV w1.decls s3 fun x1 =>
   AD (decide (12 < (x1.types.length : Int))) (
    some (.inr (.inr ()))) (
    AV w1.decls s3 fun x2 =>
    AD (decide (100 < (x2.name.length : Int))) (
     some (.inr (.inr ()))) (
     some (.inl (AA .add .i64 s3 1))))) (
   some (.inr (.inl ())))
def aIa (w1 : AE) (s3 : Int) : Option (Unit ⊕ Unit) := AW (fun s : Int => GW w1 s) s3
def GY (s4 : Int) (w1 : AE) (s5 : Int) : Option ((Int) ⊕ (Unit ⊕ Unit)) :=
  AV w1.symbols s4 fun x7 =>
  AD (decide (s5 < (x7.args.length : Int))) (
   AV w1.symbols s4 fun x8 =>
   AV x8.args s5 fun x9 =>
   AD (decide (100 < (x9.value.str.length : Int))) (
    some (.inr (.inr ()))) (
    some (.inl (AA .add .i64 s5 1)))) (
   some (.inr (.inl ())))
def aIc (s4 : Int) (w1 : AE) (s5 : Int) : Option (Unit ⊕ Unit) := AW (fun s : Int => GY s4 w1 s) s5
def GX (w1 : AE) (s4 : Int) : Option ((Int) ⊕ (Unit ⊕ Unit)) :=
  AD (decide (s4 < (w1.symbols.length : Int))) (
   AV w1.symbols s4 fun x6 =>
   AD (decide (12 < (x6.args.length : Int))) (
    some (.inr (.inr ()))) (
    AF (aIc s4 w1 0) fun o10 =>
    BI o10 (fun o11 =>
     some (.inl (AA .add .i64 s4 1))) (fun o12 =>
     some (.inr (.inr ()))))) (
   some (.inr (.inl ())))
def aIb (w1 : AE) (s4 : Int) : Option (Unit ⊕ Unit) := AW (fun s : Int => GX w1 s) s4
def GZ (w1 : AE) (s6 : Int) : Option ((Int) ⊕ (Unit ⊕ Unit)) :=
  AD (decide (s6 < (w1.frees.length : Int))) (
   AV w1.frees s6 fun x16 =>
   AD (decide (100 < (x16.init_.str.length : Int))) (
    some (.inr (.inr ()))) (
    some (.inl (AA .add .i64 s6 1)))) (
   some (.inr (.inl ())))
def aId (w1 : AE) (s6 : Int) : Option (Unit ⊕ Unit) := AW (fun s : Int => GZ w1 s) s6
def Ga (w1 : AE) (s7 : Int) : Option ((Int) ⊕ (Unit ⊕ Unit)) :=
  AD (decide (s7 < (w1.nodes.length : Int))) (
   AV w1.nodes s7 fun x20 =>
   AD (decide (100 < (x20.value.str.length : Int))) (
    some (.inr (.inr ()))) (
    some (.inl (AA .add .i64 s7 1)))) (
   some (.inr (.inl ())))
def aIe (w1 : AE) (s7 : Int) : Option (Unit ⊕ Unit) := AW (fun s : Int => Ga w1 s) s7
def Gb (w1 : AE) (s8 : Int) : Option ((Int) ⊕ (Unit ⊕ Unit)) :=
  AD (decide (s8 < (w1.trans.length : Int))) (
   AV w1.trans s8 fun x24 =>
   AD (decide (12 < (x24.sets.length : Int))) (
    some (.inr (.inr ()))) (
    some (.inl (AA .add .i64 s8 1)))) (
   some (.inr (.inl ())))
def aIf (w1 : AE) (s8 : Int) : Option (Unit ⊕ Unit) := AW (fun s : Int => Gb w1 s) s8
def Xb (a0 : AE) : Option (Int) :=
  AD (decide (12 < (a0.decls.length : Int))) (
   some 0) (
   AD (decide (9 < (a0.quants.length : Int))) (
    some 0) (
    AD (decide (12 < (a0.frees.length : Int))) (
     some 0) (
     AD (decide (12 < (a0.states.length : Int))) (
      some 0) (
      AD (decide (12 < (a0.symbols.length : Int))) (
       some 0) (
       AD (decide (12 < (a0.trans.length : Int))) (
        some 0) (
        AD (decide (40 < (a0.nodes.length : Int))) (
         some 0) (
         AD (decide (100 < (a0.name.length : Int))) (
          some 0) (
          AF (aIa a0 0) fun o3 =>
          BI o3 (fun o4 =>
           AF (aIb a0 0) fun o13 =>
           BI o13 (fun o14 =>
            AF (aId a0 0) fun o17 =>
            BI o17 (fun o18 =>
             AF (aIe a0 0) fun o21 =>
             BI o21 (fun o22 =>
              AF (aIf a0 0) fun o25 =>
              BI o25 (fun o26 =>
               some 1) (fun o27 =>
               some 0)) (fun o23 =>
              some 0)) (fun o19 =>
             some 0)) (fun o15 =>
            some 0)) (fun o5 =>
           some 0)))))))))
def Qs : Option (List (List UInt8)) :=
  some ([([97,99,99,101,112,116] : List UInt8),([97,108,115,111] : List UInt8),([97,110,100] : List UInt8),([98,111,111,108] : List UInt8),([100,111] : List UInt8),([101,118,101,110,116] : List UInt8),([101,120,105,115,116,115] : List UInt8),([102,97,108,115,101] : List UInt8),([102,111,114,97,108,108] : List UInt8),([102,114,101,101] : List UInt8),([105,102] : List UInt8),([105,110,116] : List UInt8),([110,101,120,116] : List UInt8),([110,111,116] : List UInt8),([111,110] : List UInt8),([111,114] : List UInt8),([113,101,97] : List UInt8),([115,107,105,112] : List UInt8),([115,116,97,114,116] : List UInt8),([115,116,114,105,110,103] : List UInt8),([116,111] : List UInt8),([116,114,117,101] : List UInt8)])
def HK (s0 : List UInt8) (s3 : Int) : Option ((Int) ⊕ (Unit ⊕ Unit)) :=
  AD (decide (s3 < (s0.length : Int))) (
   AV s0 s3 fun x1 =>
   AD (decide (((65 : UInt8).toNat : Int) ≤ (x1.toNat : Int))) (
    AD (decide ((x1.toNat : Int) ≤ ((90 : UInt8).toNat : Int))) (
     some (.inl (AA .add .i64 s3 1))) (
     AD (decide (((97 : UInt8).toNat : Int) ≤ (x1.toNat : Int))) (
      AD (decide ((x1.toNat : Int) ≤ ((122 : UInt8).toNat : Int))) (
       some (.inl (AA .add .i64 s3 1))) (
       AD (!(decide ((x1.toNat : Int) = ((95 : UInt8).toNat : Int)))) (
        AD (decide (s3 = 0)) (
         some (.inr (.inr ()))) (
         AD (decide ((x1.toNat : Int) < ((48 : UInt8).toNat : Int))) (
          some (.inr (.inr ()))) (
          AD (decide (((57 : UInt8).toNat : Int) < (x1.toNat : Int))) (
           some (.inr (.inr ()))) (
           some (.inl (AA .add .i64 s3 1)))))) (
        some (.inl (AA .add .i64 s3 1))))) (
      AD (!(decide ((x1.toNat : Int) = ((95 : UInt8).toNat : Int)))) (
       AD (decide (s3 = 0)) (
        some (.inr (.inr ()))) (
        AD (decide ((x1.toNat : Int) < ((48 : UInt8).toNat : Int))) (
         some (.inr (.inr ()))) (
         AD (decide (((57 : UInt8).toNat : Int) < (x1.toNat : Int))) (
          some (.inr (.inr ()))) (
          some (.inl (AA .add .i64 s3 1)))))) (
       some (.inl (AA .add .i64 s3 1)))))) (
    AD (decide (((97 : UInt8).toNat : Int) ≤ (x1.toNat : Int))) (
     AD (decide ((x1.toNat : Int) ≤ ((122 : UInt8).toNat : Int))) (
      some (.inl (AA .add .i64 s3 1))) (
      AD (!(decide ((x1.toNat : Int) = ((95 : UInt8).toNat : Int)))) (
       AD (decide (s3 = 0)) (
        some (.inr (.inr ()))) (
        AD (decide ((x1.toNat : Int) < ((48 : UInt8).toNat : Int))) (
         some (.inr (.inr ()))) (
         AD (decide (((57 : UInt8).toNat : Int) < (x1.toNat : Int))) (
          some (.inr (.inr ()))) (
          some (.inl (AA .add .i64 s3 1)))))) (
       some (.inl (AA .add .i64 s3 1))))) (
     AD (!(decide ((x1.toNat : Int) = ((95 : UInt8).toNat : Int)))) (
      AD (decide (s3 = 0)) (
       some (.inr (.inr ()))) (
       AD (decide ((x1.toNat : Int) < ((48 : UInt8).toNat : Int))) (
        some (.inr (.inr ()))) (
        AD (decide (((57 : UInt8).toNat : Int) < (x1.toNat : Int))) (
         some (.inr (.inr ()))) (
         some (.inl (AA .add .i64 s3 1)))))) (
      some (.inl (AA .add .i64 s3 1)))))) (
   some (.inr (.inl ())))
def aI8 (s0 : List UInt8) (s3 : Int) : Option (Unit ⊕ Unit) := AW (fun s : Int => HK s0 s) s3
def Yw (a0 : List UInt8) : Option (Bool) :=
  AD (decide ((a0.length : Int) < 1)) (
   some false) (
   AD (decide (32 < (a0.length : Int))) (
    some false) (
    AF (aI8 a0 0) fun o2 =>
    BI o2 (fun o3 =>
     some true) (fun o4 =>
     some false)))
def HC (s0 : List UInt8) (s3 : List (List UInt8)) (s4 : Int) : Option ((Int) ⊕ (Unit ⊕ Unit)) :=
  AD (decide (s4 < (s3.length : Int))) (
   AV s3 s4 fun x2 =>
   AD (decide (x2 = s0)) (
    some (.inr (.inr ()))) (
    some (.inl (AA .add .i64 s4 1)))) (
   some (.inr (.inl ())))
def aI4 (s0 : List UInt8) (s3 : List (List UInt8)) (s4 : Int) : Option (Unit ⊕ Unit) := AW (fun s : Int => HC s0 s3 s) s4
def Yi (a0 : List UInt8) : Option (Bool) :=
  AF (Qs) fun r1 =>
  AF (aI4 a0 r1 0) fun o3 =>
  BI o3 (fun o4 =>
   AF (Yw a0) fun r6 =>
   AD (r6) (
    some (!decide (a0 = ([95] : List UInt8)))) (
    some false)) (fun o5 =>
   some false)
def JQ (s0 : List X6) (s1 : List UInt8) (s5 : Int) : Option ((Int) ⊕ (Unit ⊕ Int)) :=
  AD (decide (s5 < (s0.length : Int))) (
   AV s0 s5 fun x1 =>
   AD (decide (x1.name = s1)) (
    some (.inr (.inr s5))) (
    some (.inl (AA .add .i64 s5 1)))) (
   some (.inr (.inl ())))
def aI5 (s0 : List X6) (s1 : List UInt8) (s5 : Int) : Option (Unit ⊕ Int) := AW (fun s : Int => JQ s0 s1 s) s5
def Yq (a0 : List X6) (a1 : List UInt8) : Option (Int) :=
  AF (aI5 a0 a1 0) fun o2 =>
  BI o2 (fun o3 =>
   some (-1)) (fun o4 =>
   some o4)
def DW (s0 : List X6) (s4 s5 : Int) : Option ((Int) ⊕ (Unit ⊕ Unit)) :=
  AV s0 s4 fun x6 =>
  AD (decide (s5 < (x6.types.length : Int))) (
   AV s0 s4 fun x7 =>
   AV x7.types s5 fun x8 =>
   AD (decide (x8 < 1)) (
    some (.inr (.inr ()))) (
    AV s0 s4 fun x9 =>
    AV x9.types s5 fun x10 =>
    AD (decide (3 < x10)) (
     some (.inr (.inr ()))) (
     some (.inl (AA .add .i64 s5 1))))) (
   some (.inr (.inl ())))
def aBw (s0 : List X6) (s4 s5 : Int) : Option (Unit ⊕ Unit) := AW (fun s : Int => DW s0 s4 s) s5
def DV (s0 : List X6) (s4 : Int) : Option ((Int) ⊕ (Unit ⊕ (Int × Int))) :=
  AD (decide (s4 < (s0.length : Int))) (
   AV s0 s4 fun x1 =>
   AF (Yi x1.name) fun r2 =>
   AD (!r2) (
    some (.inr (.inr (11,s4)))) (
    AV s0 s4 fun x3 =>
    AF (Yq s0 x3.name) fun r4 =>
    AD (decide (r4 < s4)) (
     some (.inr (.inr (10,s4)))) (
     AV s0 s4 fun x5 =>
     AD (decide (8 < (x5.types.length : Int))) (
      some (.inr (.inr (14,s4)))) (
      AF (aBw s0 s4 0) fun o11 =>
      BI o11 (fun o12 =>
       some (.inl (AA .add .i64 s4 1))) (fun o13 =>
       some (.inr (.inr (8,s4)))))))) (
   some (.inr (.inl ())))
def aBu (s0 : List X6) (s4 : Int) : Option (Unit ⊕ (Int × Int)) := AW (fun s : Int => DV s0 s) s4
def Xv (a0 : List X6) : Option (Int × Int) :=
  AD (decide (32 < (a0.length : Int))) (
   some (14,32)) (
   AF (aBu a0 0) fun o14 =>
   BI o14 (fun o15 =>
    some (0,(-1))) (fun o16 =>
    some (o16.1,o16.2)))
def Z2 (a0 : X0) : Option (Bool) :=
  AD (decide (a0.kind = 1)) (
   AD (decide (a0.str = ([] : List UInt8))) (
    some (!a0.bool)) (
    some false)) (
   AD (decide (a0.kind = 2)) (
    AD (decide (a0.int = 0)) (
     AD (!a0.bool) (
      some (decide ((a0.str.length : Int) ≤ 4096))) (
      some false)) (
     some false)) (
    AD (decide (a0.kind = 3)) (
     AD (decide (a0.int = 0)) (
      some (decide (a0.str = ([] : List UInt8)))) (
      some false)) (
     some false)))
def HO (s0 : List (List UInt8)) (s1 s5 : Int) : Option ((Int) ⊕ (Unit ⊕ Unit)) :=
  AD (decide (s5 < s1)) (
   AV s0 s5 fun x1 =>
   AV s0 s1 fun x2 =>
   AD (decide (x1 = x2)) (
    some (.inr (.inr ()))) (
    some (.inl (AA .add .i64 s5 1)))) (
   some (.inr (.inl ())))
def aMd (s0 : List (List UInt8)) (s1 s5 : Int) : Option (Unit ⊕ Unit) := AW (fun s : Int => HO s0 s1 s) s5
def Z3 (a0 : List (List UInt8)) (a1 : Int) : Option (Bool) :=
  AF (aMd a0 a1 0) fun o3 =>
  BI o3 (fun o4 =>
   some false) (fun o5 =>
   some true)
def Gi (w1 : AE) (s4 : Int) (w3 : List (List UInt8)) : Option ((Int × List (List UInt8)) ⊕ ((List (List UInt8)) ⊕ Unit)) :=
  AD (decide (s4 < (w1.quants.length : Int))) (
   AV w1.quants s4 fun x4 =>
   AZ (fit w3.length [x4.name].length 16) (
    AV w1.quants s4 fun x5 =>
    AD (decide (x5.type < 1)) (
     some (.inr (.inr ()))) (
     AV w1.quants s4 fun x6 =>
     AD (decide (3 < x6.type)) (
      some (.inr (.inr ()))) (
      some (.inl ((AA .add .i64 s4 1),w3 ++ [x4.name])))))) (
   some (.inr (.inl w3)))
def aLo (w1 : AE) (s4 : Int) (w3 : List (List UInt8)) : Option ((List (List UInt8)) ⊕ Unit) := AW (fun s : Int × List (List UInt8) => Gi w1 s.1 s.2) (s4,w3)
def Gj (w1 : AE) (s5 : Int) (w3 : List (List UInt8)) : Option ((Int × List (List UInt8)) ⊕ ((List (List UInt8)) ⊕ Unit)) :=
  AD (decide (s5 < (w1.frees.length : Int))) (
   AV w1.frees s5 fun x10 =>
   AZ (fit w3.length [x10.name].length 16) (
    AV w1.frees s5 fun x11 =>
    AF (Z2 x11.init_) fun r12 =>
    AD (!r12) (
     some (.inr (.inr ()))) (
     some (.inl ((AA .add .i64 s5 1),w3 ++ [x10.name]))))) (
   some (.inr (.inl w3)))
def aLp (w1 : AE) (s5 : Int) (w3 : List (List UInt8)) : Option ((List (List UInt8)) ⊕ Unit) := AW (fun s : Int × List (List UInt8) => Gj w1 s.1 s.2) (s5,w3)
def Gk (w1 : AE) (w3 : List (List UInt8)) (s6 : Int) : Option ((Int) ⊕ (Unit ⊕ Unit)) :=
  AD (decide (s6 < (w3.length : Int))) (
   AV w3 s6 fun x16 =>
   AF (Yi x16) fun r17 =>
   AD (!r17) (
    some (.inr (.inr ()))) (
    AF (Z3 w3 s6) fun r18 =>
    AD (r18) (
     some (.inr (.inr ()))) (
     some (.inl (AA .add .i64 s6 1))))) (
   some (.inr (.inl ())))
def aLq (w1 : AE) (w3 : List (List UInt8)) (s6 : Int) : Option (Unit ⊕ Unit) := AW (fun s : Int => Gk w1 w3 s) s6
def Gm (w1 : AE) (s8 : Int) (w7 : List (List UInt8)) : Option ((Int × List (List UInt8)) ⊕ (Unit ⊕ Unit)) :=
  AD (decide (s8 < (w1.states.length : Int))) (
   AV w1.states s8 fun x26 =>
   AZ (fit w7.length [x26.name].length 16) (
    AV (w7 ++ [x26.name]) s8 fun x27 =>
    AF (Yi x27) fun r28 =>
    AD (!r28) (
     some (.inr (.inr ()))) (
     AF (Z3 (w7 ++ [x26.name]) s8) fun r29 =>
     AD (r29) (
      some (.inr (.inr ()))) (
      some (.inl ((AA .add .i64 s8 1),w7 ++ [x26.name])))))) (
   some (.inr (.inl ())))
def aLr (w1 : AE) (s8 : Int) (w7 : List (List UInt8)) : Option (Unit ⊕ Unit) := AW (fun s : Int × List (List UInt8) => Gm w1 s.1 s.2) (s8,w7)
def Xj (a0 : AE) : Option (Bool) :=
  AF (aLo a0 0 ([] : List (List UInt8))) fun o7 =>
  BI o7 (fun o8 =>
   AF (aLp a0 0 o8) fun o13 =>
   BI o13 (fun o14 =>
    AF (aLq a0 o14 0) fun o19 =>
    BI o19 (fun o20 =>
     AF (aLr a0 0 ([] : List (List UInt8))) fun o30 =>
     BI o30 (fun o31 =>
      AF (Yi a0.name) fun r33 =>
      some r33) (fun o32 =>
      some false)) (fun o21 =>
     some false)) (fun o15 =>
    some false)) (fun o9 =>
   some false)
def Zf (a0 : Bool) : Option (X0 × Int) :=
  some (X0.mk 3 0 ([] : List UInt8) a0,0)
def Qj (a0 a1 : Int) : Option (Int × Bool) :=
  AD (decide (0 < a1)) (
   AD (decide ((AA .sub .i64 9223372036854775807 a1) < a0)) (
    some (0,false)) (
    AD (decide (a1 < 0)) (
     AD (decide (a0 < (AA .sub .i64 (-9223372036854775808) a1))) (
      some (0,false)) (
      some ((AA .add .i64 a0 a1),true))) (
     some ((AA .add .i64 a0 a1),true)))) (
   AD (decide (a1 < 0)) (
    AD (decide (a0 < (AA .sub .i64 (-9223372036854775808) a1))) (
     some (0,false)) (
     some ((AA .add .i64 a0 a1),true))) (
    some ((AA .add .i64 a0 a1),true)))
def Zs (a0 : Int) (a1 : Bool) : Option (X0 × Int) :=
  AD (!a1) (
   some (X0.mk 0 0 ([] : List UInt8) false,6)) (
   some (X0.mk 1 a0 ([] : List UInt8) false,0))
def Zm (a0 a1 : Int) : Option (Int × Bool) :=
  AD (decide (a1 < 0)) (
   AD (decide ((AA .add .i64 9223372036854775807 a1) < a0)) (
    some (0,false)) (
    AD (decide (0 < a1)) (
     AD (decide (a0 < (AA .add .i64 (-9223372036854775808) a1))) (
      some (0,false)) (
      some ((AA .sub .i64 a0 a1),true))) (
     some ((AA .sub .i64 a0 a1),true)))) (
   AD (decide (0 < a1)) (
    AD (decide (a0 < (AA .add .i64 (-9223372036854775808) a1))) (
     some (0,false)) (
     some ((AA .sub .i64 a0 a1),true))) (
    some ((AA .sub .i64 a0 a1),true)))
def Qk (a0 a1 : Int) : Option (Int × Bool) :=
  AD (decide (a0 = 0)) (
   some (0,true)) (
   AD (decide (a1 = 0)) (
    some (0,true)) (
    AD (decide (a0 = (-1))) (
     AF (Zm 0 a1) fun r1 =>
     some (r1.1,r1.2)) (
     AD (decide (a1 = (-1))) (
      AF (Zm 0 a0) fun r2 =>
      some (r2.1,r2.2)) (
      AD (decide (0 < a0)) (
       AD (decide (0 < a1)) (
        AZ (a1 ≠ 0) (
         AD (decide ((AA .quo .i64 9223372036854775807 a1) < a0)) (
          some (0,false)) (
          AD (decide (a1 < 0)) (
           AZ (a0 ≠ 0) (
            AD (decide (a1 < (AA .quo .i64 (-9223372036854775808) a0))) (
             some (0,false)) (
             AD (decide (a0 < 0)) (
              AZ (a1 ≠ 0) (
               AD (decide (a0 < (AA .quo .i64 (-9223372036854775808) a1))) (
                some (0,false)) (
                AZ (a1 ≠ 0) (
                 AD (decide (a0 < (AA .quo .i64 9223372036854775807 a1))) (
                  some (0,false)) (
                  some ((AA .mul .i64 a0 a1),true)))))) (
              some ((AA .mul .i64 a0 a1),true))))) (
           AD (decide (a0 < 0)) (
            AZ (a1 ≠ 0) (
             AD (decide (a0 < (AA .quo .i64 (-9223372036854775808) a1))) (
              some (0,false)) (
              some ((AA .mul .i64 a0 a1),true)))) (
            some ((AA .mul .i64 a0 a1),true)))))) (
        AD (decide (a1 < 0)) (
         AZ (a0 ≠ 0) (
          AD (decide (a1 < (AA .quo .i64 (-9223372036854775808) a0))) (
           some (0,false)) (
           AD (decide (a0 < 0)) (
            AZ (a1 ≠ 0) (
             AD (decide (a0 < (AA .quo .i64 9223372036854775807 a1))) (
              some (0,false)) (
              some ((AA .mul .i64 a0 a1),true)))) (
            some ((AA .mul .i64 a0 a1),true))))) (
         AD (decide (a0 < 0)) (
          some ((AA .mul .i64 a0 a1),true)) (
          some ((AA .mul .i64 a0 a1),true))))) (
       AD (decide (a0 < 0)) (
        AD (decide (0 < a1)) (
         AZ (a1 ≠ 0) (
          AD (decide (a0 < (AA .quo .i64 (-9223372036854775808) a1))) (
           some (0,false)) (
           AD (decide (a1 < 0)) (
            AZ (a1 ≠ 0) (
             AD (decide (a0 < (AA .quo .i64 9223372036854775807 a1))) (
              some (0,false)) (
              some ((AA .mul .i64 a0 a1),true)))) (
            some ((AA .mul .i64 a0 a1),true))))) (
         AD (decide (a1 < 0)) (
          AZ (a1 ≠ 0) (
           AD (decide (a0 < (AA .quo .i64 9223372036854775807 a1))) (
            some (0,false)) (
            some ((AA .mul .i64 a0 a1),true)))) (
          some ((AA .mul .i64 a0 a1),true)))) (
        some ((AA .mul .i64 a0 a1),true)))))))
def Ql (a0 a1 : Int) : Option (Int × Int × Int) :=
  AD (decide (a1 = 0)) (
   some (0,0,7)) (
   AD (decide (a1 = (-1))) (
    AF (Zm 0 a0) fun r1 =>
    AD (!r1.2) (
     some (0,0,6)) (
     some (r1.1,0,0))) (
    AZ (a1 ≠ 0) (
     AZ (a1 ≠ 0) (
      some ((AA .quo .i64 a0 a1),(AA .rem .i64 a0 a1),0)))))
def Zn (a0 a1 a2 : Int) : Option (X0 × Int) :=
  AD (decide (a0 = 8)) (
   AF (Qj a1 a2) fun r1 =>
   AF (Zs r1.1 r1.2) fun r2 =>
   some (r2.1,r2.2)) (
   AD (decide (a0 = 9)) (
    AF (Zm a1 a2) fun r3 =>
    AF (Zs r3.1 r3.2) fun r4 =>
    some (r4.1,r4.2)) (
    AD (decide (a0 = 10)) (
     AF (Qk a1 a2) fun r5 =>
     AF (Zs r5.1 r5.2) fun r6 =>
     some (r6.1,r6.2)) (
     AF (Ql a1 a2) fun r7 =>
     AD (decide (r7.2.2 = 7)) (
      some (X0.mk 0 0 ([] : List UInt8) false,7)) (
      AD (decide (a0 = 12)) (
       some (X0.mk 1 r7.2.1 ([] : List UInt8) false,0)) (
       AF (Zs r7.1 (decide (r7.2.2 = 0))) fun r8 =>
       some (r8.1,r8.2))))))
def FR (s0 s1 : List UInt8) (s5 : Int) : Option ((Int) ⊕ (Unit ⊕ Bool)) :=
  AD (decide (s5 < (s0.length : Int))) (
   AD (decide (s5 < (s1.length : Int))) (
    AV s0 s5 fun x1 =>
    AV s1 s5 fun x2 =>
    AD (!decide ((x1.toNat : Int) = (x2.toNat : Int))) (
     AV s0 s5 fun x3 =>
     AV s1 s5 fun x4 =>
     some (.inr (.inr (decide ((x3.toNat : Int) < (x4.toNat : Int)))))) (
     some (.inl (AA .add .i64 s5 1)))) (
    some (.inr (.inl ())))) (
   some (.inr (.inl ())))
def aD2 (s0 s1 : List UInt8) (s5 : Int) : Option (Unit ⊕ Bool) := AW (fun s : Int => FR s0 s1 s) s5
def Yn (a0 a1 : List UInt8) : Option (Bool) :=
  AF (aD2 a0 a1 0) fun o5 =>
  BI o5 (fun o6 =>
   some (decide ((a0.length : Int) < (a1.length : Int)))) (fun o7 =>
   some o7)
def Zj (a0 a1 : X0) : Option (Bool) :=
  AD (!decide (a0.kind = a1.kind)) (
   some (decide (a0.kind < a1.kind))) (
   AD (decide (a0.kind = 1)) (
    some (decide (a0.int < a1.int))) (
    AD (decide (a0.kind = 2)) (
     AF (Yn a0.str a1.str) fun r1 =>
     some r1) (
     AD (!a0.bool) (
      some a1.bool) (
      some false))))
def Q3 (a0 : Int) (a1 a2 : X0) : Option (X0 × Int) :=
  AD (decide (a0 < 4)) (
   some (X0.mk 0 0 ([] : List UInt8) false,1)) (
   AD (decide (16 < a0)) (
    some (X0.mk 0 0 ([] : List UInt8) false,1)) (
    AD (decide (a0 = 4)) (
     AD (!decide (a1.kind = 3)) (
      some (X0.mk 0 0 ([] : List UInt8) false,8)) (
      AF (Zf (!a1.bool)) fun r1 =>
      some (r1.1,r1.2))) (
     AD (decide (a0 = 5)) (
      AD (!decide (a1.kind = 1)) (
       some (X0.mk 0 0 ([] : List UInt8) false,8)) (
       AF (Zn 9 0 a1.int) fun r2 =>
       some (r2.1,r2.2))) (
      AD (!decide (a1.kind = a2.kind)) (
       some (X0.mk 0 0 ([] : List UInt8) false,8)) (
       AD (decide (a0 = 13)) (
        AF (Zf (X0.eqb a1 a2)) fun r3 =>
        some (r3.1,r3.2)) (
        AD (decide (a0 = 14)) (
         AF (Zf (!(X0.eqb a1 a2))) fun r4 =>
         some (r4.1,r4.2)) (
         AD (decide (a1.kind = 3)) (
          AD (decide (a0 = 6)) (
           AD (a1.bool) (
            AF (Zf a2.bool) fun r5 =>
            some (r5.1,r5.2)) (
            AF (Zf false) fun r6 =>
            some (r6.1,r6.2))) (
           AD (decide (a0 = 7)) (
            AD (a1.bool) (
             AF (Zf true) fun r7 =>
             some (r7.1,r7.2)) (
             AF (Zf a2.bool) fun r8 =>
             some (r8.1,r8.2))) (
            some (X0.mk 0 0 ([] : List UInt8) false,8)))) (
          AD (decide (a0 = 15)) (
           AF (Zj a1 a2) fun r9 =>
           AF (Zf r9) fun r10 =>
           some (r10.1,r10.2)) (
           AD (decide (a0 = 16)) (
            AF (Zj a2 a1) fun r11 =>
            AF (Zf (!r11)) fun r12 =>
            some (r12.1,r12.2)) (
            AD (decide (a1.kind = 1)) (
             AD (decide (8 ≤ a0)) (
              AD (decide (a0 ≤ 12)) (
               AF (Zn a0 a1.int a2.int) fun r13 =>
               some (r13.1,r13.2)) (
               AD (decide (a1.kind = 2)) (
                AD (decide (a0 = 8)) (
                 AD (decide (4096 < (AA .add .i64 (a1.str.length : Int) (a2.str.length : Int)))) (
                  some (X0.mk 0 0 ([] : List UInt8) false,3)) (
                  AZ (a1.str.length + a2.str.length ≤ 9223372036854775807) (
                   some (X0.mk 2 0 (a1.str ++ a2.str) false,0)))) (
                 some (X0.mk 0 0 ([] : List UInt8) false,8))) (
                some (X0.mk 0 0 ([] : List UInt8) false,8)))) (
              AD (decide (a1.kind = 2)) (
               AD (decide (a0 = 8)) (
                AD (decide (4096 < (AA .add .i64 (a1.str.length : Int) (a2.str.length : Int)))) (
                 some (X0.mk 0 0 ([] : List UInt8) false,3)) (
                 AZ (a1.str.length + a2.str.length ≤ 9223372036854775807) (
                  some (X0.mk 2 0 (a1.str ++ a2.str) false,0)))) (
                some (X0.mk 0 0 ([] : List UInt8) false,8))) (
               some (X0.mk 0 0 ([] : List UInt8) false,8)))) (
             AD (decide (a1.kind = 2)) (
              AD (decide (a0 = 8)) (
               AD (decide (4096 < (AA .add .i64 (a1.str.length : Int) (a2.str.length : Int)))) (
                some (X0.mk 0 0 ([] : List UInt8) false,3)) (
                AZ (a1.str.length + a2.str.length ≤ 9223372036854775807) (
                 some (X0.mk 2 0 (a1.str ++ a2.str) false,0)))) (
               some (X0.mk 0 0 ([] : List UInt8) false,8))) (
              some (X0.mk 0 0 ([] : List UInt8) false,8)))))))))))))
def Zt (a0 a1 a2 : Int) : Option (Int) :=
  AD (decide (a1 < 1)) (
   some 0) (
   AD (!decide (a1 = a2)) (
    some 0) (
    AF (Q3 a0 (X0.mk a1 0 ([] : List UInt8) false) (X0.mk a2 0 ([] : List UInt8) false)) fun r1 =>
    AD (decide (r1.2 = 7)) (
     some 1) (
     AD (!decide (r1.2 = 0)) (
      some 0) (
      some r1.1.kind))))
def aI9 (self : AE → Int → Option (Int × Int × Int)) (a0 : AE) (a1 : Int) : Option (Int × Int × Int) :=
  AD (decide (a1 < 0)) (
   some (0,0,0)) (
   AD (decide ((a0.nodes.length : Int) ≤ a1)) (
    some (0,0,0)) (
    AV a0.nodes a1 fun x1 =>
    AD (decide (x1.op = 1)) (
     AD (!decide (x1.a = 0)) (
      some (0,0,0)) (
      AD (!decide (x1.b = 0)) (
       some (0,0,0)) (
       AF (Z2 x1.value) fun r2 =>
       AD (!r2) (
        some (0,0,0)) (
        some (x1.value.kind,1,a1))))) (
     AD (!(X0.eqb x1.value (X0.mk 0 0 ([] : List UInt8) false))) (
      some (0,0,0)) (
      AD (decide (x1.op = 2)) (
       AD (decide (x1.a < 0)) (
        some (0,0,0)) (
        AD (decide ((a0.quants.length : Int) ≤ x1.a)) (
         some (0,0,0)) (
         AD (!decide (x1.b = 0)) (
          some (0,0,0)) (
          AV a0.quants x1.a fun x3 =>
          some (x3.type,1,a1))))) (
       AD (decide (x1.op = 3)) (
        AD (decide (x1.a < 0)) (
         some (0,0,0)) (
         AD (decide ((a0.frees.length : Int) ≤ x1.a)) (
          some (0,0,0)) (
          AD (!decide (x1.b = 0)) (
           some (0,0,0)) (
           AV a0.frees x1.a fun x4 =>
           some (x4.init_.kind,1,a1))))) (
        AD (decide (x1.op < 4)) (
         some (0,0,0)) (
         AD (decide (16 < x1.op)) (
          some (0,0,0)) (
          AF (self a0 (AA .sub .i64 a1 1)) fun r5 =>
          AD (decide (x1.op ≤ 5)) (
           AD (decide (r5.1 = 0)) (
            some (0,0,0)) (
            AD (!decide (x1.a = (AA .sub .i64 a1 1))) (
             some (0,0,0)) (
             AD (!decide (x1.b = 0)) (
              some (0,0,0)) (
              AF (Zt x1.op r5.1 r5.1) fun r6 =>
              some (r6,(AA .add .i64 r5.2.1 1),r5.2.2))))) (
           AD (decide (r5.1 = 0)) (
            some (0,0,0)) (
            AD (!decide (x1.b = (AA .sub .i64 a1 1))) (
             some (0,0,0)) (
             AD (!decide (x1.a = (AA .sub .i64 r5.2.2 1))) (
              some (0,0,0)) (
              AF (self a0 (AA .sub .i64 r5.2.2 1)) fun r7 =>
              AF (Zt x1.op r7.1 r5.1) fun r8 =>
              some (r8,(AA .add .i64 (W5 r5.2.1 r7.2.1) 1),r7.2.2)))))))))))))
def aGz : Nat → AE → Int → Option (Int × Int × Int)
  | 0 => fun _ _  => none
  | n + 1 => fun a0 a1 => aI9 (aGz n) a0 a1
def Yx (a0 : AE) (a1 : Int) : Option (Int × Int × Int) := aGz 100000 a0 a1
def Q0 (a0 : AE) (a1 a2 : Int) : Option (Int × Int) :=
  AF (Yx a0 a2) fun r1 =>
  AD (decide (r1.1 = 0)) (
   some (0,0)) (
   AD (!decide (r1.2.2 = a1)) (
    some (0,0)) (
    some (r1.1,r1.2.1)))
def HJ (s1 : Int) (w2 : X5) (s5 : Int) : Option ((Int) ⊕ (Unit ⊕ Unit)) :=
  AD (decide (s5 < (w2.args.length : Int))) (
   AV w2.args s5 fun x1 =>
   AD (decide (x1.kind = 2)) (
    AV w2.args s5 fun x2 =>
    AD (decide (x2.n = s1)) (
     some (.inr (.inr ()))) (
     some (.inl (AA .add .i64 s5 1)))) (
    some (.inl (AA .add .i64 s5 1)))) (
   some (.inr (.inl ())))
def aI7 (s1 : Int) (w2 : X5) (s5 : Int) : Option (Unit ⊕ Unit) := AW (fun s : Int => HJ s1 w2 s) s5
def Yu (a0 : X5) (a1 : Int) : Option (Bool) :=
  AF (aI7 a1 a0 0) fun o3 =>
  BI o3 (fun o4 =>
   some false) (fun o5 =>
   some true)
def HR (s3 : Int) (w4 : AE) (w5 : X5) (s9 : Int) : Option ((Int) ⊕ (Unit ⊕ Unit)) :=
  AD (decide (s9 < s3)) (
   AV w4.nodes s9 fun x1 =>
   AD (decide (x1.op = 2)) (
    AV w4.nodes s9 fun x2 =>
    AF (Yu w5 x2.a) fun r3 =>
    AD (!r3) (
     some (.inr (.inr ()))) (
     some (.inl (AA .add .i64 s9 1)))) (
    some (.inl (AA .add .i64 s9 1)))) (
   some (.inr (.inl ())))
def aJh (s3 : Int) (w4 : AE) (w5 : X5) (s9 : Int) : Option (Unit ⊕ Unit) := AW (fun s : Int => HR s3 w4 w5 s) s9
def Z9 (a0 : AE) (a1 : X5) (a2 a3 : Int) : Option (Bool) :=
  AF (aJh a3 a0 a1 a2) fun o4 =>
  BI o4 (fun o5 =>
   some true) (fun o6 =>
   some false)
def TH (s2 s8 : Int) (s56 : Bool) (w3 : AE) (w4 : Xm) : Option (Int ⊕ Unit) :=
  AD (s56) (
   AF (Q0 w3 s8 w4.guard) fun r1 =>
   AD (!decide (r1.1 = 3)) (
    some (.inr ())) (
    AD (decide (64 < r1.2)) (
     some (.inr ())) (
     some (.inl (AA .add .i64 w4.guard 1))))) (
   some (.inl s8))
def Gx (s2 s11 : Int) (w3 : AE) (w4 : Xm) (w12 : EG) (s15 : Int) : Option ((Int) ⊕ (Unit ⊕ Unit)) :=
  AD (decide (s15 < s11)) (
   AV w4.sets s15 fun x8 =>
   AD (decide (x8.free = w12.free)) (
    some (.inr (.inr ()))) (
    some (.inl (AA .add .i64 s15 1)))) (
   some (.inr (.inl ())))
def aIn (s2 s11 : Int) (w3 : AE) (w4 : Xm) (w12 : EG) (s15 : Int) : Option (Unit ⊕ Unit) := AW (fun s : Int => Gx s2 s11 w3 w4 w12 s) s15
def Gw (s2 : Int) (w3 : AE) (w4 : Xm) (s8 s11 : Int) : Option ((Int × Int) ⊕ (Int ⊕ Unit)) :=
  AD (decide (s11 < (w4.sets.length : Int))) (
   AV w4.sets s11 fun x5 =>
   AF (Q0 w3 s8 x5.expr) fun r6 =>
   AD (decide (x5.free < 0)) (
    some (.inr (.inr ()))) (
    AD (decide ((w3.frees.length : Int) ≤ x5.free)) (
     some (.inr (.inr ()))) (
     AD (decide (r6.1 = 0)) (
      some (.inr (.inr ()))) (
      AD (decide (64 < r6.2)) (
       some (.inr (.inr ()))) (
       AV w3.frees x5.free fun x7 =>
       AD (!decide (r6.1 = x7.init_.kind)) (
        some (.inr (.inr ()))) (
        AF (aIn s2 s11 w3 w4 x5 0) fun o9 =>
        BI o9 (fun o10 =>
         some (.inl ((AA .add .i64 x5.expr 1),(AA .add .i64 s11 1)))) (fun o11 =>
         some (.inr (.inr ()))))))))) (
   some (.inr (.inl s8)))
def aIm (s2 : Int) (w3 : AE) (w4 : Xm) (s8 s11 : Int) : Option (Int ⊕ Unit) := AW (fun s : Int × Int => Gw s2 w3 w4 s.1 s.2) (s8,s11)
def Xw (a0 : AE) (a1 : Xm) (a2 : Int) : Option (Int × Bool) :=
  AD (decide (a1.from_ < 0)) (
   some (0,false)) (
   AD (decide ((a0.states.length : Int) ≤ a1.from_)) (
    some (0,false)) (
    AD (decide (a1.to < 0)) (
     some (0,false)) (
     AD (decide ((a0.states.length : Int) ≤ a1.to)) (
      some (0,false)) (
      AD (decide (a1.symbol < 0)) (
       some (0,false)) (
       AD (decide ((a0.symbols.length : Int) ≤ a1.symbol)) (
        some (0,false)) (
        AF (TH a2 a2 (!decide (a1.guard = (-1))) a0 a1) fun o2 =>
        BI o2 (fun o3 =>
         AF (aIm a2 a0 a1 o3 0) fun o12 =>
         BI o12 (fun o13 =>
          AV a0.symbols a1.symbol fun x15 =>
          AF (Z9 a0 x15 a2 o13) fun r16 =>
          some (o13,r16)) (fun o14 =>
          some (0,false))) (fun o4 =>
         some (0,false))))))))
def Q4 (a0 : AE) (a1 : Av) (a2 : Int) : Option (Bool) :=
  AD (decide (a1.kind = 1)) (
   AD (decide (a1.n = 0)) (
    AF (Z2 a1.value) fun r1 =>
    AD (r1) (
     some (decide (a1.value.kind = a2))) (
     some false)) (
    some false)) (
   AD (!(X0.eqb a1.value (X0.mk 0 0 ([] : List UInt8) false))) (
    some false) (
    AD (decide (a1.kind = 2)) (
     AD (decide (0 ≤ a1.n)) (
      AD (decide (a1.n < (a0.quants.length : Int))) (
       AV a0.quants a1.n fun x2 =>
       some (decide (x2.type = a2))) (
       some false)) (
      some false)) (
     AD (decide (a1.kind = 3)) (
      AD (decide (0 ≤ a1.n)) (
       AD (decide (a1.n < (a0.frees.length : Int))) (
        AV a0.frees a1.n fun x3 =>
        some (decide (x3.init_.kind = a2))) (
        some false)) (
       some false)) (
      AD (decide (a1.kind = 4)) (
       some (decide (a1.n = 0))) (
       some false)))))
def HP (w2 : AE) (w3 : X5) (s5 : Int) : Option ((Int) ⊕ (Unit ⊕ Unit)) :=
  AD (decide (s5 < (w3.args.length : Int))) (
   AV w3.args s5 fun x2 =>
   AV w2.decls w3.event fun x3 =>
   AV x3.types s5 fun x4 =>
   AF (Q4 w2 x2 x4) fun r5 =>
   AD (!r5) (
    some (.inr (.inr ()))) (
    some (.inl (AA .add .i64 s5 1)))) (
   some (.inr (.inl ())))
def aMf (w2 : AE) (w3 : X5) (s5 : Int) : Option (Unit ⊕ Unit) := AW (fun s : Int => HP w2 w3 s) s5
def Z4 (a0 : AE) (a1 : X5) : Option (Bool) :=
  AD (decide (a1.event < 0)) (
   some false) (
   AD (decide ((a0.decls.length : Int) ≤ a1.event)) (
    some false) (
    AV a0.decls a1.event fun x1 =>
    AD (!decide ((a1.args.length : Int) = (x1.types.length : Int))) (
     some false) (
     AF (aMf a0 a1 0) fun o6 =>
     BI o6 (fun o7 =>
      some true) (fun o8 =>
      some false))))
def HT (w2 w3 : X5) (s5 : Int) : Option ((Int) ⊕ (Unit ⊕ Unit)) :=
  AD (decide (s5 < (w2.args.length : Int))) (
   AV w2.args s5 fun x1 =>
   AV w3.args s5 fun x2 =>
   AD (!(Av.eqb x1 x2)) (
    some (.inr (.inr ()))) (
    some (.inl (AA .add .i64 s5 1)))) (
   some (.inr (.inl ())))
def aMg (w2 w3 : X5) (s5 : Int) : Option (Unit ⊕ Unit) := AW (fun s : Int => HT w2 w3 s) s5
def Zb (a0 a1 : X5) : Option (Bool) :=
  AD (!decide (a0.event = a1.event)) (
   some false) (
   AD (!decide ((a0.args.length : Int) = (a1.args.length : Int))) (
    some false) (
    AF (aMg a0 a1 0) fun o3 =>
    BI o3 (fun o4 =>
     some true) (fun o5 =>
     some false)))
def QF (s5 s6 : Int) (s34 : Bool) (w1 : AE) (w3 : List Bool) (w4 : List Int) : Option ((List Int)) :=
  AD (s34) (
   AZ (fit w4.length [s6].length 8) (
    some (w4 ++ [s6]))) (
   some w4)
def YC (s5 : Int) (w1 : AE) (w3 : List Bool) (w4 : List Int) : Option ((List Bool × List Int)) :=
  AV w1.trans s5 fun x5 =>
  AZ (0 ≤ x5.symbol ∧ x5.symbol + 1 ≤ (w3.length : Int)) (
   AV w3 x5.symbol fun x6 =>
   AF (QF s5 x5.symbol (!x6) w1 w3 w4) fun o7 =>
   AZ (0 ≤ x5.symbol ∧ x5.symbol + 1 ≤ (w3.length : Int)) (
    AZ (0 ≤ x5.symbol ∧ x5.symbol + 1 ≤ (w3.length : Int)) (
     some (w3.set x5.symbol.toNat true,o7))))
def GL (w1 : AE) (s5 : Int) (w3 : List Bool) (w4 : List Int) : Option ((Int × List Bool × List Int) ⊕ ((List Int))) :=
  AD (decide (s5 < (w1.trans.length : Int))) (
   AF (YC s5 w1 w3 w4) fun o8 =>
   some (.inl ((AA .add .i64 s5 1),o8.1,o8.2))) (
   some (.inr w4))
def aLj (w1 : AE) (s5 : Int) (w3 : List Bool) (w4 : List Int) : Option ((List Int)) := AW (fun s : Int × List Bool × List Int => GL w1 s.1 s.2.1 s.2.2) (s5,w3,w4)
def GM (w1 : AE) (w4 : List Int) (s7 : Int) : Option ((Int) ⊕ (Unit ⊕ Unit)) :=
  AD (decide (s7 < (w4.length : Int))) (
   AV w4 s7 fun x10 =>
   AD (!decide (x10 = (AA .add .i64 (AA .sub .i64 (w1.symbols.length : Int) (w4.length : Int)) s7))) (
    some (.inr (.inr ()))) (
    some (.inl (AA .add .i64 s7 1)))) (
   some (.inr (.inl ())))
def aLk (w1 : AE) (w4 : List Int) (s7 : Int) : Option (Unit ⊕ Unit) := AW (fun s : Int => GM w1 w4 s) s7
def GO (s8 : Int) (w1 : AE) (s9 : Int) : Option ((Int) ⊕ (Unit ⊕ Unit)) :=
  AD (decide (s9 < s8)) (
   AV w1.symbols s8 fun x16 =>
   AV w1.symbols s9 fun x17 =>
   AF (Zb x16 x17) fun r18 =>
   AD (r18) (
    some (.inr (.inr ()))) (
    some (.inl (AA .add .i64 s9 1)))) (
   some (.inr (.inl ())))
def aH7 (s8 : Int) (w1 : AE) (s9 : Int) : Option (Unit ⊕ Unit) := AW (fun s : Int => GO s8 w1 s) s9
def GN (w1 : AE) (s8 : Int) : Option ((Int) ⊕ (Unit ⊕ Unit)) :=
  AD (decide (s8 < (w1.symbols.length : Int))) (
   AV w1.symbols s8 fun x14 =>
   AF (Z4 w1 x14) fun r15 =>
   AD (!r15) (
    some (.inr (.inr ()))) (
    AF (aH7 s8 w1 0) fun o19 =>
    BI o19 (fun o20 =>
     some (.inl (AA .add .i64 s8 1))) (fun o21 =>
     some (.inr (.inr ()))))) (
   some (.inr (.inl ())))
def aLl (w1 : AE) (s8 : Int) : Option (Unit ⊕ Unit) := AW (fun s : Int => GN w1 s) s8
def Dp (s10 : Int) (w1 : AE) (s11 : Bool) (s12 : Int) : Option ((Bool × Int) ⊕ (Bool)) :=
  AD (decide (s12 < (w1.symbols.length : Int))) (
   AD (s11) (
    some (.inl (true,(AA .add .i64 s12 1)))) (
    AV w1.symbols s12 fun x25 =>
    AF (Yu x25 s10) fun r26 =>
    some (.inl (r26,(AA .add .i64 s12 1))))) (
   some (.inr s11))
def QG (s10 : Int) (w1 : AE) (s11 : Bool) (s12 : Int) : Option (Bool) := AW (fun s : Bool × Int => Dp s10 w1 s.1 s.2) (s11,s12)
def GP (w1 : AE) (s10 : Int) : Option ((Int) ⊕ (Unit ⊕ Unit)) :=
  AD (decide (s10 < (w1.quants.length : Int))) (
   AF (QG s10 w1 false 0) fun o27 =>
   AD (!o27) (
    some (.inr (.inr ()))) (
    some (.inl (AA .add .i64 s10 1)))) (
   some (.inr (.inl ())))
def aLm (w1 : AE) (s10 : Int) : Option (Unit ⊕ Unit) := AW (fun s : Int => GP w1 s) s10
def X8 (a0 : AE) : Option (Bool) :=
  AZ (0 ≤ (a0.symbols.length : Int) ∧ fit 0 (a0.symbols.length : Int).toNat 1) (
   AF (aLj a0 0 (List.replicate (a0.symbols.length : Int).toNat false) ([] : List Int)) fun o9 =>
   AF (aLk a0 o9 0) fun o11 =>
   BI o11 (fun o12 =>
    AF (aLl a0 0) fun o22 =>
    BI o22 (fun o23 =>
     AF (aLm a0 0) fun o28 =>
     BI o28 (fun o29 =>
      some true) (fun o30 =>
      some false)) (fun o24 =>
     some false)) (fun o13 =>
    some false))
def HG (w1 : AE) (s5 s6 : Int) : Option ((Int × Int) ⊕ (Int ⊕ Unit)) :=
  AD (decide (s6 < (w1.trans.length : Int))) (
   AV w1.trans s6 fun x3 =>
   AF (Xw w1 x3 s5) fun r4 =>
   AD (!r4.2) (
    some (.inr (.inr ()))) (
    some (.inl (r4.1,(AA .add .i64 s6 1))))) (
   some (.inr (.inl s5)))
def aL8 (w1 : AE) (s5 s6 : Int) : Option (Int ⊕ Unit) := AW (fun s : Int × Int => HG w1 s.1 s.2) (s5,s6)
def Yr (a0 : AE) : Option (Bool) :=
  AF (Xv a0.decls) fun r1 =>
  AD (!decide (r1.1 = 0)) (
   some false) (
   AD (decide (8 < (a0.quants.length : Int))) (
    some false) (
    AD (decide (16 < (a0.frees.length : Int))) (
     some false) (
     AD (decide (32 < (a0.states.length : Int))) (
      some false) (
      AD (decide (64 < (a0.symbols.length : Int))) (
       some false) (
       AD (decide (2048 < (a0.nodes.length : Int))) (
        some false) (
        AD (decide (256 < (a0.trans.length : Int))) (
         some false) (
         AD (decide (a0.start < 0)) (
          some false) (
          AD (decide ((a0.states.length : Int) ≤ a0.start)) (
           some false) (
           AF (Xj a0) fun r2 =>
           AD (!r2) (
            some false) (
            AF (aL8 a0 0 0) fun o5 =>
            BI o5 (fun o6 =>
             AD (decide (o6 = (a0.nodes.length : Int))) (
              AF (X8 a0) fun r8 =>
              some r8) (
              some false)) (fun o7 =>
             some false)))))))))))
def HL (w1 : AE) (s3 : Int) : Option ((Int) ⊕ (Unit ⊕ Unit)) :=
  AD (decide (s3 < (w1.trans.length : Int))) (
   AV w1.trans s3 fun x1 =>
   AD (!decide (x1.guard = (-1))) (
    some (.inr (.inr ()))) (
    some (.inl (AA .add .i64 s3 1)))) (
   some (.inr (.inl ())))
def aJb (w1 : AE) (s3 : Int) : Option (Unit ⊕ Unit) := AW (fun s : Int => HL w1 s) s3
def Yy (a0 : AE) : Option (Bool) :=
  AD (decide (0 < (a0.frees.length : Int))) (
   some false) (
   AD (decide (1 < (a0.quants.length : Int))) (
    some false) (
    AD (decide (8 < (a0.states.length : Int))) (
     some false) (
     AD (decide (8 < (a0.symbols.length : Int))) (
      some false) (
      AF (aJb a0 0) fun o2 =>
      BI o2 (fun o3 =>
       some true) (fun o4 =>
       some false)))))
def HS (s0 : List X2) (s3 : Int) : Option ((Int) ⊕ (Unit ⊕ Unit)) :=
  AD (decide (s3 < (s0.length : Int))) (
   AV s0 s3 fun x1 =>
   AD (decide (x1.var < 0)) (
    some (.inr (.inr ()))) (
    AV s0 s3 fun x2 =>
    AD (decide (7 < x2.var)) (
     some (.inr (.inr ()))) (
     AV s0 s3 fun x3 =>
     AF (Z2 x3.value) fun r4 =>
     AD (!r4) (
      some (.inr (.inr ()))) (
      AD (decide (0 < s3)) (
       AV s0 s3 fun x5 =>
       AV s0 (AA .sub .i64 s3 1) fun x6 =>
       AD (decide (x5.var ≤ x6.var)) (
        some (.inr (.inr ()))) (
        some (.inl (AA .add .i64 s3 1)))) (
       some (.inl (AA .add .i64 s3 1))))))) (
   some (.inr (.inl ())))
def aJi (s0 : List X2) (s3 : Int) : Option (Unit ⊕ Unit) := AW (fun s : Int => HS s0 s) s3
def Za (a0 : List X2) : Option (Bool) :=
  AF (aJi a0 0) fun o7 =>
  BI o7 (fun o8 =>
   some true) (fun o9 =>
   some false)
def Q5 (a0 : AE) (a1 : List X2) : Option (Bool) :=
  AD (decide ((a1.length : Int) = 0)) (
   some true) (
   AD (decide ((a1.length : Int) = 1)) (
    AD (decide ((a0.quants.length : Int) = 1)) (
     AV a1 0 fun x1 =>
     AD (decide (x1.var = 0)) (
      AV a1 0 fun x2 =>
      AV a0.quants 0 fun x3 =>
      AD (decide (x2.value.kind = x3.type)) (
       AF (Za a1) fun r4 =>
       some r4) (
       some false)) (
      some false)) (
     some false)) (
    some false))
def HH (s1 : List X2) (w2 : AE) (s5 : Int) : Option ((Int) ⊕ (Unit ⊕ Unit)) :=
  AD (decide (s5 < (w2.decls.length : Int))) (
   AV w2.decls s5 fun x5 =>
   AD (decide (3 < (x5.types.length : Int))) (
    some (.inr (.inr ()))) (
    some (.inl (AA .add .i64 s5 1)))) (
   some (.inr (.inl ())))
def aI6 (s1 : List X2) (w2 : AE) (s5 : Int) : Option (Unit ⊕ Unit) := AW (fun s : Int => HH s1 w2 s) s5
def Ys (a0 : AE) (a1 : List X2) : Option (Bool) :=
  AF (Xb a0) fun r1 =>
  AD (decide (r1 = 0)) (
   some false) (
   AF (Yr a0) fun r2 =>
   AD (!r2) (
    some false) (
    AF (Yy a0) fun r3 =>
    AD (!r3) (
     some false) (
     AF (Q5 a0 a1) fun r4 =>
     AD (!r4) (
      some false) (
      AD (!decide ((a1.length : Int) = (a0.quants.length : Int))) (
       some false) (
       AF (aI6 a1 a0 0) fun o6 =>
       BI o6 (fun o7 =>
        AD (decide ((a1.length : Int) = 0)) (
         some true) (
         AV a1 0 fun x9 =>
         some (decide ((x9.value.str.length : Int) ≤ 100)))) (fun o8 =>
        some false))))))
def Zu (a0 : Int) : Option (X0) :=
  some (X0.mk 1 a0 ([] : List UInt8) false)
def aBo (s1 s5 s6 : Int) (s9 : List X5) (s10 s11 : Int) (s19 : Bool) : Option (Int) :=
  AD (s19) (
   AZ (0 ≤ (IntKind.wrap .u64 s6)) (
    some (AA .or .u64 s5 (AA .shl .u64 1 (IntKind.wrap .u64 s6))))) (
   some s5)
def aBm (s1 s5 : Int) (s9 : List X5) (s10 s11 : Int) : Option (Int) :=
  AV s9 s11 fun x1 =>
  AF (aBo s1 s5 s11 s9 s10 s11 (decide (x1.event = s1))) fun o2 =>
  some o2
def FN (s1 : Int) (s9 : List X5) (s10 s5 s11 : Int) : Option ((Int × Int) ⊕ (Int)) :=
  AD (decide (s11 < s10)) (
   AF (aBm s1 s5 s9 s10 s11) fun o3 =>
   some (.inl (o3,(AA .add .i64 s11 1)))) (
   some (.inr s5))
def S4 (s1 : Int) (s9 : List X5) (s10 s5 s11 : Int) : Option (Int) := AW (fun s : Int × Int => FN s1 s9 s10 s.1 s.2) (s5,s11)
def Xt (a0 : AE) (a1 : Int) : Option (Int) :=
  AF (S4 a1 a0.symbols (a0.symbols.length : Int) 0 0) fun o4 =>
  some o4
def Qm : Option (Unit) :=
  some ()
def Zo (a0 : Bool) : Option (X0) :=
  some (X0.mk 3 0 ([] : List UInt8) a0)
def Zv (a0 a1 : X0) : Option (Bool) :=
  AD (!decide (a0.kind = a1.kind)) (
   some (decide (a0.kind < a1.kind))) (
   AD (decide (a0.kind = 1)) (
    some (decide (a0.int < a1.int))) (
    AD (decide (a0.kind = 2)) (
     some (Op.bytesLess a0.str a1.str)) (
     AD (!a0.bool) (
      some a1.bool) (
      some false))))
def Zw (a0 a1 : X0) (a2 : List X0) : Option (Int) :=
  AF (Zv a0 a1) fun r1 =>
  AD (r1) (
   some (-1)) (
   AF (Zv a1 a0) fun r2 =>
   AD (r2) (
    some 1) (
    some 0))
def Sq (s0 s2 : List X0) (s8 s9 : Int) (s10 s11 : Int) (s31 : Bool) (w4 : X0) : Option ((Int × Int)) :=
  AD (s31) (
   some ((AA .add .i64 s11 1),s10)) (
   some (s9,s11))
def aBa (s0 s2 : List X0) (s8 s9 s10 : Int) (w4 : X0) : Option ((Int × Int)) :=
  AV s0 (IntKind.wrap .i64 (AA .shr .u64 (IntKind.wrap .u64 (AA .add .i64 s9 s10)) 1)) fun x1 =>
  AF (Zw x1 w4 s2) fun r2 =>
  AF (Sq s0 s2 s8 s9 s10 (IntKind.wrap .i64 (AA .shr .u64 (IntKind.wrap .u64 (AA .add .i64 s9 s10)) 1)) (decide (r2 < 0)) w4) fun o3 =>
  some (o3.1,o3.2)
def ES (s0 s2 : List X0) (s8 : Int) (w4 : X0) (s9 s10 : Int) : Option ((Int × Int) ⊕ (Int)) :=
  AD (decide (s9 < s10)) (
   AF (aBa s0 s2 s8 s9 s10 w4) fun o4 =>
   some (.inl (o4.1,o4.2))) (
   some (.inr s9))
def Ox (s0 s2 : List X0) (s8 : Int) (w4 : X0) (s9 s10 : Int) : Option (Int) := AW (fun s : Int × Int => ES s0 s2 s8 w4 s.1 s.2) (s9,s10)
def Xq (a0 : List X0) (a1 : X0) (a2 : List X0) : Option (Int × Bool) :=
  AF (Ox a0 a2 (a0.length : Int) a1 0 (a0.length : Int)) fun o5 =>
  AD (decide (o5 < (a0.length : Int))) (
   AV a0 o5 fun x6 =>
   AF (Zw x6 a1 a2) fun r7 =>
   some (o5,decide (r7 = 0))) (
   some (o5,false))
def U3 (i : Int) (ys : List X0) : Option (List X0) := aM1 40 i ys
def VI (s5 : Int) (s6 s20 : Bool) (w3 : X0) : Option ((List X0)) :=
  AD (s20) (
   AF (U3 s5 [w3]) fun r2 =>
   some r2) (
   some ([] : List X0))
def Zd (a1 : X0) : Option (Bool × List X0) :=
  AF (Xq ([] : List X0) a1 ([] : List X0)) fun r1 =>
  AF (VI r1.1 r1.2 (!r1.2) a1) fun o3 =>
  some (!r1.2,o3)
def Qt (i : Int) (xs ys : List X0) : Option (List X0) := aK5 40 i xs ys
def Uk (s5 : Int) (s6 s20 : Bool) (w3 : X0) (w501 : List X0) : Option ((List X0)) :=
  AD (s20) (
   AF (Qt s5 w501 [w3]) fun r2 =>
   some r2) (
   some w501)
def Yz (a1 : X0) (w1 : List X0) : Option (Bool × List X0) :=
  AF (Xq w1 a1 w1) fun r1 =>
  AF (Uk r1.1 r1.2 (!r1.2) a1 w1) fun o3 =>
  some (!r1.2,o3)
def U4 (l : List X0) : Option (List X0) := Ny 40 l
def Q7 (w1 : List X0) : Option (List X0 × List X0) :=
  AF (U4 w1) fun r1 =>
  some (r1,w1)
def Lf (s1 : Int) (s12 : Bool) (w2 : AE) : Option ((List X0)) :=
  AD (s12) (
   AF (Zo false) fun r2 =>
   AF (Zd r2) fun r3 =>
   AF (Zo true) fun r4 =>
   AF (Yz r4 r3.2) fun r5 =>
   some r5.2) (
   some ([] : List X0))
def Li (s1 : Int) (s20 : List X5) (s21 s22 : Int) (s27 : List Av) (s28 s29 : Int) (s42 : Bool) (w9 : Av) (w518 : List X0) : Option ((List X0)) :=
  AD (s42) (
   AF (Yz w9.value w518) fun r9 =>
   some r9.2) (
   some w518)
def Oc (s1 : Int) (s20 : List X5) (s21 s22 : Int) (s27 : List Av) (s28 s29 : Int) (w518 : List X0) : Option ((List X0)) :=
  AV s27 s29 fun x8 =>
  AD (decide (x8.kind = 1)) (
   AF (Li s1 s20 s21 s22 s27 s28 s29 (decide (x8.value.kind = s1)) x8 w518) fun o10 =>
   some o10) (
   AF (Li s1 s20 s21 s22 s27 s28 s29 false x8 w518) fun o11 =>
   some o11)
def EK (s1 : Int) (s20 : List X5) (s21 s22 : Int) (s27 : List Av) (s28 s29 : Int) (w518 : List X0) : Option ((Int × List X0) ⊕ ((List X0))) :=
  AD (decide (s29 < s28)) (
   AF (Oc s1 s20 s21 s22 s27 s28 s29 w518) fun o12 =>
   some (.inl ((AA .add .i64 s29 1),o12))) (
   some (.inr w518))
def Oe (s1 : Int) (s20 : List X5) (s21 s22 : Int) (s27 : List Av) (s28 s29 : Int) (w518 : List X0) : Option ((List X0)) := AW (fun s : Int × List X0 => EK s1 s20 s21 s22 s27 s28 s.1 s.2) (s29,w518)
def EJ (s1 : Int) (s20 : List X5) (s21 s22 : Int) (w518 : List X0) : Option ((Int × List X0) ⊕ ((List X0))) :=
  AD (decide (s22 < s21)) (
   AV s20 s22 fun x7 =>
   AF (Oe s1 s20 s21 s22 x7.args (x7.args.length : Int) 0 w518) fun o13 =>
   some (.inl ((AA .add .i64 s22 1),o13))) (
   some (.inr w518))
def QA (s1 : Int) (s20 : List X5) (s21 s22 : Int) (w518 : List X0) : Option ((List X0)) := AW (fun s : Int × List X0 => EJ s1 s20 s21 s.1 s.2) (s22,w518)
def X7 (a0 : AE) (a1 : Int) : Option (List X0) :=
  AF (Qm) fun r1 =>
  AF (Lf a1 (decide (a1 = 3)) a0) fun o6 =>
  AF (QA a1 a0.symbols (a0.symbols.length : Int) 0 o6) fun o14 =>
  AF (Q7 o14) fun r15 =>
  some r15.1
def FO (s0 : List X0) (s7 : Int) (w3 : X0) (s8 : Int) : Option ((Int) ⊕ (Unit ⊕ Int)) :=
  AD (decide (s8 < s7)) (
   AV s0 s8 fun x1 =>
   AD ((X0.eqb w3 x1)) (
    some (.inr (.inr s8))) (
    some (.inl (AA .add .i64 s8 1)))) (
   some (.inr (.inl ())))
def O0 (s0 : List X0) (s7 : Int) (w3 : X0) (s8 : Int) : Option (Unit ⊕ Int) := AW (fun s : Int => FO s0 s7 w3 s) s8
def Y7 (a0 : List X0) (a1 : X0) : Option (Int) :=
  AF (O0 a0 (a0.length : Int) a1 0) fun o2 =>
  BI o2 (fun o3 =>
   some (-1)) (fun o4 =>
   some o4)
def Zi (a0 : List X0) (a1 : X0) : Option (Bool) :=
  AF (Y7 a0 a1) fun r1 =>
  some (decide (0 ≤ r1))
def Qn (n : Int) : Option (List X0) := aFr 40 n
def Rz (s0 : List (List X0)) (s3 : Int) (s9 : List (List X0)) (s10 s11 : Int) (s20 : Bool) : Option (Unit) :=
  AD (s20) (
   none) (
   some ())
def Ry (s0 : List (List X0)) (s3 : Int) (s9 : List (List X0)) (s10 s11 : Int) : Option (Int) :=
  AV s9 s11 fun x1 =>
  AF (Rz s0 (AA .add .i64 s3 (x1.length : Int)) s9 s10 s11 (decide ((AA .add .i64 s3 (x1.length : Int)) < 0))) fun o2 =>
  some (AA .add .i64 s3 (x1.length : Int))
def EN (s0 s9 : List (List X0)) (s10 s3 s11 : Int) : Option ((Int × Int) ⊕ (Int)) :=
  AD (decide (s11 < s10)) (
   AF (Ry s0 s3 s9 s10 s11) fun o3 =>
   some (.inl (o3,(AA .add .i64 s11 1)))) (
   some (.inr s3))
def Lr (s0 s9 : List (List X0)) (s10 s3 s11 : Int) : Option (Int) := AW (fun s : Int × Int => EN s0 s9 s10 s.1 s.2) (s3,s11)
theorem JH (s0 s9 : List (List X0)) (s10 s3 s11 : Int) : Lr s0 s9 s10 s3 s11 = BB (EN s0 s9 s10 s3 s11) (fun s : Int × Int => Lr s0 s9 s10 s.1 s.2) := Ae _ _
def EO (s25 : List (List X0)) (s26 s27 : Int) (w6 : List X0) : Option ((Int × List X0) ⊕ ((List X0))) :=
  AD (decide (s27 < s26)) (
   AV s25 s27 fun x6 =>
   AZ (fit w6.length x6.length 40) (
    some (.inl ((AA .add .i64 s27 1),w6 ++ x6)))) (
   some (.inr w6))
def Lt (s25 : List (List X0)) (s26 s27 : Int) (w6 : List X0) : Option ((List X0)) := AW (fun s : Int × List X0 => EO s25 s26 s.1 s.2) (s27,w6)
theorem JI (s25 : List (List X0)) (s26 s27 : Int) (w6 : List X0) : Lt s25 s26 s27 w6 = BB (EO s25 s26 s27 w6) (fun s : Int × List X0 => Lt s25 s26 s.1 s.2) := Ae _ _
def Xe (a0 : List (List X0)) : Option (List X0) :=
  AF (Lr a0 a0 (a0.length : Int) 0 0) fun o4 =>
  AF (Qn o4) fun r5 =>
  AF (Lt a0 (a0.length : Int) 0 r5) fun o7 =>
  some o7
def aAp (s0 : Int) (s1 : List X0) (s20 : Bool) (w4 w6 : X0) : Option (X0) :=
  AD (s20) (
   some (X0.mk w6.kind (AA .add .i64 w6.int 1) w6.str w6.bool)) (
   AZ (w6.str.length + ([97] : List UInt8).length ≤ 9223372036854775807) (
    some (X0.mk w6.kind w6.int (w6.str ++ ([97] : List UInt8)) w6.bool)))
def Oq (s0 : Int) (s1 : List X0) (w4 w6 : X0) : Option (X0) :=
  AF (aAp s0 s1 (decide (s0 = 1)) w4 w6) fun o2 =>
  some o2
def EQ (s0 : Int) (s1 : List X0) (w4 w6 : X0) : Option ((X0) ⊕ (X0)) :=
  AF (Zi s1 w6) fun r1 =>
  AD (r1) (
   AF (Oq s0 s1 w4 w6) fun o3 =>
   some (.inl o3)) (
   some (.inr w6))
def KL (s0 : Int) (s1 : List X0) (w4 w6 : X0) : Option (X0) := AW (fun s : X0 => EQ s0 s1 w4 s) w6
theorem NQ (s0 : Int) (s1 : List X0) (w4 w6 : X0) : KL s0 s1 w4 w6 = BB (EQ s0 s1 w4 w6) (fun s : X0 => KL s0 s1 w4 s) := Ae _ _
def Xk (a0 : Int) (a1 : List X0) : Option (X0 × Bool) :=
  AD (!decide (a0 = 1)) (
   AD (!decide (a0 = 2)) (
    some (X0.mk 0 0 ([] : List UInt8) false,false)) (
    AF (KL a0 a1 (X0.mk 0 0 ([] : List UInt8) false) (X0.mk a0 0 ([] : List UInt8) false)) fun o4 =>
    some (o4,true))) (
   AF (KL a0 a1 (X0.mk 0 0 ([] : List UInt8) false) (X0.mk a0 0 ([] : List UInt8) false)) fun o5 =>
   some (o5,true))
def L3 (s1 : List X0) (s5 : Int) (s28 : List X2) (s29 s30 : Int) (s45 : Bool) (w6 : List X0) (w8 : X2) : Option ((List X0)) :=
  AD (s45) (
   AZ (fit w6.length [w8.value].length 40) (
    some (w6 ++ [w8.value]))) (
   some w6)
def Om (s1 : List X0) (s5 : Int) (s28 : List X2) (s29 s30 : Int) (w6 : List X0) : Option ((List X0)) :=
  AV s28 s30 fun x4 =>
  AD (decide (x4.value.kind = s5)) (
   AF (Zi w6 x4.value) fun r5 =>
   AF (L3 s1 s5 s28 s29 s30 (!r5) w6 x4) fun o6 =>
   some o6) (
   AF (L3 s1 s5 s28 s29 s30 false w6 x4) fun o7 =>
   some o7)
def EP (s1 : List X0) (s5 : Int) (s28 : List X2) (s29 s30 : Int) (w6 : List X0) : Option ((Int × List X0) ⊕ ((List X0))) :=
  AD (decide (s30 < s29)) (
   AF (Om s1 s5 s28 s29 s30 w6) fun o8 =>
   some (.inl ((AA .add .i64 s30 1),o8))) (
   some (.inr w6))
def On (s1 : List X0) (s5 : Int) (s28 : List X2) (s29 s30 : Int) (w6 : List X0) : Option ((List X0)) := AW (fun s : Int × List X0 => EP s1 s5 s28 s29 s.1 s.2) (s30,w6)
def L4 (s61 : Bool) (w6 : List X0) (w9 : X0) : Option ((List X0)) :=
  AD (s61) (
   AZ (fit w6.length [w9].length 40) (
    some (w6 ++ [w9]))) (
   some w6)
def Xg (a0 : Xh) (a1 : List X0) : Option (List X0) :=
  AV a0.q.decls a0.d_ fun x1 =>
  AV x1.types a0.at_ fun x2 =>
  AF (X7 a0.q x2) fun r3 =>
  AF (On a1 x2 a0.b (a0.b.length : Int) 0 r3) fun o9 =>
  AF (Xe [o9,a1]) fun r10 =>
  AF (Xk x2 r10) fun r11 =>
  AF (L4 r11.2 o9 r11.1) fun o12 =>
  some o12
def DX (s1 : Int) (s8 : List X2) (s9 : Int) (w4 : X0) (s10 : Int) : Option ((Int) ⊕ (Unit ⊕ X0)) :=
  AD (decide (s10 < s9)) (
   AV s8 s10 fun x1 =>
   AD (decide (x1.var = s1)) (
    some (.inr (.inr x1.value))) (
    some (.inl (AA .add .i64 s10 1)))) (
   some (.inr (.inl ())))
def Oz (s1 : Int) (s8 : List X2) (s9 : Int) (w4 : X0) (s10 : Int) : Option (Unit ⊕ X0) := AW (fun s : Int => DX s1 s8 s9 w4 s) s10
def Y0 (a0 : List X2) (a1 : Int) : Option (X0 × Bool) :=
  AF (Oz a1 a0 (a0.length : Int) (X0.mk 0 0 ([] : List UInt8) false) 0) fun o2 =>
  BI o2 (fun o3 =>
   some (X0.mk 0 0 ([] : List UInt8) false,false)) (fun o4 =>
   some (o4,true))
def Zl (a0 : Xh) (a1 : Av) (a2 : X0) : Option (Bool) :=
  AD (decide (a1.kind = 1)) (
   some (X0.eqb a1.value a2)) (
   AD (decide (a1.kind = 2)) (
    AF (Y0 a0.b a1.n) fun r1 =>
    AD (r1.2) (
     some (X0.eqb r1.1 a2)) (
     some false)) (
    some true))
def L7 (s6 s7 : Int) (s11 : List X5) (s12 s13 : Int) (s34 : Bool) (w2 : Xh) (w3 : X0) : Option (Int) :=
  AD (s34) (
   AZ (0 ≤ (IntKind.wrap .u64 s7)) (
    some (AA .or .u64 s6 (AA .shl .u64 1 (IntKind.wrap .u64 s7))))) (
   some s6)
def Ou (s6 : Int) (s11 : List X5) (s12 s13 : Int) (w2 : Xh) (w3 : X0) : Option (Int) :=
  AV s11 s13 fun x1 =>
  AD (decide (x1.event = w2.d_)) (
   AV x1.args w2.at_ fun x2 =>
   AF (Zl w2 x2 w3) fun r3 =>
   AF (L7 s6 s13 s11 s12 s13 r3 w2 w3) fun o4 =>
   some o4) (
   AF (L7 s6 s13 s11 s12 s13 false w2 w3) fun o5 =>
   some o5)
def ER (s11 : List X5) (s12 : Int) (w2 : Xh) (w3 : X0) (s6 s13 : Int) : Option ((Int × Int) ⊕ (Int)) :=
  AD (decide (s13 < s12)) (
   AF (Ou s6 s11 s12 s13 w2 w3) fun o6 =>
   some (.inl (o6,(AA .add .i64 s13 1)))) (
   some (.inr s6))
def SU (s11 : List X5) (s12 : Int) (w2 : Xh) (w3 : X0) (s6 s13 : Int) : Option (Int) := AW (fun s : Int × Int => ER s11 s12 w2 w3 s.1 s.2) (s6,s13)
def Xl (a0 : Xh) (a1 : X0) : Option (Int) :=
  AF (SU a0.q.symbols (a0.q.symbols.length : Int) a0 a1 0 0) fun o7 =>
  some o7
def EM (s8 : Int) (s12 : List X0) (s13 s14 : Int) (w0 : List (Int × Bool)) (w3 : Xh) (k : Int) (v : Bool) (w5 : List (Int × Bool)) : Option ((List (Int × Bool))) :=
  some (Eg (AA .and .u64 k s8) true w5)
def Gd (s8 : Int) (s12 : List X0) (s13 s14 : Int) (w0 : List (Int × Bool)) (w3 : Xh) (s : (List (Int × Bool))) : (List (Int × Bool)) := (fun s : (List (Int × Bool)) => (aF0 s : (List (Int × Bool)))) s
def Ro (s8 : Int) (s12 : List X0) (s13 s14 : Int) (w0 : List (Int × Bool)) (w3 : Xh) (w5 : List (Int × Bool)) : Option ((List (Int × Bool))) := EB (Gd s8 s12 s13 s14 w0 w3) w0 (fun (x : Int × Bool) (s : (List (Int × Bool))) => EM s8 s12 s13 s14 w0 w3 x.1 x.2 s) w5
def Ok (s8 : Int) (s12 : List X0) (s13 s14 : Int) (w0 : List (Int × Bool)) (w3 : Xh) (w5 : List (Int × Bool)) : Option ((List (Int × Bool))) :=
  AF (Ro s8 s12 s13 s14 w0 w3 w5) fun o4 =>
  some o4
def EL (s12 : List X0) (s13 : Int) (w0 : List (Int × Bool)) (w3 : Xh) (s14 : Int) (w5 : List (Int × Bool)) : Option ((Int × (List (Int × Bool))) ⊕ ((List (Int × Bool)))) :=
  AD (decide (s14 < s13)) (
   AV s12 s14 fun x2 =>
   AF (Xl w3 x2) fun r3 =>
   AF (Ok r3 s12 s13 s14 w0 w3 w5) fun o5 =>
   some (.inl ((AA .add .i64 s14 1),o5))) (
   some (.inr w5))
def Rl (s12 : List X0) (s13 : Int) (w0 : List (Int × Bool)) (w3 : Xh) (s14 : Int) (w5 : List (Int × Bool)) : Option ((List (Int × Bool))) := AW (fun s : Int × (List (Int × Bool)) => EL s12 s13 w0 w3 s.1 s.2) (s14,w5)
def Xc (a1 : Xh) (w0 : List (Int × Bool)) : Option ((List (Int × Bool))) :=
  AF (Xg a1 ([] : List X0)) fun r1 =>
  AF (Rl r1 (r1.length : Int) w0 a1 0 ([] : List (Int × Bool))) fun o6 =>
  some o6
def UL (s0 s2 : Int) (s4 : Bool) : Option ((Int × Int)) :=
  AD (s4) (
   some ((AA .shr .u64 s0 32),32)) (
   some (s0,s2))
def UM (s0 s2 : Int) (s8 : Bool) : Option ((Int × Int)) :=
  AD (s8) (
   some ((AA .shr .u64 s0 16),(AA .add .i64 s2 16))) (
   some (s0,s2))
def UN (s0 s2 : Int) (s14 : Bool) : Option ((Int × Int)) :=
  AD (s14) (
   some ((AA .shr .u64 s0 8),(AA .add .i64 s2 8))) (
   some (s0,s2))
def Yo (a0 : Int) : Option (Int) :=
  AF (UL a0 0 (decide (4294967296 ≤ a0))) fun o1 =>
  AF (UM o1.1 o1.2 (decide (65536 ≤ o1.1))) fun o2 =>
  AF (UN o2.1 o2.2 (decide (256 ≤ o2.1))) fun o3 =>
  AV ([0,1,2,2,3,3,3,3,4,4,4,4,4,4,4,4,5,5,5,5,5,5,5,5,5,5,5,5,5,5,5,5,6,6,6,6,6,6,6,6,6,6,6,6,6,6,6,6,6,6,6,6,6,6,6,6,6,6,6,6,6,6,6,6,7,7,7,7,7,7,7,7,7,7,7,7,7,7,7,7,7,7,7,7,7,7,7,7,7,7,7,7,7,7,7,7,7,7,7,7,7,7,7,7,7,7,7,7,7,7,7,7,7,7,7,7,7,7,7,7,7,7,7,7,7,7,7,7,8,8,8,8,8,8,8,8,8,8,8,8,8,8,8,8,8,8,8,8,8,8,8,8,8,8,8,8,8,8,8,8,8,8,8,8,8,8,8,8,8,8,8,8,8,8,8,8,8,8,8,8,8,8,8,8,8,8,8,8,8,8,8,8,8,8,8,8,8,8,8,8,8,8,8,8,8,8,8,8,8,8,8,8,8,8,8,8,8,8,8,8,8,8,8,8,8,8,8,8,8,8,8,8,8,8,8,8,8,8,8,8,8,8,8,8,8,8,8,8,8,8,8,8,8,8,8,8] : List UInt8) ((u8w o3.1).toNat : Int) fun x4 =>
  some (AA .add .i64 o3.2 (x4.toNat : Int))
def Q8 (a0 : Int) : Option (Int) :=
  AF (Yo a0) fun r1 =>
  some r1
def Qg (a0 : Int) : Option (Bool) :=
  some (!decide (a0 = a0))
def Yc (a0 a1 : Int) : Option (Bool) :=
  AF (Qg a0) fun r1 =>
  AD (r1) (
   AF (Qg a1) fun r2 =>
   AD (!r2) (
    some true) (
    some (decide (a0 < a1)))) (
   some (decide (a0 < a1)))
def ET (s1 s2 : Int) (s6 s7 : Int) (w0 : List Int) : Option ((Int × List Int) ⊕ ((List Int))) :=
  AD (decide (s1 < s7)) (
   AZ (0 ≤ s7 ∧ s7 + 1 ≤ (w0.length : Int)) (
    AV w0 s7 fun x1 =>
    AZ (0 ≤ (AA .sub .i64 s7 1) ∧ (AA .sub .i64 s7 1) + 1 ≤ (w0.length : Int)) (
     AV w0 (AA .sub .i64 s7 1) fun x2 =>
     AF (Yc x1 x2) fun r3 =>
     AD (r3) (
      AZ (0 ≤ (AA .sub .i64 s7 1) ∧ (AA .sub .i64 s7 1) + 1 ≤ (w0.length : Int)) (
       AV w0 (AA .sub .i64 s7 1) fun x4 =>
       AZ (0 ≤ s7 ∧ s7 + 1 ≤ (w0.length : Int)) (
        AV w0 s7 fun x5 =>
        AZ (0 ≤ s7 ∧ s7 + 1 ≤ (w0.length : Int)) (
         AZ (0 ≤ s7 ∧ s7 + 1 ≤ (w0.length : Int)) (
          AZ (0 ≤ (AA .sub .i64 s7 1) ∧ (AA .sub .i64 s7 1) + 1 ≤ ((w0.set s7.toNat x4).length : Int)) (
           AZ (0 ≤ (AA .sub .i64 s7 1) ∧ (AA .sub .i64 s7 1) + 1 ≤ ((w0.set s7.toNat x4).length : Int)) (
            some (.inl ((AA .sub .i64 s7 1),(w0.set s7.toNat x4).set (AA .sub .i64 s7 1).toNat x5))))))))) (
      some (.inr w0))))) (
   some (.inr w0))
def TA (s1 s2 : Int) (s6 s7 : Int) (w0 : List Int) : Option ((List Int)) := AW (fun s : Int × List Int => ET s1 s2 s6 s.1 s.2) (s7,w0)
theorem Nb (s1 s2 : Int) (s6 s7 : Int) (w0 : List Int) : TA s1 s2 s6 s7 w0 = BB (ET s1 s2 s6 s7 w0) (fun s : Int × List Int => TA s1 s2 s6 s.1 s.2) := Ae _ _
def Gv (s1 s2 s6 : Int) (w0 : List Int) : Option ((Int × List Int) ⊕ ((List Int))) :=
  AD (decide (s6 < s2)) (
   AF (TA s1 s2 s6 s6 w0) fun o6 =>
   some (.inl ((AA .add .i64 s6 1),o6))) (
   some (.inr w0))
def S7 (s1 s2 s6 : Int) (w0 : List Int) : Option ((List Int)) := AW (fun s : Int × List Int => Gv s1 s2 s.1 s.2) (s6,w0)
theorem Na (s1 s2 s6 : Int) (w0 : List Int) : S7 s1 s2 s6 w0 = BB (Gv s1 s2 s6 w0) (fun s : Int × List Int => S7 s1 s2 s.1 s.2) := Ae _ _
def Xu (a1 a2 : Int) (w0 : List Int) : Option (List Int) :=
  AF (S7 a1 a2 (AA .add .i64 a1 1) w0) fun o7 =>
  some o7
def MB (s2 s3 : Int) (s8 s9 : Int) (s36 : Bool) (w0 : List Int) : Option (Int) :=
  AD (s36) (
   some (AA .add .i64 s9 1)) (
   some s9)
def KM (s2 s3 s8 : Int) (w0 : List Int) : Option ((Int × List Int) ⊕ (Unit ⊕ Unit)) :=
  AD (decide (s2 ≤ (AA .add .i64 (AA .mul .i64 2 s8) 1))) (
   some (.inr (.inl ()))) (
   AD (decide ((AA .add .i64 (AA .add .i64 (AA .mul .i64 2 s8) 1) 1) < s2)) (
    AZ (0 ≤ (AA .add .i64 s3 (AA .add .i64 (AA .mul .i64 2 s8) 1)) ∧ (AA .add .i64 s3 (AA .add .i64 (AA .mul .i64 2 s8) 1)) + 1 ≤ (w0.length : Int)) (
     AV w0 (AA .add .i64 s3 (AA .add .i64 (AA .mul .i64 2 s8) 1)) fun x1 =>
     AZ (0 ≤ (AA .add .i64 (AA .add .i64 s3 (AA .add .i64 (AA .mul .i64 2 s8) 1)) 1) ∧ (AA .add .i64 (AA .add .i64 s3 (AA .add .i64 (AA .mul .i64 2 s8) 1)) 1) + 1 ≤ (w0.length : Int)) (
      AV w0 (AA .add .i64 (AA .add .i64 s3 (AA .add .i64 (AA .mul .i64 2 s8) 1)) 1) fun x2 =>
      AF (Yc x1 x2) fun r3 =>
      AF (MB s2 s3 s8 (AA .add .i64 (AA .mul .i64 2 s8) 1) r3 w0) fun o4 =>
      AZ (0 ≤ (AA .add .i64 s3 s8) ∧ (AA .add .i64 s3 s8) + 1 ≤ (w0.length : Int)) (
       AV w0 (AA .add .i64 s3 s8) fun x5 =>
       AZ (0 ≤ (AA .add .i64 s3 o4) ∧ (AA .add .i64 s3 o4) + 1 ≤ (w0.length : Int)) (
        AV w0 (AA .add .i64 s3 o4) fun x6 =>
        AF (Yc x5 x6) fun r7 =>
        AD (!r7) (
         some (.inr (.inr ()))) (
         AZ (0 ≤ (AA .add .i64 s3 o4) ∧ (AA .add .i64 s3 o4) + 1 ≤ (w0.length : Int)) (
          AV w0 (AA .add .i64 s3 o4) fun x8 =>
          AZ (0 ≤ (AA .add .i64 s3 s8) ∧ (AA .add .i64 s3 s8) + 1 ≤ (w0.length : Int)) (
           AV w0 (AA .add .i64 s3 s8) fun x9 =>
           AZ (0 ≤ (AA .add .i64 s3 s8) ∧ (AA .add .i64 s3 s8) + 1 ≤ (w0.length : Int)) (
            AZ (0 ≤ (AA .add .i64 s3 s8) ∧ (AA .add .i64 s3 s8) + 1 ≤ (w0.length : Int)) (
             AZ (0 ≤ (AA .add .i64 s3 o4) ∧ (AA .add .i64 s3 o4) + 1 ≤ ((w0.set (AA .add .i64 s3 s8).toNat x8).length : Int)) (
              AZ (0 ≤ (AA .add .i64 s3 o4) ∧ (AA .add .i64 s3 o4) + 1 ≤ ((w0.set (AA .add .i64 s3 s8).toNat x8).length : Int)) (
               some (.inl (o4,(w0.set (AA .add .i64 s3 s8).toNat x8).set (AA .add .i64 s3 o4).toNat x9)))))))))))))) (
    AF (MB s2 s3 s8 (AA .add .i64 (AA .mul .i64 2 s8) 1) false w0) fun o10 =>
    AZ (0 ≤ (AA .add .i64 s3 s8) ∧ (AA .add .i64 s3 s8) + 1 ≤ (w0.length : Int)) (
     AV w0 (AA .add .i64 s3 s8) fun x11 =>
     AZ (0 ≤ (AA .add .i64 s3 o10) ∧ (AA .add .i64 s3 o10) + 1 ≤ (w0.length : Int)) (
      AV w0 (AA .add .i64 s3 o10) fun x12 =>
      AF (Yc x11 x12) fun r13 =>
      AD (!r13) (
       some (.inr (.inr ()))) (
       AZ (0 ≤ (AA .add .i64 s3 o10) ∧ (AA .add .i64 s3 o10) + 1 ≤ (w0.length : Int)) (
        AV w0 (AA .add .i64 s3 o10) fun x14 =>
        AZ (0 ≤ (AA .add .i64 s3 s8) ∧ (AA .add .i64 s3 s8) + 1 ≤ (w0.length : Int)) (
         AV w0 (AA .add .i64 s3 s8) fun x15 =>
         AZ (0 ≤ (AA .add .i64 s3 s8) ∧ (AA .add .i64 s3 s8) + 1 ≤ (w0.length : Int)) (
          AZ (0 ≤ (AA .add .i64 s3 s8) ∧ (AA .add .i64 s3 s8) + 1 ≤ (w0.length : Int)) (
           AZ (0 ≤ (AA .add .i64 s3 o10) ∧ (AA .add .i64 s3 o10) + 1 ≤ ((w0.set (AA .add .i64 s3 s8).toNat x14).length : Int)) (
            AZ (0 ≤ (AA .add .i64 s3 o10) ∧ (AA .add .i64 s3 o10) + 1 ≤ ((w0.set (AA .add .i64 s3 s8).toNat x14).length : Int)) (
             some (.inl (o10,(w0.set (AA .add .i64 s3 s8).toNat x14).set (AA .add .i64 s3 o10).toNat x15)))))))))))))
def DK (s2 s3 s8 : Int) (w0 : List Int) : Option ((Int × List Int) ⊕ ((List Int) ⊕ (List Int))) :=
  AF (KM s2 s3 s8 w0) fun o16 =>
  BI o16 (fun o17 =>
   some (.inl (o17.1,o17.2))) (fun o18 =>
   BI o18 (fun o19 =>
    some (.inr (.inl w0))) (fun o20 =>
    some (.inr (.inr w0))))
def Sy (s2 s3 s8 : Int) (w0 : List Int) : Option ((List Int) ⊕ (List Int)) := AW (fun s : Int × List Int => DK s2 s3 s.1 s.2) (s8,w0)
theorem NZ (s2 s3 s8 : Int) (w0 : List Int) : Sy s2 s3 s8 w0 = BB (DK s2 s3 s8 w0) (fun s : Int × List Int => Sy s2 s3 s.1 s.2) := Ae _ _
def Xs (a1 a2 a3 : Int) (w0 : List Int) : Option (List Int) :=
  AF (Sy a2 a3 a1 w0) fun o21 =>
  BI o21 (fun o22 =>
   some o22) (fun o23 =>
   some o23)
def Gy (s6 s7 : Int) (s8 s9 : Int) (w0 : List Int) : Option ((Int × List Int) ⊕ ((List Int))) :=
  AD (decide (0 ≤ s9)) (
   AF (Xs s9 s8 s6 w0) fun r1 =>
   some (.inl ((AA .sub .i64 s9 1),r1))) (
   some (.inr w0))
def TM (s6 s7 : Int) (s8 s9 : Int) (w0 : List Int) : Option ((List Int)) := AW (fun s : Int × List Int => Gy s6 s7 s8 s.1 s.2) (s9,w0)
theorem Nc (s6 s7 : Int) (s8 s9 : Int) (w0 : List Int) : TM s6 s7 s8 s9 w0 = BB (Gy s6 s7 s8 s9 w0) (fun s : Int × List Int => TM s6 s7 s8 s.1 s.2) := Ae _ _
def Gz (s6 s7 s10 : Int) (w0 : List Int) : Option ((Int × List Int) ⊕ ((List Int))) :=
  AD (decide (0 ≤ s10)) (
   AZ (0 ≤ (AA .add .i64 s6 s10) ∧ (AA .add .i64 s6 s10) + 1 ≤ (w0.length : Int)) (
    AV w0 (AA .add .i64 s6 s10) fun x3 =>
    AZ (0 ≤ s6 ∧ s6 + 1 ≤ (w0.length : Int)) (
     AV w0 s6 fun x4 =>
     AZ (0 ≤ s6 ∧ s6 + 1 ≤ (w0.length : Int)) (
      AZ (0 ≤ s6 ∧ s6 + 1 ≤ (w0.length : Int)) (
       AZ (0 ≤ (AA .add .i64 s6 s10) ∧ (AA .add .i64 s6 s10) + 1 ≤ ((w0.set s6.toNat x3).length : Int)) (
        AZ (0 ≤ (AA .add .i64 s6 s10) ∧ (AA .add .i64 s6 s10) + 1 ≤ ((w0.set s6.toNat x3).length : Int)) (
         AF (Xs s7 s10 s6 ((w0.set s6.toNat x3).set (AA .add .i64 s6 s10).toNat x4)) fun r5 =>
         some (.inl ((AA .sub .i64 s10 1),r5))))))))) (
   some (.inr w0))
def TP (s6 s7 s10 : Int) (w0 : List Int) : Option ((List Int)) := AW (fun s : Int × List Int => Gz s6 s7 s.1 s.2) (s10,w0)
theorem Nd (s6 s7 s10 : Int) (w0 : List Int) : TP s6 s7 s10 w0 = BB (Gz s6 s7 s10 w0) (fun s : Int × List Int => TP s6 s7 s.1 s.2) := Ae _ _
def Xx (a1 a2 : Int) (w0 : List Int) : Option (List Int) :=
  AF (TM a1 0 (AA .sub .i64 a2 a1) (AA .quo .i64 (AA .sub .i64 (AA .sub .i64 a2 a1) 1) 2) w0) fun o2 =>
  AF (TP a1 0 (AA .sub .i64 (AA .sub .i64 a2 a1) 1) o2) fun o6 =>
  some o6
def Qo (a0 : Int) : Option (Int) :=
  AF (Q8 (IntKind.wrap .u64 a0)) fun r1 =>
  AZ (0 ≤ r1) (
   some (AA .shl .u64 1 r1))
def Qp (w0 : Int) : Option (Int × Int) :=
  some ((AA .xor .u64 (AA .xor .u64 (AA .xor .u64 w0 (AA .shl .u64 w0 13)) (AA .shr .u64 (AA .xor .u64 w0 (AA .shl .u64 w0 13)) 7)) (AA .shl .u64 (AA .xor .u64 (AA .xor .u64 w0 (AA .shl .u64 w0 13)) (AA .shr .u64 (AA .xor .u64 w0 (AA .shl .u64 w0 13)) 7)) 17)),(AA .xor .u64 (AA .xor .u64 (AA .xor .u64 w0 (AA .shl .u64 w0 13)) (AA .shr .u64 (AA .xor .u64 w0 (AA .shl .u64 w0 13)) 7)) (AA .shl .u64 (AA .xor .u64 (AA .xor .u64 w0 (AA .shl .u64 w0 13)) (AA .shr .u64 (AA .xor .u64 w0 (AA .shl .u64 w0 13)) 7)) 17)))
def TX (s1 s6 : Int) (s8 s9 s10 : Int) (s43 : Bool) (w0 : List Int) (w7 : Int) : Option (Int) :=
  AD (s43) (
   some (AA .sub .i64 s10 s6)) (
   some s10)
def aB8 (s1 s6 : Int) (s8 s9 : Int) (w0 : List Int) (w7 : Int) : Option ((List Int × Int)) :=
  AF (Qp w7) fun r2 =>
  AF (TX s1 s6 s8 s9 (IntKind.wrap .i64 (AA .and .u64 r2.1 (AA .sub .u64 s8 1))) (decide (s6 ≤ (IntKind.wrap .i64 (AA .and .u64 r2.1 (AA .sub .u64 s8 1))))) w0 r2.2) fun o3 =>
  AZ (0 ≤ (AA .add .i64 s1 o3) ∧ (AA .add .i64 s1 o3) + 1 ≤ (w0.length : Int)) (
   AV w0 (AA .add .i64 s1 o3) fun x4 =>
   AZ (0 ≤ s9 ∧ s9 + 1 ≤ (w0.length : Int)) (
    AV w0 s9 fun x5 =>
    AZ (0 ≤ s9 ∧ s9 + 1 ≤ (w0.length : Int)) (
     AZ (0 ≤ s9 ∧ s9 + 1 ≤ (w0.length : Int)) (
      AZ (0 ≤ (AA .add .i64 s1 o3) ∧ (AA .add .i64 s1 o3) + 1 ≤ ((w0.set s9.toNat x4).length : Int)) (
       AZ (0 ≤ (AA .add .i64 s1 o3) ∧ (AA .add .i64 s1 o3) + 1 ≤ ((w0.set s9.toNat x4).length : Int)) (
        some ((w0.set s9.toNat x4).set (AA .add .i64 s1 o3).toNat x5,r2.2)))))))
def G2 (s1 s6 : Int) (s8 s9 : Int) (w0 : List Int) (w7 : Int) : Option ((Int × List Int × Int) ⊕ ((List Int))) :=
  AD (decide (s9 ≤ (AA .add .i64 (AA .add .i64 s1 (AA .mul .i64 (AA .quo .i64 s6 4) 2)) 1))) (
   AF (aB8 s1 s6 s8 s9 w0 w7) fun o6 =>
   some (.inl ((AA .add .i64 s9 1),o6.1,o6.2))) (
   some (.inr w0))
def TY (s1 s6 : Int) (s8 s9 : Int) (w0 : List Int) (w7 : Int) : Option ((List Int)) := AW (fun s : Int × List Int × Int => G2 s1 s6 s8 s.1 s.2.1 s.2.2) (s9,w0,w7)
theorem Nf (s1 s6 : Int) (s8 s9 : Int) (w0 : List Int) (w7 : Int) : TY s1 s6 s8 s9 w0 w7 = BB (G2 s1 s6 s8 s9 w0 w7) (fun s : Int × List Int × Int => TY s1 s6 s8 s.1 s.2.1 s.2.2) := Ae _ _
def aB6 (s1 s6 : Int) (s15 : Bool) (w0 : List Int) : Option ((List Int)) :=
  AD (s15) (
   AF (Qo s6) fun r1 =>
   AF (TY s1 s6 r1 (AA .sub .i64 (AA .add .i64 s1 (AA .mul .i64 (AA .quo .i64 s6 4) 2)) 1) w0 (IntKind.wrap .u64 s6)) fun o7 =>
   some o7) (
   some w0)
def Xz (a1 a2 : Int) (w0 : List Int) : Option (List Int) :=
  AF (aB6 a1 (AA .sub .i64 a2 a1) (decide (8 ≤ (AA .sub .i64 a2 a1))) w0) fun o8 =>
  some o8
def Zx (a0 : List Int) (a1 a2 w0 : Int) : Option (Int × Int × Int) :=
  AV a0 a2 fun x1 =>
  AV a0 a1 fun x2 =>
  AF (Yc x1 x2) fun r3 =>
  AD (r3) (
   some (a2,a1,(AA .add .i64 w0 1))) (
   some (a1,a2,w0))
def Q9 (a0 : List Int) (a1 a2 : Int) (a3 w0 : Int) : Option (Int × Int) :=
  AF (Zx a0 a1 a2 w0) fun r1 =>
  AF (Zx a0 r1.2.1 a3 r1.2.2) fun r2 =>
  AF (Zx a0 r1.1 r2.1 r2.2.2) fun r3 =>
  some (r3.2.1,r3.2.2)
def Zy (a0 : List Int) (a1 w0 : Int) : Option (Int × Int) :=
  AF (Q9 a0 (AA .sub .i64 a1 1) a1 (AA .add .i64 a1 1) w0) fun r1 =>
  some (r1.1,r1.2)
def VL (s0 : List Int) (s10 s11 s12 : Int) (s34 : Bool) (w9 : Int) : Option ((Int × Int × Int × Int)) :=
  AD (s34) (
   AF (Zy s0 s10 w9) fun r1 =>
   AF (Zy s0 s11 r1.2) fun r2 =>
   AF (Zy s0 s12 r2.2) fun r3 =>
   some (r1.1,r2.1,r3.1,r3.2)) (
   some (s10,s11,s12,w9))
def aEz (s0 : List Int) (s8 s10 : Int) (s11 s12 : Int) (s32 : Bool) (w9 : Int) : Option ((Int × Int)) :=
  AD (s32) (
   AF (VL s0 s10 s11 s12 (decide (50 ≤ s8)) w9) fun o4 =>
   AF (Q9 s0 o4.1 o4.2.1 o4.2.2.1 o4.2.2.2) fun r5 =>
   some (r5.1,r5.2)) (
   some (s11,w9))
def Zg (a0 : List Int) (a1 a2 : Int) : Option (Int × Int) :=
  AF (aEz a0 (AA .sub .i64 a2 a1) (AA .add .i64 a1 (AA .mul .i64 (AA .quo .i64 (AA .sub .i64 a2 a1) 4) 1)) (AA .add .i64 a1 (AA .mul .i64 (AA .quo .i64 (AA .sub .i64 a2 a1) 4) 2)) (AA .add .i64 a1 (AA .mul .i64 (AA .quo .i64 (AA .sub .i64 a2 a1) 4) 3)) (decide (8 ≤ (AA .sub .i64 a2 a1))) 0) fun o6 =>
  AD (decide (o6.2 = 0)) (
   some (o6.1,1)) (
   AD (decide (o6.2 = 12)) (
    some (o6.1,2)) (
    some (o6.1,0)))
def JR (s6 s7 : Int) (w0 : List Int) : Option ((Int × Int × List Int) ⊕ ((List Int))) :=
  AD (decide (s6 < s7)) (
   AZ (0 ≤ s7 ∧ s7 + 1 ≤ (w0.length : Int)) (
    AV w0 s7 fun x1 =>
    AZ (0 ≤ s6 ∧ s6 + 1 ≤ (w0.length : Int)) (
     AV w0 s6 fun x2 =>
     AZ (0 ≤ s6 ∧ s6 + 1 ≤ (w0.length : Int)) (
      AZ (0 ≤ s6 ∧ s6 + 1 ≤ (w0.length : Int)) (
       AZ (0 ≤ s7 ∧ s7 + 1 ≤ ((w0.set s6.toNat x1).length : Int)) (
        AZ (0 ≤ s7 ∧ s7 + 1 ≤ ((w0.set s6.toNat x1).length : Int)) (
         some (.inl ((AA .add .i64 s6 1),(AA .sub .i64 s7 1),(w0.set s6.toNat x1).set s7.toNat x2))))))))) (
   some (.inr w0))
def Uc (s6 s7 : Int) (w0 : List Int) : Option ((List Int)) := AW (fun s : Int × Int × List Int => JR s.1 s.2.1 s.2.2) (s6,s7,w0)
theorem aEd (s6 s7 : Int) (w0 : List Int) : Uc s6 s7 w0 = BB (JR s6 s7 w0) (fun s : Int × Int × List Int => Uc s.1 s.2.1 s.2.2) := Ae _ _
def Yv (a1 a2 : Int) (w0 : List Int) : Option (List Int) :=
  AF (Uc a1 (AA .sub .i64 a2 1) w0) fun o3 =>
  some o3
def GR (s1 s2 s8 : Int) (w0 : List Int) (s7 : Int) : Option ((Int) ⊕ (Int)) :=
  AD (decide (s7 < s2)) (
   AZ (0 ≤ s7 ∧ s7 + 1 ≤ (w0.length : Int)) (
    AV w0 s7 fun x1 =>
    AZ (0 ≤ (AA .sub .i64 s7 1) ∧ (AA .sub .i64 s7 1) + 1 ≤ (w0.length : Int)) (
     AV w0 (AA .sub .i64 s7 1) fun x2 =>
     AF (Yc x1 x2) fun r3 =>
     AD (!r3) (
      some (.inl (AA .add .i64 s7 1))) (
      some (.inr s7))))) (
   some (.inr s7))
def QW (s1 s2 s8 : Int) (w0 : List Int) (s7 : Int) : Option (Int) := AW (fun s : Int => GR s1 s2 s8 w0 s) s7
theorem NE (s1 s2 s8 : Int) (w0 : List Int) (s7 : Int) : QW s1 s2 s8 w0 s7 = BB (GR s1 s2 s8 w0 s7) (fun s : Int => QW s1 s2 s8 w0 s) := Ae _ _
def GS (s1 s2 : Int) (s7 s8 s9 : Int) (w0 : List Int) : Option ((Int × List Int) ⊕ ((List Int))) :=
  AD (decide (1 ≤ s9)) (
   AZ (0 ≤ s9 ∧ s9 + 1 ≤ (w0.length : Int)) (
    AV w0 s9 fun x7 =>
    AZ (0 ≤ (AA .sub .i64 s9 1) ∧ (AA .sub .i64 s9 1) + 1 ≤ (w0.length : Int)) (
     AV w0 (AA .sub .i64 s9 1) fun x8 =>
     AF (Yc x7 x8) fun r9 =>
     AD (!r9) (
      some (.inr w0)) (
      AZ (0 ≤ (AA .sub .i64 s9 1) ∧ (AA .sub .i64 s9 1) + 1 ≤ (w0.length : Int)) (
       AV w0 (AA .sub .i64 s9 1) fun x10 =>
       AZ (0 ≤ s9 ∧ s9 + 1 ≤ (w0.length : Int)) (
        AV w0 s9 fun x11 =>
        AZ (0 ≤ s9 ∧ s9 + 1 ≤ (w0.length : Int)) (
         AZ (0 ≤ s9 ∧ s9 + 1 ≤ (w0.length : Int)) (
          AZ (0 ≤ (AA .sub .i64 s9 1) ∧ (AA .sub .i64 s9 1) + 1 ≤ ((w0.set s9.toNat x10).length : Int)) (
           AZ (0 ≤ (AA .sub .i64 s9 1) ∧ (AA .sub .i64 s9 1) + 1 ≤ ((w0.set s9.toNat x10).length : Int)) (
            some (.inl ((AA .sub .i64 s9 1),(w0.set s9.toNat x10).set (AA .sub .i64 s9 1).toNat x11)))))))))))) (
   some (.inr w0))
def QZ (s1 s2 : Int) (s7 s8 s9 : Int) (w0 : List Int) : Option ((List Int)) := AW (fun s : Int × List Int => GS s1 s2 s7 s8 s.1 s.2) (s9,w0)
theorem NG (s1 s2 : Int) (s7 s8 s9 : Int) (w0 : List Int) : QZ s1 s2 s7 s8 s9 w0 = BB (GS s1 s2 s7 s8 s9 w0) (fun s : Int × List Int => QZ s1 s2 s7 s8 s.1 s.2) := Ae _ _
def QS (s1 s2 : Int) (s7 s8 : Int) (s61 : Bool) (w0 : List Int) : Option ((List Int)) :=
  AD (s61) (
   AF (QZ s1 s2 s7 s8 (AA .sub .i64 s7 1) w0) fun o12 =>
   some o12) (
   some w0)
def GT (s1 s2 : Int) (s7 s8 s10 : Int) (w0 : List Int) : Option ((Int × List Int) ⊕ ((List Int))) :=
  AD (decide (s10 < s2)) (
   AZ (0 ≤ s10 ∧ s10 + 1 ≤ (w0.length : Int)) (
    AV w0 s10 fun x14 =>
    AZ (0 ≤ (AA .sub .i64 s10 1) ∧ (AA .sub .i64 s10 1) + 1 ≤ (w0.length : Int)) (
     AV w0 (AA .sub .i64 s10 1) fun x15 =>
     AF (Yc x14 x15) fun r16 =>
     AD (!r16) (
      some (.inr w0)) (
      AZ (0 ≤ (AA .sub .i64 s10 1) ∧ (AA .sub .i64 s10 1) + 1 ≤ (w0.length : Int)) (
       AV w0 (AA .sub .i64 s10 1) fun x17 =>
       AZ (0 ≤ s10 ∧ s10 + 1 ≤ (w0.length : Int)) (
        AV w0 s10 fun x18 =>
        AZ (0 ≤ s10 ∧ s10 + 1 ≤ (w0.length : Int)) (
         AZ (0 ≤ s10 ∧ s10 + 1 ≤ (w0.length : Int)) (
          AZ (0 ≤ (AA .sub .i64 s10 1) ∧ (AA .sub .i64 s10 1) + 1 ≤ ((w0.set s10.toNat x17).length : Int)) (
           AZ (0 ≤ (AA .sub .i64 s10 1) ∧ (AA .sub .i64 s10 1) + 1 ≤ ((w0.set s10.toNat x17).length : Int)) (
            some (.inl ((AA .add .i64 s10 1),(w0.set s10.toNat x17).set (AA .sub .i64 s10 1).toNat x18)))))))))))) (
   some (.inr w0))
def RF (s1 s2 : Int) (s7 s8 s10 : Int) (w0 : List Int) : Option ((List Int)) := AW (fun s : Int × List Int => GT s1 s2 s7 s8 s.1 s.2) (s10,w0)
theorem NH (s1 s2 : Int) (s7 s8 s10 : Int) (w0 : List Int) : RF s1 s2 s7 s8 s10 w0 = BB (GT s1 s2 s7 s8 s10 w0) (fun s : Int × List Int => RF s1 s2 s7 s8 s.1 s.2) := Ae _ _
def QT (s1 s2 : Int) (s7 s8 : Int) (s98 : Bool) (w0 : List Int) : Option ((List Int)) :=
  AD (s98) (
   AF (RF s1 s2 s7 s8 (AA .add .i64 s7 1) w0) fun o19 =>
   some o19) (
   some w0)
def YK (s1 s2 : Int) (s7 s8 : Int) (w0 : List Int) : Option ((Int × List Int) ⊕ Bool) :=
  AF (QW s1 s2 s8 w0 s7) fun o4 =>
  AD (decide (o4 = s2)) (
   some (.inr true)) (
   AD (decide ((AA .sub .i64 s2 s1) < 50)) (
    some (.inr false)) (
    AZ (0 ≤ (AA .sub .i64 o4 1) ∧ (AA .sub .i64 o4 1) + 1 ≤ (w0.length : Int)) (
     AV w0 (AA .sub .i64 o4 1) fun x5 =>
     AZ (0 ≤ o4 ∧ o4 + 1 ≤ (w0.length : Int)) (
      AV w0 o4 fun x6 =>
      AZ (0 ≤ o4 ∧ o4 + 1 ≤ (w0.length : Int)) (
       AZ (0 ≤ o4 ∧ o4 + 1 ≤ (w0.length : Int)) (
        AZ (0 ≤ (AA .sub .i64 o4 1) ∧ (AA .sub .i64 o4 1) + 1 ≤ ((w0.set o4.toNat x5).length : Int)) (
         AZ (0 ≤ (AA .sub .i64 o4 1) ∧ (AA .sub .i64 o4 1) + 1 ≤ ((w0.set o4.toNat x5).length : Int)) (
          AF (QS s1 s2 o4 s8 (decide (2 ≤ (AA .sub .i64 o4 s1))) ((w0.set o4.toNat x5).set (AA .sub .i64 o4 1).toNat x6)) fun o13 =>
          AF (QT s1 s2 o4 s8 (decide (2 ≤ (AA .sub .i64 s2 o4))) o13) fun o20 =>
          some (.inl (o4,o20))))))))))
def GQ (s1 s2 : Int) (s7 s8 : Int) (w0 : List Int) : Option ((Int × Int × List Int) ⊕ ((List Int) ⊕ (Bool × List Int))) :=
  AD (decide (s8 < 5)) (
   AF (YK s1 s2 s7 s8 w0) fun o21 =>
   BI o21 (fun o22 =>
    some (.inl (o22.1,(AA .add .i64 s8 1),o22.2))) (fun o23 =>
    some (.inr (.inr (o23,w0))))) (
   some (.inr (.inl w0)))
def Og (s1 s2 : Int) (s7 s8 : Int) (w0 : List Int) : Option ((List Int) ⊕ (Bool × List Int)) := AW (fun s : Int × Int × List Int => GQ s1 s2 s.1 s.2.1 s.2.2) (s7,s8,w0)
theorem ND (s1 s2 : Int) (s7 s8 : Int) (w0 : List Int) : Og s1 s2 s7 s8 w0 = BB (GQ s1 s2 s7 s8 w0) (fun s : Int × Int × List Int => Og s1 s2 s.1 s.2.1 s.2.2) := Ae _ _
def X9 (a1 a2 : Int) (w0 : List Int) : Option (Bool × List Int) :=
  AF (Og a1 a2 (AA .add .i64 a1 1) 0 w0) fun o24 =>
  BI o24 (fun o25 =>
   some (false,o25)) (fun o26 =>
   some (o26.1,o26.2))
def Gg (s1 s10 : Int) (w0 : List Int) (s9 : Int) : Option ((Int) ⊕ (Int)) :=
  AD (decide (s9 ≤ s10)) (
   AZ (0 ≤ s1 ∧ s1 + 1 ≤ (w0.length : Int)) (
    AV w0 s1 fun x3 =>
    AZ (0 ≤ s9 ∧ s9 + 1 ≤ (w0.length : Int)) (
     AV w0 s9 fun x4 =>
     AF (Yc x3 x4) fun r5 =>
     AD (!r5) (
      some (.inl (AA .add .i64 s9 1))) (
      some (.inr s9))))) (
   some (.inr s9))
def SE (s1 s10 : Int) (w0 : List Int) (s9 : Int) : Option (Int) := AW (fun s : Int => Gg s1 s10 w0 s) s9
theorem NO (s1 s10 : Int) (w0 : List Int) (s9 : Int) : SE s1 s10 w0 s9 = BB (Gg s1 s10 w0 s9) (fun s : Int => SE s1 s10 w0 s) := Ae _ _
def Gh (s1 s9 : Int) (w0 : List Int) (s10 : Int) : Option ((Int) ⊕ (Int)) :=
  AD (decide (s9 ≤ s10)) (
   AZ (0 ≤ s1 ∧ s1 + 1 ≤ (w0.length : Int)) (
    AV w0 s1 fun x7 =>
    AZ (0 ≤ s10 ∧ s10 + 1 ≤ (w0.length : Int)) (
     AV w0 s10 fun x8 =>
     AF (Yc x7 x8) fun r9 =>
     AD (r9) (
      some (.inl (AA .sub .i64 s10 1))) (
      some (.inr s10))))) (
   some (.inr s10))
def SH (s1 s9 : Int) (w0 : List Int) (s10 : Int) : Option (Int) := AW (fun s : Int => Gh s1 s9 w0 s) s10
theorem NP (s1 s9 : Int) (w0 : List Int) (s10 : Int) : SH s1 s9 w0 s10 = BB (Gh s1 s9 w0 s10) (fun s : Int => SH s1 s9 w0 s) := Ae _ _
def JK (s1 s9 s10 : Int) (w0 : List Int) : Option ((Int × Int × List Int) ⊕ ((Int × List Int))) :=
  AF (SE s1 s10 w0 s9) fun o6 =>
  AF (SH s1 o6 w0 s10) fun o10 =>
  AD (decide (o10 < o6)) (
   some (.inr (o6,w0))) (
   AZ (0 ≤ o10 ∧ o10 + 1 ≤ (w0.length : Int)) (
    AV w0 o10 fun x11 =>
    AZ (0 ≤ o6 ∧ o6 + 1 ≤ (w0.length : Int)) (
     AV w0 o6 fun x12 =>
     AZ (0 ≤ o6 ∧ o6 + 1 ≤ (w0.length : Int)) (
      AZ (0 ≤ o6 ∧ o6 + 1 ≤ (w0.length : Int)) (
       AZ (0 ≤ o10 ∧ o10 + 1 ≤ ((w0.set o6.toNat x11).length : Int)) (
        AZ (0 ≤ o10 ∧ o10 + 1 ≤ ((w0.set o6.toNat x11).length : Int)) (
         some (.inl ((AA .add .i64 o6 1),(AA .sub .i64 o10 1),(w0.set o6.toNat x11).set o10.toNat x12)))))))))
def SB (s1 s9 s10 : Int) (w0 : List Int) : Option ((Int × List Int)) := AW (fun s : Int × Int × List Int => JK s1 s.1 s.2.1 s.2.2) (s9,s10,w0)
theorem aAg (s1 s9 s10 : Int) (w0 : List Int) : SB s1 s9 s10 w0 = BB (JK s1 s9 s10 w0) (fun s : Int × Int × List Int => SB s1 s.1 s.2.1 s.2.2) := Ae _ _
def Xi (a1 a2 a3 : Int) (w0 : List Int) : Option (Int × List Int) :=
  AZ (0 ≤ a3 ∧ a3 + 1 ≤ (w0.length : Int)) (
   AV w0 a3 fun x1 =>
   AZ (0 ≤ a1 ∧ a1 + 1 ≤ (w0.length : Int)) (
    AV w0 a1 fun x2 =>
    AZ (0 ≤ a1 ∧ a1 + 1 ≤ (w0.length : Int)) (
     AZ (0 ≤ a1 ∧ a1 + 1 ≤ (w0.length : Int)) (
      AZ (0 ≤ a3 ∧ a3 + 1 ≤ ((w0.set a1.toNat x1).length : Int)) (
       AZ (0 ≤ a3 ∧ a3 + 1 ≤ ((w0.set a1.toNat x1).length : Int)) (
        AF (SB a1 (AA .add .i64 a1 1) (AA .sub .i64 a2 1) ((w0.set a1.toNat x1).set a3.toNat x2)) fun o13 =>
        some (o13.1,o13.2)))))))
def GU (s1 s11 : Int) (w0 : List Int) (s10 : Int) : Option ((Int) ⊕ (Int)) :=
  AD (decide (s10 ≤ s11)) (
   AZ (0 ≤ s10 ∧ s10 + 1 ≤ (w0.length : Int)) (
    AV w0 s10 fun x3 =>
    AZ (0 ≤ s1 ∧ s1 + 1 ≤ (w0.length : Int)) (
     AV w0 s1 fun x4 =>
     AF (Yc x3 x4) fun r5 =>
     AD (r5) (
      some (.inl (AA .add .i64 s10 1))) (
      some (.inr s10))))) (
   some (.inr s10))
def Oh (s1 s11 : Int) (w0 : List Int) (s10 : Int) : Option (Int) := AW (fun s : Int => GU s1 s11 w0 s) s10
theorem NI (s1 s11 : Int) (w0 : List Int) (s10 : Int) : Oh s1 s11 w0 s10 = BB (GU s1 s11 w0 s10) (fun s : Int => Oh s1 s11 w0 s) := Ae _ _
def GV (s1 s10 : Int) (w0 : List Int) (s11 : Int) : Option ((Int) ⊕ (Int)) :=
  AD (decide (s10 ≤ s11)) (
   AZ (0 ≤ s11 ∧ s11 + 1 ≤ (w0.length : Int)) (
    AV w0 s11 fun x7 =>
    AZ (0 ≤ s1 ∧ s1 + 1 ≤ (w0.length : Int)) (
     AV w0 s1 fun x8 =>
     AF (Yc x7 x8) fun r9 =>
     AD (!r9) (
      some (.inl (AA .sub .i64 s11 1))) (
      some (.inr s11))))) (
   some (.inr s11))
def Oi (s1 s10 : Int) (w0 : List Int) (s11 : Int) : Option (Int) := AW (fun s : Int => GV s1 s10 w0 s) s11
theorem NJ (s1 s10 : Int) (w0 : List Int) (s11 : Int) : Oi s1 s10 w0 s11 = BB (GV s1 s10 w0 s11) (fun s : Int => Oi s1 s10 w0 s) := Ae _ _
def RT (s1 s11 : Int) (w0 : List Int) (s10 : Int) : Option ((Int) ⊕ (Int)) :=
  AD (decide (s10 ≤ s11)) (
   AZ (0 ≤ s10 ∧ s10 + 1 ≤ (w0.length : Int)) (
    AV w0 s10 fun x15 =>
    AZ (0 ≤ s1 ∧ s1 + 1 ≤ (w0.length : Int)) (
     AV w0 s1 fun x16 =>
     AF (Yc x15 x16) fun r17 =>
     AD (r17) (
      some (.inl (AA .add .i64 s10 1))) (
      some (.inr s10))))) (
   some (.inr s10))
def aH8 (s1 s11 : Int) (w0 : List Int) (s10 : Int) : Option (Int) := AW (fun s : Int => RT s1 s11 w0 s) s10
def RW (s1 s10 : Int) (w0 : List Int) (s11 : Int) : Option ((Int) ⊕ (Int)) :=
  AD (decide (s10 ≤ s11)) (
   AZ (0 ≤ s11 ∧ s11 + 1 ≤ (w0.length : Int)) (
    AV w0 s11 fun x19 =>
    AZ (0 ≤ s1 ∧ s1 + 1 ≤ (w0.length : Int)) (
     AV w0 s1 fun x20 =>
     AF (Yc x19 x20) fun r21 =>
     AD (!r21) (
      some (.inl (AA .sub .i64 s11 1))) (
      some (.inr s11))))) (
   some (.inr s11))
def aH9 (s1 s10 : Int) (w0 : List Int) (s11 : Int) : Option (Int) := AW (fun s : Int => RW s1 s10 w0 s) s11
def JE (s1 s10 s11 : Int) (w0 : List Int) : Option ((Int × Int × List Int) ⊕ ((Int × List Int))) :=
  AF (aH8 s1 s11 w0 s10) fun o18 =>
  AF (aH9 s1 o18 w0 s11) fun o22 =>
  AD (decide (o22 < o18)) (
   some (.inr (o22,w0))) (
   AZ (0 ≤ o22 ∧ o22 + 1 ≤ (w0.length : Int)) (
    AV w0 o22 fun x23 =>
    AZ (0 ≤ o18 ∧ o18 + 1 ≤ (w0.length : Int)) (
     AV w0 o18 fun x24 =>
     AZ (0 ≤ o18 ∧ o18 + 1 ≤ (w0.length : Int)) (
      AZ (0 ≤ o18 ∧ o18 + 1 ≤ (w0.length : Int)) (
       AZ (0 ≤ o22 ∧ o22 + 1 ≤ ((w0.set o18.toNat x23).length : Int)) (
        AZ (0 ≤ o22 ∧ o22 + 1 ≤ ((w0.set o18.toNat x23).length : Int)) (
         some (.inl ((AA .add .i64 o18 1),(AA .sub .i64 o22 1),(w0.set o18.toNat x23).set o22.toNat x24)))))))))
def RN (s1 s10 s11 : Int) (w0 : List Int) : Option ((Int × List Int)) := AW (fun s : Int × Int × List Int => JE s1 s.1 s.2.1 s.2.2) (s10,s11,w0)
theorem YU (s1 s10 s11 : Int) (w0 : List Int) : RN s1 s10 s11 w0 = BB (JE s1 s10 s11 w0) (fun s : Int × Int × List Int => RN s1 s.1 s.2.1 s.2.2) := Ae _ _
def Xa (a1 a2 a3 : Int) (w0 : List Int) : Option (Int × Bool × List Int) :=
  AZ (0 ≤ a3 ∧ a3 + 1 ≤ (w0.length : Int)) (
   AV w0 a3 fun x1 =>
   AZ (0 ≤ a1 ∧ a1 + 1 ≤ (w0.length : Int)) (
    AV w0 a1 fun x2 =>
    AZ (0 ≤ a1 ∧ a1 + 1 ≤ (w0.length : Int)) (
     AZ (0 ≤ a1 ∧ a1 + 1 ≤ (w0.length : Int)) (
      AZ (0 ≤ a3 ∧ a3 + 1 ≤ ((w0.set a1.toNat x1).length : Int)) (
       AZ (0 ≤ a3 ∧ a3 + 1 ≤ ((w0.set a1.toNat x1).length : Int)) (
        AF (Oh a1 (AA .sub .i64 a2 1) ((w0.set a1.toNat x1).set a3.toNat x2) (AA .add .i64 a1 1)) fun o6 =>
        AF (Oi a1 o6 ((w0.set a1.toNat x1).set a3.toNat x2) (AA .sub .i64 a2 1)) fun o10 =>
        AD (decide (o10 < o6)) (
         AZ (0 ≤ a1 ∧ a1 + 1 ≤ (((w0.set a1.toNat x1).set a3.toNat x2).length : Int)) (
          AV ((w0.set a1.toNat x1).set a3.toNat x2) a1 fun x11 =>
          AZ (0 ≤ o10 ∧ o10 + 1 ≤ (((w0.set a1.toNat x1).set a3.toNat x2).length : Int)) (
           AV ((w0.set a1.toNat x1).set a3.toNat x2) o10 fun x12 =>
           AZ (0 ≤ o10 ∧ o10 + 1 ≤ (((w0.set a1.toNat x1).set a3.toNat x2).length : Int)) (
            AZ (0 ≤ o10 ∧ o10 + 1 ≤ (((w0.set a1.toNat x1).set a3.toNat x2).length : Int)) (
             AZ (0 ≤ a1 ∧ a1 + 1 ≤ ((((w0.set a1.toNat x1).set a3.toNat x2).set o10.toNat x11).length : Int)) (
              AZ (0 ≤ a1 ∧ a1 + 1 ≤ ((((w0.set a1.toNat x1).set a3.toNat x2).set o10.toNat x11).length : Int)) (
               some (o10,true,(((w0.set a1.toNat x1).set a3.toNat x2).set o10.toNat x11).set a1.toNat x12)))))))) (
         AZ (0 ≤ o10 ∧ o10 + 1 ≤ (((w0.set a1.toNat x1).set a3.toNat x2).length : Int)) (
          AV ((w0.set a1.toNat x1).set a3.toNat x2) o10 fun x13 =>
          AZ (0 ≤ o6 ∧ o6 + 1 ≤ (((w0.set a1.toNat x1).set a3.toNat x2).length : Int)) (
           AV ((w0.set a1.toNat x1).set a3.toNat x2) o6 fun x14 =>
           AZ (0 ≤ o6 ∧ o6 + 1 ≤ (((w0.set a1.toNat x1).set a3.toNat x2).length : Int)) (
            AZ (0 ≤ o6 ∧ o6 + 1 ≤ (((w0.set a1.toNat x1).set a3.toNat x2).length : Int)) (
             AZ (0 ≤ o10 ∧ o10 + 1 ≤ ((((w0.set a1.toNat x1).set a3.toNat x2).set o6.toNat x13).length : Int)) (
              AZ (0 ≤ o10 ∧ o10 + 1 ≤ ((((w0.set a1.toNat x1).set a3.toNat x2).set o6.toNat x13).length : Int)) (
               AF (RN a1 (AA .add .i64 o6 1) (AA .sub .i64 o10 1) ((((w0.set a1.toNat x1).set a3.toNat x2).set o6.toNat x13).set o10.toNat x14)) fun o25 =>
               AZ (0 ≤ a1 ∧ a1 + 1 ≤ (o25.2.length : Int)) (
                AV o25.2 a1 fun x26 =>
                AZ (0 ≤ o25.1 ∧ o25.1 + 1 ≤ (o25.2.length : Int)) (
                 AV o25.2 o25.1 fun x27 =>
                 AZ (0 ≤ o25.1 ∧ o25.1 + 1 ≤ (o25.2.length : Int)) (
                  AZ (0 ≤ o25.1 ∧ o25.1 + 1 ≤ (o25.2.length : Int)) (
                   AZ (0 ≤ a1 ∧ a1 + 1 ≤ ((o25.2.set o25.1.toNat x26).length : Int)) (
                    AZ (0 ≤ a1 ∧ a1 + 1 ≤ ((o25.2.set o25.1.toNat x26).length : Int)) (
                     some (o25.1,false,(o25.2.set o25.1.toNat x26).set a1.toNat x27))))))))))))))))))))
def Rs (self : Int → Int → Int → (List Int) → Option (List Int)) (s1 s2 s3 : Int) (s8 s9 : Bool) (s10 : Int) (s35 : Bool) (w0 : List Int) : Option ((Int × List Int)) :=
  AD (s35) (
   AF (Xz s1 s2 w0) fun r3 =>
   some ((AA .sub .i64 s3 1),r3)) (
   some (s3,w0))
def Rt (self : Int → Int → Int → (List Int) → Option (List Int)) (s1 s2 s3 : Int) (s8 s9 : Bool) (s10 s11 s12 : Int) (s50 : Bool) (w0 : List Int) : Option ((Int × Int × List Int)) :=
  AD (s50) (
   AF (Yv s1 s2 w0) fun r6 =>
   some ((AA .sub .i64 (AA .sub .i64 s2 1) (AA .sub .i64 s11 s1)),1,r6)) (
   some (s11,s12,w0))
def KK (self : Int → Int → Int → (List Int) → Option (List Int)) (s1 s2 s3 : Int) (s8 s9 : Bool) (s10 s11 : Int) (s68 : Bool) (w0 : List Int) : Option ((List Int) ⊕ (List Int)) :=
  AD (s68) (
   AF (X9 s1 s2 w0) fun r8 =>
   AD (r8.1) (
    some (.inr r8.2)) (
    some (.inl r8.2))) (
   some (.inl w0))
def FK (self : Int → Int → Int → (List Int) → Option (List Int)) (s1 s2 s3 : Int) (s9 : Bool) (s14 s16 : Int) (s17 s18 : Int) (s113 : Bool) (w0 : List Int) : Option ((Int × Int × Bool × List Int)) :=
  AD (s113) (
   AF (self s1 s14 s3 w0) fun r17 =>
   some ((AA .add .i64 s14 1),s2,decide (s18 ≤ s16),r17)) (
   AF (self (AA .add .i64 s14 1) s2 s3 w0) fun r18 =>
   some (s1,s14,decide (s18 ≤ s17),r18))
def Rr (self : Int → Int → Int → (List Int) → Option (List Int)) (s1 s2 s3 : Int) (s8 s9 : Bool) (w0 : List Int) : Option ((Int × Int × Int × Bool × Bool × List Int) ⊕ (List Int)) :=
  AD (decide ((AA .sub .i64 s2 s1) ≤ 12)) (
   AF (Xu s1 s2 w0) fun r1 =>
   some (.inr r1)) (
   AD (decide (s3 = 0)) (
    AF (Xx s1 s2 w0) fun r2 =>
    some (.inr r2)) (
    AF (Rs self s1 s2 s3 s8 s9 (AA .sub .i64 s2 s1) (!s8) w0) fun o4 =>
    AF (Zg o4.2 s1 s2) fun r5 =>
    AF (Rt self s1 s2 o4.1 s8 s9 (AA .sub .i64 s2 s1) r5.1 r5.2 (decide (r5.2 = 2)) o4.2) fun o7 =>
    AD (s8) (
     AD (s9) (
      AF (KK self s1 s2 o4.1 s8 s9 (AA .sub .i64 s2 s1) o7.1 (decide (o7.2.1 = 1)) o7.2.2) fun o9 =>
      BI o9 (fun o10 =>
       AD (decide (0 < s1)) (
        AZ (0 ≤ (AA .sub .i64 s1 1) ∧ (AA .sub .i64 s1 1) + 1 ≤ (o10.length : Int)) (
         AV o10 (AA .sub .i64 s1 1) fun x12 =>
         AZ (0 ≤ o7.1 ∧ o7.1 + 1 ≤ (o10.length : Int)) (
          AV o10 o7.1 fun x13 =>
          AF (Yc x12 x13) fun r14 =>
          AD (!r14) (
           AF (Xi s1 s2 o7.1 o10) fun r15 =>
           some (.inl (r15.1,s2,o4.1,s8,s9,r15.2))) (
           AF (Xa s1 s2 o7.1 o10) fun r16 =>
           AF (FK self s1 s2 o4.1 r16.2.1 r16.1 (AA .sub .i64 r16.1 s1) (AA .sub .i64 s2 r16.1) (AA .quo .i64 (AA .sub .i64 s2 s1) 8) (decide ((AA .sub .i64 r16.1 s1) < (AA .sub .i64 s2 r16.1))) r16.2.2) fun o19 =>
           some (.inl (o19.1,o19.2.1,o4.1,o19.2.2.1,r16.2.1,o19.2.2.2)))))) (
        AF (Xa s1 s2 o7.1 o10) fun r20 =>
        AF (FK self s1 s2 o4.1 r20.2.1 r20.1 (AA .sub .i64 r20.1 s1) (AA .sub .i64 s2 r20.1) (AA .quo .i64 (AA .sub .i64 s2 s1) 8) (decide ((AA .sub .i64 r20.1 s1) < (AA .sub .i64 s2 r20.1))) r20.2.2) fun o21 =>
        some (.inl (o21.1,o21.2.1,o4.1,o21.2.2.1,r20.2.1,o21.2.2.2)))) (fun o11 =>
       some (.inr o11))) (
      AF (KK self s1 s2 o4.1 s8 s9 (AA .sub .i64 s2 s1) o7.1 false o7.2.2) fun o22 =>
      BI o22 (fun o23 =>
       AD (decide (0 < s1)) (
        AZ (0 ≤ (AA .sub .i64 s1 1) ∧ (AA .sub .i64 s1 1) + 1 ≤ (o23.length : Int)) (
         AV o23 (AA .sub .i64 s1 1) fun x25 =>
         AZ (0 ≤ o7.1 ∧ o7.1 + 1 ≤ (o23.length : Int)) (
          AV o23 o7.1 fun x26 =>
          AF (Yc x25 x26) fun r27 =>
          AD (!r27) (
           AF (Xi s1 s2 o7.1 o23) fun r28 =>
           some (.inl (r28.1,s2,o4.1,s8,s9,r28.2))) (
           AF (Xa s1 s2 o7.1 o23) fun r29 =>
           AF (FK self s1 s2 o4.1 r29.2.1 r29.1 (AA .sub .i64 r29.1 s1) (AA .sub .i64 s2 r29.1) (AA .quo .i64 (AA .sub .i64 s2 s1) 8) (decide ((AA .sub .i64 r29.1 s1) < (AA .sub .i64 s2 r29.1))) r29.2.2) fun o30 =>
           some (.inl (o30.1,o30.2.1,o4.1,o30.2.2.1,r29.2.1,o30.2.2.2)))))) (
        AF (Xa s1 s2 o7.1 o23) fun r31 =>
        AF (FK self s1 s2 o4.1 r31.2.1 r31.1 (AA .sub .i64 r31.1 s1) (AA .sub .i64 s2 r31.1) (AA .quo .i64 (AA .sub .i64 s2 s1) 8) (decide ((AA .sub .i64 r31.1 s1) < (AA .sub .i64 s2 r31.1))) r31.2.2) fun o32 =>
        some (.inl (o32.1,o32.2.1,o4.1,o32.2.2.1,r31.2.1,o32.2.2.2)))) (fun o24 =>
       some (.inr o24)))) (
     AF (KK self s1 s2 o4.1 s8 s9 (AA .sub .i64 s2 s1) o7.1 false o7.2.2) fun o33 =>
     BI o33 (fun o34 =>
      AD (decide (0 < s1)) (
       AZ (0 ≤ (AA .sub .i64 s1 1) ∧ (AA .sub .i64 s1 1) + 1 ≤ (o34.length : Int)) (
        AV o34 (AA .sub .i64 s1 1) fun x36 =>
        AZ (0 ≤ o7.1 ∧ o7.1 + 1 ≤ (o34.length : Int)) (
         AV o34 o7.1 fun x37 =>
         AF (Yc x36 x37) fun r38 =>
         AD (!r38) (
          AF (Xi s1 s2 o7.1 o34) fun r39 =>
          some (.inl (r39.1,s2,o4.1,s8,s9,r39.2))) (
          AF (Xa s1 s2 o7.1 o34) fun r40 =>
          AF (FK self s1 s2 o4.1 r40.2.1 r40.1 (AA .sub .i64 r40.1 s1) (AA .sub .i64 s2 r40.1) (AA .quo .i64 (AA .sub .i64 s2 s1) 8) (decide ((AA .sub .i64 r40.1 s1) < (AA .sub .i64 s2 r40.1))) r40.2.2) fun o41 =>
          some (.inl (o41.1,o41.2.1,o4.1,o41.2.2.1,r40.2.1,o41.2.2.2)))))) (
       AF (Xa s1 s2 o7.1 o34) fun r42 =>
       AF (FK self s1 s2 o4.1 r42.2.1 r42.1 (AA .sub .i64 r42.1 s1) (AA .sub .i64 s2 r42.1) (AA .quo .i64 (AA .sub .i64 s2 s1) 8) (decide ((AA .sub .i64 r42.1 s1) < (AA .sub .i64 s2 r42.1))) r42.2.2) fun o43 =>
       some (.inl (o43.1,o43.2.1,o4.1,o43.2.2.1,r42.2.1,o43.2.2.2)))) (fun o35 =>
      some (.inr o35)))))
def JG (self : Int → Int → Int → (List Int) → Option (List Int)) (s1 s2 s3 : Int) (s8 s9 : Bool) (w0 : List Int) : Option ((Int × Int × Int × Bool × Bool × List Int) ⊕ ((List Int))) :=
  AF (Rr self s1 s2 s3 s8 s9 w0) fun o44 =>
  BI o44 (fun o45 =>
   some (.inl (o45.1,o45.2.1,o45.2.2.1,o45.2.2.2.1,o45.2.2.2.2.1,o45.2.2.2.2.2))) (fun o46 =>
   some (.inr o46))
def Ru (self : Int → Int → Int → (List Int) → Option (List Int)) (s1 s2 s3 : Int) (s8 s9 : Bool) (w0 : List Int) : Option ((List Int)) := AW (fun s : Int × Int × Int × Bool × Bool × List Int => JG self s.1 s.2.1 s.2.2.1 s.2.2.2.1 s.2.2.2.2.1 s.2.2.2.2.2) (s1,s2,s3,s8,s9,w0)
theorem ZN (self : Int → Int → Int → (List Int) → Option (List Int)) (s1 s2 s3 : Int) (s8 s9 : Bool) (w0 : List Int) : Ru self s1 s2 s3 s8 s9 w0 = BB (JG self s1 s2 s3 s8 s9 w0) (fun s : Int × Int × Int × Bool × Bool × List Int => Ru self s.1 s.2.1 s.2.2.1 s.2.2.2.1 s.2.2.2.2.1 s.2.2.2.2.2) := Ae _ _
def aLn (self : Int → Int → Int → (List Int) → Option (List Int)) (a1 a2 a3 : Int) (w0 : List Int) : Option (List Int) :=
  AF (Ru self a1 a2 a3 true true w0) fun o47 =>
  some o47
def aK1 : Nat → Int → Int → Int → (List Int) → Option (List Int)
  | 0 => fun _ _ _ _  => none
  | n + 1 => fun a1 a2 a3 w0 => aLn (aK1 n) a1 a2 a3 w0
def Xd (a1 a2 a3 : Int) (w0 : List Int) : Option (List Int) := aK1 100000 a1 a2 a3 w0
def Qq (w0 : List Int) : Option (List Int) :=
  AF (Q8 (IntKind.wrap .u64 (w0.length : Int))) fun r1 =>
  AF (Xd 0 (w0.length : Int) r1 w0) fun r2 =>
  some r2
def Qr (xs : List Int) : Option (List Int) := bagE Qq xs
def EI (s1 : List X2) (s6 s15 : Int) (s16 s30 : Int) (w2 : AE) (w5 : List (Int × Bool)) (s31 : Int) (w7 : List (Int × Bool)) : Option ((Int × (List (Int × Bool))) ⊕ ((List (Int × Bool)))) :=
  AD (decide (s31 < s30)) (
   AF (Xc (Xh.mk w2 s1 s6 s31) w7) fun r3 =>
   some (.inl ((AA .add .i64 s31 1),r3))) (
   some (.inr w7))
def P1 (s1 : List X2) (s6 s15 : Int) (s16 s30 : Int) (w2 : AE) (w5 : List (Int × Bool)) (s31 : Int) (w7 : List (Int × Bool)) : Option ((List (Int × Bool))) := AW (fun s : Int × (List (Int × Bool)) => EI s1 s6 s15 s16 s30 w2 w5 s.1 s.2) (s31,w7)
def FE (s1 : List X2) (s15 s16 : Int) (w2 : AE) (w7 : List (Int × Bool)) (k : Int) (v : Bool) (w5 : List (Int × Bool)) : Option ((List (Int × Bool))) :=
  some (Eg k true w5)
def GI (s1 : List X2) (s15 s16 : Int) (w2 : AE) (w7 : List (Int × Bool)) (s : (List (Int × Bool))) : (List (Int × Bool)) := (fun s : (List (Int × Bool)) => (aF0 s : (List (Int × Bool)))) s
def P4 (s1 : List X2) (s15 s16 : Int) (w2 : AE) (w7 w5 : List (Int × Bool)) : Option ((List (Int × Bool))) := EB (GI s1 s15 s16 w2 w7) w7 (fun (x : Int × Bool) (s : (List (Int × Bool))) => FE s1 s15 s16 w2 w7 x.1 x.2 s) w5
def OX (s1 : List X2) (s15 s16 : Int) (w2 : AE) (w5 w7 : List (Int × Bool)) : Option ((List (Int × Bool))) :=
  AF (P4 s1 s15 s16 w2 w7 w5) fun o5 =>
  some o5
def EH (s1 : List X2) (s15 : Int) (w2 : AE) (s16 : Int) (w5 : List (Int × Bool)) : Option ((Int × (List (Int × Bool))) ⊕ ((List (Int × Bool)))) :=
  AD (decide (s16 < s15)) (
   AF (Xt w2 s16) fun r1 =>
   AV w2.decls s16 fun x2 =>
   AF (P1 s1 s16 s15 s16 (x2.types.length : Int) w2 w5 0 (Eg r1 true ([] : List (Int × Bool)))) fun o4 =>
   AF (OX s1 s15 s16 w2 w5 o4) fun o6 =>
   some (.inl ((AA .add .i64 s16 1),o6))) (
   some (.inr w5))
def Py (s1 : List X2) (s15 : Int) (w2 : AE) (s16 : Int) (w5 : List (Int × Bool)) : Option ((List (Int × Bool))) := AW (fun s : Int × (List (Int × Bool)) => EH s1 s15 w2 s.1 s.2) (s16,w5)
def DU (w5 : List (Int × Bool)) (k : Int) (v : Bool) (w10 : List Int) : Option (List Int) :=
  AZ (fit w10.length [k].length 8) (
   some (w10 ++ [k]))
def JC (w5 : List (Int × Bool)) (s : List Int) : List Int := (fun s : List Int => (W6 s : List Int)) s
def P7 (w5 : List (Int × Bool)) (w10 : List Int) : Option (List Int) := EB (JC w5) w5 (fun (x : Int × Bool) (s : List Int) => DU w5 x.1 x.2 s) w10
def OY (w5 : List (Int × Bool)) : Option ((List Int)) :=
  AF (P7 w5 ([] : List Int)) fun o8 =>
  some o8
def X4 (a0 : AE) (a1 : List X2) : Option (List Int) :=
  AF (Py a1 (a0.decls.length : Int) a0 0 ([] : List (Int × Bool))) fun o7 =>
  AF (OY (LO 0 o7)) fun o9 =>
  AF (Qr o9) fun r10 =>
  some r10
def U5 (a0 : Xm) : Option (Bool) :=
  some (decide (0 ≤ a0.guard))
def MH (s0 : List Xm) (s7 s8 : Int) : Option ((Int) ⊕ (Unit ⊕ Int)) :=
  AD (decide (s8 < s7)) (
   AV s0 s8 fun x1 =>
   AF (U5 x1) fun r2 =>
   AD (r2) (
    some (.inr (.inr s8))) (
    some (.inl (AA .add .i64 s8 1)))) (
   some (.inr (.inl ())))
def aDw (s0 : List Xm) (s7 s8 : Int) : Option (Unit ⊕ Int) := AW (fun s : Int => MH s0 s7 s) s8
def Yj (a0 : List Xm) : Option (Int) :=
  AF (aDw a0 (a0.length : Int) 0) fun o3 =>
  BI o3 (fun o4 =>
   some (-1)) (fun o5 =>
   some o5)
def Zp (a0 : List Xm) : Option (Bool) :=
  AF (Yj a0) fun r1 =>
  some (decide (0 ≤ r1))
def Zq (a0 : AE) : Option (Bool) :=
  AD (decide ((a0.frees.length : Int) = 0)) (
   AF (Zp a0.trans) fun r1 =>
   some (!r1)) (
   some false)
def Zr (a0 : AE) : Option (Bool) :=
  AF (Zq a0) fun r1 =>
  AD (r1) (
   AD (decide ((a0.quants.length : Int) ≤ 1)) (
    AD (decide ((a0.states.length : Int) ≤ 8)) (
     some (decide ((a0.symbols.length : Int) ≤ 8))) (
     some false)) (
    some false)) (
   some false)
def Zh : Option (Bool) :=
  AF (Zu 3) fun r1 =>
  AF (Zu 3) fun r2 =>
  AF (X4 (AE.mk ([113] : List UInt8) ([X6.mk ([97] : List UInt8) [1]]) ([Y4.mk false ([120] : List UInt8) 1]) ([] : List Ya) ([Yh.mk ([115] : List UInt8) false false]) 0 ([X5.mk 0 ([Av.mk 2 0 (X0.mk 0 0 ([] : List UInt8) false)]),X5.mk 0 [Av.mk 1 0 r1]]) ([] : List Ym) ([] : List Xm)) [X2.mk 0 r2]) fun r3 =>
  AF (Zu 4) fun r4 =>
  AF (X4 (AE.mk ([113] : List UInt8) ([X6.mk ([97] : List UInt8) [1]]) ([Y4.mk false ([120] : List UInt8) 1]) ([] : List Ya) ([Yh.mk ([115] : List UInt8) false false]) 0 ([X5.mk 0 ([Av.mk 2 0 (X0.mk 0 0 ([] : List UInt8) false)]),X5.mk 0 [Av.mk 1 0 r1]]) ([] : List Ym) ([] : List Xm)) [X2.mk 0 r4]) fun r5 =>
  AF (Zr (AE.mk ([113] : List UInt8) ([X6.mk ([97] : List UInt8) [1]]) ([Y4.mk false ([120] : List UInt8) 1]) ([] : List Ya) ([Yh.mk ([115] : List UInt8) false false]) 0 ([X5.mk 0 ([Av.mk 2 0 (X0.mk 0 0 ([] : List UInt8) false)]),X5.mk 0 [Av.mk 1 0 r1]]) ([] : List Ym) ([] : List Xm))) fun r6 =>
  AD (r6) (
   AD (decide ((r3.length : Int) = 1)) (
    AV r3 0 fun x7 =>
    AD (decide (x7 = 3)) (
     AD (decide ((r5.length : Int) = 2)) (
      AV r5 0 fun x8 =>
      AD (decide (x8 = 1)) (
       AV r5 1 fun x9 =>
       some (decide (x9 = 2))) (
       some false)) (
      some false)) (
     some false)) (
    some false)) (
   some false)
def HA (s0 : List X0) (w3 : X0) (s5 : Int) : Option ((Int) ⊕ (Int)) :=
  AD (decide (0 < s5)) (
   AV s0 (AA .sub .i64 s5 1) fun x1 =>
   AF (Zj w3 x1) fun r2 =>
   AD (r2) (
    some (.inl (AA .sub .i64 s5 1))) (
    some (.inr s5))) (
   some (.inr s5))
def aIz (s0 : List X0) (w3 : X0) (s5 : Int) : Option (Int) := AW (fun s : Int => HA s0 w3 s) s5
def Yd (a0 : List X0) (a1 : X0) : Option (List X0) :=
  AF (aIz a0 a1 (a0.length : Int)) fun o3 =>
  AD (decide (0 < o3)) (
   AV a0 (AA .sub .i64 o3 1) fun x4 =>
   AD ((X0.eqb x4 a1)) (
    some a0) (
    AZ ((0 : Int) ≤ 0 ∧ (0 : Int) ≤ o3 ∧ o3 ≤ (a0.length : Int)) (
     AZ (fit ([] : List X0).length (sub a0 0 o3).length 40) (
      AZ (fit (([] : List X0) ++ (sub a0 0 o3)).length [a1].length 40) (
       AZ ((0 : Int) ≤ o3 ∧ (o3 : Int) ≤ (a0.length : Int) ∧ (a0.length : Int) ≤ (a0.length : Int)) (
        AZ (fit ((([] : List X0) ++ (sub a0 0 o3)) ++ [a1]).length (sub a0 o3 (a0.length : Int)).length 40) (
         some (((([] : List X0) ++ (sub a0 0 o3)) ++ [a1]) ++ (sub a0 o3 (a0.length : Int)))))))))) (
   AZ ((0 : Int) ≤ 0 ∧ (0 : Int) ≤ o3 ∧ o3 ≤ (a0.length : Int)) (
    AZ (fit ([] : List X0).length (sub a0 0 o3).length 40) (
     AZ (fit (([] : List X0) ++ (sub a0 0 o3)).length [a1].length 40) (
      AZ ((0 : Int) ≤ o3 ∧ (o3 : Int) ≤ (a0.length : Int) ∧ (a0.length : Int) ≤ (a0.length : Int)) (
       AZ (fit ((([] : List X0) ++ (sub a0 0 o3)) ++ [a1]).length (sub a0 o3 (a0.length : Int)).length 40) (
        some (((([] : List X0) ++ (sub a0 0 o3)) ++ [a1]) ++ (sub a0 o3 (a0.length : Int)))))))))
def SZ (s1 : Int) (s10 : Bool) (w2 : AE) : Option ((List X0)) :=
  AD (s10) (
   some ([X0.mk 3 0 ([] : List UInt8) false,X0.mk 3 0 ([] : List UInt8) true])) (
   some ([] : List X0))
def Sa (s1 : Int) (s5 : List X0) (s6 s7 : Int) (s50 : Bool) (w2 : AE) (w8 : Av) : Option ((List X0)) :=
  AD (s50) (
   AF (Yd s5 w8.value) fun r12 =>
   some r12) (
   some s5)
def aAx (s1 : Int) (s5 : List X0) (s6 s7 : Int) (w2 : AE) : Option ((List X0)) :=
  AV w2.symbols s6 fun x10 =>
  AV x10.args s7 fun x11 =>
  AD (decide (x11.kind = 1)) (
   AF (Sa s1 s5 s6 s7 (decide (x11.value.kind = s1)) w2 x11) fun o13 =>
   some o13) (
   AF (Sa s1 s5 s6 s7 false w2 x11) fun o14 =>
   some o14)
def Gr (s1 s6 : Int) (w2 : AE) (s5 : List X0) (s7 : Int) : Option ((List X0 × Int) ⊕ ((List X0))) :=
  AV w2.symbols s6 fun x17 =>
  AD (decide (s7 < (x17.args.length : Int))) (
   AF (aAx s1 s5 s6 s7 w2) fun o18 =>
   some (.inl (o18,(AA .add .i64 s7 1)))) (
   some (.inr s5))
def aA0 (s1 s6 : Int) (w2 : AE) (s5 : List X0) (s7 : Int) : Option ((List X0)) := AW (fun s : List X0 × Int => Gr s1 s6 w2 s.1 s.2) (s5,s7)
def Gq (s1 : Int) (w2 : AE) (s5 : List X0) (s6 : Int) : Option ((List X0 × Int) ⊕ ((List X0))) :=
  AD (decide (s6 < (w2.symbols.length : Int))) (
   AF (aA0 s1 s6 w2 s5 0) fun o19 =>
   some (.inl (o19,(AA .add .i64 s6 1)))) (
   some (.inr s5))
def aIj (s1 : Int) (w2 : AE) (s5 : List X0) (s6 : Int) : Option ((List X0)) := AW (fun s : List X0 × Int => Gq s1 w2 s.1 s.2) (s5,s6)
def Xn (a0 : AE) (a1 : Int) : Option (List X0) :=
  AF (SZ a1 (decide (a1 = 3)) a0) fun o1 =>
  AF (aIj a1 a0 o1 0) fun o20 =>
  some o20
def aI1 (s0 : List X0) (s1 : Int) (s5 : List X0) (s6 : Int) (s19 : Bool) : Option ((List X0)) :=
  AD (s19) (
   AV s0 s6 fun x7 =>
   AF (Yd s5 x7) fun r8 =>
   some r8) (
   some s5)
def aI0 (s0 : List X0) (s1 : Int) (s5 : List X0) (s6 : Int) : Option ((List X0)) :=
  AV s0 s6 fun x6 =>
  AF (aI1 s0 s1 s5 s6 (decide (x6.kind = s1))) fun o9 =>
  some o9
def JO (s0 : List X0) (s1 : Int) (s5 : List X0) (s6 : Int) : Option ((List X0 × Int) ⊕ ((List X0))) :=
  AD (decide (s6 < (s0.length : Int))) (
   AF (aI0 s0 s1 s5 s6) fun o10 =>
   some (.inl (o10,(AA .add .i64 s6 1)))) (
   some (.inr s5))
def aDk (s0 : List X0) (s1 : Int) (s5 : List X0) (s6 : Int) : Option ((List X0)) := AW (fun s : List X0 × Int => JO s0 s1 s.1 s.2) (s5,s6)
theorem aDl (s0 : List X0) (s1 : Int) (s5 : List X0) (s6 : Int) : aDk s0 s1 s5 s6 = BB (JO s0 s1 s5 s6) (fun s : List X0 × Int => aDk s0 s1 s.1 s.2) := Ae _ _
def Ye (a0 : List X0) (a1 : Int) : Option (List X0) :=
  AF (aDk a0 a1 ([] : List X0) 0) fun o11 =>
  some o11
def JS (s1 s5 : List X0) (s6 : Int) : Option ((List X0 × Int) ⊕ ((List X0))) :=
  AD (decide (s6 < (s1.length : Int))) (
   AV s1 s6 fun x1 =>
   AF (Yd s5 x1) fun r2 =>
   some (.inl (r2,(AA .add .i64 s6 1)))) (
   some (.inr s5))
def aEi (s1 s5 : List X0) (s6 : Int) : Option ((List X0)) := AW (fun s : List X0 × Int => JS s1 s.1 s.2) (s5,s6)
theorem aEj (s1 s5 : List X0) (s6 : Int) : aEi s1 s5 s6 = BB (JS s1 s5 s6) (fun s : List X0 × Int => aEi s1 s.1 s.2) := Ae _ _
def Z0 (a0 a1 : List X0) : Option (List X0) :=
  AF (aEi a1 a0 0) fun o3 =>
  some o3
def Qh (a0 : List X0) (a1 : X0) : Option (Bool) :=
  AF (Yd a0 a1) fun r1 =>
  some (decide ((r1.length : Int) = (a0.length : Int)))
def aCm (s0 : Int) (s1 : List X0) (s12 : Bool) (w4 w5 : X0) : Option (X0) :=
  AD (s12) (
   some (X0.mk w5.kind (AA .add .i64 w5.int 1) w5.str w5.bool)) (
   AZ (w5.str.length + ([97] : List UInt8).length ≤ 9223372036854775807) (
    some (X0.mk w5.kind w5.int (w5.str ++ ([97] : List UInt8)) w5.bool)))
def Tf (s0 : Int) (s1 : List X0) (w4 w5 : X0) : Option (X0) :=
  AF (aCm s0 s1 (decide (s0 = 1)) w4 w5) fun o2 =>
  some o2
def G4 (s0 : Int) (s1 : List X0) (w4 w5 : X0) : Option ((X0) ⊕ (X0)) :=
  AF (Qh s1 w5) fun r1 =>
  AD (r1) (
   AF (Tf s0 s1 w4 w5) fun o3 =>
   some (.inl o3)) (
   some (.inr w5))
def Tg (s0 : Int) (s1 : List X0) (w4 w5 : X0) : Option (X0) := AW (fun s : X0 => G4 s0 s1 w4 s) w5
theorem Ng (s0 : Int) (s1 : List X0) (w4 w5 : X0) : Tg s0 s1 w4 w5 = BB (G4 s0 s1 w4 w5) (fun s : X0 => Tg s0 s1 w4 s) := Ae _ _
def Y2 (a0 : Int) (a1 : List X0) : Option (X0) :=
  AF (Tg a0 a1 (X0.mk 0 0 ([] : List UInt8) false) (X0.mk a0 0 ([] : List UInt8) false)) fun o4 =>
  some o4
def aC4 (s1 : Int) (s2 : List X2) (s3 s9 : List X0) (s10 : Int) (s27 : Bool) : Option ((List X0)) :=
  AD (s27) (
   AV s2 s10 fun x3 =>
   AF (Yd s9 x3.value) fun r4 =>
   some r4) (
   some s9)
def aC2 (s1 : Int) (s2 : List X2) (s3 s9 : List X0) (s10 : Int) : Option ((List X0)) :=
  AV s2 s10 fun x2 =>
  AF (aC4 s1 s2 s3 s9 s10 (decide (x2.value.kind = s1))) fun o5 =>
  some o5
def G7 (s1 : Int) (s2 : List X2) (s3 s9 : List X0) (s10 : Int) : Option ((List X0 × Int) ⊕ ((List X0))) :=
  AD (decide (s10 < (s2.length : Int))) (
   AF (aC2 s1 s2 s3 s9 s10) fun o6 =>
   some (.inl (o6,(AA .add .i64 s10 1)))) (
   some (.inr s9))
def aC6 (s1 : Int) (s2 : List X2) (s3 s9 : List X0) (s10 : Int) : Option ((List X0)) := AW (fun s : List X0 × Int => G7 s1 s2 s3 s.1 s.2) (s9,s10)
def Y8 (a0 : AE) (a1 : Int) (a2 : List X2) (a3 : List X0) : Option (List X0) :=
  AF (Xn a0 a1) fun r1 =>
  AF (aC6 a1 a2 a3 r1 0) fun o7 =>
  AD (decide (a1 = 3)) (
   some o7) (
   AF (Ye a3 a1) fun r8 =>
   AF (Z0 o7 r8) fun r9 =>
   AF (Y2 a1 r9) fun r10 =>
   AF (Yd o7 r10) fun r11 =>
   some r11)
def G6 (self : AE → Int → (List X2) → (List X0) → (List X0) → Option (List X3)) (s1 : Int) (s2 : List X2) (s3 s4 s12 : List X0) (w5 : AE) (s13 : Int) (w11 : List X3) : Option ((Int × List X3) ⊕ ((List X3))) :=
  AD (decide (s13 < (s12.length : Int))) (
   AZ (fit ([] : List X0).length s4.length 40) (
    AV s12 s13 fun x8 =>
    AZ (fit (([] : List X0) ++ s4).length [x8].length 40) (
     AF (self w5 s1 s2 s3 ((([] : List X0) ++ s4) ++ [x8])) fun r9 =>
     AZ (fit w11.length r9.length 40) (
      some (.inl ((AA .add .i64 s13 1),w11 ++ r9)))))) (
   some (.inr w11))
def aIu (self : AE → Int → (List X2) → (List X0) → (List X0) → Option (List X3)) (s1 : Int) (s2 : List X2) (s3 s4 s12 : List X0) (w5 : AE) (s13 : Int) (w11 : List X3) : Option ((List X3)) := AW (fun s : Int × List X3 => G6 self s1 s2 s3 s4 s12 w5 s.1 s.2) (s13,w11)
def aL3 (self : AE → Int → (List X2) → (List X0) → (List X0) → Option (List X3)) (a0 : AE) (a1 : Int) (a2 : List X2) (a3 a4 : List X0) : Option (List X3) :=
  AV a0.decls a1 fun x1 =>
  AD (decide ((a4.length : Int) = (x1.types.length : Int))) (
   AV a0.decls a1 fun x2 =>
   some [X3.mk x2.name a4]) (
   AV a0.decls a1 fun x3 =>
   AV x3.types (a4.length : Int) fun x4 =>
   AF (Y8 a0 x4 a2 a3) fun r5 =>
   AF (aIu self a1 a2 a3 a4 r5 a0 0 ([] : List X3)) fun o10 =>
   some o10)
def aGy : Nat → AE → Int → (List X2) → (List X0) → (List X0) → Option (List X3)
  | 0 => fun _ _ _ _ _  => none
  | n + 1 => fun a0 a1 a2 a3 a4 => aL3 (aGy n) a0 a1 a2 a3 a4
def Y6 (a0 : AE) (a1 : Int) (a2 : List X2) (a3 a4 : List X0) : Option (List X3) := aGy 100000 a0 a1 a2 a3 a4
def JP (s0 : List X2) (s1 : Int) (w4 : X0) (s6 : Int) : Option ((Int) ⊕ (Unit ⊕ X0)) :=
  AD (decide (s6 < (s0.length : Int))) (
   AV s0 s6 fun x1 =>
   AD (decide (x1.var = s1)) (
    AV s0 s6 fun x2 =>
    some (.inr (.inr x2.value))) (
    some (.inl (AA .add .i64 s6 1)))) (
   some (.inr (.inl ())))
def aI2 (s0 : List X2) (s1 : Int) (w4 : X0) (s6 : Int) : Option (Unit ⊕ X0) := AW (fun s : Int => JP s0 s1 w4 s) s6
def Yf (a0 : List X2) (a1 : Int) : Option (X0 × Bool) :=
  AF (aI2 a0 a1 (X0.mk 0 0 ([] : List UInt8) false) 0) fun o3 =>
  BI o3 (fun o4 =>
   some (X0.mk 0 0 ([] : List UInt8) false,false)) (fun o5 =>
   some (o5,true))
def JT (s0 s1 : List X2) (s5 : Int) : Option ((Int) ⊕ (Unit ⊕ Unit)) :=
  AD (decide (s5 < (s0.length : Int))) (
   AV s0 s5 fun x1 =>
   AF (Yf s1 x1.var) fun r2 =>
   AD (r2.2) (
    AV s0 s5 fun x3 =>
    AD (!(X0.eqb r2.1 x3.value)) (
     some (.inr (.inr ()))) (
     some (.inl (AA .add .i64 s5 1)))) (
    some (.inl (AA .add .i64 s5 1)))) (
   some (.inr (.inl ())))
def aJd (s0 s1 : List X2) (s5 : Int) : Option (Unit ⊕ Unit) := AW (fun s : Int => JT s0 s1 s) s5
def Z5 (a0 a1 : List X2) : Option (Bool) :=
  AF (aJd a0 a1 0) fun o4 =>
  BI o4 (fun o5 =>
   some true) (fun o6 =>
   some false)
def aCi (s0 s1 : List X2) (s6 : Int) (s34 : Bool) (w5 : List X2) (w9 : X0) : Option ((List X2)) :=
  AD (s34) (
   AZ (fit w5.length [X2.mk s6 w9].length 48) (
    some (w5 ++ [X2.mk s6 w9]))) (
   some w5)
def aCg (s0 s1 : List X2) (s6 : Int) (s10 s27 : Bool) (w5 : List X2) (w7 w9 : X0) : Option ((List X2)) :=
  AD (s27) (
   AZ (fit w5.length [X2.mk s6 w7].length 48) (
    some (w5 ++ [X2.mk s6 w7]))) (
   AF (aCi s0 s1 s6 s10 w5 w9) fun o8 =>
   some o8)
def aCe (s0 s1 : List X2) (s6 : Int) (w5 : List X2) : Option ((List X2)) :=
  AF (Yf s0 s6) fun r6 =>
  AF (Yf s1 s6) fun r7 =>
  AF (aCg s0 s1 s6 r7.2 r6.2 w5 r6.1 r7.1) fun o9 =>
  some o9
def G3 (s0 s1 : List X2) (s6 : Int) (w5 : List X2) : Option ((Int × List X2) ⊕ ((List X2))) :=
  AD (decide (s6 < 8)) (
   AF (aCe s0 s1 s6 w5) fun o10 =>
   some (.inl ((AA .add .i64 s6 1),o10))) (
   some (.inr w5))
def aIq (s0 s1 : List X2) (s6 : Int) (w5 : List X2) : Option ((List X2)) := AW (fun s : Int × List X2 => G3 s0 s1 s.1 s.2) (s6,w5)
def Y1 (a0 a1 : List X2) : Option (List X2) :=
  AF (aIq a0 a1 0 ([] : List X2)) fun o11 =>
  some o11
def HN (s0 : List X2) (w3 : X2) (s5 : Int) : Option ((Int) ⊕ (Int)) :=
  AD (decide (0 < s5)) (
   AV s0 (AA .sub .i64 s5 1) fun x1 =>
   AD (decide (w3.var < x1.var)) (
    some (.inl (AA .sub .i64 s5 1))) (
    some (.inr s5))) (
   some (.inr s5))
def aJc (s0 : List X2) (w3 : X2) (s5 : Int) : Option (Int) := AW (fun s : Int => HN s0 w3 s) s5
def Z1 (a0 : List X2) (a1 : X2) : Option (List X2) :=
  AF (aJc a0 a1 (a0.length : Int)) fun o2 =>
  AZ ((0 : Int) ≤ 0 ∧ (0 : Int) ≤ o2 ∧ o2 ≤ (a0.length : Int)) (
   AZ (fit ([] : List X2).length (sub a0 0 o2).length 48) (
    AZ (fit (([] : List X2) ++ (sub a0 0 o2)).length [a1].length 48) (
     AZ ((0 : Int) ≤ o2 ∧ (o2 : Int) ≤ (a0.length : Int) ∧ (a0.length : Int) ≤ (a0.length : Int)) (
      AZ (fit ((([] : List X2) ++ (sub a0 0 o2)) ++ [a1]).length (sub a0 o2 (a0.length : Int)).length 48) (
       some (((([] : List X2) ++ (sub a0 0 o2)) ++ [a1]) ++ (sub a0 o2 (a0.length : Int))))))))
def Sf (s1 : Int) (s10 s11 : List X2) (s12 : Int) (s80 : Bool) (w5 : X3) (w6 : Int) (w8 : X5) (w9 : AN) (w13 : Av) (w14 : List X2) : Option ((List X2) ⊕ Unit) :=
  AD (s80) (
   AF (Z5 s10 w14) fun r32 =>
   AD (!r32) (
    some (.inr ())) (
    AF (Y1 s10 w14) fun r33 =>
    some (.inl r33))) (
   some (.inl s10))
def Sh (s1 : Int) (s10 s11 : List X2) (s12 : Int) (s111 : Bool) (w5 : X3) (w6 : Int) (w8 : X5) (w9 : AN) (w14 : List X2) : Option ((List X2)) :=
  AD (s111) (
   AV w14 0 fun x39 =>
   AF (Z1 s11 x39) fun r40 =>
   some r40) (
   some s11)
def Sg (s1 : Int) (s10 s11 : List X2) (s12 : Int) (s91 : Bool) (w5 : X3) (w6 : Int) (w8 : X5) (w9 : AN) (w13 : Av) (w14 : List X2) : Option ((List X2) ⊕ Unit) :=
  AD (s91) (
   AF (Yf s11 w13.n) fun r37 =>
   AD (r37.2) (
    AV w5.args s12 fun x38 =>
    AD (!(X0.eqb r37.1 x38)) (
     some (.inr ())) (
     AF (Sh s1 s10 s11 s12 (!r37.2) w5 w6 w8 w9 w14) fun o41 =>
     some (.inl o41))) (
    AF (Sh s1 s10 s11 s12 (!r37.2) w5 w6 w8 w9 w14) fun o42 =>
    some (.inl o42))) (
   some (.inl s11))
def aA2 (s1 : Int) (s10 s11 : List X2) (s12 : Int) (w5 : X3) (w6 : Int) (w8 : X5) (w9 : AN) : Option ((List X2 × List X2) ⊕ Unit) :=
  AV w8.args s12 fun x29 =>
  AV w5.args s12 fun x30 =>
  AD (decide (x29.kind = 1)) (
   AV w5.args s12 fun x31 =>
   AD (!(X0.eqb x29.value x31)) (
    some (.inr ())) (
    AF (Sf s1 s10 s11 s12 (decide (x29.kind = 2)) w5 w6 w8 w9 x29 [X2.mk x29.n x30]) fun o34 =>
    BI o34 (fun o35 =>
     AF (Sg s1 o35 s11 s12 (decide (x29.kind = 3)) w5 w6 w8 w9 x29 [X2.mk x29.n x30]) fun o43 =>
     BI o43 (fun o44 =>
      some (.inl (o35,o44))) (fun o45 =>
      some (.inr ()))) (fun o36 =>
     some (.inr ())))) (
   AF (Sf s1 s10 s11 s12 (decide (x29.kind = 2)) w5 w6 w8 w9 x29 [X2.mk x29.n x30]) fun o46 =>
   BI o46 (fun o47 =>
    AF (Sg s1 o47 s11 s12 (decide (x29.kind = 3)) w5 w6 w8 w9 x29 [X2.mk x29.n x30]) fun o49 =>
    BI o49 (fun o50 =>
     some (.inl (o47,o50))) (fun o51 =>
     some (.inr ()))) (fun o48 =>
    some (.inr ())))
def Gs (s1 : Int) (w5 : X3) (w6 : Int) (w8 : X5) (w9 : AN) (s10 s11 : List X2) (s12 : Int) : Option ((List X2 × List X2 × Int) ⊕ ((List X2 × List X2) ⊕ Unit)) :=
  AD (decide (s12 < (w8.args.length : Int))) (
   AF (aA2 s1 s10 s11 s12 w5 w6 w8 w9) fun o52 =>
   BI o52 (fun o53 =>
    some (.inl (o53.1,o53.2,(AA .add .i64 s12 1)))) (fun o54 =>
    some (.inr (.inr ())))) (
   some (.inr (.inl (s10,s11))))
def Ow (s1 : Int) (w5 : X3) (w6 : Int) (w8 : X5) (w9 : AN) (s10 s11 : List X2) (s12 : Int) : Option ((List X2 × List X2) ⊕ Unit) := AW (fun s : List X2 × List X2 × Int => Gs s1 w5 w6 w8 w9 s.1 s.2.1 s.2.2) (s10,s11,s12)
theorem NX (s1 : Int) (w5 : X3) (w6 : Int) (w8 : X5) (w9 : AN) (s10 s11 : List X2) (s12 : Int) : Ow s1 w5 w6 w8 w9 s10 s11 s12 = BB (Gs s1 w5 w6 w8 w9 s10 s11 s12) (fun s : List X2 × List X2 × Int => Ow s1 w5 w6 w8 w9 s.1 s.2.1 s.2.2) := Ae _ _
def Xo (a0 : AE) (a1 : Int) (a2 : X3) : Option (AN × Bool) :=
  AV a0.symbols a1 fun x1 =>
  AV a0.decls x1.event fun x2 =>
  AD (!decide (x2.name = a2.name)) (
   some (AN.mk 0 ([] : List X2) ([] : List X2),false)) (
   AD (!decide ((x1.args.length : Int) = (a2.args.length : Int))) (
    some (AN.mk 0 ([] : List X2) ([] : List X2),false)) (
    AF (Ow a1 a2 0 x1 (AN.mk 0 ([] : List X2) ([] : List X2)) ([] : List X2) ([] : List X2) 0) fun o55 =>
    BI o55 (fun o56 =>
     some (AN.mk a1 o56.1 o56.2,true)) (fun o57 =>
     some ((AN.mk 0 ([] : List X2) ([] : List X2)),false))))
def aCr (s6 : Int) (s23 : Bool) (w2 : AE) (w3 : X3) (w5 : List AN) (w7 : AN) : Option ((List AN)) :=
  AD (s23) (
   AZ (fit w5.length [w7].length 56) (
    some (w5 ++ [w7]))) (
   some w5)
def aCp (s6 : Int) (w2 : AE) (w3 : X3) (w5 : List AN) : Option ((List AN)) :=
  AF (Xo w2 s6 w3) fun r4 =>
  AF (aCr s6 r4.2 w2 w3 w5 r4.1) fun o5 =>
  some o5
def G5 (w2 : AE) (w3 : X3) (s6 : Int) (w5 : List AN) : Option ((Int × List AN) ⊕ ((List AN))) :=
  AD (decide (s6 < (w2.symbols.length : Int))) (
   AF (aCp s6 w2 w3 w5) fun o6 =>
   some (.inl ((AA .add .i64 s6 1),o6))) (
   some (.inr w5))
def aIr (w2 : AE) (w3 : X3) (s6 : Int) (w5 : List AN) : Option ((List AN)) := AW (fun s : Int × List AN => G5 w2 w3 s.1 s.2) (s6,w5)
def Y3 (a0 : AE) (a1 : X3) : Option (List AN) :=
  AF (aIr a0 a1 0 ([] : List AN)) fun o7 =>
  some o7
def JU (s0 s1 : List X2) (s5 : Int) : Option ((Int) ⊕ (Unit ⊕ Unit)) :=
  AD (decide (s5 < (s0.length : Int))) (
   AV s0 s5 fun x1 =>
   AF (Yf s1 x1.var) fun r2 =>
   AD (!r2.2) (
    some (.inr (.inr ()))) (
    AV s0 s5 fun x3 =>
    AD (!(X0.eqb r2.1 x3.value)) (
     some (.inr (.inr ()))) (
     some (.inl (AA .add .i64 s5 1))))) (
   some (.inr (.inl ())))
def aJe (s0 s1 : List X2) (s5 : Int) : Option (Unit ⊕ Unit) := AW (fun s : Int => JU s0 s1 s) s5
def Z6 (a0 a1 : List X2) : Option (Bool) :=
  AF (aJe a0 a1 0) fun o4 =>
  BI o4 (fun o5 =>
   some true) (fun o6 =>
   some false)
def aCw (s0 : List AN) (s1 : List X2) (s6 : Int) (s19 : Bool) (w5 : List AN) : Option ((List AN)) :=
  AD (s19) (
   AV s0 s6 fun x8 =>
   AZ (fit w5.length [x8].length 56) (
    some (w5 ++ [x8]))) (
   some w5)
def aCu (s0 : List AN) (s1 : List X2) (s6 : Int) (w5 : List AN) : Option ((List AN)) :=
  AV s0 s6 fun x6 =>
  AF (Z6 x6.bind s1) fun r7 =>
  AF (aCw s0 s1 s6 r7 w5) fun o9 =>
  some o9
def JN (s0 : List AN) (s1 : List X2) (s6 : Int) (w5 : List AN) : Option ((Int × List AN) ⊕ ((List AN))) :=
  AD (decide (s6 < (s0.length : Int))) (
   AF (aCu s0 s1 s6 w5) fun o10 =>
   some (.inl ((AA .add .i64 s6 1),o10))) (
   some (.inr w5))
def aIs (s0 : List AN) (s1 : List X2) (s6 : Int) (w5 : List AN) : Option ((List AN)) := AW (fun s : Int × List AN => JN s0 s1 s.1 s.2) (s6,w5)
def Y5 (a0 : List AN) (a1 : List X2) : Option (List AN) :=
  AF (aIs a0 a1 0 ([] : List AN)) fun o11 =>
  some o11
def FQ (s0 : List AN) (s3 s4 : Int) : Option ((Int × Int) ⊕ (Int)) :=
  AD (decide (s4 < (s0.length : Int))) (
   AV s0 s4 fun x1 =>
   AZ (0 ≤ (IntKind.wrap .u64 x1.symbol)) (
    some (.inl ((AA .add .u64 s3 (AA .shl .u64 1 (IntKind.wrap .u64 x1.symbol))),(AA .add .i64 s4 1))))) (
   some (.inr s3))
def UD (s0 : List AN) (s3 s4 : Int) : Option (Int) := AW (fun s : Int × Int => FQ s0 s.1 s.2) (s3,s4)
theorem aDz (s0 : List AN) (s3 s4 : Int) : UD s0 s3 s4 = BB (FQ s0 s3 s4) (fun s : Int × Int => UD s0 s.1 s.2) := Ae _ _
def Yk (a0 : List AN) : Option (Int) :=
  AF (UD a0 0 0) fun o2 =>
  some o2
def HE (s0 : List Int) (s1 s5 : Int) : Option ((Int) ⊕ (Int)) :=
  AD (decide (0 < s5)) (
   AV s0 (AA .sub .i64 s5 1) fun x1 =>
   AD (decide (s1 < x1)) (
    some (.inl (AA .sub .i64 s5 1))) (
    some (.inr s5))) (
   some (.inr s5))
def UO (s0 : List Int) (s1 s5 : Int) : Option (Int) := AW (fun s : Int => HE s0 s1 s) s5
theorem Nk (s0 : List Int) (s1 s5 : Int) : UO s0 s1 s5 = BB (HE s0 s1 s5) (fun s : Int => UO s0 s1 s) := Ae _ _
def Yp (a0 : List Int) (a1 : Int) : Option (List Int) :=
  AF (UO a0 a1 (a0.length : Int)) fun o2 =>
  AD (decide (0 < o2)) (
   AV a0 (AA .sub .i64 o2 1) fun x3 =>
   AD (decide (x3 = a1)) (
    some a0) (
    AZ ((0 : Int) ≤ 0 ∧ (0 : Int) ≤ o2 ∧ o2 ≤ (a0.length : Int)) (
     AZ (fit ([] : List Int).length (sub a0 0 o2).length 8) (
      AZ (fit (([] : List Int) ++ (sub a0 0 o2)).length [a1].length 8) (
       AZ ((0 : Int) ≤ o2 ∧ (o2 : Int) ≤ (a0.length : Int) ∧ (a0.length : Int) ≤ (a0.length : Int)) (
        AZ (fit ((([] : List Int) ++ (sub a0 0 o2)) ++ [a1]).length (sub a0 o2 (a0.length : Int)).length 8) (
         some (((([] : List Int) ++ (sub a0 0 o2)) ++ [a1]) ++ (sub a0 o2 (a0.length : Int)))))))))) (
   AZ ((0 : Int) ≤ 0 ∧ (0 : Int) ≤ o2 ∧ o2 ≤ (a0.length : Int)) (
    AZ (fit ([] : List Int).length (sub a0 0 o2).length 8) (
     AZ (fit (([] : List Int) ++ (sub a0 0 o2)).length [a1].length 8) (
      AZ ((0 : Int) ≤ o2 ∧ (o2 : Int) ≤ (a0.length : Int) ∧ (a0.length : Int) ≤ (a0.length : Int)) (
       AZ (fit ((([] : List Int) ++ (sub a0 0 o2)) ++ [a1]).length (sub a0 o2 (a0.length : Int)).length 8) (
        some (((([] : List Int) ++ (sub a0 0 o2)) ++ [a1]) ++ (sub a0 o2 (a0.length : Int)))))))))
def Oy (s1 : List X2) (s5 : List Int) (s6 : Int) (s7 : List X3) (s8 s9 : Int) (s37 : Bool) (w2 : AE) : Option ((List Int)) :=
  AD (s37) (
   AF (Yp s5 s9) fun r13 =>
   some r13) (
   some s5)
def aBf (s1 : List X2) (s5 : List Int) (s6 : Int) (s7 : List X3) (s8 : Int) (w2 : AE) : Option ((List Int)) :=
  AV s7 s8 fun x9 =>
  AF (Y3 w2 x9) fun r10 =>
  AF (Y5 r10 s1) fun r11 =>
  AF (Yk r11) fun r12 =>
  AF (Oy s1 s5 s6 s7 s8 r12 (!decide (r12 = 0)) w2) fun o14 =>
  some o14
def FM (s1 : List X2) (s6 : Int) (s7 : List X3) (w2 : AE) (s5 : List Int) (s8 : Int) : Option ((List Int × Int) ⊕ ((List Int))) :=
  AD (decide (s8 < (s7.length : Int))) (
   AF (aBf s1 s5 s6 s7 s8 w2) fun o18 =>
   some (.inl (o18,(AA .add .i64 s8 1)))) (
   some (.inr s5))
def aIl (s1 : List X2) (s6 : Int) (s7 : List X3) (w2 : AE) (s5 : List Int) (s8 : Int) : Option ((List Int)) := AW (fun s : List Int × Int => FM s1 s6 s7 w2 s.1 s.2) (s5,s8)
def Gu (s1 : List X2) (w2 : AE) (s5 : List Int) (s6 : Int) : Option ((List Int × Int) ⊕ ((List Int))) :=
  AD (decide (s6 < (w2.decls.length : Int))) (
   AF (Y6 w2 s6 s1 ([] : List X0) ([] : List X0)) fun r17 =>
   AF (aIl s1 s6 r17 w2 s5 0) fun o19 =>
   some (.inl (o19,(AA .add .i64 s6 1)))) (
   some (.inr s5))
def aIk (s1 : List X2) (w2 : AE) (s5 : List Int) (s6 : Int) : Option ((List Int)) := AW (fun s : List Int × Int => Gu s1 w2 s.1 s.2) (s5,s6)
def Xr (a0 : AE) (a1 : List X2) : Option (List Int) :=
  AF (aIk a1 a0 ([] : List Int) 0) fun o20 =>
  some o20
def JV (s0 : List X6) (s5 : Int) (w3 : X3) (s6 : Int) : Option ((Int) ⊕ (Unit ⊕ Unit)) :=
  AD (decide (s6 < (w3.args.length : Int))) (
   AV w3.args s6 fun x3 =>
   AV s0 s5 fun x4 =>
   AV x4.types s6 fun x5 =>
   AD (!decide (x3.kind = x5)) (
    some (.inr (.inr ()))) (
    AV w3.args s6 fun x6 =>
    AF (Z2 x6) fun r7 =>
    AD (!r7) (
     some (.inr (.inr ()))) (
     some (.inl (AA .add .i64 s6 1))))) (
   some (.inr (.inl ())))
def aJf (s0 : List X6) (s5 : Int) (w3 : X3) (s6 : Int) : Option (Unit ⊕ Unit) := AW (fun s : Int => JV s0 s5 w3 s) s6
def Z7 (a0 : List X6) (a1 : X3) : Option (Bool) :=
  AF (Yq a0 a1.name) fun r1 =>
  AD (decide (r1 < 0)) (
   some false) (
   AV a0 r1 fun x2 =>
   AD (!decide ((x2.types.length : Int) = (a1.args.length : Int))) (
    some false) (
    AF (aJf a0 r1 a1 0) fun o8 =>
    BI o8 (fun o9 =>
     some true) (fun o10 =>
     some false)))
def Qa (a0 : AE) (a1 : List X2) (a2 : X3) : Option (Int) :=
  AF (Z7 a0.decls a2) fun r1 =>
  AD (!r1) (
   some 0) (
   AF (Y3 a0 a2) fun r2 =>
   AF (Y5 r2 a1) fun r3 =>
   AF (Yk r3) fun r4 =>
   some r4)
def Qi (a0 : AE) (a1 : X3) : Option (AE × X3) :=
  some (a0,a1)
def Qu (a0 : X6) (a1 : List UInt8) : Option (Bool) :=
  some (decide (a0.name = a1))
def JX (s0 : List X6) (s1 : List UInt8) (s7 s8 : Int) : Option ((Int) ⊕ (Unit ⊕ Int)) :=
  AD (decide (s8 < s7)) (
   AV s0 s8 fun x1 =>
   AF (Qu x1 s1) fun r2 =>
   AD (r2) (
    some (.inr (.inr s8))) (
    some (.inl (AA .add .i64 s8 1)))) (
   some (.inr (.inl ())))
def aJk (s0 : List X6) (s1 : List UInt8) (s7 s8 : Int) : Option (Unit ⊕ Int) := AW (fun s : Int => JX s0 s1 s7 s) s8
def Ze (a0 : List X6) (a1 : List UInt8) : Option (Int) :=
  AF (aJk a0 a1 (a0.length : Int) 0) fun o3 =>
  BI o3 (fun o4 =>
   some (-1)) (fun o5 =>
   some o5)
def Qv (a0 : List X6) (a1 : List UInt8) : Option (Int × Bool) :=
  AF (Ze a0 a1) fun r1 =>
  some ((W5 r1 0),decide (0 ≤ r1))
def Qw (a0 : Int) : Option (X0) :=
  some (X0.mk 1 a0 ([] : List UInt8) false)
def Qx (a0 : List UInt8) : Option (X0) :=
  some (X0.mk 2 0 a0 false)
def Qb (a0 : X0) : Option (Bool) :=
  AD (decide (a0.kind = 1)) (
   AF (Qw a0.int) fun r1 =>
   some (X0.eqb a0 r1)) (
   AD (decide (a0.kind = 2)) (
    AF (Qx a0.str) fun r2 =>
    AD ((X0.eqb a0 r2)) (
     some (decide ((a0.str.length : Int) ≤ 4096))) (
     some false)) (
    AD (decide (a0.kind = 3)) (
     AF (Zo a0.bool) fun r3 =>
     some (X0.eqb a0 r3)) (
     some false)))
def Qy (a0 : X0) (a1 : Int) : Option (Bool) :=
  AD (decide (a0.kind = a1)) (
   AF (Qb a0) fun r1 =>
   some r1) (
   some false)
def JW (s1 : List Int) (s15 : List X0) (s16 s17 : Int) : Option ((Int) ⊕ (Unit ⊕ Unit)) :=
  AD (decide (s17 < s16)) (
   AV s15 s17 fun x1 =>
   AV s1 s17 fun x2 =>
   AF (Qy x1 x2) fun r3 =>
   AD (!r3) (
    some (.inr (.inr ()))) (
    some (.inl (AA .add .i64 s17 1)))) (
   some (.inr (.inl ())))
def aJj (s1 : List Int) (s15 : List X0) (s16 s17 : Int) : Option (Unit ⊕ Unit) := AW (fun s : Int => JW s1 s15 s16 s) s17
def Zc (a0 : List X0) (a1 : List Int) : Option (Bool) :=
  AD (!decide ((a0.length : Int) = (a1.length : Int))) (
   some false) (
   AF (aJj a1 a0 (a0.length : Int) 0) fun o4 =>
   BI o4 (fun o5 =>
    some true) (fun o6 =>
    some false))
def Qc (a0 : List X6) (a1 : X3) : Option (Bool) :=
  AF (Qv a0 a1.name) fun r1 =>
  AD (!r1.2) (
   some false) (
   AV a0 r1.1 fun x2 =>
   AF (Zc a1.args x2.types) fun r3 =>
   some r3)
def Qd (a0 : X2) (a1 : Int) : Option (Int) :=
  some (AA .sub .i64 a0.var a1)
def aDd (s0 : List X2) (s1 s8 : Int) (s9 s10 s11 : Int) (s31 : Bool) : Option ((Int × Int)) :=
  AD (s31) (
   some ((AA .add .i64 s11 1),s10)) (
   some (s9,s11))
def aDb (s0 : List X2) (s1 s8 : Int) (s9 s10 : Int) : Option ((Int × Int)) :=
  AV s0 (IntKind.wrap .i64 (AA .shr .u64 (IntKind.wrap .u64 (AA .add .i64 s9 s10)) 1)) fun x1 =>
  AF (Qd x1 s1) fun r2 =>
  AF (aDd s0 s1 s8 s9 s10 (IntKind.wrap .i64 (AA .shr .u64 (IntKind.wrap .u64 (AA .add .i64 s9 s10)) 1)) (decide (r2 < 0))) fun o3 =>
  some (o3.1,o3.2)
def G9 (s0 : List X2) (s1 s8 : Int) (s9 s10 : Int) : Option ((Int × Int) ⊕ (Int)) :=
  AD (decide (s9 < s10)) (
   AF (aDb s0 s1 s8 s9 s10) fun o4 =>
   some (.inl (o4.1,o4.2))) (
   some (.inr s9))
def aIy (s0 : List X2) (s1 s8 : Int) (s9 s10 : Int) : Option (Int) := AW (fun s : Int × Int => G9 s0 s1 s8 s.1 s.2) (s9,s10)
def Yb (a0 : List X2) (a1 : Int) : Option (Int × Bool) :=
  AF (aIy a0 a1 (a0.length : Int) 0 (a0.length : Int)) fun o5 =>
  AD (decide (o5 < (a0.length : Int))) (
   AV a0 o5 fun x6 =>
   AF (Qd x6 a1) fun r7 =>
   some (o5,decide (r7 = 0))) (
   some (o5,false))
def U6 (i : Int) (ys : List X2) : Option (List X2) := aM1 48 i ys
def U7 (a1 : X2) : Option (Bool × List X2) :=
  AF (Yb ([] : List X2) a1.var) fun r1 =>
  AD (r1.2) (
   AV ([] : List X2) r1.1 fun x2 =>
   some ((X2.eqb x2 a1),([] : List X2))) (
   AF (U6 r1.1 [a1]) fun r3 =>
   some (true,r3))
def Qz (i : Int) (xs ys : List X2) : Option (List X2) := aK5 48 i xs ys
def Zk (a1 : X2) (w1 : List X2) : Option (Bool × List X2) :=
  AF (Yb w1 a1.var) fun r1 =>
  AD (r1.2) (
   AZ (0 ≤ r1.1 ∧ r1.1 + 1 ≤ (w1.length : Int)) (
    AV w1 r1.1 fun x2 =>
    some ((X2.eqb x2 a1),w1))) (
   AF (Qz r1.1 w1 [a1]) fun r3 =>
   some (true,r3))
def HI (s13 : List Av) (s14 : Int) (w5 : X3) (s15 : Int) (w600 w601 : List X2) : Option ((Int × List X2 × List X2) ⊕ ((List X2 × List X2) ⊕ (List X2 × List X2))) :=
  AD (decide (s15 < s14)) (
   AV s13 s15 fun x9 =>
   AV w5.args s15 fun x10 =>
   AD (decide (x9.kind = 1)) (
    AD (!(X0.eqb x9.value ((X2.mk x9.n x10).value))) (
     some (.inr (.inr (w600,w601)))) (
     AD (decide (x9.kind = 2)) (
      AF (Zk (X2.mk x9.n x10) w600) fun r11 =>
      AD (!r11.1) (
       some (.inr (.inr (r11.2,w601)))) (
       AD (decide (x9.kind = 3)) (
        AF (Zk (X2.mk x9.n x10) w601) fun r12 =>
        AD (!r12.1) (
         some (.inr (.inr (r11.2,r12.2)))) (
         some (.inl ((AA .add .i64 s15 1),r11.2,r12.2)))) (
        some (.inl ((AA .add .i64 s15 1),r11.2,w601))))) (
      AD (decide (x9.kind = 3)) (
       AF (Zk (X2.mk x9.n x10) w601) fun r13 =>
       AD (!r13.1) (
        some (.inr (.inr (w600,r13.2)))) (
        some (.inl ((AA .add .i64 s15 1),w600,r13.2)))) (
       some (.inl ((AA .add .i64 s15 1),w600,w601)))))) (
    AD (decide (x9.kind = 2)) (
     AF (Zk (X2.mk x9.n x10) w600) fun r14 =>
     AD (!r14.1) (
      some (.inr (.inr (r14.2,w601)))) (
      AD (decide (x9.kind = 3)) (
       AF (Zk (X2.mk x9.n x10) w601) fun r15 =>
       AD (!r15.1) (
        some (.inr (.inr (r14.2,r15.2)))) (
        some (.inl ((AA .add .i64 s15 1),r14.2,r15.2)))) (
       some (.inl ((AA .add .i64 s15 1),r14.2,w601))))) (
     AD (decide (x9.kind = 3)) (
      AF (Zk (X2.mk x9.n x10) w601) fun r16 =>
      AD (!r16.1) (
       some (.inr (.inr (w600,r16.2)))) (
       some (.inl ((AA .add .i64 s15 1),w600,r16.2)))) (
      some (.inl ((AA .add .i64 s15 1),w600,w601)))))) (
   some (.inr (.inl (w600,w601))))
def UX (s13 : List Av) (s14 : Int) (w5 : X3) (s15 : Int) (w600 w601 : List X2) : Option ((List X2 × List X2) ⊕ (List X2 × List X2)) := AW (fun s : Int × List X2 × List X2 => HI s13 s14 w5 s.1 s.2.1 s.2.2) (s15,w600,w601)
theorem Nl (s13 : List Av) (s14 : Int) (w5 : X3) (s15 : Int) (w600 w601 : List X2) : UX s13 s14 w5 s15 w600 w601 = BB (HI s13 s14 w5 s15 w600 w601) (fun s : Int × List X2 × List X2 => UX s13 s14 w5 s.1 s.2.1 s.2.2) := Ae _ _
def Yt (a0 : X5) (a1 : X3) : Option (Bool × List X2 × List X2) :=
  AF (UX a0.args (a0.args.length : Int) a1 0 ([] : List X2) ([] : List X2)) fun o17 =>
  BI o17 (fun o18 =>
   some (true,o18.1,o18.2)) (fun o19 =>
   some (false,o19.1,o19.2))
def Qe (a0 : AE) (a1 : Int) (a2 : X3) : Option (AN × Bool) :=
  AV a0.symbols a1 fun x1 =>
  AV a0.decls x1.event fun x2 =>
  AD (!decide (x2.name = a2.name)) (
   some (AN.mk 0 ([] : List X2) ([] : List X2),false)) (
   AF (Yt x1 a2) fun r3 =>
   AD (!r3.1) (
    some (AN.mk 0 ([] : List X2) ([] : List X2),false)) (
    some (AN.mk a1 r3.2.1 r3.2.2,true)))
def HD {φ : Type} (step : φ → AN → Option (φ × Bool)) (s1 : AE) (s2 : X3) (s14 : Int) (f0 : φ) (s15 : Int) : Option ((φ × Int) ⊕ (φ ⊕ φ)) :=
  AD (decide (s15 < s14)) (
   AF (Qe s1 s15 s2) fun r2 =>
   AD (r2.2) (
    W9 (step f0 r2.1) (fun f3 =>
     some (.inl (f3,(AA .add .i64 s15 1)))) (fun f4 =>
     some (.inr (.inr f4)))) (
    some (.inl (f0,(AA .add .i64 s15 1))))) (
   some (.inr (.inl f0)))
def UG {φ : Type} (step : φ → AN → Option (φ × Bool)) (s1 : AE) (s2 : X3) (s14 : Int) (f0 : φ) (s15 : Int) : Option (φ ⊕ φ) := AW (fun s : φ × Int => HD step s1 s2 s14 s.1 s.2) (f0,s15)
theorem Nj {φ : Type} (step : φ → AN → Option (φ × Bool)) (s1 : AE) (s2 : X3) (s14 : Int) (f0 : φ) (s15 : Int) : UG step s1 s2 s14 f0 s15 = BB (HD step s1 s2 s14 f0 s15) (fun s : φ × Int => UG step s1 s2 s14 s.1 s.2) := Ae _ _
def Yl {φ : Type} (step : φ → AN → Option (φ × Bool)) (a1 : AE) (a2 : X3) (f0 : φ) : Option φ :=
  AF (Qc a1.decls a2) fun r1 =>
  AD (!r1) (
   some f0) (
   AF (UG step a1 a2 (a1.symbols.length : Int) f0 0) fun o5 =>
   BI o5 (fun o6 =>
    some o6) (fun o7 =>
    some o7))
def aA5 (s6_1 : AE) (s6_2 : X3) (s7 : AN) (w600 : List AN) (w998_1 : AE) (w998_2 : X3) : Option (Unit) :=
  some ()
def aA7 (s6_1 : AE) (s6_2 : X3) (w5 : AN) (w600 : List AN) (w998_1 : AE) (w998_2 : X3) : Option (Unit) :=
  AZ (fit w600.length [w5].length 56) (
   some ())
def Cf (s6_1 : AE) (s6_2 : X3) (s : List AN) (x : AN) : Option ((List AN) ⊕ (Empty)) :=
  AF (aA5 s6_1 s6_2 x s s6_1 s6_2) fun o5 =>
  AF (aA7 s6_1 s6_2 x s s6_1 s6_2) fun o6 =>
  some (.inl (s ++ [x]))
def Xp (a1_1 : AE) (a1_2 : X3) : Option (List AN) :=
  AF (Yl (Ca (Cf a1_1 a1_2)) a1_1 a1_2 (.inl ([] : List AN))) fun o7 =>
  BI o7 (fun o8 =>
   some o8) (fun o9 =>
   none)
def U0 (a0_1 : AE) (a0_2 : X3) : Option (List AN) :=
  AF (Xp a0_1 a0_2) fun r1 =>
  some r1
def Qf (a0 : AE) (a1 : X3) : Option (List AN) :=
  AF (Qi a0 a1) fun r1 =>
  AF (U0 r1.1 r1.2) fun r2 =>
  some r2
def U1 (a0 a1 : List X2) : Option (List X2 × List X2) :=
  some (a0,a1)
def aC8 {φ : Type} (step : φ → ((X2 × X0) ⊕ X2) → Option (φ × Bool)) (f0 : φ) (s2 s9 : List X2) (s10 s11 : Int) : Option (φ ⊕ φ) :=
  AV s9 s11 fun x1 =>
  AF (Y0 s2 x1.var) fun r2 =>
  AD (r2.2) (
   W9 (step f0 (.inl (x1,r2.1))) (fun f3 =>
    some (.inl f3)) (fun f4 =>
    some (.inr f4))) (
   W9 (step f0 (.inr x1)) (fun f5 =>
    some (.inl f5)) (fun f6 =>
    some (.inr f6)))
def G8 {φ : Type} (step : φ → ((X2 × X0) ⊕ X2) → Option (φ × Bool)) (s2 s9 : List X2) (s10 : Int) (f0 : φ) (s11 : Int) : Option ((φ × Int) ⊕ (φ ⊕ φ)) :=
  AD (decide (s11 < s10)) (
   AF (aC8 step f0 s2 s9 s10 s11) fun o7 =>
   BI o7 (fun o8 =>
    some (.inl (o8,(AA .add .i64 s11 1)))) (fun o9 =>
    some (.inr (.inr o9)))) (
   some (.inr (.inl f0)))
def aIx {φ : Type} (step : φ → ((X2 × X0) ⊕ X2) → Option (φ × Bool)) (s2 s9 : List X2) (s10 : Int) (f0 : φ) (s11 : Int) : Option (φ ⊕ φ) := AW (fun s : φ × Int => G8 step s2 s9 s10 s.1 s.2) (f0,s11)
def Y9 {φ : Type} (step : φ → ((X2 × X0) ⊕ X2) → Option (φ × Bool)) (a1 a2 : List X2) (f0 : φ) : Option φ :=
  AF (aIx step a2 a1 (a1.length : Int) f0 0) fun o10 =>
  BI o10 (fun o11 =>
   some o11) (fun o12 =>
   some o12)
def ZV (s9_1 s9_2 : List X2) (s10 : X2) (s11 : X0) (w4 : Bool) (w998_1 w998_2 : List X2) : Option (Unit) :=
  some ()
def ZW (s9_1 s9_2 : List X2) (s10 : X2) (w4 : Bool) (w998_1 w998_2 : List X2) : Option (Unit) :=
  some ()
def ZY (s6 : X0) (s9_1 s9_2 : List X2) (w4 : Bool) (w5 : X2) (w998_1 w998_2 : List X2) : Option (Unit ⊕ Unit) :=
  AD (!(X0.eqb s6 w5.value)) (
   some (.inr ())) (
   some (.inl ()))
def ZZ (s9_1 s9_2 : List X2) (w4 : Bool) (w5 : X2) (w998_1 w998_2 : List X2) : Option (Unit) :=
  some ()
def Ce (s9_1 s9_2 : List X2) (s : Bool) (x : (X2 × X0) ⊕ X2) : Option ((Bool) ⊕ (Bool)) :=
  BI x (fun z13 =>
   AF (ZV s9_1 s9_2 z13.1 z13.2 s s9_1 s9_2) fun o6 =>
   AF (ZY z13.2 s9_1 s9_2 s z13.1 s9_1 s9_2) fun o7 =>
   BI o7 (fun o15 =>
    some (.inl s)) (fun o16 =>
    some (.inr false))) (fun z14 =>
   AF (ZW s9_1 s9_2 z14 s s9_1 s9_2) fun o8 =>
   AF (ZZ s9_1 s9_2 s z14 s9_1 s9_2) fun o9 =>
   some (.inr false))
def Xf (a0 a1 : List X2) : Option (Bool) :=
  AF (U1 a0 a1) fun r1 =>
  AF (Y9 (Ca (Ce r1.1 r1.2)) r1.1 r1.2 (.inl false)) fun o10 =>
  BI o10 (fun o11 =>
   some true) (fun o12 =>
   some o12)
def U2 (a0 : AN) (a1 : List X2) : Option (Bool) :=
  AF (Xf a0.bind a1) fun r1 =>
  some r1
def aDr (s1 : List X2) (s8 : List AN) (s9 s10 : Int) (s16 : Bool) (w4 w5 : List AN) (w7 : AN) : Option ((List AN × List AN)) :=
  AD (s16) (
   AZ (fit w4.length [w7].length 56) (
    some (w4 ++ [w7],w5))) (
   AZ (fit w5.length [w7].length 56) (
    some (w4,w5 ++ [w7])))
def aDp (s1 : List X2) (s8 : List AN) (s9 s10 : Int) (w4 w5 : List AN) : Option ((List AN × List AN)) :=
  AV s8 s10 fun x5 =>
  AF (U2 x5 s1) fun r6 =>
  AF (aDr s1 s8 s9 s10 r6 w4 w5 x5) fun o7 =>
  some (o7.1,o7.2)
def HB (s1 : List X2) (s8 : List AN) (s9 s10 : Int) (w4 w5 : List AN) : Option ((Int × List AN × List AN) ⊕ ((List AN × List AN))) :=
  AD (decide (s10 < s9)) (
   AF (aDp s1 s8 s9 s10 w4 w5) fun o8 =>
   some (.inl ((AA .add .i64 s10 1),o8.1,o8.2))) (
   some (.inr (w4,w5)))
def aI3 (s1 : List X2) (s8 : List AN) (s9 s10 : Int) (w4 w5 : List AN) : Option ((List AN × List AN)) := AW (fun s : Int × List AN × List AN => HB s1 s8 s9 s.1 s.2.1 s.2.2) (s10,w4,w5)
def Yg (a0 : List AN) (a1 : List X2) : Option (List AN × List AN) :=
  AF (aI3 a1 a0 (a0.length : Int) 0 ([] : List AN) ([] : List AN)) fun o9 =>
  some (o9.1,o9.2)
def Zz (a0 : List AN) (a1 : List X2) : Option (List AN) :=
  AF (Yg a0 a1) fun r1 =>
  some r1.1
def HQ (s14 : List AN) (s15 s7 s16 : Int) : Option ((Int × Int) ⊕ (Int)) :=
  AD (decide (s16 < s15)) (
   AV s14 s16 fun x3 =>
   AZ (0 ≤ (IntKind.wrap .u64 x3.symbol)) (
    some (.inl ((AA .or .u64 s7 (AA .shl .u64 1 (IntKind.wrap .u64 x3.symbol))),(AA .add .i64 s16 1))))) (
   some (.inr s7))
def aJg (s14 : List AN) (s15 s7 s16 : Int) : Option (Int) := AW (fun s : Int × Int => HQ s14 s15 s.1 s.2) (s7,s16)
def Z8 (a0 : AE) (a1 : List X2) (a2 : X3) : Option (Int) :=
  AF (Qf a0 a2) fun r1 =>
  AF (Zz r1 a1) fun r2 =>
  AF (aJg r2 (r2.length : Int) 0 0) fun o4 =>
  some o4
def G0 (s1 : List X2) (w3 : AE) (w5 : X3) (s7 : Int) : Option ((Int) ⊕ (Unit ⊕ Bool)) :=
  AD (decide (s7 < (w5.args.length : Int))) (
   AV w5.args s7 fun x4 =>
   AD (decide (100 < (x4.str.length : Int))) (
    AF (Zh) fun r5 =>
    some (.inr (.inr r5))) (
    some (.inl (AA .add .i64 s7 1)))) (
   some (.inr (.inl ())))
def aIo (s1 : List X2) (w3 : AE) (w5 : X3) (s7 : Int) : Option (Unit ⊕ Bool) := AW (fun s : Int => G0 s1 w3 w5 s) s7
def G1 (s1 : List X2) (s8 s9 : List Int) (s10 : Int) (w3 : AE) (w5 : X3) (s11 : Bool) (s12 : Int) : Option ((Bool × Int) ⊕ (Bool ⊕ Unit)) :=
  AD (decide (s12 < (s9.length : Int))) (
   AV s9 s12 fun x12 =>
   AV s8 s12 fun x13 =>
   AD (!decide (x12 = x13)) (
    some (.inr (.inr ()))) (
    AD (s11) (
     some (.inl (true,(AA .add .i64 s12 1)))) (
     AV s9 s12 fun x14 =>
     some (.inl (decide (x14 = s10),(AA .add .i64 s12 1)))))) (
   some (.inr (.inl s11)))
def aIp (s1 : List X2) (s8 s9 : List Int) (s10 : Int) (w3 : AE) (w5 : X3) (s11 : Bool) (s12 : Int) : Option (Bool ⊕ Unit) := AW (fun s : Bool × Int => G1 s1 s8 s9 s10 w3 w5 s.1 s.2) (s11,s12)
def Xy (a0 : AE) (a1 : List X2) (a2 : X3) : Option (Bool) :=
  AF (Ys a0 a1) fun r1 =>
  AD (!r1) (
   AF (Zh) fun r2 =>
   some r2) (
   AD (decide (12 < (a2.args.length : Int))) (
    AF (Zh) fun r3 =>
    some r3) (
    AF (aIo a1 a0 a2 0) fun o6 =>
    BI o6 (fun o7 =>
     AF (Xr a0 a1) fun r9 =>
     AF (X4 a0 a1) fun r10 =>
     AD (!decide ((r10.length : Int) = (r9.length : Int))) (
      some false) (
      AF (Qa a0 a1 a2) fun r11 =>
      AF (aIp a1 r9 r10 r11 a0 a2 (decide (r11 = 0)) 0) fun o15 =>
      BI o15 (fun o16 =>
       AD (o16) (
        AF (Z8 a0 a1 a2) fun r18 =>
        AD (decide (r18 = r11)) (
         AF (Zh) fun r19 =>
         some r19) (
         some false)) (
        some false)) (fun o17 =>
       some false))) (fun o8 =>
     some o8)))
end
end Go.Ac
