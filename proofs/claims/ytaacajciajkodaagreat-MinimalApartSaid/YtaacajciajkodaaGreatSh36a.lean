/- Own work, printed: the functions as Lean functions. -/
import Derived.Test.YtaacajciajkodaaGreatAcC
set_option linter.unusedVariables false
set_option linter.unusedSimpArgs false
namespace Go.Ac
noncomputable section
abbrev bAh(P:Program)(rd:Option Nat)(root:Code)(p:List Nat)(s:St)(x:Ex×St):Prop:=Fi P rd root p s x.1 x.2
abbrev dI(x:Int):A:=.d (D.i .i64 x)
abbrev sI(n:Nat)(x:Int):Nat×A:=(n,dI x)
abbrev sD{α:Type}(n:Nat)(f:α->D)(x:α):Nat×A:=(n,.d (f x))
abbrev bx(n:Nat):Nat×A:=(n,.box n 0)
abbrev rx(n:Nat):Nat×A:=(n,.row n)
abbrev cL{α:Type}(n:Nat)(f:α->D)(x:α):Nat×Bk:=(n,.cells (aTm (f x)))
abbrev rW{α:Type}(n e k:Nat)(f:α->D)(x:List α):Nat×Bk:=(n,.rw e k (x.map f))
abbrev eP{α:Type}(n:Nat)(f:α->D)(x:α):Nat×A:=(n,.eptr (D.cells (f x)))
abbrev dU:Int->D:=D.i .u64
abbrev dW:Int->D:=D.i .u32
abbrev dZ:Int->D:=D.i .i64
abbrev bT(n:Nat):Nat×W:=(n,.bit true)
abbrev bF(n:Nat):Nat×W:=(n,.bit false)
structure Xl where
 name:List UInt8
 types:List Int
 deriving DecidableEq
def Xl.D(v:Xl):D:=.agg ([D.s v.name]++[(D.l (D.i .i64)) v.types])
instance :De Xl.D 2:=⟨fun _=>rfl⟩
structure Yl where
 all:Bool
 name:List UInt8
 type:Int
def Yl.D(v:Yl):D:=.agg ([D.b v.all]++[D.s v.name]++[(D.i .i64) v.type])
instance :De Yl.D 3:=⟨fun _=>rfl⟩
def Yl.eqb(a b:Yl):Bool:=((a.all==b.all)&&(decide (a.name=b.name)&&(decide (a.type=b.type)&&true)))
theorem Yl.eqb_iff(a b:Yl):Yl.eqb a b=true↔a=b:=by cases a;cases b;simp[Yl.eqb]
instance :DecidableEq Yl:=fun a b=>decidable_of_iff (Yl.eqb a b=true) (Yl.eqb_iff a b)
structure X0 where
 kind:Int
 int:Int
 str:List UInt8
 bool:Bool
def X0.D(v:X0):D:=.agg ([(D.i .i64) v.kind]++[(D.i .i64) v.int]++[D.s v.str]++[D.b v.bool])
instance :De X0.D 4:=⟨fun _=>rfl⟩
def X0.eqb(a b:X0):Bool:=(decide (a.kind=b.kind)&&(decide (a.int=b.int)&&(decide (a.str=b.str)&&((a.bool==b.bool)&&true))))
theorem X0.eqb_iff(a b:X0):X0.eqb a b=true↔a=b:=by cases a;cases b;simp[X0.eqb]
instance :DecidableEq X0:=fun a b=>decidable_of_iff (X0.eqb a b=true) (X0.eqb_iff a b)
structure Yn where
 name:List UInt8
 init_:X0
def Yn.D(v:Yn):D:=.agg ([D.s v.name]++(X0.D v.init_).cells)
instance :De Yn.D 5:=⟨fun _=>rfl⟩
def Yn.eqb(a b:Yn):Bool:=(decide (a.name=b.name)&&(X0.eqb a.init_ b.init_&&true))
theorem Yn.eqb_iff(a b:Yn):Yn.eqb a b=true↔a=b:=by cases a;cases b;simp[Yn.eqb,X0.eqb_iff]
instance :DecidableEq Yn:=fun a b=>decidable_of_iff (Yn.eqb a b=true) (Yn.eqb_iff a b)
structure Xg where
 name:List UInt8
 next:Bool
 accept:Bool
def Xg.D(v:Xg):D:=.agg ([D.s v.name]++[D.b v.next]++[D.b v.accept])
instance :De Xg.D 3:=⟨fun _=>rfl⟩
def Xg.eqb(a b:Xg):Bool:=(decide (a.name=b.name)&&((a.next==b.next)&&((a.accept==b.accept)&&true)))
theorem Xg.eqb_iff(a b:Xg):Xg.eqb a b=true↔a=b:=by cases a;cases b;simp[Xg.eqb]
instance :DecidableEq Xg:=fun a b=>decidable_of_iff (Xg.eqb a b=true) (Xg.eqb_iff a b)
structure Bz where
 kind:Int
 n:Int
 value:X0
def Bz.D(v:Bz):D:=.agg ([(D.i .i64) v.kind]++[(D.i .i64) v.n]++(X0.D v.value).cells)
instance :De Bz.D 6:=⟨fun _=>rfl⟩
def Bz.eqb(a b:Bz):Bool:=(decide (a.kind=b.kind)&&(decide (a.n=b.n)&&(X0.eqb a.value b.value&&true)))
theorem Bz.eqb_iff(a b:Bz):Bz.eqb a b=true↔a=b:=by cases a;cases b;simp[Bz.eqb,X0.eqb_iff]
instance :DecidableEq Bz:=fun a b=>decidable_of_iff (Bz.eqb a b=true) (Bz.eqb_iff a b)
structure X5 where
 event:Int
 args:List Bz
 deriving DecidableEq
def X5.D(v:X5):D:=.agg ([(D.i .i64) v.event]++[(D.l Bz.D) v.args])
instance :De X5.D 2:=⟨fun _=>rfl⟩
structure Yu where
 op:Int
 a:Int
 b:Int
 value:X0
def Yu.D(v:Yu):D:=.agg ([(D.i .i64) v.op]++[(D.i .i64) v.a]++[(D.i .i64) v.b]++(X0.D v.value).cells)
instance :De Yu.D 7:=⟨fun _=>rfl⟩
def Yu.eqb(a b:Yu):Bool:=(decide (a.op=b.op)&&(decide (a.a=b.a)&&(decide (a.b=b.b)&&(X0.eqb a.value b.value&&true))))
theorem Yu.eqb_iff(a b:Yu):Yu.eqb a b=true↔a=b:=by cases a;cases b;simp[Yu.eqb,X0.eqb_iff]
instance :DecidableEq Yu:=fun a b=>decidable_of_iff (Yu.eqb a b=true) (Yu.eqb_iff a b)
structure Fk where
 free:Int
 expr:Int
def Fk.D(v:Fk):D:=.agg ([(D.i .i64) v.free]++[(D.i .i64) v.expr])
instance :De Fk.D 2:=⟨fun _=>rfl⟩
def Fk.eqb(a b:Fk):Bool:=(decide (a.free=b.free)&&(decide (a.expr=b.expr)&&true))
theorem Fk.eqb_iff(a b:Fk):Fk.eqb a b=true↔a=b:=by cases a;cases b;simp[Fk.eqb]
instance :DecidableEq Fk:=fun a b=>decidable_of_iff (Fk.eqb a b=true) (Fk.eqb_iff a b)
structure Xr where
 from_:Int
 symbol:Int
 to:Int
 guard:Int
 sets:List Fk
 deriving DecidableEq
def Xr.D(v:Xr):D:=.agg ([(D.i .i64) v.from_]++[(D.i .i64) v.symbol]++[(D.i .i64) v.to]++[(D.i .i64) v.guard]++[(D.l Fk.D) v.sets])
instance :De Xr.D 5:=⟨fun _=>rfl⟩
structure AD where
 name:List UInt8
 decls:List Xl
 quants:List Yl
 frees:List Yn
 states:List Xg
 start:Int
 symbols:List X5
 nodes:List Yu
 trans:List Xr
 deriving DecidableEq
def AD.D(v:AD):D:=.agg ([D.s v.name]++[(D.l Xl.D) v.decls]++[(D.l Yl.D) v.quants]++[(D.l Yn.D) v.frees]++[(D.l Xg.D) v.states]++[(D.i .i64) v.start]++[(D.l X5.D) v.symbols]++[(D.l Yu.D) v.nodes]++[(D.l Xr.D) v.trans])
instance :De AD.D 9:=⟨fun _=>rfl⟩
structure X2 where
 var:Int
 value:X0
def X2.D(v:X2):D:=.agg ([(D.i .i64) v.var]++(X0.D v.value).cells)
instance :De X2.D 5:=⟨fun _=>rfl⟩
def X2.eqb(a b:X2):Bool:=(decide (a.var=b.var)&&(X0.eqb a.value b.value&&true))
theorem X2.eqb_iff(a b:X2):X2.eqb a b=true↔a=b:=by cases a;cases b;simp[X2.eqb,X0.eqb_iff]
instance :DecidableEq X2:=fun a b=>decidable_of_iff (X2.eqb a b=true) (X2.eqb_iff a b)
structure Xq where
 q:AD
 b:List X2
 d_:Int
 at_:Int
 deriving DecidableEq
def Xq.D(v:Xq):D:=.agg ((AD.D v.q).cells++[(D.l X2.D) v.b]++[(D.i .i64) v.d_]++[(D.i .i64) v.at_])
instance :De Xq.D 12:=⟨fun _=>rfl⟩
structure Xd where
 name:List UInt8
 args:List X0
 deriving DecidableEq
def Xd.D(v:Xd):D:=.agg ([D.s v.name]++[(D.l X0.D) v.args])
instance :De Xd.D 2:=⟨fun _=>rfl⟩
structure Ap where
 symbol:Int
 bind:List X2
 frees:List X2
 deriving DecidableEq
def Ap.D(v:Ap):D:=.agg ([(D.i .i64) v.symbol]++[(D.l X2.D) v.bind]++[(D.l X2.D) v.frees])
instance :De Ap.D 3:=⟨fun _=>rfl⟩
structure Xk where
 a:Int
 b:Int
def Xk.D(v:Xk):D:=.agg ([(D.i .u32) v.a]++[(D.i .u32) v.b])
instance :De Xk.D 2:=⟨fun _=>rfl⟩
def Xk.eqb(a b:Xk):Bool:=(decide (a.a=b.a)&&(decide (a.b=b.b)&&true))
theorem Xk.eqb_iff(a b:Xk):Xk.eqb a b=true↔a=b:=by cases a;cases b;simp[Xk.eqb]
instance :DecidableEq Xk:=fun a b=>decidable_of_iff (Xk.eqb a b=true) (Xk.eqb_iff a b)
structure X3 where
 a:Int
 b:Int
def X3.D(v:X3):D:=.agg ([(D.i .u32) v.a]++[(D.i .u32) v.b])
instance :De X3.D 2:=⟨fun _=>rfl⟩
def X3.eqb(a b:X3):Bool:=(decide (a.a=b.a)&&(decide (a.b=b.b)&&true))
theorem X3.eqb_iff(a b:X3):X3.eqb a b=true↔a=b:=by cases a;cases b;simp[X3.eqb]
instance :DecidableEq X3:=fun a b=>decidable_of_iff (X3.eqb a b=true) (X3.eqb_iff a b)
structure Xe where
 from_:X3
 set:Int
def Xe.D(v:Xe):D:=.agg ((X3.D v.from_).cells++[(D.i .u64) v.set])
instance :De Xe.D 3:=⟨fun _=>rfl⟩
def Xe.eqb(a b:Xe):Bool:=(X3.eqb a.from_ b.from_&&(decide (a.set=b.set)&&true))
theorem Xe.eqb_iff(a b:Xe):Xe.eqb a b=true↔a=b:=by cases a;cases b;simp[Xe.eqb,X3.eqb_iff]
instance :DecidableEq Xe:=fun a b=>decidable_of_iff (Xe.eqb a b=true) (Xe.eqb_iff a b)
def IE(w1:AD)(s3:Int):Option ((Int)⊕(Unit⊕Unit)):=
 AE (decide (s3<(w1.decls.length:Int))) (
  AU w1.decls s3 fun x1=>
  AE (decide (12<(x1.types.length:Int))) (
   some (.inr (.inr ()))) (
   AU w1.decls s3 fun x2=>
   AE (decide (100<(x2.name.length:Int))) (
    some (.inr (.inr ()))) (
    some (.inl (AA .add .i64 s3 1))))) (
  some (.inr (.inl ())))
def aOt(w1:AD)(s3:Int):Option (Unit⊕Unit):=AR (fun s:Int=>IE w1 s) s3
def IG(s4:Int)(w1:AD)(s5:Int):Option ((Int)⊕(Unit⊕Unit)):=
 AU w1.symbols s4 fun x7=>
 AE (decide (s5<(x7.args.length:Int))) (
  AU w1.symbols s4 fun x8=>
  AU x8.args s5 fun x9=>
  AE (decide (100<(x9.value.str.length:Int))) (
   some (.inr (.inr ()))) (
   some (.inl (AA .add .i64 s5 1)))) (
  some (.inr (.inl ())))
def aOv(s4:Int)(w1:AD)(s5:Int):Option (Unit⊕Unit):=AR (fun s:Int=>IG s4 w1 s) s5
def IF(w1:AD)(s4:Int):Option ((Int)⊕(Unit⊕Unit)):=
 AE (decide (s4<(w1.symbols.length:Int))) (
  AU w1.symbols s4 fun x6=>
  AE (decide (12<(x6.args.length:Int))) (
   some (.inr (.inr ()))) (
   AG (aOv s4 w1 0) fun o10=>
   Cd o10 (fun o11=>
    some (.inl (AA .add .i64 s4 1))) (fun o12=>
    some (.inr (.inr ()))))) (
  some (.inr (.inl ())))
def aOu(w1:AD)(s4:Int):Option (Unit⊕Unit):=AR (fun s:Int=>IF w1 s) s4
def IH(w1:AD)(s6:Int):Option ((Int)⊕(Unit⊕Unit)):=
 AE (decide (s6<(w1.frees.length:Int))) (
  AU w1.frees s6 fun x16=>
  AE (decide (100<(x16.init_.str.length:Int))) (
   some (.inr (.inr ()))) (
   some (.inl (AA .add .i64 s6 1)))) (
  some (.inr (.inl ())))
def aOw(w1:AD)(s6:Int):Option (Unit⊕Unit):=AR (fun s:Int=>IH w1 s) s6
def II(w1:AD)(s7:Int):Option ((Int)⊕(Unit⊕Unit)):=
 AE (decide (s7<(w1.nodes.length:Int))) (
  AU w1.nodes s7 fun x20=>
  AE (decide (100<(x20.value.str.length:Int))) (
   some (.inr (.inr ()))) (
   some (.inl (AA .add .i64 s7 1)))) (
  some (.inr (.inl ())))
def aOx(w1:AD)(s7:Int):Option (Unit⊕Unit):=AR (fun s:Int=>II w1 s) s7
def IJ(w1:AD)(s8:Int):Option ((Int)⊕(Unit⊕Unit)):=
 AE (decide (s8<(w1.trans.length:Int))) (
  AU w1.trans s8 fun x24=>
  AE (decide (12<(x24.sets.length:Int))) (
   some (.inr (.inr ()))) (
   some (.inl (AA .add .i64 s8 1)))) (
  some (.inr (.inl ())))
def aOy(w1:AD)(s8:Int):Option (Unit⊕Unit):=AR (fun s:Int=>IJ w1 s) s8
def Xh(a0:AD):Option (Int):=
 AE (decide (12<(a0.decls.length:Int))) (
  some 0) (
  AE (decide (9<(a0.quants.length:Int))) (
   some 0) (
   AE (decide (12<(a0.frees.length:Int))) (
    some 0) (
    AE (decide (12<(a0.states.length:Int))) (
     some 0) (
     AE (decide (12<(a0.symbols.length:Int))) (
      some 0) (
      AE (decide (12<(a0.trans.length:Int))) (
       some 0) (
       AE (decide (40<(a0.nodes.length:Int))) (
        some 0) (
        AE (decide (100<(a0.name.length:Int))) (
         some 0) (
         AG (aOt a0 0) fun o3=>
         Cd o3 (fun o4=>
          AG (aOu a0 0) fun o13=>
          Cd o13 (fun o14=>
           AG (aOw a0 0) fun o17=>
           Cd o17 (fun o18=>
            AG (aOx a0 0) fun o21=>
            Cd o21 (fun o22=>
             AG (aOy a0 0) fun o25=>
             Cd o25 (fun o26=>
              some 1) (fun o27=>
              some 0)) (fun o23=>
             some 0)) (fun o19=>
            some 0)) (fun o15=>
           some 0)) (fun o5=>
          some 0)))))))))
def Qn:Option (List (List UInt8)):=
 some ([([97,99,99,101,112,116]:List UInt8),([97,108,115,111]:List UInt8),([97,110,100]:List UInt8),([98,111,111,108]:List UInt8),([100,111]:List UInt8),([101,118,101,110,116]:List UInt8),([101,120,105,115,116,115]:List UInt8),([102,97,108,115,101]:List UInt8),([102,111,114,97,108,108]:List UInt8),([102,114,101,101]:List UInt8),([105,102]:List UInt8),([105,110,116]:List UInt8),([110,101,120,116]:List UInt8),([110,111,116]:List UInt8),([111,110]:List UInt8),([111,114]:List UInt8),([113,101,97]:List UInt8),([115,107,105,112]:List UInt8),([115,116,97,114,116]:List UInt8),([115,116,114,105,110,103]:List UInt8),([116,111]:List UInt8),([116,114,117,101]:List UInt8)])
def It(s0:List UInt8)(s3:Int):Option ((Int)⊕(Unit⊕Unit)):=
 AE (decide (s3<(s0.length:Int))) (
  AU s0 s3 fun x1=>
  AE (decide (((65:UInt8).toNat:Int)<=(x1.toNat:Int))) (
   AE (decide ((x1.toNat:Int)<=((90:UInt8).toNat:Int))) (
    some (.inl (AA .add .i64 s3 1))) (
    AE (decide (((97:UInt8).toNat:Int)<=(x1.toNat:Int))) (
     AE (decide ((x1.toNat:Int)<=((122:UInt8).toNat:Int))) (
      some (.inl (AA .add .i64 s3 1))) (
      AE (!(decide ((x1.toNat:Int)=((95:UInt8).toNat:Int)))) (
       AE (decide (s3=0)) (
        some (.inr (.inr ()))) (
        AE (decide ((x1.toNat:Int)<((48:UInt8).toNat:Int))) (
         some (.inr (.inr ()))) (
         AE (decide (((57:UInt8).toNat:Int)<(x1.toNat:Int))) (
          some (.inr (.inr ()))) (
          some (.inl (AA .add .i64 s3 1)))))) (
       some (.inl (AA .add .i64 s3 1))))) (
     AE (!(decide ((x1.toNat:Int)=((95:UInt8).toNat:Int)))) (
      AE (decide (s3=0)) (
       some (.inr (.inr ()))) (
       AE (decide ((x1.toNat:Int)<((48:UInt8).toNat:Int))) (
        some (.inr (.inr ()))) (
        AE (decide (((57:UInt8).toNat:Int)<(x1.toNat:Int))) (
         some (.inr (.inr ()))) (
         some (.inl (AA .add .i64 s3 1)))))) (
      some (.inl (AA .add .i64 s3 1)))))) (
   AE (decide (((97:UInt8).toNat:Int)<=(x1.toNat:Int))) (
    AE (decide ((x1.toNat:Int)<=((122:UInt8).toNat:Int))) (
     some (.inl (AA .add .i64 s3 1))) (
     AE (!(decide ((x1.toNat:Int)=((95:UInt8).toNat:Int)))) (
      AE (decide (s3=0)) (
       some (.inr (.inr ()))) (
       AE (decide ((x1.toNat:Int)<((48:UInt8).toNat:Int))) (
        some (.inr (.inr ()))) (
        AE (decide (((57:UInt8).toNat:Int)<(x1.toNat:Int))) (
         some (.inr (.inr ()))) (
         some (.inl (AA .add .i64 s3 1)))))) (
      some (.inl (AA .add .i64 s3 1))))) (
    AE (!(decide ((x1.toNat:Int)=((95:UInt8).toNat:Int)))) (
     AE (decide (s3=0)) (
      some (.inr (.inr ()))) (
      AE (decide ((x1.toNat:Int)<((48:UInt8).toNat:Int))) (
       some (.inr (.inr ()))) (
       AE (decide (((57:UInt8).toNat:Int)<(x1.toNat:Int))) (
        some (.inr (.inr ()))) (
        some (.inl (AA .add .i64 s3 1)))))) (
     some (.inl (AA .add .i64 s3 1)))))) (
  some (.inr (.inl ())))
def aPp(s0:List UInt8)(s3:Int):Option (Unit⊕Unit):=AR (fun s:Int=>It s0 s) s3
def Z2(a0:List UInt8):Option (Bool):=
 AE (decide ((a0.length:Int)<1)) (
  some false) (
  AE (decide (32<(a0.length:Int))) (
   some false) (
   AG (aPp a0 0) fun o2=>
   Cd o2 (fun o3=>
    some true) (fun o4=>
    some false)))
def Io(s0:List UInt8)(s3:List (List UInt8))(s4:Int):Option ((Int)⊕(Unit⊕Unit)):=
 AE (decide (s4<(s3.length:Int))) (
  AU s3 s4 fun x2=>
  AE (decide (x2=s0)) (
   some (.inr (.inr ()))) (
   some (.inl (AA .add .i64 s4 1)))) (
  some (.inr (.inl ())))
def aPn(s0:List UInt8)(s3:List (List UInt8))(s4:Int):Option (Unit⊕Unit):=AR (fun s:Int=>Io s0 s3 s) s4
def Ys(a0:List UInt8):Option (Bool):=
 AG (Qn) fun r1=>
 AG (aPn a0 r1 0) fun o3=>
 Cd o3 (fun o4=>
  AG (Z2 a0) fun r6=>
  AE (r6) (
   some (!decide (a0=([95]:List UInt8)))) (
   some false)) (fun o5=>
  some false)
def K4(s0:List Xl)(s1:List UInt8)(s5:Int):Option ((Int)⊕(Unit⊕Int)):=
 AE (decide (s5<(s0.length:Int))) (
  AU s0 s5 fun x1=>
  AE (decide (x1.name=s1)) (
   some (.inr (.inr s5))) (
   some (.inl (AA .add .i64 s5 1)))) (
  some (.inr (.inl ())))
def aPv(s0:List Xl)(s1:List UInt8)(s5:Int):Option (Unit⊕Int):=AR (fun s:Int=>K4 s0 s1 s) s5
def Z9(a0:List Xl)(a1:List UInt8):Option (Int):=
 AG (aPv a0 a1 0) fun o2=>
 Cd o2 (fun o3=>
  some (-1)) (fun o4=>
  some o4)
def E0(s0:List Xl)(s4 s5:Int):Option ((Int)⊕(Unit⊕Unit)):=
 AU s0 s4 fun x6=>
 AE (decide (s5<(x6.types.length:Int))) (
  AU s0 s4 fun x7=>
  AU x7.types s5 fun x8=>
  AE (decide (x8<1)) (
   some (.inr (.inr ()))) (
   AU s0 s4 fun x9=>
   AU x9.types s5 fun x10=>
   AE (decide (3<x10)) (
    some (.inr (.inr ()))) (
    some (.inl (AA .add .i64 s5 1))))) (
  some (.inr (.inl ())))
def aIh(s0:List Xl)(s4 s5:Int):Option (Unit⊕Unit):=AR (fun s:Int=>E0 s0 s4 s) s5
def Ez(s0:List Xl)(s4:Int):Option ((Int)⊕(Unit⊕(Int×Int))):=
 AE (decide (s4<(s0.length:Int))) (
  AU s0 s4 fun x1=>
  AG (Ys x1.name) fun r2=>
  AE (!r2) (
   some (.inr (.inr (11,s4)))) (
   AU s0 s4 fun x3=>
   AG (Z9 s0 x3.name) fun r4=>
   AE (decide (r4<s4)) (
    some (.inr (.inr (10,s4)))) (
    AU s0 s4 fun x5=>
    AE (decide (8<(x5.types.length:Int))) (
     some (.inr (.inr (14,s4)))) (
     AG (aIh s0 s4 0) fun o11=>
     Cd o11 (fun o12=>
      some (.inl (AA .add .i64 s4 1))) (fun o13=>
      some (.inr (.inr (8,s4)))))))) (
  some (.inr (.inl ())))
def aIf(s0:List Xl)(s4:Int):Option (Unit⊕(Int×Int)):=AR (fun s:Int=>Ez s0 s) s4
def Y6(a0:List Xl):Option (Int×Int):=
 AE (decide (32<(a0.length:Int))) (
  some (14,32)) (
  AG (aIf a0 0) fun o14=>
  Cd o14 (fun o15=>
   some (0,(-1))) (fun o16=>
   some (o16.1,o16.2)))
def Zn(a0:X0):Option (Bool):=
 AE (decide (a0.kind=1)) (
  AE (decide (a0.str=([]:List UInt8))) (
   some (!a0.bool)) (
   some false)) (
  AE (decide (a0.kind=2)) (
   AE (decide (a0.int=0)) (
    AE (!a0.bool) (
     some (decide ((a0.str.length:Int)<=4096))) (
     some false)) (
    some false)) (
   AE (decide (a0.kind=3)) (
    AE (decide (a0.int=0)) (
     some (decide (a0.str=([]:List UInt8)))) (
     some false)) (
    some false)))
def Ix(s0:List (List UInt8))(s1 s5:Int):Option ((Int)⊕(Unit⊕Unit)):=
 AE (decide (s5<s1)) (
  AU s0 s5 fun x1=>
  AU s0 s1 fun x2=>
  AE (decide (x1=x2)) (
   some (.inr (.inr ()))) (
   some (.inl (AA .add .i64 s5 1)))) (
  some (.inr (.inl ())))
def aS6(s0:List (List UInt8))(s1 s5:Int):Option (Unit⊕Unit):=AR (fun s:Int=>Ix s0 s1 s) s5
def Za(a0:List (List UInt8))(a1:Int):Option (Bool):=
 AG (aS6 a0 a1 0) fun o3=>
 Cd o3 (fun o4=>
  some false) (fun o5=>
  some true)
def IR(w1:AD)(s4:Int)(w3:List (List UInt8)):Option ((Int×List (List UInt8))⊕((List (List UInt8))⊕Unit)):=
 AE (decide (s4<(w1.quants.length:Int))) (
  AU w1.quants s4 fun x4=>
  AV (fit w3.length [x4.name].length 16) (
   AU w1.quants s4 fun x5=>
   AE (decide (x5.type<1)) (
    some (.inr (.inr ()))) (
    AU w1.quants s4 fun x6=>
    AE (decide (3<x6.type)) (
     some (.inr (.inr ()))) (
     some (.inl ((AA .add .i64 s4 1),w3++[x4.name])))))) (
  some (.inr (.inl w3)))
def aSm(w1:AD)(s4:Int)(w3:List (List UInt8)):Option ((List (List UInt8))⊕Unit):=AR (fun s:Int×List (List UInt8)=>IR w1 s.1 s.2) (s4,w3)
def IS(w1:AD)(s5:Int)(w3:List (List UInt8)):Option ((Int×List (List UInt8))⊕((List (List UInt8))⊕Unit)):=
 AE (decide (s5<(w1.frees.length:Int))) (
  AU w1.frees s5 fun x10=>
  AV (fit w3.length [x10.name].length 16) (
   AU w1.frees s5 fun x11=>
   AG (Zn x11.init_) fun r12=>
   AE (!r12) (
    some (.inr (.inr ()))) (
    some (.inl ((AA .add .i64 s5 1),w3++[x10.name]))))) (
  some (.inr (.inl w3)))
def aSn(w1:AD)(s5:Int)(w3:List (List UInt8)):Option ((List (List UInt8))⊕Unit):=AR (fun s:Int×List (List UInt8)=>IS w1 s.1 s.2) (s5,w3)
def IT(w1:AD)(w3:List (List UInt8))(s6:Int):Option ((Int)⊕(Unit⊕Unit)):=
 AE (decide (s6<(w3.length:Int))) (
  AU w3 s6 fun x16=>
  AG (Ys x16) fun r17=>
  AE (!r17) (
   some (.inr (.inr ()))) (
   AG (Za w3 s6) fun r18=>
   AE (r18) (
    some (.inr (.inr ()))) (
    some (.inl (AA .add .i64 s6 1))))) (
  some (.inr (.inl ())))
def aSo(w1:AD)(w3:List (List UInt8))(s6:Int):Option (Unit⊕Unit):=AR (fun s:Int=>IT w1 w3 s) s6
def IU(w1:AD)(s8:Int)(w7:List (List UInt8)):Option ((Int×List (List UInt8))⊕(Unit⊕Unit)):=
 AE (decide (s8<(w1.states.length:Int))) (
  AU w1.states s8 fun x26=>
  AV (fit w7.length [x26.name].length 16) (
   AU (w7++[x26.name]) s8 fun x27=>
   AG (Ys x27) fun r28=>
   AE (!r28) (
    some (.inr (.inr ()))) (
    AG (Za (w7++[x26.name]) s8) fun r29=>
    AE (r29) (
     some (.inr (.inr ()))) (
     some (.inl ((AA .add .i64 s8 1),w7++[x26.name])))))) (
  some (.inr (.inl ())))
def aSp(w1:AD)(s8:Int)(w7:List (List UInt8)):Option (Unit⊕Unit):=AR (fun s:Int×List (List UInt8)=>IU w1 s.1 s.2) (s8,w7)
def Xs(a0:AD):Option (Bool):=
 AG (aSm a0 0 ([]:List (List UInt8))) fun o7=>
 Cd o7 (fun o8=>
  AG (aSn a0 0 o8) fun o13=>
  Cd o13 (fun o14=>
   AG (aSo a0 o14 0) fun o19=>
   Cd o19 (fun o20=>
    AG (aSp a0 0 ([]:List (List UInt8))) fun o30=>
    Cd o30 (fun o31=>
     AG (Ys a0.name) fun r33=>
     some r33) (fun o32=>
     some false)) (fun o21=>
    some false)) (fun o15=>
   some false)) (fun o9=>
  some false)
def Zl(a0:Bool):Option (X0×Int):=
 some (X0.mk 3 0 ([]:List UInt8) a0,0)
def Qh(a0 a1:Int):Option (Int×Bool):=
 AE (decide (0<a1)) (
  AE (decide ((AA .sub .i64 9223372036854775807 a1)<a0)) (
   some (0,false)) (
   AE (decide (a1<0)) (
    AE (decide (a0<(AA .sub .i64 (-9223372036854775808) a1))) (
     some (0,false)) (
     some ((AA .add .i64 a0 a1),true))) (
    some ((AA .add .i64 a0 a1),true)))) (
  AE (decide (a1<0)) (
   AE (decide (a0<(AA .sub .i64 (-9223372036854775808) a1))) (
    some (0,false)) (
    some ((AA .add .i64 a0 a1),true))) (
   some ((AA .add .i64 a0 a1),true)))
def Zx(a0:Int)(a1:Bool):Option (X0×Int):=
 AE (!a1) (
  some (X0.mk 0 0 ([]:List UInt8) false,6)) (
  some (X0.mk 1 a0 ([]:List UInt8) false,0))
def Zr(a0 a1:Int):Option (Int×Bool):=
 AE (decide (a1<0)) (
  AE (decide ((AA .add .i64 9223372036854775807 a1)<a0)) (
   some (0,false)) (
   AE (decide (0<a1)) (
    AE (decide (a0<(AA .add .i64 (-9223372036854775808) a1))) (
     some (0,false)) (
     some ((AA .sub .i64 a0 a1),true))) (
    some ((AA .sub .i64 a0 a1),true)))) (
  AE (decide (0<a1)) (
   AE (decide (a0<(AA .add .i64 (-9223372036854775808) a1))) (
    some (0,false)) (
    some ((AA .sub .i64 a0 a1),true))) (
   some ((AA .sub .i64 a0 a1),true)))
def Qi(a0 a1:Int):Option (Int×Bool):=
 AE (decide (a0=0)) (
  some (0,true)) (
  AE (decide (a1=0)) (
   some (0,true)) (
   AE (decide (a0=(-1))) (
    AG (Zr 0 a1) fun r1=>
    some (r1.1,r1.2)) (
    AE (decide (a1=(-1))) (
     AG (Zr 0 a0) fun r2=>
     some (r2.1,r2.2)) (
     AE (decide (0<a0)) (
      AE (decide (0<a1)) (
       AV (a1≠0) (
        AE (decide ((AA .quo .i64 9223372036854775807 a1)<a0)) (
         some (0,false)) (
         AE (decide (a1<0)) (
          AV (a0≠0) (
           AE (decide (a1<(AA .quo .i64 (-9223372036854775808) a0))) (
            some (0,false)) (
            AE (decide (a0<0)) (
             AV (a1≠0) (
              AE (decide (a0<(AA .quo .i64 (-9223372036854775808) a1))) (
               some (0,false)) (
               AV (a1≠0) (
                AE (decide (a0<(AA .quo .i64 9223372036854775807 a1))) (
                 some (0,false)) (
                 some ((AA .mul .i64 a0 a1),true)))))) (
             some ((AA .mul .i64 a0 a1),true))))) (
          AE (decide (a0<0)) (
           AV (a1≠0) (
            AE (decide (a0<(AA .quo .i64 (-9223372036854775808) a1))) (
             some (0,false)) (
             some ((AA .mul .i64 a0 a1),true)))) (
           some ((AA .mul .i64 a0 a1),true)))))) (
       AE (decide (a1<0)) (
        AV (a0≠0) (
         AE (decide (a1<(AA .quo .i64 (-9223372036854775808) a0))) (
          some (0,false)) (
          AE (decide (a0<0)) (
           AV (a1≠0) (
            AE (decide (a0<(AA .quo .i64 9223372036854775807 a1))) (
             some (0,false)) (
             some ((AA .mul .i64 a0 a1),true)))) (
           some ((AA .mul .i64 a0 a1),true))))) (
        AE (decide (a0<0)) (
         some ((AA .mul .i64 a0 a1),true)) (
         some ((AA .mul .i64 a0 a1),true))))) (
      AE (decide (a0<0)) (
       AE (decide (0<a1)) (
        AV (a1≠0) (
         AE (decide (a0<(AA .quo .i64 (-9223372036854775808) a1))) (
          some (0,false)) (
          AE (decide (a1<0)) (
           AV (a1≠0) (
            AE (decide (a0<(AA .quo .i64 9223372036854775807 a1))) (
             some (0,false)) (
             some ((AA .mul .i64 a0 a1),true)))) (
           some ((AA .mul .i64 a0 a1),true))))) (
        AE (decide (a1<0)) (
         AV (a1≠0) (
          AE (decide (a0<(AA .quo .i64 9223372036854775807 a1))) (
           some (0,false)) (
           some ((AA .mul .i64 a0 a1),true)))) (
         some ((AA .mul .i64 a0 a1),true)))) (
       some ((AA .mul .i64 a0 a1),true)))))))
def Qj(a0 a1:Int):Option (Int×Int×Int):=
 AE (decide (a1=0)) (
  some (0,0,7)) (
  AE (decide (a1=(-1))) (
   AG (Zr 0 a0) fun r1=>
   AE (!r1.2) (
    some (0,0,6)) (
    some (r1.1,0,0))) (
   AV (a1≠0) (
    AV (a1≠0) (
     some ((AA .quo .i64 a0 a1),(AA .rem .i64 a0 a1),0)))))
def Zs(a0 a1 a2:Int):Option (X0×Int):=
 AE (decide (a0=8)) (
  AG (Qh a1 a2) fun r1=>
  AG (Zx r1.1 r1.2) fun r2=>
  some (r2.1,r2.2)) (
  AE (decide (a0=9)) (
   AG (Zr a1 a2) fun r3=>
   AG (Zx r3.1 r3.2) fun r4=>
   some (r4.1,r4.2)) (
   AE (decide (a0=10)) (
    AG (Qi a1 a2) fun r5=>
    AG (Zx r5.1 r5.2) fun r6=>
    some (r6.1,r6.2)) (
    AG (Qj a1 a2) fun r7=>
    AE (decide (r7.2.2=7)) (
     some (X0.mk 0 0 ([]:List UInt8) false,7)) (
     AE (decide (a0=12)) (
      some (X0.mk 1 r7.2.1 ([]:List UInt8) false,0)) (
      AG (Zx r7.1 (decide (r7.2.2=0))) fun r8=>
      some (r8.1,r8.2))))))
def G8(s0 s1:List UInt8)(s5:Int):Option ((Int)⊕(Unit⊕Bool)):=
 AE (decide (s5<(s0.length:Int))) (
  AE (decide (s5<(s1.length:Int))) (
   AU s0 s5 fun x1=>
   AU s1 s5 fun x2=>
   AE (!decide ((x1.toNat:Int)=(x2.toNat:Int))) (
    AU s0 s5 fun x3=>
    AU s1 s5 fun x4=>
    some (.inr (.inr (decide ((x3.toNat:Int)<(x4.toNat:Int)))))) (
    some (.inl (AA .add .i64 s5 1)))) (
   some (.inr (.inl ())))) (
  some (.inr (.inl ())))
def aKg(s0 s1:List UInt8)(s5:Int):Option (Unit⊕Bool):=AR (fun s:Int=>G8 s0 s1 s) s5
def Yw(a0 a1:List UInt8):Option (Bool):=
 AG (aKg a0 a1 0) fun o5=>
 Cd o5 (fun o6=>
  some (decide ((a0.length:Int)<(a1.length:Int)))) (fun o7=>
  some o7)
def Zp(a0 a1:X0):Option (Bool):=
 AE (!decide (a0.kind=a1.kind)) (
  some (decide (a0.kind<a1.kind))) (
  AE (decide (a0.kind=1)) (
   some (decide (a0.int<a1.int))) (
   AE (decide (a0.kind=2)) (
    AG (Yw a0.str a1.str) fun r1=>
    some r1) (
    AE (!a0.bool) (
     some a1.bool) (
     some false))))
def Qa(a0:Int)(a1 a2:X0):Option (X0×Int):=
 AE (decide (a0<4)) (
  some (X0.mk 0 0 ([]:List UInt8) false,1)) (
  AE (decide (16<a0)) (
   some (X0.mk 0 0 ([]:List UInt8) false,1)) (
   AE (decide (a0=4)) (
    AE (!decide (a1.kind=3)) (
     some (X0.mk 0 0 ([]:List UInt8) false,8)) (
     AG (Zl (!a1.bool)) fun r1=>
     some (r1.1,r1.2))) (
    AE (decide (a0=5)) (
     AE (!decide (a1.kind=1)) (
      some (X0.mk 0 0 ([]:List UInt8) false,8)) (
      AG (Zs 9 0 a1.int) fun r2=>
      some (r2.1,r2.2))) (
     AE (!decide (a1.kind=a2.kind)) (
      some (X0.mk 0 0 ([]:List UInt8) false,8)) (
      AE (decide (a0=13)) (
       AG (Zl (X0.eqb a1 a2)) fun r3=>
       some (r3.1,r3.2)) (
       AE (decide (a0=14)) (
        AG (Zl (!(X0.eqb a1 a2))) fun r4=>
        some (r4.1,r4.2)) (
        AE (decide (a1.kind=3)) (
         AE (decide (a0=6)) (
          AE (a1.bool) (
           AG (Zl a2.bool) fun r5=>
           some (r5.1,r5.2)) (
           AG (Zl false) fun r6=>
           some (r6.1,r6.2))) (
          AE (decide (a0=7)) (
           AE (a1.bool) (
            AG (Zl true) fun r7=>
            some (r7.1,r7.2)) (
            AG (Zl a2.bool) fun r8=>
            some (r8.1,r8.2))) (
           some (X0.mk 0 0 ([]:List UInt8) false,8)))) (
         AE (decide (a0=15)) (
          AG (Zp a1 a2) fun r9=>
          AG (Zl r9) fun r10=>
          some (r10.1,r10.2)) (
          AE (decide (a0=16)) (
           AG (Zp a2 a1) fun r11=>
           AG (Zl (!r11)) fun r12=>
           some (r12.1,r12.2)) (
           AE (decide (a1.kind=1)) (
            AE (decide (8<=a0)) (
             AE (decide (a0<=12)) (
              AG (Zs a0 a1.int a2.int) fun r13=>
              some (r13.1,r13.2)) (
              AE (decide (a1.kind=2)) (
               AE (decide (a0=8)) (
                AE (decide (4096<(AA .add .i64 (a1.str.length:Int) (a2.str.length:Int)))) (
                 some (X0.mk 0 0 ([]:List UInt8) false,3)) (
                 AV (a1.str.length+a2.str.length<=9223372036854775807) (
                  some (X0.mk 2 0 (a1.str++a2.str) false,0)))) (
                some (X0.mk 0 0 ([]:List UInt8) false,8))) (
               some (X0.mk 0 0 ([]:List UInt8) false,8)))) (
             AE (decide (a1.kind=2)) (
              AE (decide (a0=8)) (
               AE (decide (4096<(AA .add .i64 (a1.str.length:Int) (a2.str.length:Int)))) (
                some (X0.mk 0 0 ([]:List UInt8) false,3)) (
                AV (a1.str.length+a2.str.length<=9223372036854775807) (
                 some (X0.mk 2 0 (a1.str++a2.str) false,0)))) (
               some (X0.mk 0 0 ([]:List UInt8) false,8))) (
              some (X0.mk 0 0 ([]:List UInt8) false,8)))) (
            AE (decide (a1.kind=2)) (
             AE (decide (a0=8)) (
              AE (decide (4096<(AA .add .i64 (a1.str.length:Int) (a2.str.length:Int)))) (
               some (X0.mk 0 0 ([]:List UInt8) false,3)) (
               AV (a1.str.length+a2.str.length<=9223372036854775807) (
                some (X0.mk 2 0 (a1.str++a2.str) false,0)))) (
              some (X0.mk 0 0 ([]:List UInt8) false,8))) (
             some (X0.mk 0 0 ([]:List UInt8) false,8)))))))))))))
def Zy(a0 a1 a2:Int):Option (Int):=
 AE (decide (a1<1)) (
  some 0) (
  AE (!decide (a1=a2)) (
   some 0) (
   AG (Qa a0 (X0.mk a1 0 ([]:List UInt8) false) (X0.mk a2 0 ([]:List UInt8) false)) fun r1=>
   AE (decide (r1.2=7)) (
    some 1) (
    AE (!decide (r1.2=0)) (
     some 0) (
     some r1.1.kind))))
def aPq(self:AD->Int->Option (Int×Int×Int))(a0:AD)(a1:Int):Option (Int×Int×Int):=
 AE (decide (a1<0)) (
  some (0,0,0)) (
  AE (decide ((a0.nodes.length:Int)<=a1)) (
   some (0,0,0)) (
   AU a0.nodes a1 fun x1=>
   AE (decide (x1.op=1)) (
    AE (!decide (x1.a=0)) (
     some (0,0,0)) (
     AE (!decide (x1.b=0)) (
      some (0,0,0)) (
      AG (Zn x1.value) fun r2=>
      AE (!r2) (
       some (0,0,0)) (
       some (x1.value.kind,1,a1))))) (
    AE (!(X0.eqb x1.value (X0.mk 0 0 ([]:List UInt8) false))) (
     some (0,0,0)) (
     AE (decide (x1.op=2)) (
      AE (decide (x1.a<0)) (
       some (0,0,0)) (
       AE (decide ((a0.quants.length:Int)<=x1.a)) (
        some (0,0,0)) (
        AE (!decide (x1.b=0)) (
         some (0,0,0)) (
         AU a0.quants x1.a fun x3=>
         some (x3.type,1,a1))))) (
      AE (decide (x1.op=3)) (
       AE (decide (x1.a<0)) (
        some (0,0,0)) (
        AE (decide ((a0.frees.length:Int)<=x1.a)) (
         some (0,0,0)) (
         AE (!decide (x1.b=0)) (
          some (0,0,0)) (
          AU a0.frees x1.a fun x4=>
          some (x4.init_.kind,1,a1))))) (
       AE (decide (x1.op<4)) (
        some (0,0,0)) (
        AE (decide (16<x1.op)) (
         some (0,0,0)) (
         AG (self a0 (AA .sub .i64 a1 1)) fun r5=>
         AE (decide (x1.op<=5)) (
          AE (decide (r5.1=0)) (
           some (0,0,0)) (
           AE (!decide (x1.a=(AA .sub .i64 a1 1))) (
            some (0,0,0)) (
            AE (!decide (x1.b=0)) (
             some (0,0,0)) (
             AG (Zy x1.op r5.1 r5.1) fun r6=>
             some (r6,(AA .add .i64 r5.2.1 1),r5.2.2))))) (
          AE (decide (r5.1=0)) (
           some (0,0,0)) (
           AE (!decide (x1.b=(AA .sub .i64 a1 1))) (
            some (0,0,0)) (
            AE (!decide (x1.a=(AA .sub .i64 r5.2.2 1))) (
             some (0,0,0)) (
             AG (self a0 (AA .sub .i64 r5.2.2 1)) fun r7=>
             AG (Zy x1.op r7.1 r5.1) fun r8=>
             some (r8,(AA .add .i64 (aNy r5.2.1 r7.2.1) 1),r7.2.2)))))))))))))
def aNd:Nat->AD->Int->Option (Int×Int×Int)
 |0=>fun _ _=>none
 |n+1=>fun a0 a1=>aPq (aNd n) a0 a1
def Z3(a0:AD)(a1:Int):Option (Int×Int×Int):=aNd 100000 a0 a1
def Q5(a0:AD)(a1 a2:Int):Option (Int×Int):=
 AG (Z3 a0 a2) fun r1=>
 AE (decide (r1.1=0)) (
  some (0,0)) (
  AE (!decide (r1.2.2=a1)) (
   some (0,0)) (
   some (r1.1,r1.2.1)))
def Is(s1:Int)(w2:X5)(s5:Int):Option ((Int)⊕(Unit⊕Unit)):=
 AE (decide (s5<(w2.args.length:Int))) (
  AU w2.args s5 fun x1=>
  AE (decide (x1.kind=2)) (
   AU w2.args s5 fun x2=>
   AE (decide (x2.n=s1)) (
    some (.inr (.inr ()))) (
    some (.inl (AA .add .i64 s5 1)))) (
   some (.inl (AA .add .i64 s5 1)))) (
  some (.inr (.inl ())))
def aPo(s1:Int)(w2:X5)(s5:Int):Option (Unit⊕Unit):=AR (fun s:Int=>Is s1 w2 s) s5
def Z0(a0:X5)(a1:Int):Option (Bool):=
 AG (aPo a1 a0 0) fun o3=>
 Cd o3 (fun o4=>
  some false) (fun o5=>
  some true)
def Iz(s3:Int)(w4:AD)(w5:X5)(s9:Int):Option ((Int)⊕(Unit⊕Unit)):=
 AE (decide (s9<s3)) (
  AU w4.nodes s9 fun x1=>
  AE (decide (x1.op=2)) (
   AU w4.nodes s9 fun x2=>
   AG (Z0 w5 x2.a) fun r3=>
   AE (!r3) (
    some (.inr (.inr ()))) (
    some (.inl (AA .add .i64 s9 1)))) (
   some (.inl (AA .add .i64 s9 1)))) (
  some (.inr (.inl ())))
def aPy(s3:Int)(w4:AD)(w5:X5)(s9:Int):Option (Unit⊕Unit):=AR (fun s:Int=>Iz s3 w4 w5 s) s9
def Ze(a0:AD)(a1:X5)(a2 a3:Int):Option (Bool):=
 AG (aPy a3 a0 a1 a2) fun o4=>
 Cd o4 (fun o5=>
  some true) (fun o6=>
  some false)
def WT(s2 s8:Int)(s56:Bool)(w3:AD)(w4:Xr):Option (Int⊕Unit):=
 AE (s56) (
  AG (Q5 w3 s8 w4.guard) fun r1=>
  AE (!decide (r1.1=3)) (
   some (.inr ())) (
   AE (decide (64<r1.2)) (
    some (.inr ())) (
    some (.inl (AA .add .i64 w4.guard 1))))) (
  some (.inl s8))
def If(s2 s11:Int)(w3:AD)(w4:Xr)(w12:Fk)(s15:Int):Option ((Int)⊕(Unit⊕Unit)):=
 AE (decide (s15<s11)) (
  AU w4.sets s15 fun x8=>
  AE (decide (x8.free=w12.free)) (
   some (.inr (.inr ()))) (
   some (.inl (AA .add .i64 s15 1)))) (
  some (.inr (.inl ())))
def aO9(s2 s11:Int)(w3:AD)(w4:Xr)(w12:Fk)(s15:Int):Option (Unit⊕Unit):=AR (fun s:Int=>If s2 s11 w3 w4 w12 s) s15
def Ie(s2:Int)(w3:AD)(w4:Xr)(s8 s11:Int):Option ((Int×Int)⊕(Int⊕Unit)):=
 AE (decide (s11<(w4.sets.length:Int))) (
  AU w4.sets s11 fun x5=>
  AG (Q5 w3 s8 x5.expr) fun r6=>
  AE (decide (x5.free<0)) (
   some (.inr (.inr ()))) (
   AE (decide ((w3.frees.length:Int)<=x5.free)) (
    some (.inr (.inr ()))) (
    AE (decide (r6.1=0)) (
     some (.inr (.inr ()))) (
     AE (decide (64<r6.2)) (
      some (.inr (.inr ()))) (
      AU w3.frees x5.free fun x7=>
      AE (!decide (r6.1=x7.init_.kind)) (
       some (.inr (.inr ()))) (
       AG (aO9 s2 s11 w3 w4 x5 0) fun o9=>
       Cd o9 (fun o10=>
        some (.inl ((AA .add .i64 x5.expr 1),(AA .add .i64 s11 1)))) (fun o11=>
        some (.inr (.inr ()))))))))) (
  some (.inr (.inl s8)))
def aO8(s2:Int)(w3:AD)(w4:Xr)(s8 s11:Int):Option (Int⊕Unit):=AR (fun s:Int×Int=>Ie s2 w3 w4 s.1 s.2) (s8,s11)
def Y7(a0:AD)(a1:Xr)(a2:Int):Option (Int×Bool):=
 AE (decide (a1.from_<0)) (
  some (0,false)) (
  AE (decide ((a0.states.length:Int)<=a1.from_)) (
   some (0,false)) (
   AE (decide (a1.to<0)) (
    some (0,false)) (
    AE (decide ((a0.states.length:Int)<=a1.to)) (
     some (0,false)) (
     AE (decide (a1.symbol<0)) (
      some (0,false)) (
      AE (decide ((a0.symbols.length:Int)<=a1.symbol)) (
       some (0,false)) (
       AG (WT a2 a2 (!decide (a1.guard=(-1))) a0 a1) fun o2=>
       Cd o2 (fun o3=>
        AG (aO8 a2 a0 a1 o3 0) fun o12=>
        Cd o12 (fun o13=>
         AU a0.symbols a1.symbol fun x15=>
         AG (Ze a0 x15 a2 o13) fun r16=>
         some (o13,r16)) (fun o14=>
         some (0,false))) (fun o4=>
        some (0,false))))))))
def Qb(a0:AD)(a1:Bz)(a2:Int):Option (Bool):=
 AE (decide (a1.kind=1)) (
  AE (decide (a1.n=0)) (
   AG (Zn a1.value) fun r1=>
   AE (r1) (
    some (decide (a1.value.kind=a2))) (
    some false)) (
   some false)) (
  AE (!(X0.eqb a1.value (X0.mk 0 0 ([]:List UInt8) false))) (
   some false) (
   AE (decide (a1.kind=2)) (
    AE (decide (0<=a1.n)) (
     AE (decide (a1.n<(a0.quants.length:Int))) (
      AU a0.quants a1.n fun x2=>
      some (decide (x2.type=a2))) (
      some false)) (
     some false)) (
    AE (decide (a1.kind=3)) (
     AE (decide (0<=a1.n)) (
      AE (decide (a1.n<(a0.frees.length:Int))) (
       AU a0.frees a1.n fun x3=>
       some (decide (x3.init_.kind=a2))) (
       some false)) (
      some false)) (
     AE (decide (a1.kind=4)) (
      some (decide (a1.n=0))) (
      some false)))))
def Iy(w2:AD)(w3:X5)(s5:Int):Option ((Int)⊕(Unit⊕Unit)):=
 AE (decide (s5<(w3.args.length:Int))) (
  AU w3.args s5 fun x2=>
  AU w2.decls w3.event fun x3=>
  AU x3.types s5 fun x4=>
  AG (Qb w2 x2 x4) fun r5=>
  AE (!r5) (
   some (.inr (.inr ()))) (
   some (.inl (AA .add .i64 s5 1)))) (
  some (.inr (.inl ())))
def aS8(w2:AD)(w3:X5)(s5:Int):Option (Unit⊕Unit):=AR (fun s:Int=>Iy w2 w3 s) s5
def Zb(a0:AD)(a1:X5):Option (Bool):=
 AE (decide (a1.event<0)) (
  some false) (
  AE (decide ((a0.decls.length:Int)<=a1.event)) (
   some false) (
   AU a0.decls a1.event fun x1=>
   AE (!decide ((a1.args.length:Int)=(x1.types.length:Int))) (
    some false) (
    AG (aS8 a0 a1 0) fun o6=>
    Cd o6 (fun o7=>
     some true) (fun o8=>
     some false))))
def I3(w2 w3:X5)(s5:Int):Option ((Int)⊕(Unit⊕Unit)):=
 AE (decide (s5<(w2.args.length:Int))) (
  AU w2.args s5 fun x1=>
  AU w3.args s5 fun x2=>
  AE (!(Bz.eqb x1 x2)) (
   some (.inr (.inr ()))) (
   some (.inl (AA .add .i64 s5 1)))) (
  some (.inr (.inl ())))
def aS9(w2 w3:X5)(s5:Int):Option (Unit⊕Unit):=AR (fun s:Int=>I3 w2 w3 s) s5
def Zi(a0 a1:X5):Option (Bool):=
 AE (!decide (a0.event=a1.event)) (
  some false) (
  AE (!decide ((a0.args.length:Int)=(a1.args.length:Int))) (
   some false) (
   AG (aS9 a0 a1 0) fun o3=>
   Cd o3 (fun o4=>
    some true) (fun o5=>
    some false)))
def UW(s5 s6:Int)(s34:Bool)(w1:AD)(w3:List Bool)(w4:List Int):Option ((List Int)):=
 AE (s34) (
  AV (fit w4.length [s6].length 8) (
   some (w4++[s6]))) (
  some w4)
def aFb(s5:Int)(w1:AD)(w3:List Bool)(w4:List Int):Option ((List Bool×List Int)):=
 AU w1.trans s5 fun x5=>
 AV (0<=x5.symbol/\x5.symbol+1<=(w3.length:Int)) (
  AU w3 x5.symbol fun x6=>
  AG (UW s5 x5.symbol (!x6) w1 w3 w4) fun o7=>
  AV (0<=x5.symbol/\x5.symbol+1<=(w3.length:Int)) (
   AV (0<=x5.symbol/\x5.symbol+1<=(w3.length:Int)) (
    some (w3.set x5.symbol.toNat true,o7))))
def H8(w1:AD)(s5:Int)(w3:List Bool)(w4:List Int):Option ((Int×List Bool×List Int)⊕((List Int))):=
 AE (decide (s5<(w1.trans.length:Int))) (
  AG (aFb s5 w1 w3 w4) fun o8=>
  some (.inl ((AA .add .i64 s5 1),o8.1,o8.2))) (
  some (.inr w4))
def aSi(w1:AD)(s5:Int)(w3:List Bool)(w4:List Int):Option ((List Int)):=AR (fun s:Int×List Bool×List Int=>H8 w1 s.1 s.2.1 s.2.2) (s5,w3,w4)
def H9(w1:AD)(w4:List Int)(s7:Int):Option ((Int)⊕(Unit⊕Unit)):=
 AE (decide (s7<(w4.length:Int))) (
  AU w4 s7 fun x10=>
  AE (!decide (x10=(AA .add .i64 (AA .sub .i64 (w1.symbols.length:Int) (w4.length:Int)) s7))) (
   some (.inr (.inr ()))) (
   some (.inl (AA .add .i64 s7 1)))) (
  some (.inr (.inl ())))
def aSj(w1:AD)(w4:List Int)(s7:Int):Option (Unit⊕Unit):=AR (fun s:Int=>H9 w1 w4 s) s7
def IB(s8:Int)(w1:AD)(s9:Int):Option ((Int)⊕(Unit⊕Unit)):=
 AE (decide (s9<s8)) (
  AU w1.symbols s8 fun x16=>
  AU w1.symbols s9 fun x17=>
  AG (Zi x16 x17) fun r18=>
  AE (r18) (
   some (.inr (.inr ()))) (
   some (.inl (AA .add .i64 s9 1)))) (
  some (.inr (.inl ())))
def aOq(s8:Int)(w1:AD)(s9:Int):Option (Unit⊕Unit):=AR (fun s:Int=>IB s8 w1 s) s9
def IA(w1:AD)(s8:Int):Option ((Int)⊕(Unit⊕Unit)):=
 AE (decide (s8<(w1.symbols.length:Int))) (
  AU w1.symbols s8 fun x14=>
  AG (Zb w1 x14) fun r15=>
  AE (!r15) (
   some (.inr (.inr ()))) (
   AG (aOq s8 w1 0) fun o19=>
   Cd o19 (fun o20=>
    some (.inl (AA .add .i64 s8 1))) (fun o21=>
    some (.inr (.inr ()))))) (
  some (.inr (.inl ())))
def aSk(w1:AD)(s8:Int):Option (Unit⊕Unit):=AR (fun s:Int=>IA w1 s) s8
def FF(s10:Int)(w1:AD)(s11:Bool)(s12:Int):Option ((Bool×Int)⊕(Bool)):=
 AE (decide (s12<(w1.symbols.length:Int))) (
  AE (s11) (
   some (.inl (true,(AA .add .i64 s12 1)))) (
   AU w1.symbols s12 fun x25=>
   AG (Z0 x25 s10) fun r26=>
   some (.inl (r26,(AA .add .i64 s12 1))))) (
  some (.inr s11))
def UX(s10:Int)(w1:AD)(s11:Bool)(s12:Int):Option (Bool):=AR (fun s:Bool×Int=>FF s10 w1 s.1 s.2) (s11,s12)
def IC(w1:AD)(s10:Int):Option ((Int)⊕(Unit⊕Unit)):=
 AE (decide (s10<(w1.quants.length:Int))) (
  AG (UX s10 w1 false 0) fun o27=>
  AE (!o27) (
   some (.inr (.inr ()))) (
   some (.inl (AA .add .i64 s10 1)))) (
  some (.inr (.inl ())))
def aSl(w1:AD)(s10:Int):Option (Unit⊕Unit):=AR (fun s:Int=>IC w1 s) s10
def Xc(a0:AD):Option (Bool):=
 AV (0<=(a0.symbols.length:Int)/\fit 0 (a0.symbols.length:Int).toNat 1) (
  AG (aSi a0 0 (List.replicate (a0.symbols.length:Int).toNat false) ([]:List Int)) fun o9=>
  AG (aSj a0 o9 0) fun o11=>
  Cd o11 (fun o12=>
   AG (aSk a0 0) fun o22=>
   Cd o22 (fun o23=>
    AG (aSl a0 0) fun o28=>
    Cd o28 (fun o29=>
     some true) (fun o30=>
     some false)) (fun o24=>
    some false)) (fun o13=>
   some false))
def Iq(w1:AD)(s5 s6:Int):Option ((Int×Int)⊕(Int⊕Unit)):=
 AE (decide (s6<(w1.trans.length:Int))) (
  AU w1.trans s6 fun x3=>
  AG (Y7 w1 x3 s5) fun r4=>
  AE (!r4.2) (
   some (.inr (.inr ()))) (
   some (.inl (r4.1,(AA .add .i64 s6 1))))) (
  some (.inr (.inl s5)))
def aS1(w1:AD)(s5 s6:Int):Option (Int⊕Unit):=AR (fun s:Int×Int=>Iq w1 s.1 s.2) (s5,s6)
def Yx(a0:AD):Option (Bool):=
 AG (Y6 a0.decls) fun r1=>
 AE (!decide (r1.1=0)) (
  some false) (
  AE (decide (8<(a0.quants.length:Int))) (
   some false) (
   AE (decide (16<(a0.frees.length:Int))) (
    some false) (
    AE (decide (32<(a0.states.length:Int))) (
     some false) (
     AE (decide (64<(a0.symbols.length:Int))) (
      some false) (
      AE (decide (2048<(a0.nodes.length:Int))) (
       some false) (
       AE (decide (256<(a0.trans.length:Int))) (
        some false) (
        AE (decide (a0.start<0)) (
         some false) (
         AE (decide ((a0.states.length:Int)<=a0.start)) (
          some false) (
          AG (Xs a0) fun r2=>
          AE (!r2) (
           some false) (
           AG (aS1 a0 0 0) fun o5=>
           Cd o5 (fun o6=>
            AE (decide (o6=(a0.nodes.length:Int))) (
             AG (Xc a0) fun r8=>
             some r8) (
             some false)) (fun o7=>
            some false)))))))))))
def Iu(w1:AD)(s3:Int):Option ((Int)⊕(Unit⊕Unit)):=
 AE (decide (s3<(w1.trans.length:Int))) (
  AU w1.trans s3 fun x1=>
  AE (!decide (x1.guard=(-1))) (
   some (.inr (.inr ()))) (
   some (.inl (AA .add .i64 s3 1)))) (
  some (.inr (.inl ())))
def aPs(w1:AD)(s3:Int):Option (Unit⊕Unit):=AR (fun s:Int=>Iu w1 s) s3
def Z4(a0:AD):Option (Bool):=
 AE (decide (0<(a0.frees.length:Int))) (
  some false) (
  AE (decide (1<(a0.quants.length:Int))) (
   some false) (
   AE (decide (8<(a0.states.length:Int))) (
    some false) (
    AE (decide (8<(a0.symbols.length:Int))) (
     some false) (
     AG (aPs a0 0) fun o2=>
     Cd o2 (fun o3=>
      some true) (fun o4=>
      some false)))))
def I0(s0:List X2)(s3:Int):Option ((Int)⊕(Unit⊕Unit)):=
 AE (decide (s3<(s0.length:Int))) (
  AU s0 s3 fun x1=>
  AE (decide (x1.var<0)) (
   some (.inr (.inr ()))) (
   AU s0 s3 fun x2=>
   AE (decide (7<x2.var)) (
    some (.inr (.inr ()))) (
    AU s0 s3 fun x3=>
    AG (Zn x3.value) fun r4=>
    AE (!r4) (
     some (.inr (.inr ()))) (
     AE (decide (0<s3)) (
      AU s0 s3 fun x5=>
      AU s0 (AA .sub .i64 s3 1) fun x6=>
      AE (decide (x5.var<=x6.var)) (
       some (.inr (.inr ()))) (
       some (.inl (AA .add .i64 s3 1)))) (
      some (.inl (AA .add .i64 s3 1))))))) (
  some (.inr (.inl ())))
def aPz(s0:List X2)(s3:Int):Option (Unit⊕Unit):=AR (fun s:Int=>I0 s0 s) s3
def Zf(a0:List X2):Option (Bool):=
 AG (aPz a0 0) fun o7=>
 Cd o7 (fun o8=>
  some true) (fun o9=>
  some false)
def Qc(a0:AD)(a1:List X2):Option (Bool):=
 AE (decide ((a1.length:Int)=0)) (
  some true) (
  AE (decide ((a1.length:Int)=1)) (
   AE (decide ((a0.quants.length:Int)=1)) (
    AU a1 0 fun x1=>
    AE (decide (x1.var=0)) (
     AU a1 0 fun x2=>
     AU a0.quants 0 fun x3=>
     AE (decide (x2.value.kind=x3.type)) (
      AG (Zf a1) fun r4=>
      some r4) (
      some false)) (
     some false)) (
    some false)) (
   some false))
def I1(s1:List X2)(w2:AD)(s5:Int):Option ((Int)⊕(Unit⊕Unit)):=
 AE (decide (s5<(w2.decls.length:Int))) (
  AU w2.decls s5 fun x5=>
  AE (decide (3<(x5.types.length:Int))) (
   some (.inr (.inr ()))) (
   some (.inl (AA .add .i64 s5 1)))) (
  some (.inr (.inl ())))
def aP0(s1:List X2)(w2:AD)(s5:Int):Option (Unit⊕Unit):=AR (fun s:Int=>I1 s1 w2 s) s5
def Zg(a0:AD)(a1:List X2):Option (Bool):=
 AG (Xh a0) fun r1=>
 AE (decide (r1=0)) (
  some false) (
  AG (Yx a0) fun r2=>
  AE (!r2) (
   some false) (
   AG (Z4 a0) fun r3=>
   AE (!r3) (
    some false) (
    AG (Qc a0 a1) fun r4=>
    AE (!r4) (
     some false) (
     AE (!decide ((a1.length:Int)=(a0.quants.length:Int))) (
      some false) (
      AG (aP0 a1 a0 0) fun o6=>
      Cd o6 (fun o7=>
       AE (decide ((a1.length:Int)=0)) (
        some true) (
        AU a1 0 fun x9=>
        some (decide ((x9.value.str.length:Int)<=100)))) (fun o8=>
       some false))))))
def aIb(s1 s5 s6:Int)(s9:List X5)(s10 s11:Int)(s19:Bool):Option (Int):=
 AE (s19) (
  AV (0<=(IntKind.wrap .u64 s6)) (
   some (AA .or .u64 s5 (AA .shl .u64 1 (IntKind.wrap .u64 s6))))) (
  some s5)
def aH9(s1 s5:Int)(s9:List X5)(s10 s11:Int):Option (Int):=
 AU s9 s11 fun x1=>
 AG (aIb s1 s5 s11 s9 s10 s11 (decide (x1.event=s1))) fun o2=>
 some o2
def G3(s1:Int)(s9:List X5)(s10 s5 s11:Int):Option ((Int×Int)⊕(Int)):=
 AE (decide (s11<s10)) (
  AG (aH9 s1 s5 s9 s10 s11) fun o3=>
  some (.inl (o3,(AA .add .i64 s11 1)))) (
  some (.inr s5))
def WM(s1:Int)(s9:List X5)(s10 s5 s11:Int):Option (Int):=AR (fun s:Int×Int=>G3 s1 s9 s10 s.1 s.2) (s5,s11)
def Y5(a0:AD)(a1:Int):Option (Int):=
 AG (WM a1 a0.symbols (a0.symbols.length:Int) 0 0) fun o4=>
 some o4
def Qk:Option (Unit):=
 some ()
def Q7(a0:Bool):Option (X0):=
 some (X0.mk 3 0 ([]:List UInt8) a0)
def Zz(a0 a1:X0):Option (Bool):=
 AE (!decide (a0.kind=a1.kind)) (
  some (decide (a0.kind<a1.kind))) (
  AE (decide (a0.kind=1)) (
   some (decide (a0.int<a1.int))) (
   AE (decide (a0.kind=2)) (
    some (Op.bytesLess a0.str a1.str)) (
    AE (!a0.bool) (
     some a1.bool) (
     some false))))
def Q3(a0 a1:X0)(a2:List X0):Option (Int):=
 AG (Zz a0 a1) fun r1=>
 AE (r1) (
  some (-1)) (
  AG (Zz a1 a0) fun r2=>
  AE (r2) (
   some 1) (
   some 0))
def Vy(s0 s2:List X0)(s8 s9:Int)(s10 s11:Int)(s31:Bool)(w4:X0):Option ((Int×Int)):=
 AE (s31) (
  some ((AA .add .i64 s11 1),s10)) (
  some (s9,s11))
def aHp(s0 s2:List X0)(s8 s9 s10:Int)(w4:X0):Option ((Int×Int)):=
 AU s0 (IntKind.wrap .i64 (AA .shr .u64 (IntKind.wrap .u64 (AA .add .i64 s9 s10)) 1)) fun x1=>
 AG (Q3 x1 w4 s2) fun r2=>
 AG (Vy s0 s2 s8 s9 s10 (IntKind.wrap .i64 (AA .shr .u64 (IntKind.wrap .u64 (AA .add .i64 s9 s10)) 1)) (decide (r2<0)) w4) fun o3=>
 some (o3.1,o3.2)
def Fz(s0 s2:List X0)(s8:Int)(w4:X0)(s9 s10:Int):Option ((Int×Int)⊕(Int)):=
 AE (decide (s9<s10)) (
  AG (aHp s0 s2 s8 s9 s10 w4) fun o4=>
  some (.inl (o4.1,o4.2))) (
  some (.inr s9))
def SF(s0 s2:List X0)(s8:Int)(w4:X0)(s9 s10:Int):Option (Int):=AR (fun s:Int×Int=>Fz s0 s2 s8 w4 s.1 s.2) (s9,s10)
def Xz(a0:List X0)(a1:X0)(a2:List X0):Option (Int×Bool):=
 AG (SF a0 a2 (a0.length:Int) a1 0 (a0.length:Int)) fun o5=>
 AE (decide (o5<(a0.length:Int))) (
  AU a0 o5 fun x6=>
  AG (Q3 x6 a1 a2) fun r7=>
  some (o5,decide (r7=0))) (
  some (o5,false))
def Qq(i:Int)(ys:List X0):Option (List X0):=aUq 40 i ys
def ZH(s5:Int)(s6 s20:Bool)(w3:X0):Option ((List X0)):=
 AE (s20) (
  AG (Qq s5 [w3]) fun r2=>
  some r2) (
  some ([]:List X0))
def Zk(a1:X0):Option (Bool×List X0):=
 AG (Xz ([]:List X0) a1 ([]:List X0)) fun r1=>
 AG (ZH r1.1 r1.2 (!r1.2) a1) fun o3=>
 some (!r1.2,o3)
def Qo(i:Int)(xs ys:List X0):Option (List X0):=aUp 40 i xs ys
def YF(s5:Int)(s6 s20:Bool)(w3:X0)(w501:List X0):Option ((List X0)):=
 AE (s20) (
  AG (Qo s5 w501 [w3]) fun r2=>
  some r2) (
  some w501)
def Z5(a1:X0)(w1:List X0):Option (Bool×List X0):=
 AG (Xz w1 a1 w1) fun r1=>
 AG (YF r1.1 r1.2 (!r1.2) a1 w1) fun o3=>
 some (!r1.2,o3)
def Qr(l:List X0):Option (List X0):=QU 40 l
def Qd(w1:List X0):Option (List X0×List X0):=
 AG (Qr w1) fun r1=>
 some (r1,w1)
def Ns(s1:Int)(s12:Bool)(w2:AD):Option ((List X0)):=
 AE (s12) (
  AG (Q7 false) fun r2=>
  AG (Zk r2) fun r3=>
  AG (Q7 true) fun r4=>
  AG (Z5 r4 r3.2) fun r5=>
  some r5.2) (
  some ([]:List X0))
def Nv(s1:Int)(s20:List X5)(s21 s22:Int)(s27:List Bz)(s28 s29:Int)(s42:Bool)(w9:Bz)(w518:List X0):Option ((List X0)):=
 AE (s42) (
  AG (Z5 w9.value w518) fun r9=>
  some r9.2) (
  some w518)
def Rr(s1:Int)(s20:List X5)(s21 s22:Int)(s27:List Bz)(s28 s29:Int)(w518:List X0):Option ((List X0)):=
 AU s27 s29 fun x8=>
 AE (decide (x8.kind=1)) (
  AG (Nv s1 s20 s21 s22 s27 s28 s29 (decide (x8.value.kind=s1)) x8 w518) fun o10=>
  some o10) (
  AG (Nv s1 s20 s21 s22 s27 s28 s29 false x8 w518) fun o11=>
  some o11)
def Fq(s1:Int)(s20:List X5)(s21 s22:Int)(s27:List Bz)(s28 s29:Int)(w518:List X0):Option ((Int×List X0)⊕((List X0))):=
 AE (decide (s29<s28)) (
  AG (Rr s1 s20 s21 s22 s27 s28 s29 w518) fun o12=>
  some (.inl ((AA .add .i64 s29 1),o12))) (
  some (.inr w518))
def Rt(s1:Int)(s20:List X5)(s21 s22:Int)(s27:List Bz)(s28 s29:Int)(w518:List X0):Option ((List X0)):=AR (fun s:Int×List X0=>Fq s1 s20 s21 s22 s27 s28 s.1 s.2) (s29,w518)
def Fp(s1:Int)(s20:List X5)(s21 s22:Int)(w518:List X0):Option ((Int×List X0)⊕((List X0))):=
 AE (decide (s22<s21)) (
  AU s20 s22 fun x7=>
  AG (Rt s1 s20 s21 s22 x7.args (x7.args.length:Int) 0 w518) fun o13=>
  some (.inl ((AA .add .i64 s22 1),o13))) (
  some (.inr w518))
def UH(s1:Int)(s20:List X5)(s21 s22:Int)(w518:List X0):Option ((List X0)):=AR (fun s:Int×List X0=>Fp s1 s20 s21 s.1 s.2) (s22,w518)
def Xa(a0:AD)(a1:Int):Option (List X0):=
 AG (Qk) fun r1=>
 AG (Ns a1 (decide (a1=3)) a0) fun o6=>
 AG (UH a1 a0.symbols (a0.symbols.length:Int) 0 o6) fun o14=>
 AG (Qd o14) fun r15=>
 some r15.1
def G5(s0:List X0)(s7:Int)(w3:X0)(s8:Int):Option ((Int)⊕(Unit⊕Int)):=
 AE (decide (s8<s7)) (
  AU s0 s8 fun x1=>
  AE ((X0.eqb w3 x1)) (
   some (.inr (.inr s8))) (
   some (.inl (AA .add .i64 s8 1)))) (
  some (.inr (.inl ())))
def SP(s0:List X0)(s7:Int)(w3:X0)(s8:Int):Option (Unit⊕Int):=AR (fun s:Int=>G5 s0 s7 w3 s) s8
def Yf(a0:List X0)(a1:X0):Option (Int):=
 AG (SP a0 (a0.length:Int) a1 0) fun o2=>
 Cd o2 (fun o3=>
  some (-1)) (fun o4=>
  some o4)
def Zo(a0:List X0)(a1:X0):Option (Bool):=
 AG (Yf a0 a1) fun r1=>
 some (decide (0<=r1))
def Ql(n:Int):Option (List X0):=aLw 40 n
def U5(s0:List (List X0))(s3:Int)(s9:List (List X0))(s10 s11:Int)(s20:Bool):Option (Unit):=
 AE (s20) (
  none) (
  some ())
def U4(s0:List (List X0))(s3:Int)(s9:List (List X0))(s10 s11:Int):Option (Int):=
 AU s9 s11 fun x1=>
 AG (U5 s0 (AA .add .i64 s3 (x1.length:Int)) s9 s10 s11 (decide ((AA .add .i64 s3 (x1.length:Int))<0))) fun o2=>
 some (AA .add .i64 s3 (x1.length:Int))
def Fu(s0 s9:List (List X0))(s10 s3 s11:Int):Option ((Int×Int)⊕(Int)):=
 AE (decide (s11<s10)) (
  AG (U4 s0 s3 s9 s10 s11) fun o3=>
  some (.inl (o3,(AA .add .i64 s11 1)))) (
  some (.inr s3))
def OA(s0 s9:List (List X0))(s10 s3 s11:Int):Option (Int):=AR (fun s:Int×Int=>Fu s0 s9 s10 s.1 s.2) (s3,s11)
theorem Kt(s0 s9:List (List X0))(s10 s3 s11:Int):OA s0 s9 s10 s3 s11=CW (Fu s0 s9 s10 s3 s11) (fun s:Int×Int=>OA s0 s9 s10 s.1 s.2):=Ah _ _
def Fv(s25:List (List X0))(s26 s27:Int)(w6:List X0):Option ((Int×List X0)⊕((List X0))):=
 AE (decide (s27<s26)) (
  AU s25 s27 fun x6=>
  AV (fit w6.length x6.length 40) (
   some (.inl ((AA .add .i64 s27 1),w6++x6)))) (
  some (.inr w6))
def OC(s25:List (List X0))(s26 s27:Int)(w6:List X0):Option ((List X0)):=AR (fun s:Int×List X0=>Fv s25 s26 s.1 s.2) (s27,w6)
theorem Ku(s25:List (List X0))(s26 s27:Int)(w6:List X0):OC s25 s26 s27 w6=CW (Fv s25 s26 s27 w6) (fun s:Int×List X0=>OC s25 s26 s.1 s.2):=Ah _ _
def Xj(a0:List (List X0)):Option (List X0):=
 AG (OA a0 a0 (a0.length:Int) 0 0) fun o4=>
 AG (Ql o4) fun r5=>
 AG (OC a0 (a0.length:Int) 0 r5) fun o7=>
 some o7
def aG2(s0:Int)(s1:List X0)(s20:Bool)(w4 w6:X0):Option (X0):=
 AE (s20) (
  some (X0.mk w6.kind (AA .add .i64 w6.int 1) w6.str w6.bool)) (
  AV (w6.str.length+([97]:List UInt8).length<=9223372036854775807) (
   some (X0.mk w6.kind w6.int (w6.str++([97]:List UInt8)) w6.bool)))
def R8(s0:Int)(s1:List X0)(w4 w6:X0):Option (X0):=
 AG (aG2 s0 s1 (decide (s0=1)) w4 w6) fun o2=>
 some o2
def Fx(s0:Int)(s1:List X0)(w4 w6:X0):Option ((X0)⊕(X0)):=
 AG (Zo s1 w6) fun r1=>
 AE (r1) (
  AG (R8 s0 s1 w4 w6) fun o3=>
  some (.inl o3)) (
  some (.inr w6))
def L6(s0:Int)(s1:List X0)(w4 w6:X0):Option (X0):=AR (fun s:X0=>Fx s0 s1 w4 s) w6
theorem Py(s0:Int)(s1:List X0)(w4 w6:X0):L6 s0 s1 w4 w6=CW (Fx s0 s1 w4 w6) (fun s:X0=>L6 s0 s1 w4 s):=Ah _ _
def Xt(a0:Int)(a1:List X0):Option (X0×Bool):=
 AE (!decide (a0=1)) (
  AE (!decide (a0=2)) (
   some (X0.mk 0 0 ([]:List UInt8) false,false)) (
   AG (L6 a0 a1 (X0.mk 0 0 ([]:List UInt8) false) (X0.mk a0 0 ([]:List UInt8) false)) fun o4=>
   some (o4,true))) (
  AG (L6 a0 a1 (X0.mk 0 0 ([]:List UInt8) false) (X0.mk a0 0 ([]:List UInt8) false)) fun o5=>
  some (o5,true))
def OJ(s1:List X0)(s5:Int)(s28:List X2)(s29 s30:Int)(s45:Bool)(w6:List X0)(w8:X2):Option ((List X0)):=
 AE (s45) (
  AV (fit w6.length [w8.value].length 40) (
   some (w6++[w8.value]))) (
  some w6)
def R2(s1:List X0)(s5:Int)(s28:List X2)(s29 s30:Int)(w6:List X0):Option ((List X0)):=
 AU s28 s30 fun x4=>
 AE (decide (x4.value.kind=s5)) (
  AG (Zo w6 x4.value) fun r5=>
  AG (OJ s1 s5 s28 s29 s30 (!r5) w6 x4) fun o6=>
  some o6) (
  AG (OJ s1 s5 s28 s29 s30 false w6 x4) fun o7=>
  some o7)
def Fw(s1:List X0)(s5:Int)(s28:List X2)(s29 s30:Int)(w6:List X0):Option ((Int×List X0)⊕((List X0))):=
 AE (decide (s30<s29)) (
  AG (R2 s1 s5 s28 s29 s30 w6) fun o8=>
  some (.inl ((AA .add .i64 s30 1),o8))) (
  some (.inr w6))
def R3(s1:List X0)(s5:Int)(s28:List X2)(s29 s30:Int)(w6:List X0):Option ((List X0)):=AR (fun s:Int×List X0=>Fw s1 s5 s28 s29 s.1 s.2) (s30,w6)
def OK(s61:Bool)(w6:List X0)(w9:X0):Option ((List X0)):=
 AE (s61) (
  AV (fit w6.length [w9].length 40) (
   some (w6++[w9]))) (
  some w6)
def Xo(a0:Xq)(a1:List X0):Option (List X0):=
 AU a0.q.decls a0.d_ fun x1=>
 AU x1.types a0.at_ fun x2=>
 AG (Xa a0.q x2) fun r3=>
 AG (R3 a1 x2 a0.b (a0.b.length:Int) 0 r3) fun o9=>
 AG (Xj [o9,a1]) fun r10=>
 AG (Xt x2 r10) fun r11=>
 AG (OK r11.2 o9 r11.1) fun o12=>
 some o12
def G6(s1:Int)(s8:List X2)(s9:Int)(w4:X0)(s10:Int):Option ((Int)⊕(Unit⊕X0)):=
 AE (decide (s10<s9)) (
  AU s8 s10 fun x1=>
  AE (decide (x1.var=s1)) (
   some (.inr (.inr x1.value))) (
   some (.inl (AA .add .i64 s10 1)))) (
  some (.inr (.inl ())))
def Wv(s1:Int)(s8:List X2)(s9:Int)(w4:X0)(s10:Int):Option (Unit⊕X0):=AR (fun s:Int=>G6 s1 s8 s9 w4 s) s10
def Yg(a0:List X2)(a1:Int):Option (X0×Bool):=
 AG (Wv a1 a0 (a0.length:Int) (X0.mk 0 0 ([]:List UInt8) false) 0) fun o2=>
 Cd o2 (fun o3=>
  some (X0.mk 0 0 ([]:List UInt8) false,false)) (fun o4=>
  some (o4,true))
def Zq(a0:Xq)(a1:Bz)(a2:X0):Option (Bool):=
 AE (decide (a1.kind=1)) (
  some (X0.eqb a1.value a2)) (
  AE (decide (a1.kind=2)) (
   AG (Yg a0.b a1.n) fun r1=>
   AE (r1.2) (
    some (X0.eqb r1.1 a2)) (
    some false)) (
   some true))
def ON(s6 s7:Int)(s11:List X5)(s12 s13:Int)(s34:Bool)(w2:Xq)(w3:X0):Option (Int):=
 AE (s34) (
  AV (0<=(IntKind.wrap .u64 s7)) (
   some (AA .or .u64 s6 (AA .shl .u64 1 (IntKind.wrap .u64 s7))))) (
  some s6)
def SA(s6:Int)(s11:List X5)(s12 s13:Int)(w2:Xq)(w3:X0):Option (Int):=
 AU s11 s13 fun x1=>
 AE (decide (x1.event=w2.d_)) (
  AU x1.args w2.at_ fun x2=>
  AG (Zq w2 x2 w3) fun r3=>
  AG (ON s6 s13 s11 s12 s13 r3 w2 w3) fun o4=>
  some o4) (
  AG (ON s6 s13 s11 s12 s13 false w2 w3) fun o5=>
  some o5)
def Fy(s11:List X5)(s12:Int)(w2:Xq)(w3:X0)(s6 s13:Int):Option ((Int×Int)⊕(Int)):=
 AE (decide (s13<s12)) (
  AG (SA s6 s11 s12 s13 w2 w3) fun o6=>
  some (.inl (o6,(AA .add .i64 s13 1)))) (
  some (.inr s6))
def Vd(s11:List X5)(s12:Int)(w2:Xq)(w3:X0)(s6 s13:Int):Option (Int):=AR (fun s:Int×Int=>Fy s11 s12 w2 w3 s.1 s.2) (s6,s13)
def Xu(a0:Xq)(a1:X0):Option (Int):=
 AG (Vd a0.q.symbols (a0.q.symbols.length:Int) a0 a1 0 0) fun o7=>
 some o7
def Ft(s8:Int)(s12:List X0)(s13 s14:Int)(w0:List (Int×Bool))(w3:Xq)(k:Int)(v:Bool)(w5:List (Int×Bool)):Option ((List (Int×Bool))):=
 some (GC (AA .and .u64 k s8) true w5)
def IL(s8:Int)(s12:List X0)(s13 s14:Int)(w0:List (Int×Bool))(w3:Xq)(s:(List (Int×Bool))):(List (Int×Bool)):=(fun s:(List (Int×Bool))=>(aL6 s:(List (Int×Bool)))) s
def U1(s8:Int)(s12:List X0)(s13 s14:Int)(w0:List (Int×Bool))(w3:Xq)(w5:List (Int×Bool)):Option ((List (Int×Bool))):=Fe (IL s8 s12 s13 s14 w0 w3) w0 (fun(x:Int×Bool) (s:(List (Int×Bool)))=>Ft s8 s12 s13 s14 w0 w3 x.1 x.2 s) w5
def Ry(s8:Int)(s12:List X0)(s13 s14:Int)(w0:List (Int×Bool))(w3:Xq)(w5:List (Int×Bool)):Option ((List (Int×Bool))):=
 AG (U1 s8 s12 s13 s14 w0 w3 w5) fun o4=>
 some o4
def Fs(s12:List X0)(s13:Int)(w0:List (Int×Bool))(w3:Xq)(s14:Int)(w5:List (Int×Bool)):Option ((Int×(List (Int×Bool)))⊕((List (Int×Bool)))):=
 AE (decide (s14<s13)) (
  AU s12 s14 fun x2=>
  AG (Xu w3 x2) fun r3=>
  AG (Ry r3 s12 s13 s14 w0 w3 w5) fun o5=>
  some (.inl ((AA .add .i64 s14 1),o5))) (
  some (.inr w5))
def Uy(s12:List X0)(s13:Int)(w0:List (Int×Bool))(w3:Xq)(s14:Int)(w5:List (Int×Bool)):Option ((List (Int×Bool))):=AR (fun s:Int×(List (Int×Bool))=>Fs s12 s13 w0 w3 s.1 s.2) (s14,w5)
def Xi(a1:Xq)(w0:List (Int×Bool)):Option ((List (Int×Bool))):=
 AG (Xo a1 ([]:List X0)) fun r1=>
 AG (Uy r1 (r1.length:Int) w0 a1 0 ([]:List (Int×Bool))) fun o6=>
 some o6
def XS(s0 s2:Int)(s4:Bool):Option ((Int×Int)):=
 AE (s4) (
  some ((AA .shr .u64 s0 32),32)) (
  some (s0,s2))
def XT(s0 s2:Int)(s8:Bool):Option ((Int×Int)):=
 AE (s8) (
  some ((AA .shr .u64 s0 16),(AA .add .i64 s2 16))) (
  some (s0,s2))
def XU(s0 s2:Int)(s14:Bool):Option ((Int×Int)):=
 AE (s14) (
  some ((AA .shr .u64 s0 8),(AA .add .i64 s2 8))) (
  some (s0,s2))
def Yy(a0:Int):Option (Int):=
 AG (XS a0 0 (decide (4294967296<=a0))) fun o1=>
 AG (XT o1.1 o1.2 (decide (65536<=o1.1))) fun o2=>
 AG (XU o2.1 o2.2 (decide (256<=o2.1))) fun o3=>
 AU ([0,1,2,2,3,3,3,3,4,4,4,4,4,4,4,4,5,5,5,5,5,5,5,5,5,5,5,5,5,5,5,5,6,6,6,6,6,6,6,6,6,6,6,6,6,6,6,6,6,6,6,6,6,6,6,6,6,6,6,6,6,6,6,6,7,7,7,7,7,7,7,7,7,7,7,7,7,7,7,7,7,7,7,7,7,7,7,7,7,7,7,7,7,7,7,7,7,7,7,7,7,7,7,7,7,7,7,7,7,7,7,7,7,7,7,7,7,7,7,7,7,7,7,7,7,7,7,7,8,8,8,8,8,8,8,8,8,8,8,8,8,8,8,8,8,8,8,8,8,8,8,8,8,8,8,8,8,8,8,8,8,8,8,8,8,8,8,8,8,8,8,8,8,8,8,8,8,8,8,8,8,8,8,8,8,8,8,8,8,8,8,8,8,8,8,8,8,8,8,8,8,8,8,8,8,8,8,8,8,8,8,8,8,8,8,8,8,8,8,8,8,8,8,8,8,8,8,8,8,8,8,8,8,8,8,8,8,8,8,8,8,8,8,8,8,8,8,8,8,8,8,8,8,8,8,8]:List UInt8) ((u8w o3.1).toNat:Int) fun x4=>
 some (AA .add .i64 o3.2 (x4.toNat:Int))
def Q8(a0:Int):Option (Int):=
 AG (Yy a0) fun r1=>
 some r1
def Q9(a0:Int):Option (Bool):=
 some (!decide (a0=a0))
def Yh(a0 a1:Int):Option (Bool):=
 AG (Q9 a0) fun r1=>
 AE (r1) (
  AG (Q9 a1) fun r2=>
  AE (!r2) (
   some true) (
   some (decide (a0<a1)))) (
  some (decide (a0<a1)))
def Ey(s1 s2:Int)(s6 s7:Int)(w0:List Int):Option ((Int×List Int)⊕((List Int))):=
 AE (decide (s1<s7)) (
  AV (0<=s7/\s7+1<=(w0.length:Int)) (
   AU w0 s7 fun x1=>
   AV (0<=(AA .sub .i64 s7 1)/\(AA .sub .i64 s7 1)+1<=(w0.length:Int)) (
    AU w0 (AA .sub .i64 s7 1) fun x2=>
    AG (Yh x1 x2) fun r3=>
    AE (r3) (
     AV (0<=(AA .sub .i64 s7 1)/\(AA .sub .i64 s7 1)+1<=(w0.length:Int)) (
      AU w0 (AA .sub .i64 s7 1) fun x4=>
      AV (0<=s7/\s7+1<=(w0.length:Int)) (
       AU w0 s7 fun x5=>
       AV (0<=s7/\s7+1<=(w0.length:Int)) (
        AV (0<=s7/\s7+1<=(w0.length:Int)) (
         AV (0<=(AA .sub .i64 s7 1)/\(AA .sub .i64 s7 1)+1<=((w0.set s7.toNat x4).length:Int)) (
          AV (0<=(AA .sub .i64 s7 1)/\(AA .sub .i64 s7 1)+1<=((w0.set s7.toNat x4).length:Int)) (
           some (.inl ((AA .sub .i64 s7 1),(w0.set s7.toNat x4).set (AA .sub .i64 s7 1).toNat x5))))))))) (
     some (.inr w0))))) (
  some (.inr w0))
def SL(s1 s2:Int)(s6 s7:Int)(w0:List Int):Option ((List Int)):=AR (fun s:Int×List Int=>Ey s1 s2 s6 s.1 s.2) (s7,w0)
theorem QB(s1 s2:Int)(s6 s7:Int)(w0:List Int):SL s1 s2 s6 s7 w0=CW (Ey s1 s2 s6 s7 w0) (fun s:Int×List Int=>SL s1 s2 s6 s.1 s.2):=Ah _ _
def Gz(s1 s2 s6:Int)(w0:List Int):Option ((Int×List Int)⊕((List Int))):=
 AE (decide (s6<s2)) (
  AG (SL s1 s2 s6 s6 w0) fun o6=>
  some (.inl ((AA .add .i64 s6 1),o6))) (
  some (.inr w0))
def SK(s1 s2 s6:Int)(w0:List Int):Option ((List Int)):=AR (fun s:Int×List Int=>Gz s1 s2 s.1 s.2) (s6,w0)
theorem QA(s1 s2 s6:Int)(w0:List Int):SK s1 s2 s6 w0=CW (Gz s1 s2 s6 w0) (fun s:Int×List Int=>SK s1 s2 s.1 s.2):=Ah _ _
def Y2(a1 a2:Int)(w0:List Int):Option (List Int):=
 AG (SK a1 a2 (AA .add .i64 a1 1) w0) fun o7=>
 some o7
def Ky(s2 s3:Int)(s8 s9:Int)(s36:Bool)(w0:List Int):Option (Int):=
 AE (s36) (
  some (AA .add .i64 s9 1)) (
  some s9)
def Jv(s2 s3 s8:Int)(w0:List Int):Option ((Int×List Int)⊕(Unit⊕Unit)):=
 AE (decide (s2<=(AA .add .i64 (AA .mul .i64 2 s8) 1))) (
  some (.inr (.inl ()))) (
  AE (decide ((AA .add .i64 (AA .add .i64 (AA .mul .i64 2 s8) 1) 1)<s2)) (
   AV (0<=(AA .add .i64 s3 (AA .add .i64 (AA .mul .i64 2 s8) 1))/\(AA .add .i64 s3 (AA .add .i64 (AA .mul .i64 2 s8) 1))+1<=(w0.length:Int)) (
    AU w0 (AA .add .i64 s3 (AA .add .i64 (AA .mul .i64 2 s8) 1)) fun x1=>
    AV (0<=(AA .add .i64 (AA .add .i64 s3 (AA .add .i64 (AA .mul .i64 2 s8) 1)) 1)/\(AA .add .i64 (AA .add .i64 s3 (AA .add .i64 (AA .mul .i64 2 s8) 1)) 1)+1<=(w0.length:Int)) (
     AU w0 (AA .add .i64 (AA .add .i64 s3 (AA .add .i64 (AA .mul .i64 2 s8) 1)) 1) fun x2=>
     AG (Yh x1 x2) fun r3=>
     AG (Ky s2 s3 s8 (AA .add .i64 (AA .mul .i64 2 s8) 1) r3 w0) fun o4=>
     AV (0<=(AA .add .i64 s3 s8)/\(AA .add .i64 s3 s8)+1<=(w0.length:Int)) (
      AU w0 (AA .add .i64 s3 s8) fun x5=>
      AV (0<=(AA .add .i64 s3 o4)/\(AA .add .i64 s3 o4)+1<=(w0.length:Int)) (
       AU w0 (AA .add .i64 s3 o4) fun x6=>
       AG (Yh x5 x6) fun r7=>
       AE (!r7) (
        some (.inr (.inr ()))) (
        AV (0<=(AA .add .i64 s3 o4)/\(AA .add .i64 s3 o4)+1<=(w0.length:Int)) (
         AU w0 (AA .add .i64 s3 o4) fun x8=>
         AV (0<=(AA .add .i64 s3 s8)/\(AA .add .i64 s3 s8)+1<=(w0.length:Int)) (
          AU w0 (AA .add .i64 s3 s8) fun x9=>
          AV (0<=(AA .add .i64 s3 s8)/\(AA .add .i64 s3 s8)+1<=(w0.length:Int)) (
           AV (0<=(AA .add .i64 s3 s8)/\(AA .add .i64 s3 s8)+1<=(w0.length:Int)) (
            AV (0<=(AA .add .i64 s3 o4)/\(AA .add .i64 s3 o4)+1<=((w0.set (AA .add .i64 s3 s8).toNat x8).length:Int)) (
             AV (0<=(AA .add .i64 s3 o4)/\(AA .add .i64 s3 o4)+1<=((w0.set (AA .add .i64 s3 s8).toNat x8).length:Int)) (
              some (.inl (o4,(w0.set (AA .add .i64 s3 s8).toNat x8).set (AA .add .i64 s3 o4).toNat x9)))))))))))))) (
   AG (Ky s2 s3 s8 (AA .add .i64 (AA .mul .i64 2 s8) 1) false w0) fun o10=>
   AV (0<=(AA .add .i64 s3 s8)/\(AA .add .i64 s3 s8)+1<=(w0.length:Int)) (
    AU w0 (AA .add .i64 s3 s8) fun x11=>
    AV (0<=(AA .add .i64 s3 o10)/\(AA .add .i64 s3 o10)+1<=(w0.length:Int)) (
     AU w0 (AA .add .i64 s3 o10) fun x12=>
     AG (Yh x11 x12) fun r13=>
     AE (!r13) (
      some (.inr (.inr ()))) (
      AV (0<=(AA .add .i64 s3 o10)/\(AA .add .i64 s3 o10)+1<=(w0.length:Int)) (
       AU w0 (AA .add .i64 s3 o10) fun x14=>
       AV (0<=(AA .add .i64 s3 s8)/\(AA .add .i64 s3 s8)+1<=(w0.length:Int)) (
        AU w0 (AA .add .i64 s3 s8) fun x15=>
        AV (0<=(AA .add .i64 s3 s8)/\(AA .add .i64 s3 s8)+1<=(w0.length:Int)) (
         AV (0<=(AA .add .i64 s3 s8)/\(AA .add .i64 s3 s8)+1<=(w0.length:Int)) (
          AV (0<=(AA .add .i64 s3 o10)/\(AA .add .i64 s3 o10)+1<=((w0.set (AA .add .i64 s3 s8).toNat x14).length:Int)) (
           AV (0<=(AA .add .i64 s3 o10)/\(AA .add .i64 s3 o10)+1<=((w0.set (AA .add .i64 s3 s8).toNat x14).length:Int)) (
            some (.inl (o10,(w0.set (AA .add .i64 s3 s8).toNat x14).set (AA .add .i64 s3 o10).toNat x15)))))))))))))
def EY(s2 s3 s8:Int)(w0:List Int):Option ((Int×List Int)⊕((List Int)⊕(List Int))):=
 AG (Jv s2 s3 s8 w0) fun o16=>
 Cd o16 (fun o17=>
  some (.inl (o17.1,o17.2))) (fun o18=>
  Cd o18 (fun o19=>
   some (.inr (.inl w0))) (fun o20=>
   some (.inr (.inr w0))))
def SC(s2 s3 s8:Int)(w0:List Int):Option ((List Int)⊕(List Int)):=AR (fun s:Int×List Int=>EY s2 s3 s.1 s.2) (s8,w0)
theorem P3(s2 s3 s8:Int)(w0:List Int):SC s2 s3 s8 w0=CW (EY s2 s3 s8 w0) (fun s:Int×List Int=>SC s2 s3 s.1 s.2):=Ah _ _
def Xw(a1 a2 a3:Int)(w0:List Int):Option (List Int):=
 AG (SC a2 a3 a1 w0) fun o21=>
 Cd o21 (fun o22=>
  some o22) (fun o23=>
  some o23)
def G1(s6 s7:Int)(s8 s9:Int)(w0:List Int):Option ((Int×List Int)⊕((List Int))):=
 AE (decide (0<=s9)) (
  AG (Xw s9 s8 s6 w0) fun r1=>
  some (.inl ((AA .sub .i64 s9 1),r1))) (
  some (.inr w0))
def SM(s6 s7:Int)(s8 s9:Int)(w0:List Int):Option ((List Int)):=AR (fun s:Int×List Int=>G1 s6 s7 s8 s.1 s.2) (s9,w0)
theorem QD(s6 s7:Int)(s8 s9:Int)(w0:List Int):SM s6 s7 s8 s9 w0=CW (G1 s6 s7 s8 s9 w0) (fun s:Int×List Int=>SM s6 s7 s8 s.1 s.2):=Ah _ _
def G2(s6 s7 s10:Int)(w0:List Int):Option ((Int×List Int)⊕((List Int))):=
 AE (decide (0<=s10)) (
  AV (0<=(AA .add .i64 s6 s10)/\(AA .add .i64 s6 s10)+1<=(w0.length:Int)) (
   AU w0 (AA .add .i64 s6 s10) fun x3=>
   AV (0<=s6/\s6+1<=(w0.length:Int)) (
    AU w0 s6 fun x4=>
    AV (0<=s6/\s6+1<=(w0.length:Int)) (
     AV (0<=s6/\s6+1<=(w0.length:Int)) (
      AV (0<=(AA .add .i64 s6 s10)/\(AA .add .i64 s6 s10)+1<=((w0.set s6.toNat x3).length:Int)) (
       AV (0<=(AA .add .i64 s6 s10)/\(AA .add .i64 s6 s10)+1<=((w0.set s6.toNat x3).length:Int)) (
        AG (Xw s7 s10 s6 ((w0.set s6.toNat x3).set (AA .add .i64 s6 s10).toNat x4)) fun r5=>
        some (.inl ((AA .sub .i64 s10 1),r5))))))))) (
  some (.inr w0))
def SN(s6 s7 s10:Int)(w0:List Int):Option ((List Int)):=AR (fun s:Int×List Int=>G2 s6 s7 s.1 s.2) (s10,w0)
theorem QE(s6 s7 s10:Int)(w0:List Int):SN s6 s7 s10 w0=CW (G2 s6 s7 s10 w0) (fun s:Int×List Int=>SN s6 s7 s.1 s.2):=Ah _ _
def Y4(a1 a2:Int)(w0:List Int):Option (List Int):=
 AG (SM a1 0 (AA .sub .i64 a2 a1) (AA .quo .i64 (AA .sub .i64 (AA .sub .i64 a2 a1) 1) 2) w0) fun o2=>
 AG (SN a1 0 (AA .sub .i64 (AA .sub .i64 a2 a1) 1) o2) fun o6=>
 some o6
def Qe(a0:Int):Option (Int):=
 AG (Q8 (IntKind.wrap .u64 a0)) fun r1=>
 AV (0<=r1) (
  some (AA .shl .u64 1 r1))
def Qf(w0:Int):Option (Int×Int):=
 some ((AA .xor .u64 (AA .xor .u64 (AA .xor .u64 w0 (AA .shl .u64 w0 13)) (AA .shr .u64 (AA .xor .u64 w0 (AA .shl .u64 w0 13)) 7)) (AA .shl .u64 (AA .xor .u64 (AA .xor .u64 w0 (AA .shl .u64 w0 13)) (AA .shr .u64 (AA .xor .u64 w0 (AA .shl .u64 w0 13)) 7)) 17)),(AA .xor .u64 (AA .xor .u64 (AA .xor .u64 w0 (AA .shl .u64 w0 13)) (AA .shr .u64 (AA .xor .u64 w0 (AA .shl .u64 w0 13)) 7)) (AA .shl .u64 (AA .xor .u64 (AA .xor .u64 w0 (AA .shl .u64 w0 13)) (AA .shr .u64 (AA .xor .u64 w0 (AA .shl .u64 w0 13)) 7)) 17)))
def OQ(s1 s6:Int)(s8 s9 s10:Int)(s43:Bool)(w0:List Int)(w7:Int):Option (Int):=
 AE (s43) (
  some (AA .sub .i64 s10 s6)) (
  some s10)
def SH(s1 s6:Int)(s8 s9:Int)(w0:List Int)(w7:Int):Option ((List Int×Int)):=
 AG (Qf w7) fun r2=>
 AG (OQ s1 s6 s8 s9 (IntKind.wrap .i64 (AA .and .u64 r2.1 (AA .sub .u64 s8 1))) (decide (s6<=(IntKind.wrap .i64 (AA .and .u64 r2.1 (AA .sub .u64 s8 1))))) w0 r2.2) fun o3=>
 AV (0<=(AA .add .i64 s1 o3)/\(AA .add .i64 s1 o3)+1<=(w0.length:Int)) (
  AU w0 (AA .add .i64 s1 o3) fun x4=>
  AV (0<=s9/\s9+1<=(w0.length:Int)) (
   AU w0 s9 fun x5=>
   AV (0<=s9/\s9+1<=(w0.length:Int)) (
    AV (0<=s9/\s9+1<=(w0.length:Int)) (
     AV (0<=(AA .add .i64 s1 o3)/\(AA .add .i64 s1 o3)+1<=((w0.set s9.toNat x4).length:Int)) (
      AV (0<=(AA .add .i64 s1 o3)/\(AA .add .i64 s1 o3)+1<=((w0.set s9.toNat x4).length:Int)) (
       some ((w0.set s9.toNat x4).set (AA .add .i64 s1 o3).toNat x5,r2.2)))))))
def Gy(s1 s6:Int)(s8 s9:Int)(w0:List Int)(w7:Int):Option ((Int×List Int×Int)⊕((List Int))):=
 AE (decide (s9<=(AA .add .i64 (AA .add .i64 s1 (AA .mul .i64 (AA .quo .i64 s6 4) 2)) 1))) (
  AG (SH s1 s6 s8 s9 w0 w7) fun o6=>
  some (.inl ((AA .add .i64 s9 1),o6.1,o6.2))) (
  some (.inr w0))
def SI(s1 s6:Int)(s8 s9:Int)(w0:List Int)(w7:Int):Option ((List Int)):=AR (fun s:Int×List Int×Int=>Gy s1 s6 s8 s.1 s.2.1 s.2.2) (s9,w0,w7)
theorem P8(s1 s6:Int)(s8 s9:Int)(w0:List Int)(w7:Int):SI s1 s6 s8 s9 w0 w7=CW (Gy s1 s6 s8 s9 w0 w7) (fun s:Int×List Int×Int=>SI s1 s6 s8 s.1 s.2.1 s.2.2):=Ah _ _
def SG(s1 s6:Int)(s15:Bool)(w0:List Int):Option ((List Int)):=
 AE (s15) (
  AG (Qe s6) fun r1=>
  AG (SI s1 s6 r1 (AA .sub .i64 (AA .add .i64 s1 (AA .mul .i64 (AA .quo .i64 s6 4) 2)) 1) w0 (IntKind.wrap .u64 s6)) fun o7=>
  some o7) (
  some w0)
def Y0(a1 a2:Int)(w0:List Int):Option (List Int):=
 AG (SG a1 (AA .sub .i64 a2 a1) (decide (8<=(AA .sub .i64 a2 a1))) w0) fun o8=>
 some o8
def Zt(a0:List Int)(a1 a2 w0:Int):Option (Int×Int×Int):=
 AU a0 a2 fun x1=>
 AU a0 a1 fun x2=>
 AG (Yh x1 x2) fun r3=>
 AE (r3) (
  some (a2,a1,(AA .add .i64 w0 1))) (
  some (a1,a2,w0))
def Q4(a0:List Int)(a1 a2:Int)(a3 w0:Int):Option (Int×Int):=
 AG (Zt a0 a1 a2 w0) fun r1=>
 AG (Zt a0 r1.2.1 a3 r1.2.2) fun r2=>
 AG (Zt a0 r1.1 r2.1 r2.2.2) fun r3=>
 some (r3.2.1,r3.2.2)
def Zu(a0:List Int)(a1 w0:Int):Option (Int×Int):=
 AG (Q4 a0 (AA .sub .i64 a1 1) a1 (AA .add .i64 a1 1) w0) fun r1=>
 some (r1.1,r1.2)
def Of(s0:List Int)(s10 s11 s12:Int)(s34:Bool)(w9:Int):Option ((Int×Int×Int×Int)):=
 AE (s34) (
  AG (Zu s0 s10 w9) fun r1=>
  AG (Zu s0 s11 r1.2) fun r2=>
  AG (Zu s0 s12 r2.2) fun r3=>
  some (r1.1,r2.1,r3.1,r3.2)) (
  some (s10,s11,s12,w9))
def ST(s0:List Int)(s8 s10:Int)(s11 s12:Int)(s32:Bool)(w9:Int):Option ((Int×Int)):=
 AE (s32) (
  AG (Of s0 s10 s11 s12 (decide (50<=s8)) w9) fun o4=>
  AG (Q4 s0 o4.1 o4.2.1 o4.2.2.1 o4.2.2.2) fun r5=>
  some (r5.1,r5.2)) (
  some (s11,w9))
def Z1(a0:List Int)(a1 a2:Int):Option (Int×Int):=
 AG (ST a0 (AA .sub .i64 a2 a1) (AA .add .i64 a1 (AA .mul .i64 (AA .quo .i64 (AA .sub .i64 a2 a1) 4) 1)) (AA .add .i64 a1 (AA .mul .i64 (AA .quo .i64 (AA .sub .i64 a2 a1) 4) 2)) (AA .add .i64 a1 (AA .mul .i64 (AA .quo .i64 (AA .sub .i64 a2 a1) 4) 3)) (decide (8<=(AA .sub .i64 a2 a1))) 0) fun o6=>
 AE (decide (o6.2=0)) (
  some (o6.1,1)) (
  AE (decide (o6.2=12)) (
   some (o6.1,2)) (
   some (o6.1,0)))
def Ip(s6 s7:Int)(w0:List Int):Option ((Int×Int×List Int)⊕((List Int))):=
 AE (decide (s6<s7)) (
  AV (0<=s7/\s7+1<=(w0.length:Int)) (
   AU w0 s7 fun x1=>
   AV (0<=s6/\s6+1<=(w0.length:Int)) (
    AU w0 s6 fun x2=>
    AV (0<=s6/\s6+1<=(w0.length:Int)) (
     AV (0<=s6/\s6+1<=(w0.length:Int)) (
      AV (0<=s7/\s7+1<=((w0.set s6.toNat x1).length:Int)) (
       AV (0<=s7/\s7+1<=((w0.set s6.toNat x1).length:Int)) (
        some (.inl ((AA .add .i64 s6 1),(AA .sub .i64 s7 1),(w0.set s6.toNat x1).set s7.toNat x2))))))))) (
  some (.inr w0))
def SS(s6 s7:Int)(w0:List Int):Option ((List Int)):=AR (fun s:Int×Int×List Int=>Ip s.1 s.2.1 s.2.2) (s6,s7,w0)
theorem aKe(s6 s7:Int)(w0:List Int):SS s6 s7 w0=CW (Ip s6 s7 w0) (fun s:Int×Int×List Int=>SS s.1 s.2.1 s.2.2):=Ah _ _
def Yv(a1 a2:Int)(w0:List Int):Option (List Int):=
 AG (SS a1 (AA .sub .i64 a2 1) w0) fun o3=>
 some o3
def Gk(s1 s2 s8:Int)(w0:List Int)(s7:Int):Option ((Int)⊕(Int)):=
 AE (decide (s7<s2)) (
  AV (0<=s7/\s7+1<=(w0.length:Int)) (
   AU w0 s7 fun x1=>
   AV (0<=(AA .sub .i64 s7 1)/\(AA .sub .i64 s7 1)+1<=(w0.length:Int)) (
    AU w0 (AA .sub .i64 s7 1) fun x2=>
    AG (Yh x1 x2) fun r3=>
    AE (!r3) (
     some (.inl (AA .add .i64 s7 1))) (
     some (.inr s7))))) (
  some (.inr s7))
def Rl(s1 s2 s8:Int)(w0:List Int)(s7:Int):Option (Int):=AR (fun s:Int=>Gk s1 s2 s8 w0 s) s7
theorem Pi(s1 s2 s8:Int)(w0:List Int)(s7:Int):Rl s1 s2 s8 w0 s7=CW (Gk s1 s2 s8 w0 s7) (fun s:Int=>Rl s1 s2 s8 w0 s):=Ah _ _
def Gm(s1 s2:Int)(s7 s8 s9:Int)(w0:List Int):Option ((Int×List Int)⊕((List Int))):=
 AE (decide (1<=s9)) (
  AV (0<=s9/\s9+1<=(w0.length:Int)) (
   AU w0 s9 fun x7=>
   AV (0<=(AA .sub .i64 s9 1)/\(AA .sub .i64 s9 1)+1<=(w0.length:Int)) (
    AU w0 (AA .sub .i64 s9 1) fun x8=>
    AG (Yh x7 x8) fun r9=>
    AE (!r9) (
     some (.inr w0)) (
     AV (0<=(AA .sub .i64 s9 1)/\(AA .sub .i64 s9 1)+1<=(w0.length:Int)) (
      AU w0 (AA .sub .i64 s9 1) fun x10=>
      AV (0<=s9/\s9+1<=(w0.length:Int)) (
       AU w0 s9 fun x11=>
       AV (0<=s9/\s9+1<=(w0.length:Int)) (
        AV (0<=s9/\s9+1<=(w0.length:Int)) (
         AV (0<=(AA .sub .i64 s9 1)/\(AA .sub .i64 s9 1)+1<=((w0.set s9.toNat x10).length:Int)) (
          AV (0<=(AA .sub .i64 s9 1)/\(AA .sub .i64 s9 1)+1<=((w0.set s9.toNat x10).length:Int)) (
           some (.inl ((AA .sub .i64 s9 1),(w0.set s9.toNat x10).set (AA .sub .i64 s9 1).toNat x11)))))))))))) (
  some (.inr w0))
def Rm(s1 s2:Int)(s7 s8 s9:Int)(w0:List Int):Option ((List Int)):=AR (fun s:Int×List Int=>Gm s1 s2 s7 s8 s.1 s.2) (s9,w0)
theorem Pj(s1 s2:Int)(s7 s8 s9:Int)(w0:List Int):Rm s1 s2 s7 s8 s9 w0=CW (Gm s1 s2 s7 s8 s9 w0) (fun s:Int×List Int=>Rm s1 s2 s7 s8 s.1 s.2):=Ah _ _
def Nm(s1 s2:Int)(s7 s8:Int)(s61:Bool)(w0:List Int):Option ((List Int)):=
 AE (s61) (
  AG (Rm s1 s2 s7 s8 (AA .sub .i64 s7 1) w0) fun o12=>
  some o12) (
  some w0)
def Gn(s1 s2:Int)(s7 s8 s10:Int)(w0:List Int):Option ((Int×List Int)⊕((List Int))):=
 AE (decide (s10<s2)) (
  AV (0<=s10/\s10+1<=(w0.length:Int)) (
   AU w0 s10 fun x14=>
   AV (0<=(AA .sub .i64 s10 1)/\(AA .sub .i64 s10 1)+1<=(w0.length:Int)) (
    AU w0 (AA .sub .i64 s10 1) fun x15=>
    AG (Yh x14 x15) fun r16=>
    AE (!r16) (
     some (.inr w0)) (
     AV (0<=(AA .sub .i64 s10 1)/\(AA .sub .i64 s10 1)+1<=(w0.length:Int)) (
      AU w0 (AA .sub .i64 s10 1) fun x17=>
      AV (0<=s10/\s10+1<=(w0.length:Int)) (
       AU w0 s10 fun x18=>
       AV (0<=s10/\s10+1<=(w0.length:Int)) (
        AV (0<=s10/\s10+1<=(w0.length:Int)) (
         AV (0<=(AA .sub .i64 s10 1)/\(AA .sub .i64 s10 1)+1<=((w0.set s10.toNat x17).length:Int)) (
          AV (0<=(AA .sub .i64 s10 1)/\(AA .sub .i64 s10 1)+1<=((w0.set s10.toNat x17).length:Int)) (
           some (.inl ((AA .add .i64 s10 1),(w0.set s10.toNat x17).set (AA .sub .i64 s10 1).toNat x18)))))))))))) (
  some (.inr w0))
def Rn(s1 s2:Int)(s7 s8 s10:Int)(w0:List Int):Option ((List Int)):=AR (fun s:Int×List Int=>Gn s1 s2 s7 s8 s.1 s.2) (s10,w0)
theorem Pk(s1 s2:Int)(s7 s8 s10:Int)(w0:List Int):Rn s1 s2 s7 s8 s10 w0=CW (Gn s1 s2 s7 s8 s10 w0) (fun s:Int×List Int=>Rn s1 s2 s7 s8 s.1 s.2):=Ah _ _
def Nn(s1 s2:Int)(s7 s8:Int)(s98:Bool)(w0:List Int):Option ((List Int)):=
 AE (s98) (
  AG (Rn s1 s2 s7 s8 (AA .add .i64 s7 1) w0) fun o19=>
  some o19) (
  some w0)
def Rk(s1 s2:Int)(s7 s8:Int)(w0:List Int):Option ((Int×List Int)⊕Bool):=
 AG (Rl s1 s2 s8 w0 s7) fun o4=>
 AE (decide (o4=s2)) (
  some (.inr true)) (
  AE (decide ((AA .sub .i64 s2 s1)<50)) (
   some (.inr false)) (
   AV (0<=(AA .sub .i64 o4 1)/\(AA .sub .i64 o4 1)+1<=(w0.length:Int)) (
    AU w0 (AA .sub .i64 o4 1) fun x5=>
    AV (0<=o4/\o4+1<=(w0.length:Int)) (
     AU w0 o4 fun x6=>
     AV (0<=o4/\o4+1<=(w0.length:Int)) (
      AV (0<=o4/\o4+1<=(w0.length:Int)) (
       AV (0<=(AA .sub .i64 o4 1)/\(AA .sub .i64 o4 1)+1<=((w0.set o4.toNat x5).length:Int)) (
        AV (0<=(AA .sub .i64 o4 1)/\(AA .sub .i64 o4 1)+1<=((w0.set o4.toNat x5).length:Int)) (
         AG (Nm s1 s2 o4 s8 (decide (2<=(AA .sub .i64 o4 s1))) ((w0.set o4.toNat x5).set (AA .sub .i64 o4 1).toNat x6)) fun o13=>
         AG (Nn s1 s2 o4 s8 (decide (2<=(AA .sub .i64 s2 o4))) o13) fun o20=>
         some (.inl (o4,o20))))))))))
def Gj(s1 s2:Int)(s7 s8:Int)(w0:List Int):Option ((Int×Int×List Int)⊕((List Int)⊕(Bool×List Int))):=
 AE (decide (s8<5)) (
  AG (Rk s1 s2 s7 s8 w0) fun o21=>
  Cd o21 (fun o22=>
   some (.inl (o22.1,(AA .add .i64 s8 1),o22.2))) (fun o23=>
   some (.inr (.inr (o23,w0))))) (
  some (.inr (.inl w0)))
def No(s1 s2:Int)(s7 s8:Int)(w0:List Int):Option ((List Int)⊕(Bool×List Int)):=AR (fun s:Int×Int×List Int=>Gj s1 s2 s.1 s.2.1 s.2.2) (s7,s8,w0)
theorem Ph(s1 s2:Int)(s7 s8:Int)(w0:List Int):No s1 s2 s7 s8 w0=CW (Gj s1 s2 s7 s8 w0) (fun s:Int×Int×List Int=>No s1 s2 s.1 s.2.1 s.2.2):=Ah _ _
def X8(a1 a2:Int)(w0:List Int):Option (Bool×List Int):=
 AG (No a1 a2 (AA .add .i64 a1 1) 0 w0) fun o24=>
 Cd o24 (fun o25=>
  some (false,o25)) (fun o26=>
  some (o26.1,o26.2))
def Gv(s1 s10:Int)(w0:List Int)(s9:Int):Option ((Int)⊕(Int)):=
 AE (decide (s9<=s10)) (
  AV (0<=s1/\s1+1<=(w0.length:Int)) (
   AU w0 s1 fun x3=>
   AV (0<=s9/\s9+1<=(w0.length:Int)) (
    AU w0 s9 fun x4=>
    AG (Yh x3 x4) fun r5=>
    AE (!r5) (
     some (.inl (AA .add .i64 s9 1))) (
     some (.inr s9))))) (
  some (.inr s9))
def R6(s1 s10:Int)(w0:List Int)(s9:Int):Option (Int):=AR (fun s:Int=>Gv s1 s10 w0 s) s9
theorem Pw(s1 s10:Int)(w0:List Int)(s9:Int):R6 s1 s10 w0 s9=CW (Gv s1 s10 w0 s9) (fun s:Int=>R6 s1 s10 w0 s):=Ah _ _
def Gw(s1 s9:Int)(w0:List Int)(s10:Int):Option ((Int)⊕(Int)):=
 AE (decide (s9<=s10)) (
  AV (0<=s1/\s1+1<=(w0.length:Int)) (
   AU w0 s1 fun x7=>
   AV (0<=s10/\s10+1<=(w0.length:Int)) (
    AU w0 s10 fun x8=>
    AG (Yh x7 x8) fun r9=>
    AE (r9) (
     some (.inl (AA .sub .i64 s10 1))) (
     some (.inr s10))))) (
  some (.inr s10))
def R7(s1 s9:Int)(w0:List Int)(s10:Int):Option (Int):=AR (fun s:Int=>Gw s1 s9 w0 s) s10
theorem Px(s1 s9:Int)(w0:List Int)(s10:Int):R7 s1 s9 w0 s10=CW (Gw s1 s9 w0 s10) (fun s:Int=>R7 s1 s9 w0 s):=Ah _ _
def IQ(s1 s9 s10:Int)(w0:List Int):Option ((Int×Int×List Int)⊕((Int×List Int))):=
 AG (R6 s1 s10 w0 s9) fun o6=>
 AG (R7 s1 o6 w0 s10) fun o10=>
 AE (decide (o10<o6)) (
  some (.inr (o6,w0))) (
  AV (0<=o10/\o10+1<=(w0.length:Int)) (
   AU w0 o10 fun x11=>
   AV (0<=o6/\o6+1<=(w0.length:Int)) (
    AU w0 o6 fun x12=>
    AV (0<=o6/\o6+1<=(w0.length:Int)) (
     AV (0<=o6/\o6+1<=(w0.length:Int)) (
      AV (0<=o10/\o10+1<=((w0.set o6.toNat x11).length:Int)) (
       AV (0<=o10/\o10+1<=((w0.set o6.toNat x11).length:Int)) (
        some (.inl ((AA .add .i64 o6 1),(AA .sub .i64 o10 1),(w0.set o6.toNat x11).set o10.toNat x12)))))))))
def R5(s1 s9 s10:Int)(w0:List Int):Option ((Int×List Int)):=AR (fun s:Int×Int×List Int=>IQ s1 s.1 s.2.1 s.2.2) (s9,s10,w0)
theorem aGt(s1 s9 s10:Int)(w0:List Int):R5 s1 s9 s10 w0=CW (IQ s1 s9 s10 w0) (fun s:Int×Int×List Int=>R5 s1 s.1 s.2.1 s.2.2):=Ah _ _
def Xp(a1 a2 a3:Int)(w0:List Int):Option (Int×List Int):=
 AV (0<=a3/\a3+1<=(w0.length:Int)) (
  AU w0 a3 fun x1=>
  AV (0<=a1/\a1+1<=(w0.length:Int)) (
   AU w0 a1 fun x2=>
   AV (0<=a1/\a1+1<=(w0.length:Int)) (
    AV (0<=a1/\a1+1<=(w0.length:Int)) (
     AV (0<=a3/\a3+1<=((w0.set a1.toNat x1).length:Int)) (
      AV (0<=a3/\a3+1<=((w0.set a1.toNat x1).length:Int)) (
       AG (R5 a1 (AA .add .i64 a1 1) (AA .sub .i64 a2 1) ((w0.set a1.toNat x1).set a3.toNat x2)) fun o13=>
       some (o13.1,o13.2)))))))
def Gq(s1 s11:Int)(w0:List Int)(s10:Int):Option ((Int)⊕(Int)):=
 AE (decide (s10<=s11)) (
  AV (0<=s10/\s10+1<=(w0.length:Int)) (
   AU w0 s10 fun x3=>
   AV (0<=s1/\s1+1<=(w0.length:Int)) (
    AU w0 s1 fun x4=>
    AG (Yh x3 x4) fun r5=>
    AE (r5) (
     some (.inl (AA .add .i64 s10 1))) (
     some (.inr s10))))) (
  some (.inr s10))
def Nz(s1 s11:Int)(w0:List Int)(s10:Int):Option (Int):=AR (fun s:Int=>Gq s1 s11 w0 s) s10
theorem Pp(s1 s11:Int)(w0:List Int)(s10:Int):Nz s1 s11 w0 s10=CW (Gq s1 s11 w0 s10) (fun s:Int=>Nz s1 s11 w0 s):=Ah _ _
def Gr(s1 s10:Int)(w0:List Int)(s11:Int):Option ((Int)⊕(Int)):=
 AE (decide (s10<=s11)) (
  AV (0<=s11/\s11+1<=(w0.length:Int)) (
   AU w0 s11 fun x7=>
   AV (0<=s1/\s1+1<=(w0.length:Int)) (
    AU w0 s1 fun x8=>
    AG (Yh x7 x8) fun r9=>
    AE (!r9) (
     some (.inl (AA .sub .i64 s11 1))) (
     some (.inr s11))))) (
  some (.inr s11))
def N0(s1 s10:Int)(w0:List Int)(s11:Int):Option (Int):=AR (fun s:Int=>Gr s1 s10 w0 s) s11
theorem Pq(s1 s10:Int)(w0:List Int)(s11:Int):N0 s1 s10 w0 s11=CW (Gr s1 s10 w0 s11) (fun s:Int=>N0 s1 s10 w0 s):=Ah _ _
def N1(s1 s11:Int)(w0:List Int)(s10:Int):Option ((Int)⊕(Int)):=
 AE (decide (s10<=s11)) (
  AV (0<=s10/\s10+1<=(w0.length:Int)) (
   AU w0 s10 fun x15=>
   AV (0<=s1/\s1+1<=(w0.length:Int)) (
    AU w0 s1 fun x16=>
    AG (Yh x15 x16) fun r17=>
    AE (r17) (
     some (.inl (AA .add .i64 s10 1))) (
     some (.inr s10))))) (
  some (.inr s10))
def aE7(s1 s11:Int)(w0:List Int)(s10:Int):Option (Int):=AR (fun s:Int=>N1 s1 s11 w0 s) s10
def N3(s1 s10:Int)(w0:List Int)(s11:Int):Option ((Int)⊕(Int)):=
 AE (decide (s10<=s11)) (
  AV (0<=s11/\s11+1<=(w0.length:Int)) (
   AU w0 s11 fun x19=>
   AV (0<=s1/\s1+1<=(w0.length:Int)) (
    AU w0 s1 fun x20=>
    AG (Yh x19 x20) fun r21=>
    AE (!r21) (
     some (.inl (AA .sub .i64 s11 1))) (
     some (.inr s11))))) (
  some (.inr s11))
def aE9(s1 s10:Int)(w0:List Int)(s11:Int):Option (Int):=AR (fun s:Int=>N3 s1 s10 w0 s) s11
def H7(s1 s10 s11:Int)(w0:List Int):Option ((Int×Int×List Int)⊕((Int×List Int))):=
 AG (aE7 s1 s11 w0 s10) fun o18=>
 AG (aE9 s1 o18 w0 s11) fun o22=>
 AE (decide (o22<o18)) (
  some (.inr (o22,w0))) (
  AV (0<=o22/\o22+1<=(w0.length:Int)) (
   AU w0 o22 fun x23=>
   AV (0<=o18/\o18+1<=(w0.length:Int)) (
    AU w0 o18 fun x24=>
    AV (0<=o18/\o18+1<=(w0.length:Int)) (
     AV (0<=o18/\o18+1<=(w0.length:Int)) (
      AV (0<=o22/\o22+1<=((w0.set o18.toNat x23).length:Int)) (
       AV (0<=o22/\o22+1<=((w0.set o18.toNat x23).length:Int)) (
        some (.inl ((AA .add .i64 o18 1),(AA .sub .i64 o22 1),(w0.set o18.toNat x23).set o22.toNat x24)))))))))
def Rv(s1 s10 s11:Int)(w0:List Int):Option ((Int×List Int)):=AR (fun s:Int×Int×List Int=>H7 s1 s.1 s.2.1 s.2.2) (s10,s11,w0)
theorem aE5(s1 s10 s11:Int)(w0:List Int):Rv s1 s10 s11 w0=CW (H7 s1 s10 s11 w0) (fun s:Int×Int×List Int=>Rv s1 s.1 s.2.1 s.2.2):=Ah _ _
def Xb(a1 a2 a3:Int)(w0:List Int):Option (Int×Bool×List Int):=
 AV (0<=a3/\a3+1<=(w0.length:Int)) (
  AU w0 a3 fun x1=>
  AV (0<=a1/\a1+1<=(w0.length:Int)) (
   AU w0 a1 fun x2=>
   AV (0<=a1/\a1+1<=(w0.length:Int)) (
    AV (0<=a1/\a1+1<=(w0.length:Int)) (
     AV (0<=a3/\a3+1<=((w0.set a1.toNat x1).length:Int)) (
      AV (0<=a3/\a3+1<=((w0.set a1.toNat x1).length:Int)) (
       AG (Nz a1 (AA .sub .i64 a2 1) ((w0.set a1.toNat x1).set a3.toNat x2) (AA .add .i64 a1 1)) fun o6=>
       AG (N0 a1 o6 ((w0.set a1.toNat x1).set a3.toNat x2) (AA .sub .i64 a2 1)) fun o10=>
       AE (decide (o10<o6)) (
        AV (0<=a1/\a1+1<=(((w0.set a1.toNat x1).set a3.toNat x2).length:Int)) (
         AU ((w0.set a1.toNat x1).set a3.toNat x2) a1 fun x11=>
         AV (0<=o10/\o10+1<=(((w0.set a1.toNat x1).set a3.toNat x2).length:Int)) (
          AU ((w0.set a1.toNat x1).set a3.toNat x2) o10 fun x12=>
          AV (0<=o10/\o10+1<=(((w0.set a1.toNat x1).set a3.toNat x2).length:Int)) (
           AV (0<=o10/\o10+1<=(((w0.set a1.toNat x1).set a3.toNat x2).length:Int)) (
            AV (0<=a1/\a1+1<=((((w0.set a1.toNat x1).set a3.toNat x2).set o10.toNat x11).length:Int)) (
             AV (0<=a1/\a1+1<=((((w0.set a1.toNat x1).set a3.toNat x2).set o10.toNat x11).length:Int)) (
              some (o10,true,(((w0.set a1.toNat x1).set a3.toNat x2).set o10.toNat x11).set a1.toNat x12)))))))) (
        AV (0<=o10/\o10+1<=(((w0.set a1.toNat x1).set a3.toNat x2).length:Int)) (
         AU ((w0.set a1.toNat x1).set a3.toNat x2) o10 fun x13=>
         AV (0<=o6/\o6+1<=(((w0.set a1.toNat x1).set a3.toNat x2).length:Int)) (
          AU ((w0.set a1.toNat x1).set a3.toNat x2) o6 fun x14=>
          AV (0<=o6/\o6+1<=(((w0.set a1.toNat x1).set a3.toNat x2).length:Int)) (
           AV (0<=o6/\o6+1<=(((w0.set a1.toNat x1).set a3.toNat x2).length:Int)) (
            AV (0<=o10/\o10+1<=((((w0.set a1.toNat x1).set a3.toNat x2).set o6.toNat x13).length:Int)) (
             AV (0<=o10/\o10+1<=((((w0.set a1.toNat x1).set a3.toNat x2).set o6.toNat x13).length:Int)) (
              AG (Rv a1 (AA .add .i64 o6 1) (AA .sub .i64 o10 1) ((((w0.set a1.toNat x1).set a3.toNat x2).set o6.toNat x13).set o10.toNat x14)) fun o25=>
              AV (0<=a1/\a1+1<=(o25.2.length:Int)) (
               AU o25.2 a1 fun x26=>
               AV (0<=o25.1/\o25.1+1<=(o25.2.length:Int)) (
                AU o25.2 o25.1 fun x27=>
                AV (0<=o25.1/\o25.1+1<=(o25.2.length:Int)) (
                 AV (0<=o25.1/\o25.1+1<=(o25.2.length:Int)) (
                  AV (0<=a1/\a1+1<=((o25.2.set o25.1.toNat x26).length:Int)) (
                   AV (0<=a1/\a1+1<=((o25.2.set o25.1.toNat x26).length:Int)) (
                    some (o25.1,false,(o25.2.set o25.1.toNat x26).set a1.toNat x27))))))))))))))))))))
def N5(self:Int->Int->Int->(List Int)->Option (List Int))(s1 s2 s3:Int)(s8 s9:Bool)(s10:Int)(s35:Bool)(w0:List Int):Option ((Int×List Int)):=
 AE (s35) (
  AG (Y0 s1 s2 w0) fun r3=>
  some ((AA .sub .i64 s3 1),r3)) (
  some (s3,w0))
def N6(self:Int->Int->Int->(List Int)->Option (List Int))(s1 s2 s3:Int)(s8 s9:Bool)(s10 s11 s12:Int)(s50:Bool)(w0:List Int):Option ((Int×Int×List Int)):=
 AE (s50) (
  AG (Yv s1 s2 w0) fun r6=>
  some ((AA .sub .i64 (AA .sub .i64 s2 1) (AA .sub .i64 s11 s1)),1,r6)) (
  some (s11,s12,w0))
def Ju(self:Int->Int->Int->(List Int)->Option (List Int))(s1 s2 s3:Int)(s8 s9:Bool)(s10 s11:Int)(s68:Bool)(w0:List Int):Option ((List Int)⊕(List Int)):=
 AE (s68) (
  AG (X8 s1 s2 w0) fun r8=>
  AE (r8.1) (
   some (.inr r8.2)) (
   some (.inl r8.2))) (
  some (.inl w0))
def Fr(self:Int->Int->Int->(List Int)->Option (List Int))(s1 s2 s3:Int)(s9:Bool)(s14 s16:Int)(s17 s18:Int)(s113:Bool)(w0:List Int):Option ((Int×Int×Bool×List Int)):=
 AE (s113) (
  AG (self s1 s14 s3 w0) fun r17=>
  some ((AA .add .i64 s14 1),s2,decide (s18<=s16),r17)) (
  AG (self (AA .add .i64 s14 1) s2 s3 w0) fun r18=>
  some (s1,s14,decide (s18<=s17),r18))
def N4(self:Int->Int->Int->(List Int)->Option (List Int))(s1 s2 s3:Int)(s8 s9:Bool)(w0:List Int):Option ((Int×Int×Int×Bool×Bool×List Int)⊕(List Int)):=
 AE (decide ((AA .sub .i64 s2 s1)<=12)) (
  AG (Y2 s1 s2 w0) fun r1=>
  some (.inr r1)) (
  AE (decide (s3=0)) (
   AG (Y4 s1 s2 w0) fun r2=>
   some (.inr r2)) (
   AG (N5 self s1 s2 s3 s8 s9 (AA .sub .i64 s2 s1) (!s8) w0) fun o4=>
   AG (Z1 o4.2 s1 s2) fun r5=>
   AG (N6 self s1 s2 o4.1 s8 s9 (AA .sub .i64 s2 s1) r5.1 r5.2 (decide (r5.2=2)) o4.2) fun o7=>
   AE (s8) (
    AE (s9) (
     AG (Ju self s1 s2 o4.1 s8 s9 (AA .sub .i64 s2 s1) o7.1 (decide (o7.2.1=1)) o7.2.2) fun o9=>
     Cd o9 (fun o10=>
      AE (decide (0<s1)) (
       AV (0<=(AA .sub .i64 s1 1)/\(AA .sub .i64 s1 1)+1<=(o10.length:Int)) (
        AU o10 (AA .sub .i64 s1 1) fun x12=>
        AV (0<=o7.1/\o7.1+1<=(o10.length:Int)) (
         AU o10 o7.1 fun x13=>
         AG (Yh x12 x13) fun r14=>
         AE (!r14) (
          AG (Xp s1 s2 o7.1 o10) fun r15=>
          some (.inl (r15.1,s2,o4.1,s8,s9,r15.2))) (
          AG (Xb s1 s2 o7.1 o10) fun r16=>
          AG (Fr self s1 s2 o4.1 r16.2.1 r16.1 (AA .sub .i64 r16.1 s1) (AA .sub .i64 s2 r16.1) (AA .quo .i64 (AA .sub .i64 s2 s1) 8) (decide ((AA .sub .i64 r16.1 s1)<(AA .sub .i64 s2 r16.1))) r16.2.2) fun o19=>
          some (.inl (o19.1,o19.2.1,o4.1,o19.2.2.1,r16.2.1,o19.2.2.2)))))) (
       AG (Xb s1 s2 o7.1 o10) fun r20=>
       AG (Fr self s1 s2 o4.1 r20.2.1 r20.1 (AA .sub .i64 r20.1 s1) (AA .sub .i64 s2 r20.1) (AA .quo .i64 (AA .sub .i64 s2 s1) 8) (decide ((AA .sub .i64 r20.1 s1)<(AA .sub .i64 s2 r20.1))) r20.2.2) fun o21=>
       some (.inl (o21.1,o21.2.1,o4.1,o21.2.2.1,r20.2.1,o21.2.2.2)))) (fun o11=>
      some (.inr o11))) (
     AG (Ju self s1 s2 o4.1 s8 s9 (AA .sub .i64 s2 s1) o7.1 false o7.2.2) fun o22=>
     Cd o22 (fun o23=>
      AE (decide (0<s1)) (
       AV (0<=(AA .sub .i64 s1 1)/\(AA .sub .i64 s1 1)+1<=(o23.length:Int)) (
        AU o23 (AA .sub .i64 s1 1) fun x25=>
        AV (0<=o7.1/\o7.1+1<=(o23.length:Int)) (
         AU o23 o7.1 fun x26=>
         AG (Yh x25 x26) fun r27=>
         AE (!r27) (
          AG (Xp s1 s2 o7.1 o23) fun r28=>
          some (.inl (r28.1,s2,o4.1,s8,s9,r28.2))) (
          AG (Xb s1 s2 o7.1 o23) fun r29=>
          AG (Fr self s1 s2 o4.1 r29.2.1 r29.1 (AA .sub .i64 r29.1 s1) (AA .sub .i64 s2 r29.1) (AA .quo .i64 (AA .sub .i64 s2 s1) 8) (decide ((AA .sub .i64 r29.1 s1)<(AA .sub .i64 s2 r29.1))) r29.2.2) fun o30=>
          some (.inl (o30.1,o30.2.1,o4.1,o30.2.2.1,r29.2.1,o30.2.2.2)))))) (
       AG (Xb s1 s2 o7.1 o23) fun r31=>
       AG (Fr self s1 s2 o4.1 r31.2.1 r31.1 (AA .sub .i64 r31.1 s1) (AA .sub .i64 s2 r31.1) (AA .quo .i64 (AA .sub .i64 s2 s1) 8) (decide ((AA .sub .i64 r31.1 s1)<(AA .sub .i64 s2 r31.1))) r31.2.2) fun o32=>
       some (.inl (o32.1,o32.2.1,o4.1,o32.2.2.1,r31.2.1,o32.2.2.2)))) (fun o24=>
      some (.inr o24)))) (
    AG (Ju self s1 s2 o4.1 s8 s9 (AA .sub .i64 s2 s1) o7.1 false o7.2.2) fun o33=>
    Cd o33 (fun o34=>
     AE (decide (0<s1)) (
      AV (0<=(AA .sub .i64 s1 1)/\(AA .sub .i64 s1 1)+1<=(o34.length:Int)) (
       AU o34 (AA .sub .i64 s1 1) fun x36=>
       AV (0<=o7.1/\o7.1+1<=(o34.length:Int)) (
        AU o34 o7.1 fun x37=>
        AG (Yh x36 x37) fun r38=>
        AE (!r38) (
         AG (Xp s1 s2 o7.1 o34) fun r39=>
         some (.inl (r39.1,s2,o4.1,s8,s9,r39.2))) (
         AG (Xb s1 s2 o7.1 o34) fun r40=>
         AG (Fr self s1 s2 o4.1 r40.2.1 r40.1 (AA .sub .i64 r40.1 s1) (AA .sub .i64 s2 r40.1) (AA .quo .i64 (AA .sub .i64 s2 s1) 8) (decide ((AA .sub .i64 r40.1 s1)<(AA .sub .i64 s2 r40.1))) r40.2.2) fun o41=>
         some (.inl (o41.1,o41.2.1,o4.1,o41.2.2.1,r40.2.1,o41.2.2.2)))))) (
      AG (Xb s1 s2 o7.1 o34) fun r42=>
      AG (Fr self s1 s2 o4.1 r42.2.1 r42.1 (AA .sub .i64 r42.1 s1) (AA .sub .i64 s2 r42.1) (AA .quo .i64 (AA .sub .i64 s2 s1) 8) (decide ((AA .sub .i64 r42.1 s1)<(AA .sub .i64 s2 r42.1))) r42.2.2) fun o43=>
      some (.inl (o43.1,o43.2.1,o4.1,o43.2.2.1,r42.2.1,o43.2.2.2)))) (fun o35=>
     some (.inr o35)))))
def ID(self:Int->Int->Int->(List Int)->Option (List Int))(s1 s2 s3:Int)(s8 s9:Bool)(w0:List Int):Option ((Int×Int×Int×Bool×Bool×List Int)⊕((List Int))):=
 AG (N4 self s1 s2 s3 s8 s9 w0) fun o44=>
 Cd o44 (fun o45=>
  some (.inl (o45.1,o45.2.1,o45.2.2.1,o45.2.2.2.1,o45.2.2.2.2.1,o45.2.2.2.2.2))) (fun o46=>
  some (.inr o46))
def Rx(self:Int->Int->Int->(List Int)->Option (List Int))(s1 s2 s3:Int)(s8 s9:Bool)(w0:List Int):Option ((List Int)):=AR (fun s:Int×Int×Int×Bool×Bool×List Int=>ID self s.1 s.2.1 s.2.2.1 s.2.2.2.1 s.2.2.2.2.1 s.2.2.2.2.2) (s1,s2,s3,s8,s9,w0)
theorem aFm(self:Int->Int->Int->(List Int)->Option (List Int))(s1 s2 s3:Int)(s8 s9:Bool)(w0:List Int):Rx self s1 s2 s3 s8 s9 w0=CW (ID self s1 s2 s3 s8 s9 w0) (fun s:Int×Int×Int×Bool×Bool×List Int=>Rx self s.1 s.2.1 s.2.2.1 s.2.2.2.1 s.2.2.2.2.1 s.2.2.2.2.2):=Ah _ _
def aOr(self:Int->Int->Int->(List Int)->Option (List Int))(a1 a2 a3:Int)(w0:List Int):Option (List Int):=
 AG (Rx self a1 a2 a3 true true w0) fun o47=>
 some o47
def aNb:Nat->Int->Int->Int->(List Int)->Option (List Int)
 |0=>fun _ _ _ _=>none
 |n+1=>fun a1 a2 a3 w0=>aOr (aNb n) a1 a2 a3 w0
def Xf(a1 a2 a3:Int)(w0:List Int):Option (List Int):=aNb 100000 a1 a2 a3 w0
def Q0(w0:List Int):Option (List Int):=
 AG (Q8 (IntKind.wrap .u64 (w0.length:Int))) fun r1=>
 AG (Xf 0 (w0.length:Int) r1 w0) fun r2=>
 some r2
def Qm(xs:List Int):Option (List Int):=bagE Q0 xs
def Fm(s1:List X2)(s6 s15:Int)(s16 s30:Int)(w2:AD)(w5:List (Int×Bool))(s31:Int)(w7:List (Int×Bool)):Option ((Int×(List (Int×Bool)))⊕((List (Int×Bool)))):=
 AE (decide (s31<s30)) (
  AG (Xi (Xq.mk w2 s1 s6 s31) w7) fun r3=>
  some (.inl ((AA .add .i64 s31 1),r3))) (
  some (.inr w7))
def Tc(s1:List X2)(s6 s15:Int)(s16 s30:Int)(w2:AD)(w5:List (Int×Bool))(s31:Int)(w7:List (Int×Bool)):Option ((List (Int×Bool))):=AR (fun s:Int×(List (Int×Bool))=>Fm s1 s6 s15 s16 s30 w2 w5 s.1 s.2) (s31,w7)
def Gg(s1:List X2)(s15 s16:Int)(w2:AD)(w7:List (Int×Bool))(k:Int)(v:Bool)(w5:List (Int×Bool)):Option ((List (Int×Bool))):=
 some (GC k true w5)
def Hu(s1:List X2)(s15 s16:Int)(w2:AD)(w7:List (Int×Bool))(s:(List (Int×Bool))):(List (Int×Bool)):=(fun s:(List (Int×Bool))=>(aL6 s:(List (Int×Bool)))) s
def Tf(s1:List X2)(s15 s16:Int)(w2:AD)(w7 w5:List (Int×Bool)):Option ((List (Int×Bool))):=Fe (Hu s1 s15 s16 w2 w7) w7 (fun(x:Int×Bool) (s:(List (Int×Bool)))=>Gg s1 s15 s16 w2 w7 x.1 x.2 s) w5
def RX(s1:List X2)(s15 s16:Int)(w2:AD)(w5 w7:List (Int×Bool)):Option ((List (Int×Bool))):=
 AG (Tf s1 s15 s16 w2 w7 w5) fun o5=>
 some o5
def Fl(s1:List X2)(s15:Int)(w2:AD)(s16:Int)(w5:List (Int×Bool)):Option ((Int×(List (Int×Bool)))⊕((List (Int×Bool)))):=
 AE (decide (s16<s15)) (
  AG (Y5 w2 s16) fun r1=>
  AU w2.decls s16 fun x2=>
  AG (Tc s1 s16 s15 s16 (x2.types.length:Int) w2 w5 0 (GC r1 true ([]:List (Int×Bool)))) fun o4=>
  AG (RX s1 s15 s16 w2 w5 o4) fun o6=>
  some (.inl ((AA .add .i64 s16 1),o6))) (
  some (.inr w5))
def TZ(s1:List X2)(s15:Int)(w2:AD)(s16:Int)(w5:List (Int×Bool)):Option ((List (Int×Bool))):=AR (fun s:Int×(List (Int×Bool))=>Fl s1 s15 w2 s.1 s.2) (s16,w5)
def Eu(w5:List (Int×Bool))(k:Int)(v:Bool)(w10:List Int):Option (List Int):=
 AV (fit w10.length [k].length 8) (
  some (w10++[k]))
def Km(w5:List (Int×Bool))(s:List Int):List Int:=(fun s:List Int=>(aCx s:List Int)) s
def Ti(w5:List (Int×Bool))(w10:List Int):Option (List Int):=Fe (Km w5) w5 (fun(x:Int×Bool) (s:List Int)=>Eu w5 x.1 x.2 s) w10
def RY(w5:List (Int×Bool)):Option ((List Int)):=
 AG (Ti w5 ([]:List Int)) fun o8=>
 some o8
def X4(a0:AD)(a1:List X2):Option (List Int):=
 AG (TZ a1 (a0.decls.length:Int) a0 0 ([]:List (Int×Bool))) fun o7=>
 AG (RY (NI 0 o7)) fun o9=>
 AG (Qm o9) fun r10=>
 some r10
def Qp(a0:Int):Option (Bool):=
 some false
def UB(s1 s2:Int)(s7 s8 s10:Int)(s14:List Xg)(s15 s16:Int)(s28:List Xr)(s29 s30:Int)(s46:Bool)(w3:AD)(w9:Xg)(w12:Xr):Option (Int):=
 AE (s46) (
  AV (0<=(IntKind.wrap .u64 w12.to)) (
   some (AA .or .u32 s10 (AA .shl .u32 1 (IntKind.wrap .u64 w12.to))))) (
  some s10)
def aEn(s1 s2:Int)(s7 s8 s10:Int)(s14:List Xg)(s15 s16:Int)(s28:List Xr)(s29 s30:Int)(w3:AD)(w9:Xg):Option (Int):=
 AU s28 s30 fun x2=>
 AE (decide (x2.from_=s8)) (
  AV (0<=(IntKind.wrap .u64 x2.symbol)) (
   AG (UB s1 s2 s7 s8 s10 s14 s15 s16 s28 s29 s30 (!decide ((AA .and .u64 s2 (AA .shl .u64 1 (IntKind.wrap .u64 x2.symbol)))=0)) w3 w9 x2) fun o3=>
   some o3)) (
  AG (UB s1 s2 s7 s8 s10 s14 s15 s16 s28 s29 s30 false w3 w9 x2) fun o4=>
  some o4)
def Gp(s1 s2:Int)(s7 s8:Int)(s14:List Xg)(s15 s16:Int)(s28:List Xr)(s29:Int)(w3:AD)(w9:Xg)(s10 s30:Int):Option ((Int×Int)⊕(Int)):=
 AE (decide (s30<s29)) (
  AG (aEn s1 s2 s7 s8 s10 s14 s15 s16 s28 s29 s30 w3 w9) fun o5=>
  some (.inl (o5,(AA .add .i64 s30 1)))) (
  some (.inr s10))
def Rq(s1 s2:Int)(s7 s8:Int)(s14:List Xg)(s15 s16:Int)(s28:List Xr)(s29:Int)(w3:AD)(w9:Xg)(s10 s30:Int):Option (Int):=AR (fun s:Int×Int=>Gp s1 s2 s7 s8 s14 s15 s16 s28 s29 w3 w9 s.1 s.2) (s10,s30)
def Kq(s1 s2:Int)(s7 s8 s10:Int)(s14:List Xg)(s15 s16:Int)(s60:Bool)(w3:AD):Option (Int):=
 AE (s60) (
  AV (0<=(IntKind.wrap .u64 s8)) (
   some (AA .shl .u32 1 (IntKind.wrap .u64 s8)))) (
  some s10)
def Ro(s1 s2 s7:Int)(s14:List Xg)(s15 s16:Int)(w3:AD):Option (Int):=
 AU s14 s16 fun x1=>
 AV (0<=(IntKind.wrap .u64 s16)) (
  AE (decide ((AA .and .u32 s1 (AA .shl .u32 1 (IntKind.wrap .u64 s16)))=0)) (
   some s7) (
   AG (Rq s1 s2 s7 s16 s14 s15 s16 w3.trans (w3.trans.length:Int) w3 x1 0 0) fun o6=>
   AE (decide (o6=0)) (
    AG (Kq s1 s2 s7 s16 o6 s14 s15 s16 (!x1.next) w3) fun o7=>
    some (AA .or .u32 s7 o7)) (
    AG (Kq s1 s2 s7 s16 o6 s14 s15 s16 false w3) fun o8=>
    some (AA .or .u32 s7 o8))))
def Ew(s1 s2:Int)(s14:List Xg)(s15:Int)(w3:AD)(s7 s16:Int):Option ((Int×Int)⊕(Int)):=
 AE (decide (s16<s15)) (
  AG (Ro s1 s2 s7 s14 s15 s16 w3) fun o9=>
  some (.inl (o9,(AA .add .i64 s16 1)))) (
  some (.inr s7))
def UC(s1 s2:Int)(s14:List Xg)(s15:Int)(w3:AD)(s7 s16:Int):Option (Int):=AR (fun s:Int×Int=>Ew s1 s2 s14 s15 w3 s.1 s.2) (s7,s16)
def X9(a0:AD)(a1 a2:Int):Option (Int):=
 AG (UC a1 a2 a0.states (a0.states.length:Int) a0 0 0) fun o10=>
 some o10
def aF8(s11:List Int)(s12 s14 s15:Int)(s44:List Int)(s45 s46:Int)(s64:Bool)(w4:AD)(w8:List Int)(w9 w10:MP Int Int):Option ((List Int×MP Int Int×MP Int Int)):=
 AE (s64) (
  AV (0<=s12/\s12+1<=(w8.length:Int)) (
   AU w8 s12 fun x7=>
   AV (aMd 0 w9 s15<=4611686018427387904) (
    AV (aTy (LX 0 w9 s15) ((aMd 0 w9 s15:Nat):Int)=true) (
     AV (fit w8.length [s15].length 4) (
      some (w8++[s15],aMf (LX 0 w9 s15) ((aMd 0 w9 s15:Nat):Int) x7,DY w10 s15 s14)))))) (
  some (w8,w9,w10))
def VA(s11:List Int)(s12:Int)(s44:List Int)(s45 s46:Int)(w4:AD)(w8:List Int)(w9 w10:MP Int Int):Option ((List Int×MP Int Int×MP Int Int)):=
 AU s44 s46 fun x4=>
 AV (0<=s12/\s12+1<=(w8.length:Int)) (
  AU w8 s12 fun x5=>
  AG (X9 w4 x5 x4) fun r6=>
  AG (aF8 s11 s12 x4 r6 s44 s45 s46 (!((BJ 0 w9 r6).2)) w4 w8 w9 w10) fun o8=>
  some (o8.1,o8.2.1,o8.2.2))
def Kw(s11:List Int)(s12:Int)(s44:List Int)(s45:Int)(w4:AD)(s46:Int)(w8:List Int)(w9 w10:MP Int Int):Option ((Int×List Int×MP Int Int×MP Int Int)⊕((List Int×MP Int Int×MP Int Int))):=
 AE (decide (s46<s45)) (
  AG (VA s11 s12 s44 s45 s46 w4 w8 w9 w10) fun o9=>
  some (.inl ((AA .add .i64 s46 1),o9.1,o9.2.1,o9.2.2))) (
  some (.inr (w8,w9,w10)))
def aGd(s11:List Int)(s12:Int)(s44:List Int)(s45:Int)(w4:AD)(s46:Int)(w8:List Int)(w9 w10:MP Int Int):Option ((List Int×MP Int Int×MP Int Int)):=AR (fun s:Int×List Int×MP Int Int×MP Int Int=>Kw s11 s12 s44 s45 w4 s.1 s.2.1 s.2.2.1 s.2.2.2) (s46,w8,w9,w10)
def Kv(s11:List Int)(w4:AD)(s12:Int)(w8:List Int)(w9 w10:MP Int Int):Option ((Int×List Int×MP Int Int×MP Int Int)⊕((List Int×MP Int Int×MP Int Int))):=
 AE (decide (s12<(w8.length:Int))) (
  AV (0<=s12/\s12+1<=(w8.length:Int)) (
   AU w8 s12 fun x2=>
   AG (Qp x2) fun r3=>
   AE (r3) (
    AV (0<=(AA .add .i64 s12 1)/\(AA .add .i64 s12 1)<=(w8.length:Int)) (
     some (.inr (w8.take ((AA .add .i64 s12 1)).toNat,w9,w10)))) (
    AG (aGd s11 s12 s11 (s11.length:Int) w4 0 w8 w9 w10) fun o10=>
    some (.inl ((AA .add .i64 s12 1),o10.1,o10.2.1,o10.2.2))))) (
  some (.inr (w8,w9,w10)))
def aGa(s11:List Int)(w4:AD)(s12:Int)(w8:List Int)(w9 w10:MP Int Int):Option ((List Int×MP Int Int×MP Int Int)):=AR (fun s:Int×List Int×MP Int Int×MP Int Int=>Kv s11 w4 s.1 s.2.1 s.2.2.1 s.2.2.2) (s12,w8,w9,w10)
def Xm(a0:AD)(a1:List X2)(a2:Int):Option (List Int×MP Int Int×MP Int Int):=
 AG (X4 a0 a1) fun r1=>
 AG (aGa r1 a0 0 [a2] (DY (Ee:MP Int Int) a2 a2) (Ee:MP Int Int)) fun o11=>
 some (o11.1,o11.2.1,o11.2.2)
def Zv(a0:AD)(a1:List X2)(a2:Int):Option (List Int):=
 AG (Xm a0 a1 a2) fun r1=>
 AG (Q0 r1.1) fun r2=>
 some r2
def G4(s1:Int)(s8:List Xg)(s9 s10:Int):Option ((Int)⊕(Unit⊕Unit)):=
 AE (decide (s10<s9)) (
  AU s8 s10 fun x1=>
  AE (x1.accept) (
   AV (0<=(IntKind.wrap .u64 s10)) (
    AE (!decide ((AA .and .u32 s1 (AA .shl .u32 1 (IntKind.wrap .u64 s10)))=0)) (
     some (.inr (.inr ()))) (
     some (.inl (AA .add .i64 s10 1))))) (
   some (.inl (AA .add .i64 s10 1)))) (
  some (.inr (.inl ())))
def WY(s1:Int)(s8:List Xg)(s9 s10:Int):Option (Unit⊕Unit):=AR (fun s:Int=>G4 s1 s8 s9 s) s10
def Y8(a0:AD)(a1:Int):Option (Bool):=
 AG (WY a1 a0.states (a0.states.length:Int) 0) fun o2=>
 Cd o2 (fun o3=>
  some false) (fun o4=>
  some true)
def Kz(s1:Int)(s21:List Int)(s22:Int)(w0:MP Int Int)(w5:AD)(s23:Int)(w11:List UInt8):Option ((Int×List UInt8)⊕((List UInt8))):=
 AE (decide (s23<s22)) (
  AU s21 s23 fun x1=>
  AG (X9 w5 s1 x1) fun r2=>
  AV (fit w11.length [u8w ((BJ 0 w0 r2).1),u8w (AA .shr .i64 ((BJ 0 w0 r2).1) 8)].length 1) (
   some (.inl ((AA .add .i64 s23 1),w11++[u8w ((BJ 0 w0 r2).1),u8w (AA .shr .i64 ((BJ 0 w0 r2).1) 8)])))) (
  some (.inr w11))
def aI4(s1:Int)(s21:List Int)(s22:Int)(w0:MP Int Int)(w5:AD)(s23:Int)(w11:List UInt8):Option ((List UInt8)):=AR (fun s:Int×List UInt8=>Kz s1 s21 s22 w0 w5 s.1 s.2) (s23,w11)
def Yc(a0:AD)(a1 a2:Int)(a3:List Int)(w0:MP Int Int):Option (List UInt8×MP Int Int):=
 AG (aI4 a1 a3 (a3.length:Int) w0 a0 0 [u8w a2,u8w (AA .shr .i64 a2 8)]) fun o3=>
 some (o3,w0)
def aPc(s5:Int)(s6:List UInt8)(s13:List (List UInt8))(s14 s15:Int)(s27:Bool)(w3:MP (List UInt8) Int)(w4:List Int):Option ((MP (List UInt8) Int)):=
 AE (s27) (
  AV ((w3.es.length:Int)<=4611686018427387904) (
   some (DY w3 s6 (w3.es.length:Int)))) (
  some w3)
def aPb(s13:List (List UInt8))(s14 s15:Int)(w3:MP (List UInt8) Int)(w4:List Int):Option ((MP (List UInt8) Int×List Int)):=
 AU s13 s15 fun x1=>
 AG (aPc s15 x1 s13 s14 s15 (!((BJ 0 w3 x1).2)) w3 w4) fun o2=>
 AV (0<=s15/\s15+1<=(w4.length:Int)) (
  AV (0<=s15/\s15+1<=(w4.length:Int)) (
   some (o2,w4.set s15.toNat ((BJ 0 o2 x1).1))))
def OV(s13:List (List UInt8))(s14 s15:Int)(w3:MP (List UInt8) Int)(w4:List Int):Option ((Int×MP (List UInt8) Int×List Int)⊕((List Int))):=
 AE (decide (s15<s14)) (
  AG (aPb s13 s14 s15 w3 w4) fun o3=>
  some (.inl ((AA .add .i64 s15 1),o3.1,o3.2))) (
  some (.inr w4))
def aIq(s13:List (List UInt8))(s14 s15:Int)(w3:MP (List UInt8) Int)(w4:List Int):Option ((List Int)):=AR (fun s:Int×MP (List UInt8) Int×List Int=>OV s13 s14 s.1 s.2.1 s.2.2) (s15,w3,w4)
def Y9(a0:List (List UInt8)):Option (List Int):=
 AV (0<=(a0.length:Int)/\fit 0 (a0.length:Int).toNat 8) (
  AG (aIq a0 (a0.length:Int) 0 (Ee:MP (List UInt8) Int) (List.replicate (a0.length:Int).toNat 0)) fun o4=>
  some o4)
def Oe(s0 s1:List Int)(s12 s13:Int):Option ((Int)⊕(Unit⊕Unit)):=
 AE (decide (s13<s12)) (
  AU s0 s13 fun x1=>
  AU s1 s13 fun x2=>
  AE (!decide (x1=x2)) (
   some (.inr (.inr ()))) (
   some (.inl (AA .add .i64 s13 1)))) (
  some (.inr (.inl ())))
def aKb(s0 s1:List Int)(s12 s13:Int):Option (Unit⊕Unit):=AR (fun s:Int=>Oe s0 s1 s12 s) s13
def Yt(a0 a1:List Int):Option (Bool):=
 AE (!decide ((a0.length:Int)=(a1.length:Int))) (
  some false) (
  AG (aKb a0 a1 (a0.length:Int) 0) fun o3=>
  Cd o3 (fun o4=>
   some true) (fun o5=>
   some false))
def aDr(s8 s9:List Int)(s11:Int)(s30:List Int)(s31 s32:Int)(s39:Bool)(w3:AD)(w10:List Int):Option ((List Int)):=
 AE (s39) (
  AV (0<=s11/\s11+1<=(w10.length:Int)) (
   AV (0<=s11/\s11+1<=(w10.length:Int)) (
    some (w10.set s11.toNat 1)))) (
  some w10)
def Tl(s8 s9 s30:List Int)(s31 s32:Int)(w3:AD)(w10:List Int):Option ((List Int)):=
 AU s30 s32 fun x3=>
 AG (Y8 w3 x3) fun r4=>
 AG (aDr s8 s9 s32 s30 s31 s32 r4 w3 w10) fun o5=>
 some o5
def Kn(s8 s9 s30:List Int)(s31:Int)(w3:AD)(s32:Int)(w10:List Int):Option ((Int×List Int)⊕((List Int))):=
 AE (decide (s32<s31)) (
  AG (Tl s8 s9 s30 s31 s32 w3 w10) fun o6=>
  some (.inl ((AA .add .i64 s32 1),o6))) (
  some (.inr w10))
def aDt(s8 s9 s30:List Int)(s31:Int)(w3:AD)(s32:Int)(w10:List Int):Option ((List Int)):=AR (fun s:Int×List Int=>Kn s8 s9 s30 s31 w3 s.1 s.2) (s32,w10)
def Nf(s8 s9:List Int)(s10 s45:List Int)(s46:Int)(w3:AD)(s47:Int)(w13:MP Int Int):Option ((Int×MP Int Int)⊕((MP Int Int))):=
 AE (decide (s47<s46)) (
  AU s45 s47 fun x20=>
  AU s10 s47 fun x21=>
  some (.inl ((AA .add .i64 s47 1),DY w13 x20 x21))) (
  some (.inr w13))
def aDz(s8 s9:List Int)(s10 s45:List Int)(s46:Int)(w3:AD)(s47:Int)(w13:MP Int Int):Option ((MP Int Int)):=AR (fun s:Int×MP Int Int=>Nf s8 s9 s10 s45 s46 w3 s.1 s.2) (s47,w13)
def Kp(s8 s9:List Int)(s10 s59:List Int)(s60:Int)(w3:AD)(s61:Int)(w13:MP Int Int)(w16:List (List UInt8)):Option ((Int×MP Int Int×List (List UInt8))⊕((List (List UInt8)))):=
 AE (decide (s61<s60)) (
  AU s59 s61 fun x26=>
  AU s10 s61 fun x27=>
  AG (Yc w3 x26 x27 s9 w13) fun r28=>
  AV (fit w16.length [r28.1].length 16) (
   some (.inl ((AA .add .i64 s61 1),r28.2,w16++[r28.1])))) (
  some (.inr w16))
def aD2(s8 s9:List Int)(s10 s59:List Int)(s60:Int)(w3:AD)(s61:Int)(w13:MP Int Int)(w16:List (List UInt8)):Option ((List (List UInt8))):=AR (fun s:Int×MP Int Int×List (List UInt8)=>Kp s8 s9 s10 s59 s60 w3 s.1 s.2.1 s.2.2) (s61,w13,w16)
def Ko(s8 s9:List Int)(w3:AD)(s10:List Int):Option ((List Int)⊕((List Int))):=
 AG (aDz s8 s9 s10 s8 (s8.length:Int) w3 0 (Ee:MP Int Int)) fun o22=>
 AG (aD2 s8 s9 s10 s8 (s8.length:Int) w3 0 o22 ([]:List (List UInt8))) fun o29=>
 AG (Y9 o29) fun r30=>
 AG (Yt r30 s10) fun r31=>
 AE (r31) (
  some (.inr s10)) (
  some (.inl r30))
def aDw(s8 s9:List Int)(w3:AD)(s10:List Int):Option ((List Int)):=AR (fun s:List Int=>Ko s8 s9 w3 s) s10
def X6(a0:AD)(a1:List X2)(a2:Int):Option (List Int×List Int):=
 AG (Zv a0 a1 a2) fun r1=>
 AG (X4 a0 a1) fun r2=>
 AV (0<=(r1.length:Int)/\fit 0 (r1.length:Int).toNat 8) (
  AG (aDt r1 r2 r1 (r1.length:Int) a0 0 (List.replicate (r1.length:Int).toNat 0)) fun o7=>
  AG (aDw r1 r2 a0 o7) fun o32=>
  some (r1,o32))
def aI7(s0:List Int)(s7:Bool):Option (Unit):=
 AE (s7) (
  none) (
  some ())
def OY(s0:List Int)(s3 s4:Int):Option ((Int×Int)⊕(Int)):=
 AE (decide (s4<(s0.length:Int))) (
  AU s0 s4 fun x3=>
  some (.inl ((aNy s3 x3),(AA .add .i64 s4 1)))) (
  some (.inr s3))
def aI9(s0:List Int)(s3 s4:Int):Option (Int):=AR (fun s:Int×Int=>OY s0 s.1 s.2) (s3,s4)
def Yd(a0:List Int):Option (Int):=
 AG (aI7 a0 (decide ((a0.length:Int)<1))) fun o1=>
 AU a0 0 fun x2=>
 AG (aI9 a0 x2 1) fun o4=>
 some o4
def Zw(a0:AD)(a1:List X2):Option (Int):=
 AV (0<=(IntKind.wrap .u64 a0.start)) (
  AG (X6 a0 a1 (AA .shl .u32 1 (IntKind.wrap .u64 a0.start))) fun r1=>
  AG (Yd r1.2) fun r2=>
  some (AA .add .i64 r2 1))
def G7(s2 s3:Int)(w0:List Int):Option ((Int×Int×List Int)⊕((List Int))):=
 AE (decide (s2<s3)) (
  AV (0<=s3/\s3+1<=(w0.length:Int)) (
   AU w0 s3 fun x1=>
   AV (0<=s2/\s2+1<=(w0.length:Int)) (
    AU w0 s2 fun x2=>
    AV (0<=s2/\s2+1<=(w0.length:Int)) (
     AV (0<=s2/\s2+1<=(w0.length:Int)) (
      AV (0<=s3/\s3+1<=((w0.set s2.toNat x1).length:Int)) (
       AV (0<=s3/\s3+1<=((w0.set s2.toNat x1).length:Int)) (
        some (.inl ((AA .add .i64 s2 1),(AA .sub .i64 s3 1),(w0.set s2.toNat x1).set s3.toNat x2))))))))) (
  some (.inr w0))
def Wy(s2 s3:Int)(w0:List Int):Option ((List Int)):=AR (fun s:Int×Int×List Int=>G7 s.1 s.2.1 s.2.2) (s2,s3,w0)
def Yi(w0:List Int):Option (List Int):=
 AG (Wy 0 (AA .sub .i64 (w0.length:Int) 1) w0) fun o3=>
 some o3
def Ni(s10:List Int)(s14 s15 s18:Int)(s56:List Int)(s57 s58:Int)(s87:Bool)(w4:AD)(w11:X3)(w12:List X3)(w13:MP X3 Xe)(w16 w19:X3):Option ((List X3×MP X3 Xe)):=
 AE (s87) (
  AV (fit w12.length [w19].length 8) (
   some (w12++[w19],DY w13 w19 (Xe.mk w16 s18)))) (
  some (w12,w13))
def Rg(s10:List Int)(s14 s15:Int)(s56:List Int)(s57 s58:Int)(w4:AD)(w11:X3)(w12:List X3)(w13:MP X3 Xe)(w16:X3):Option ((List X3×MP X3 Xe)):=
 AU s56 s58 fun x5=>
 AG (X9 w4 w16.a x5) fun r6=>
 AG (X9 w4 w16.b x5) fun r7=>
 AE (!((BJ (Xe.mk (X3.mk 0 0) 0) w13 (X3.mk r6 r7)).2)) (
  AG (Ni s10 s14 s15 x5 s56 s57 s58 (!decide ((X3.mk r6 r7).a=(X3.mk r6 r7).b)) w4 w11 w12 w13 w16 (X3.mk r6 r7)) fun o8=>
  some (o8.1,o8.2)) (
  AG (Ni s10 s14 s15 x5 s56 s57 s58 false w4 w11 w12 w13 w16 (X3.mk r6 r7)) fun o9=>
  some (o9.1,o9.2))
def Fo(s10:List Int)(s14 s15:Int)(s56:List Int)(s57:Int)(w4:AD)(w11 w16:X3)(s58:Int)(w12:List X3)(w13:MP X3 Xe):Option ((Int×List X3×MP X3 Xe)⊕((List X3×MP X3 Xe))):=
 AE (decide (s58<s57)) (
  AG (Rg s10 s14 s15 s56 s57 s58 w4 w11 w12 w13 w16) fun o10=>
  some (.inl ((AA .add .i64 s58 1),o10.1,o10.2))) (
  some (.inr (w12,w13)))
def Tw(s10:List Int)(s14 s15:Int)(s56:List Int)(s57:Int)(w4:AD)(w11 w16:X3)(s58:Int)(w12:List X3)(w13:MP X3 Xe):Option ((List X3×MP X3 Xe)):=AR (fun s:Int×List X3×MP X3 Xe=>Fo s10 s14 s15 s56 s57 w4 w11 w16 s.1 s.2.1 s.2.2) (s58,w12,w13)
def Ev(s10:List Int)(s14:Int)(w4:AD)(w11:X3)(s15:Int)(w12:List X3)(w13:MP X3 Xe):Option ((Int×List X3×MP X3 Xe)⊕((Int×List X3×MP X3 Xe))):=
 AE (decide (s15<(w12.length:Int))) (
  AU w12 s15 fun x2=>
  AG (Y8 w4 x2.a) fun r3=>
  AG (Y8 w4 x2.b) fun r4=>
  AE (!(r3==r4)) (
   some (.inr (s15,w12,w13))) (
   AG (Tw s10 s14 s15 s10 (s10.length:Int) w4 w11 x2 0 w12 w13) fun o11=>
   some (.inl ((AA .add .i64 s15 1),o11.1,o11.2)))) (
  some (.inr (s14,w12,w13)))
def Rh(s10:List Int)(s14:Int)(w4:AD)(w11:X3)(s15:Int)(w12:List X3)(w13:MP X3 Xe):Option ((Int×List X3×MP X3 Xe)):=AR (fun s:Int×List X3×MP X3 Xe=>Ev s10 s14 w4 w11 s.1 s.2.1 s.2.2) (s15,w12,w13)
def H3(w11:X3)(w13:MP X3 Xe)(w22:List Int)(w23:X3):Option ((List Int×X3)⊕((List Int))):=
 AE (!(X3.eqb w23 w11)) (
  AV (fit w22.length [((BJ (Xe.mk (X3.mk 0 0) 0) w13 w23).1).set].length 8) (
   some (.inl (w22++[((BJ (Xe.mk (X3.mk 0 0) 0) w13 w23).1).set],((BJ (Xe.mk (X3.mk 0 0) 0) w13 w23).1).from_)))) (
  some (.inr w22))
def L5(w11:X3)(w13:MP X3 Xe)(w22:List Int)(w23:X3):Option ((List Int)):=AR (fun s:List Int×X3=>H3 w11 w13 s.1 s.2) (w22,w23)
theorem aEb(w11:X3)(w13:MP X3 Xe)(w22:List Int)(w23:X3):L5 w11 w13 w22 w23=CW (H3 w11 w13 w22 w23) (fun s:List Int×X3=>L5 w11 w13 s.1 s.2):=Ah _ _
def X7(a0:AD)(a1:List X2)(a2 a3:Int):Option (List Int×Bool):=
 AG (X4 a0 a1) fun r1=>
 AG (Rh r1 (-1) a0 (X3.mk a2 a3) 0 [X3.mk a2 a3] (DY (Ee:MP X3 Xe) (X3.mk a2 a3) (Xe.mk (X3.mk 0 0) 0))) fun o12=>
 AE (decide (o12.1<0)) (
  some (([]:List Int),false)) (
  AU o12.2.1 o12.1 fun x13=>
  AG (L5 (X3.mk a2 a3) o12.2.2 ([]:List Int) x13) fun o14=>
  AG (Yi o14) fun r15=>
  some (r15,true))
def Zm(a0:AD)(a1:List X2)(a2 a3:Int):Option (Bool):=
 AG (X7 a0 a1 a2 a3) fun r1=>
 some (!r1.2)
def Zj:Option (Bool):=
 AG (Zw (AD.mk ([113]:List UInt8) ([]:List Xl) ([]:List Yl) ([]:List Yn) ([Xg.mk ([115]:List UInt8) false true,Xg.mk ([116]:List UInt8) false true]) 0 ([]:List X5) ([]:List Yu) ([]:List Xr)) ([]:List X2)) fun r1=>
 AE (decide (r1=1)) (
  AG (Zm (AD.mk ([113]:List UInt8) ([]:List Xl) ([]:List Yl) ([]:List Yn) ([Xg.mk ([115]:List UInt8) false true,Xg.mk ([116]:List UInt8) false true]) 0 ([]:List X5) ([]:List Yu) ([]:List Xr)) ([]:List X2) 1 2) fun r2=>
  AE (r2) (
   AG (Zm (AD.mk ([113]:List UInt8) ([]:List Xl) ([]:List Yl) ([]:List Yn) ([Xg.mk ([115]:List UInt8) false true,Xg.mk ([116]:List UInt8) false true]) 0 ([]:List X5) ([]:List Yu) ([]:List Xr)) ([]:List X2) 1 0) fun r3=>
   some (!r3)) (
   some false)) (
  some false)
def Im(s0:List X0)(w3:X0)(s5:Int):Option ((Int)⊕(Int)):=
 AE (decide (0<s5)) (
  AU s0 (AA .sub .i64 s5 1) fun x1=>
  AG (Zp w3 x1) fun r2=>
  AE (r2) (
   some (.inl (AA .sub .i64 s5 1))) (
   some (.inr s5))) (
  some (.inr s5))
def aPi(s0:List X0)(w3:X0)(s5:Int):Option (Int):=AR (fun s:Int=>Im s0 w3 s) s5
def Yo(a0:List X0)(a1:X0):Option (List X0):=
 AG (aPi a0 a1 (a0.length:Int)) fun o3=>
 AE (decide (0<o3)) (
  AU a0 (AA .sub .i64 o3 1) fun x4=>
  AE ((X0.eqb x4 a1)) (
   some a0) (
   AV ((0:Int)<=0/\(0:Int)<=o3/\o3<=(a0.length:Int)) (
    AV (fit ([]:List X0).length (sub a0 0 o3).length 40) (
     AV (fit (([]:List X0)++(sub a0 0 o3)).length [a1].length 40) (
      AV ((0:Int)<=o3/\(o3:Int)<=(a0.length:Int)/\(a0.length:Int)<=(a0.length:Int)) (
       AV (fit ((([]:List X0)++(sub a0 0 o3))++[a1]).length (sub a0 o3 (a0.length:Int)).length 40) (
        some (((([]:List X0)++(sub a0 0 o3))++[a1])++(sub a0 o3 (a0.length:Int)))))))))) (
  AV ((0:Int)<=0/\(0:Int)<=o3/\o3<=(a0.length:Int)) (
   AV (fit ([]:List X0).length (sub a0 0 o3).length 40) (
    AV (fit (([]:List X0)++(sub a0 0 o3)).length [a1].length 40) (
     AV ((0:Int)<=o3/\(o3:Int)<=(a0.length:Int)/\(a0.length:Int)<=(a0.length:Int)) (
      AV (fit ((([]:List X0)++(sub a0 0 o3))++[a1]).length (sub a0 o3 (a0.length:Int)).length 40) (
       some (((([]:List X0)++(sub a0 0 o3))++[a1])++(sub a0 o3 (a0.length:Int)))))))))
def Vg(s1:Int)(s10:Bool)(w2:AD):Option ((List X0)):=
 AE (s10) (
  some ([X0.mk 3 0 ([]:List UInt8) false,X0.mk 3 0 ([]:List UInt8) true])) (
  some ([]:List X0))
def Vh(s1:Int)(s5:List X0)(s6 s7:Int)(s50:Bool)(w2:AD)(w8:Bz):Option ((List X0)):=
 AE (s50) (
  AG (Yo s5 w8.value) fun r12=>
  some r12) (
  some s5)
def aHa(s1:Int)(s5:List X0)(s6 s7:Int)(w2:AD):Option ((List X0)):=
 AU w2.symbols s6 fun x10=>
 AU x10.args s7 fun x11=>
 AE (decide (x11.kind=1)) (
  AG (Vh s1 s5 s6 s7 (decide (x11.value.kind=s1)) w2 x11) fun o13=>
  some o13) (
  AG (Vh s1 s5 s6 s7 false w2 x11) fun o14=>
  some o14)
def IY(s1 s6:Int)(w2:AD)(s5:List X0)(s7:Int):Option ((List X0×Int)⊕((List X0))):=
 AU w2.symbols s6 fun x17=>
 AE (decide (s7<(x17.args.length:Int))) (
  AG (aHa s1 s5 s6 s7 w2) fun o18=>
  some (.inl (o18,(AA .add .i64 s7 1)))) (
  some (.inr s5))
def aHd(s1 s6:Int)(w2:AD)(s5:List X0)(s7:Int):Option ((List X0)):=AR (fun s:List X0×Int=>IY s1 s6 w2 s.1 s.2) (s5,s7)
def IX(s1:Int)(w2:AD)(s5:List X0)(s6:Int):Option ((List X0×Int)⊕((List X0))):=
 AE (decide (s6<(w2.symbols.length:Int))) (
  AG (aHd s1 s6 w2 s5 0) fun o19=>
  some (.inl (o19,(AA .add .i64 s6 1)))) (
  some (.inr s5))
def aO2(s1:Int)(w2:AD)(s5:List X0)(s6:Int):Option ((List X0)):=AR (fun s:List X0×Int=>IX s1 w2 s.1 s.2) (s5,s6)
def Xv(a0:AD)(a1:Int):Option (List X0):=
 AG (Vg a1 (decide (a1=3)) a0) fun o1=>
 AG (aO2 a1 a0 o1 0) fun o20=>
 some o20
def aPk(s0:List X0)(s1:Int)(s5:List X0)(s6:Int)(s19:Bool):Option ((List X0)):=
 AE (s19) (
  AU s0 s6 fun x7=>
  AG (Yo s5 x7) fun r8=>
  some r8) (
  some s5)
def aPj(s0:List X0)(s1:Int)(s5:List X0)(s6:Int):Option ((List X0)):=
 AU s0 s6 fun x6=>
 AG (aPk s0 s1 s5 s6 (decide (x6.kind=s1))) fun o9=>
 some o9
def K1(s0:List X0)(s1:Int)(s5:List X0)(s6:Int):Option ((List X0×Int)⊕((List X0))):=
 AE (decide (s6<(s0.length:Int))) (
  AG (aPj s0 s1 s5 s6) fun o10=>
  some (.inl (o10,(AA .add .i64 s6 1)))) (
  some (.inr s5))
def aJ3(s0:List X0)(s1:Int)(s5:List X0)(s6:Int):Option ((List X0)):=AR (fun s:List X0×Int=>K1 s0 s1 s.1 s.2) (s5,s6)
theorem aJ4(s0:List X0)(s1:Int)(s5:List X0)(s6:Int):aJ3 s0 s1 s5 s6=CW (K1 s0 s1 s5 s6) (fun s:List X0×Int=>aJ3 s0 s1 s.1 s.2):=Ah _ _
def Yp(a0:List X0)(a1:Int):Option (List X0):=
 AG (aJ3 a0 a1 ([]:List X0) 0) fun o11=>
 some o11
def K3(s1 s5:List X0)(s6:Int):Option ((List X0×Int)⊕((List X0))):=
 AE (decide (s6<(s1.length:Int))) (
  AU s1 s6 fun x1=>
  AG (Yo s5 x1) fun r2=>
  some (.inl (r2,(AA .add .i64 s6 1)))) (
  some (.inr s5))
def aKt(s1 s5:List X0)(s6:Int):Option ((List X0)):=AR (fun s:List X0×Int=>K3 s1 s.1 s.2) (s5,s6)
theorem aKu(s1 s5:List X0)(s6:Int):aKt s1 s5 s6=CW (K3 s1 s5 s6) (fun s:List X0×Int=>aKt s1 s.1 s.2):=Ah _ _
def Z6(a0 a1:List X0):Option (List X0):=
 AG (aKt a1 a0 0) fun o3=>
 some o3
def Qg(a0:List X0)(a1:X0):Option (Bool):=
 AG (Yo a0 a1) fun r1=>
 some (decide ((r1.length:Int)=(a0.length:Int)))
def aI1(s0:Int)(s1:List X0)(s12:Bool)(w4 w5:X0):Option (X0):=
 AE (s12) (
  some (X0.mk w5.kind (AA .add .i64 w5.int 1) w5.str w5.bool)) (
  AV (w5.str.length+([97]:List UInt8).length<=9223372036854775807) (
   some (X0.mk w5.kind w5.int (w5.str++([97]:List UInt8)) w5.bool)))
def Wg(s0:Int)(s1:List X0)(w4 w5:X0):Option (X0):=
 AG (aI1 s0 s1 (decide (s0=1)) w4 w5) fun o2=>
 some o2
def Ih(s0:Int)(s1:List X0)(w4 w5:X0):Option ((X0)⊕(X0)):=
 AG (Qg s1 w5) fun r1=>
 AE (r1) (
  AG (Wg s0 s1 w4 w5) fun o3=>
  some (.inl o3)) (
  some (.inr w5))
def Wh(s0:Int)(s1:List X0)(w4 w5:X0):Option (X0):=AR (fun s:X0=>Ih s0 s1 w4 s) w5
theorem QF(s0:Int)(s1:List X0)(w4 w5:X0):Wh s0 s1 w4 w5=CW (Ih s0 s1 w4 w5) (fun s:X0=>Wh s0 s1 w4 s):=Ah _ _
def Yb(a0:Int)(a1:List X0):Option (X0):=
 AG (Wh a0 a1 (X0.mk 0 0 ([]:List UInt8) false) (X0.mk a0 0 ([]:List UInt8) false)) fun o4=>
 some o4
def aJl(s1:Int)(s2:List X2)(s3 s9:List X0)(s10:Int)(s27:Bool):Option ((List X0)):=
 AE (s27) (
  AU s2 s10 fun x3=>
  AG (Yo s9 x3.value) fun r4=>
  some r4) (
  some s9)
def aJj(s1:Int)(s2:List X2)(s3 s9:List X0)(s10:Int):Option ((List X0)):=
 AU s2 s10 fun x2=>
 AG (aJl s1 s2 s3 s9 s10 (decide (x2.value.kind=s1))) fun o5=>
 some o5
def Ik(s1:Int)(s2:List X2)(s3 s9:List X0)(s10:Int):Option ((List X0×Int)⊕((List X0))):=
 AE (decide (s10<(s2.length:Int))) (
  AG (aJj s1 s2 s3 s9 s10) fun o6=>
  some (.inl (o6,(AA .add .i64 s10 1)))) (
  some (.inr s9))
def aJn(s1:Int)(s2:List X2)(s3 s9:List X0)(s10:Int):Option ((List X0)):=AR (fun s:List X0×Int=>Ik s1 s2 s3 s.1 s.2) (s9,s10)
def Yj(a0:AD)(a1:Int)(a2:List X2)(a3:List X0):Option (List X0):=
 AG (Xv a0 a1) fun r1=>
 AG (aJn a1 a2 a3 r1 0) fun o7=>
 AE (decide (a1=3)) (
  some o7) (
  AG (Yp a3 a1) fun r8=>
  AG (Z6 o7 r8) fun r9=>
  AG (Yb a1 r9) fun r10=>
  AG (Yo o7 r10) fun r11=>
  some r11)
def Ij(self:AD->Int->(List X2)->(List X0)->(List X0)->Option (List Xd))(s1:Int)(s2:List X2)(s3 s4 s12:List X0)(w5:AD)(s13:Int)(w11:List Xd):Option ((Int×List Xd)⊕((List Xd))):=
 AE (decide (s13<(s12.length:Int))) (
  AV (fit ([]:List X0).length s4.length 40) (
   AU s12 s13 fun x8=>
   AV (fit (([]:List X0)++s4).length [x8].length 40) (
    AG (self w5 s1 s2 s3 ((([]:List X0)++s4)++[x8])) fun r9=>
    AV (fit w11.length r9.length 40) (
     some (.inl ((AA .add .i64 s13 1),w11++r9)))))) (
  some (.inr w11))
def aPf(self:AD->Int->(List X2)->(List X0)->(List X0)->Option (List Xd))(s1:Int)(s2:List X2)(s3 s4 s12:List X0)(w5:AD)(s13:Int)(w11:List Xd):Option ((List Xd)):=AR (fun s:Int×List Xd=>Ij self s1 s2 s3 s4 s12 w5 s.1 s.2) (s13,w11)
def aS0(self:AD->Int->(List X2)->(List X0)->(List X0)->Option (List Xd))(a0:AD)(a1:Int)(a2:List X2)(a3 a4:List X0):Option (List Xd):=
 AU a0.decls a1 fun x1=>
 AE (decide ((a4.length:Int)=(x1.types.length:Int))) (
  AU a0.decls a1 fun x2=>
  some [Xd.mk x2.name a4]) (
  AU a0.decls a1 fun x3=>
  AU x3.types (a4.length:Int) fun x4=>
  AG (Yj a0 x4 a2 a3) fun r5=>
  AG (aPf self a1 a2 a3 a4 r5 a0 0 ([]:List Xd)) fun o10=>
  some o10)
def aNc:Nat->AD->Int->(List X2)->(List X0)->(List X0)->Option (List Xd)
 |0=>fun _ _ _ _ _=>none
 |n+1=>fun a0 a1 a2 a3 a4=>aS0 (aNc n) a0 a1 a2 a3 a4
def Ye(a0:AD)(a1:Int)(a2:List X2)(a3 a4:List X0):Option (List Xd):=aNc 100000 a0 a1 a2 a3 a4
def K2(s0:List X2)(s1:Int)(w4:X0)(s6:Int):Option ((Int)⊕(Unit⊕X0)):=
 AE (decide (s6<(s0.length:Int))) (
  AU s0 s6 fun x1=>
  AE (decide (x1.var=s1)) (
   AU s0 s6 fun x2=>
   some (.inr (.inr x2.value))) (
   some (.inl (AA .add .i64 s6 1)))) (
  some (.inr (.inl ())))
def aPl(s0:List X2)(s1:Int)(w4:X0)(s6:Int):Option (Unit⊕X0):=AR (fun s:Int=>K2 s0 s1 w4 s) s6
def Yq(a0:List X2)(a1:Int):Option (X0×Bool):=
 AG (aPl a0 a1 (X0.mk 0 0 ([]:List UInt8) false) 0) fun o3=>
 Cd o3 (fun o4=>
  some (X0.mk 0 0 ([]:List UInt8) false,false)) (fun o5=>
  some (o5,true))
def K5(s0 s1:List X2)(s5:Int):Option ((Int)⊕(Unit⊕Unit)):=
 AE (decide (s5<(s0.length:Int))) (
  AU s0 s5 fun x1=>
  AG (Yq s1 x1.var) fun r2=>
  AE (r2.2) (
   AU s0 s5 fun x3=>
   AE (!(X0.eqb r2.1 x3.value)) (
    some (.inr (.inr ()))) (
    some (.inl (AA .add .i64 s5 1)))) (
   some (.inl (AA .add .i64 s5 1)))) (
  some (.inr (.inl ())))
def aPw(s0 s1:List X2)(s5:Int):Option (Unit⊕Unit):=AR (fun s:Int=>K5 s0 s1 s) s5
def Zc(a0 a1:List X2):Option (Bool):=
 AG (aPw a0 a1 0) fun o4=>
 Cd o4 (fun o5=>
  some true) (fun o6=>
  some false)
def aIx(s0 s1:List X2)(s6:Int)(s34:Bool)(w5:List X2)(w9:X0):Option ((List X2)):=
 AE (s34) (
  AV (fit w5.length [X2.mk s6 w9].length 48) (
   some (w5++[X2.mk s6 w9]))) (
  some w5)
def aIv(s0 s1:List X2)(s6:Int)(s10 s27:Bool)(w5:List X2)(w7 w9:X0):Option ((List X2)):=
 AE (s27) (
  AV (fit w5.length [X2.mk s6 w7].length 48) (
   some (w5++[X2.mk s6 w7]))) (
  AG (aIx s0 s1 s6 s10 w5 w9) fun o8=>
  some o8)
def aIt(s0 s1:List X2)(s6:Int)(w5:List X2):Option ((List X2)):=
 AG (Yq s0 s6) fun r6=>
 AG (Yq s1 s6) fun r7=>
 AG (aIv s0 s1 s6 r7.2 r6.2 w5 r6.1 r7.1) fun o9=>
 some o9
def Ig(s0 s1:List X2)(s6:Int)(w5:List X2):Option ((Int×List X2)⊕((List X2))):=
 AE (decide (s6<8)) (
  AG (aIt s0 s1 s6 w5) fun o10=>
  some (.inl ((AA .add .i64 s6 1),o10))) (
  some (.inr w5))
def aPd(s0 s1:List X2)(s6:Int)(w5:List X2):Option ((List X2)):=AR (fun s:Int×List X2=>Ig s0 s1 s.1 s.2) (s6,w5)
def Ya(a0 a1:List X2):Option (List X2):=
 AG (aPd a0 a1 0 ([]:List X2)) fun o11=>
 some o11
def Iv(s0:List X2)(w3:X2)(s5:Int):Option ((Int)⊕(Int)):=
 AE (decide (0<s5)) (
  AU s0 (AA .sub .i64 s5 1) fun x1=>
  AE (decide (w3.var<x1.var)) (
   some (.inl (AA .sub .i64 s5 1))) (
   some (.inr s5))) (
  some (.inr s5))
def aPt(s0:List X2)(w3:X2)(s5:Int):Option (Int):=AR (fun s:Int=>Iv s0 w3 s) s5
def Z7(a0:List X2)(a1:X2):Option (List X2):=
 AG (aPt a0 a1 (a0.length:Int)) fun o2=>
 AV ((0:Int)<=0/\(0:Int)<=o2/\o2<=(a0.length:Int)) (
  AV (fit ([]:List X2).length (sub a0 0 o2).length 48) (
   AV (fit (([]:List X2)++(sub a0 0 o2)).length [a1].length 48) (
    AV ((0:Int)<=o2/\(o2:Int)<=(a0.length:Int)/\(a0.length:Int)<=(a0.length:Int)) (
     AV (fit ((([]:List X2)++(sub a0 0 o2))++[a1]).length (sub a0 o2 (a0.length:Int)).length 48) (
      some (((([]:List X2)++(sub a0 0 o2))++[a1])++(sub a0 o2 (a0.length:Int))))))))
def Vo(s1:Int)(s10 s11:List X2)(s12:Int)(s80:Bool)(w5:Xd)(w6:Int)(w8:X5)(w9:Ap)(w13:Bz)(w14:List X2):Option ((List X2)⊕Unit):=
 AE (s80) (
  AG (Zc s10 w14) fun r32=>
  AE (!r32) (
   some (.inr ())) (
   AG (Ya s10 w14) fun r33=>
   some (.inl r33))) (
  some (.inl s10))
def Vq(s1:Int)(s10 s11:List X2)(s12:Int)(s111:Bool)(w5:Xd)(w6:Int)(w8:X5)(w9:Ap)(w14:List X2):Option ((List X2)):=
 AE (s111) (
  AU w14 0 fun x39=>
  AG (Z7 s11 x39) fun r40=>
  some r40) (
  some s11)
def Vp(s1:Int)(s10 s11:List X2)(s12:Int)(s91:Bool)(w5:Xd)(w6:Int)(w8:X5)(w9:Ap)(w13:Bz)(w14:List X2):Option ((List X2)⊕Unit):=
 AE (s91) (
  AG (Yq s11 w13.n) fun r37=>
  AE (r37.2) (
   AU w5.args s12 fun x38=>
   AE (!(X0.eqb r37.1 x38)) (
    some (.inr ())) (
    AG (Vq s1 s10 s11 s12 (!r37.2) w5 w6 w8 w9 w14) fun o41=>
    some (.inl o41))) (
   AG (Vq s1 s10 s11 s12 (!r37.2) w5 w6 w8 w9 w14) fun o42=>
   some (.inl o42))) (
  some (.inl s11))
def aHh(s1:Int)(s10 s11:List X2)(s12:Int)(w5:Xd)(w6:Int)(w8:X5)(w9:Ap):Option ((List X2×List X2)⊕Unit):=
 AU w8.args s12 fun x29=>
 AU w5.args s12 fun x30=>
 AE (decide (x29.kind=1)) (
  AU w5.args s12 fun x31=>
  AE (!(X0.eqb x29.value x31)) (
   some (.inr ())) (
   AG (Vo s1 s10 s11 s12 (decide (x29.kind=2)) w5 w6 w8 w9 x29 [X2.mk x29.n x30]) fun o34=>
   Cd o34 (fun o35=>
    AG (Vp s1 o35 s11 s12 (decide (x29.kind=3)) w5 w6 w8 w9 x29 [X2.mk x29.n x30]) fun o43=>
    Cd o43 (fun o44=>
     some (.inl (o35,o44))) (fun o45=>
     some (.inr ()))) (fun o36=>
    some (.inr ())))) (
  AG (Vo s1 s10 s11 s12 (decide (x29.kind=2)) w5 w6 w8 w9 x29 [X2.mk x29.n x30]) fun o46=>
  Cd o46 (fun o47=>
   AG (Vp s1 o47 s11 s12 (decide (x29.kind=3)) w5 w6 w8 w9 x29 [X2.mk x29.n x30]) fun o49=>
   Cd o49 (fun o50=>
    some (.inl (o47,o50))) (fun o51=>
    some (.inr ()))) (fun o48=>
   some (.inr ())))
def IZ(s1:Int)(w5:Xd)(w6:Int)(w8:X5)(w9:Ap)(s10 s11:List X2)(s12:Int):Option ((List X2×List X2×Int)⊕((List X2×List X2)⊕Unit)):=
 AE (decide (s12<(w8.args.length:Int))) (
  AG (aHh s1 s10 s11 s12 w5 w6 w8 w9) fun o52=>
  Cd o52 (fun o53=>
   some (.inl (o53.1,o53.2,(AA .add .i64 s12 1)))) (fun o54=>
   some (.inr (.inr ())))) (
  some (.inr (.inl (s10,s11))))
def SD(s1:Int)(w5:Xd)(w6:Int)(w8:X5)(w9:Ap)(s10 s11:List X2)(s12:Int):Option ((List X2×List X2)⊕Unit):=AR (fun s:List X2×List X2×Int=>IZ s1 w5 w6 w8 w9 s.1 s.2.1 s.2.2) (s10,s11,s12)
theorem P7(s1:Int)(w5:Xd)(w6:Int)(w8:X5)(w9:Ap)(s10 s11:List X2)(s12:Int):SD s1 w5 w6 w8 w9 s10 s11 s12=CW (IZ s1 w5 w6 w8 w9 s10 s11 s12) (fun s:List X2×List X2×Int=>SD s1 w5 w6 w8 w9 s.1 s.2.1 s.2.2):=Ah _ _
def Xx(a0:AD)(a1:Int)(a2:Xd):Option (Ap×Bool):=
 AU a0.symbols a1 fun x1=>
 AU a0.decls x1.event fun x2=>
 AE (!decide (x2.name=a2.name)) (
  some (Ap.mk 0 ([]:List X2) ([]:List X2),false)) (
  AE (!decide ((x1.args.length:Int)=(a2.args.length:Int))) (
   some (Ap.mk 0 ([]:List X2) ([]:List X2),false)) (
   AG (SD a1 a2 0 x1 (Ap.mk 0 ([]:List X2) ([]:List X2)) ([]:List X2) ([]:List X2) 0) fun o55=>
   Cd o55 (fun o56=>
    some (Ap.mk a1 o56.1 o56.2,true)) (fun o57=>
    some ((Ap.mk 0 ([]:List X2) ([]:List X2)),false))))
def aJr(s6:Int)(s23:Bool)(w2:AD)(w3:Xd)(w5:List Ap)(w7:Ap):Option ((List Ap)):=
 AE (s23) (
  AV (fit w5.length [w7].length 56) (
   some (w5++[w7]))) (
  some w5)
def aJp(s6:Int)(w2:AD)(w3:Xd)(w5:List Ap):Option ((List Ap)):=
 AG (Xx w2 s6 w3) fun r4=>
 AG (aJr s6 r4.2 w2 w3 w5 r4.1) fun o5=>
 some o5
def Il(w2:AD)(w3:Xd)(s6:Int)(w5:List Ap):Option ((Int×List Ap)⊕((List Ap))):=
 AE (decide (s6<(w2.symbols.length:Int))) (
  AG (aJp s6 w2 w3 w5) fun o6=>
  some (.inl ((AA .add .i64 s6 1),o6))) (
  some (.inr w5))
def aPg(w2:AD)(w3:Xd)(s6:Int)(w5:List Ap):Option ((List Ap)):=AR (fun s:Int×List Ap=>Il w2 w3 s.1 s.2) (s6,w5)
def Yk(a0:AD)(a1:Xd):Option (List Ap):=
 AG (aPg a0 a1 0 ([]:List Ap)) fun o7=>
 some o7
def K6(s0 s1:List X2)(s5:Int):Option ((Int)⊕(Unit⊕Unit)):=
 AE (decide (s5<(s0.length:Int))) (
  AU s0 s5 fun x1=>
  AG (Yq s1 x1.var) fun r2=>
  AE (!r2.2) (
   some (.inr (.inr ()))) (
   AU s0 s5 fun x3=>
   AE (!(X0.eqb r2.1 x3.value)) (
    some (.inr (.inr ()))) (
    some (.inl (AA .add .i64 s5 1))))) (
  some (.inr (.inl ())))
def aPx(s0 s1:List X2)(s5:Int):Option (Unit⊕Unit):=AR (fun s:Int=>K6 s0 s1 s) s5
def Zd(a0 a1:List X2):Option (Bool):=
 AG (aPx a0 a1 0) fun o4=>
 Cd o4 (fun o5=>
  some true) (fun o6=>
  some false)
def aJw(s0:List Ap)(s1:List X2)(s6:Int)(s19:Bool)(w5:List Ap):Option ((List Ap)):=
 AE (s19) (
  AU s0 s6 fun x8=>
  AV (fit w5.length [x8].length 56) (
   some (w5++[x8]))) (
  some w5)
def aJu(s0:List Ap)(s1:List X2)(s6:Int)(w5:List Ap):Option ((List Ap)):=
 AU s0 s6 fun x6=>
 AG (Zd x6.bind s1) fun r7=>
 AG (aJw s0 s1 s6 r7 w5) fun o9=>
 some o9
def K0(s0:List Ap)(s1:List X2)(s6:Int)(w5:List Ap):Option ((Int×List Ap)⊕((List Ap))):=
 AE (decide (s6<(s0.length:Int))) (
  AG (aJu s0 s1 s6 w5) fun o10=>
  some (.inl ((AA .add .i64 s6 1),o10))) (
  some (.inr w5))
def aPh(s0:List Ap)(s1:List X2)(s6:Int)(w5:List Ap):Option ((List Ap)):=AR (fun s:Int×List Ap=>K0 s0 s1 s.1 s.2) (s6,w5)
def Ym(a0:List Ap)(a1:List X2):Option (List Ap):=
 AG (aPh a0 a1 0 ([]:List Ap)) fun o11=>
 some o11
def Iw(s0:List Ap)(s3 s4:Int):Option ((Int×Int)⊕(Int)):=
 AE (decide (s4<(s0.length:Int))) (
  AU s0 s4 fun x1=>
  AV (0<=(IntKind.wrap .u64 x1.symbol)) (
   some (.inl ((AA .add .u64 s3 (AA .shl .u64 1 (IntKind.wrap .u64 x1.symbol))),(AA .add .i64 s4 1))))) (
  some (.inr s3))
def aPu(s0:List Ap)(s3 s4:Int):Option (Int):=AR (fun s:Int×Int=>Iw s0 s.1 s.2) (s3,s4)
def Z8(a0:List Ap):Option (Int):=
 AG (aPu a0 0 0) fun o2=>
 some o2
def Ir(s0:List Int)(s1 s5:Int):Option ((Int)⊕(Int)):=
 AE (decide (0<s5)) (
  AU s0 (AA .sub .i64 s5 1) fun x1=>
  AE (decide (s1<x1)) (
   some (.inl (AA .sub .i64 s5 1))) (
   some (.inr s5))) (
  some (.inr s5))
def XV(s0:List Int)(s1 s5:Int):Option (Int):=AR (fun s:Int=>Ir s0 s1 s) s5
theorem QH(s0:List Int)(s1 s5:Int):XV s0 s1 s5=CW (Ir s0 s1 s5) (fun s:Int=>XV s0 s1 s):=Ah _ _
def Yz(a0:List Int)(a1:Int):Option (List Int):=
 AG (XV a0 a1 (a0.length:Int)) fun o2=>
 AE (decide (0<o2)) (
  AU a0 (AA .sub .i64 o2 1) fun x3=>
  AE (decide (x3=a1)) (
   some a0) (
   AV ((0:Int)<=0/\(0:Int)<=o2/\o2<=(a0.length:Int)) (
    AV (fit ([]:List Int).length (sub a0 0 o2).length 8) (
     AV (fit (([]:List Int)++(sub a0 0 o2)).length [a1].length 8) (
      AV ((0:Int)<=o2/\(o2:Int)<=(a0.length:Int)/\(a0.length:Int)<=(a0.length:Int)) (
       AV (fit ((([]:List Int)++(sub a0 0 o2))++[a1]).length (sub a0 o2 (a0.length:Int)).length 8) (
        some (((([]:List Int)++(sub a0 0 o2))++[a1])++(sub a0 o2 (a0.length:Int)))))))))) (
  AV ((0:Int)<=0/\(0:Int)<=o2/\o2<=(a0.length:Int)) (
   AV (fit ([]:List Int).length (sub a0 0 o2).length 8) (
    AV (fit (([]:List Int)++(sub a0 0 o2)).length [a1].length 8) (
     AV ((0:Int)<=o2/\(o2:Int)<=(a0.length:Int)/\(a0.length:Int)<=(a0.length:Int)) (
      AV (fit ((([]:List Int)++(sub a0 0 o2))++[a1]).length (sub a0 o2 (a0.length:Int)).length 8) (
       some (((([]:List Int)++(sub a0 0 o2))++[a1])++(sub a0 o2 (a0.length:Int)))))))))
def SE(s1:List X2)(s5:List Int)(s6:Int)(s7:List Xd)(s8 s9:Int)(s37:Bool)(w2:AD):Option ((List Int)):=
 AE (s37) (
  AG (Yz s5 s9) fun r13=>
  some r13) (
  some s5)
def aHk(s1:List X2)(s5:List Int)(s6:Int)(s7:List Xd)(s8:Int)(w2:AD):Option ((List Int)):=
 AU s7 s8 fun x9=>
 AG (Yk w2 x9) fun r10=>
 AG (Ym r10 s1) fun r11=>
 AG (Z8 r11) fun r12=>
 AG (SE s1 s5 s6 s7 s8 r12 (!decide (r12=0)) w2) fun o14=>
 some o14
def Gx(s1:List X2)(s6:Int)(s7:List Xd)(w2:AD)(s5:List Int)(s8:Int):Option ((List Int×Int)⊕((List Int))):=
 AE (decide (s8<(s7.length:Int))) (
  AG (aHk s1 s5 s6 s7 s8 w2) fun o18=>
  some (.inl (o18,(AA .add .i64 s8 1)))) (
  some (.inr s5))
def aO4(s1:List X2)(s6:Int)(s7:List Xd)(w2:AD)(s5:List Int)(s8:Int):Option ((List Int)):=AR (fun s:List Int×Int=>Gx s1 s6 s7 w2 s.1 s.2) (s5,s8)
def Ia(s1:List X2)(w2:AD)(s5:List Int)(s6:Int):Option ((List Int×Int)⊕((List Int))):=
 AE (decide (s6<(w2.decls.length:Int))) (
  AG (Ye w2 s6 s1 ([]:List X0) ([]:List X0)) fun r17=>
  AG (aO4 s1 s6 r17 w2 s5 0) fun o19=>
  some (.inl (o19,(AA .add .i64 s6 1)))) (
  some (.inr s5))
def aO3(s1:List X2)(w2:AD)(s5:List Int)(s6:Int):Option ((List Int)):=AR (fun s:List Int×Int=>Ia s1 w2 s.1 s.2) (s5,s6)
def Xy(a0:AD)(a1:List X2):Option (List Int):=
 AG (aO3 a1 a0 ([]:List Int) 0) fun o20=>
 some o20
def In(s1:Int)(w2:AD)(s5:Int):Option ((Int)⊕(Unit⊕Unit)):=
 AE (decide (s5<(w2.states.length:Int))) (
  AV (0<=(IntKind.wrap .u64 s5)) (
   AE (decide ((AA .rem .u32 (AA .shr .u32 s1 (IntKind.wrap .u64 s5)) 2)=1)) (
    AU w2.states s5 fun x1=>
    AE (x1.accept) (
     some (.inr (.inr ()))) (
     some (.inl (AA .add .i64 s5 1)))) (
    some (.inl (AA .add .i64 s5 1))))) (
  some (.inr (.inl ())))
def aPm(s1:Int)(w2:AD)(s5:Int):Option (Unit⊕Unit):=AR (fun s:Int=>In s1 w2 s) s5
def Yr(a0:AD)(a1:Int):Option (Bool):=
 AG (aPm a1 a0 0) fun o2=>
 Cd o2 (fun o3=>
  some false) (fun o4=>
  some true)
def VF(s1 s2:Int)(s7 s8:Int)(s9 s10:Int)(s49:Bool)(w3:AD)(w11:Xr):Option (Int):=
 AE (s49) (
  AV (0<=(IntKind.wrap .u64 w11.to)) (
   some (AA .or .u32 s9 (AA .shl .u32 1 (IntKind.wrap .u64 w11.to))))) (
  some s9)
def aGi(s1 s2:Int)(s7 s8:Int)(s9 s10:Int)(w3:AD):Option (Int):=
 AU w3.trans s10 fun x1=>
 AE (decide (x1.from_=s8)) (
  AV (0<=(IntKind.wrap .u64 x1.symbol)) (
   AG (VF s1 s2 s7 s8 s9 s10 (decide ((AA .rem .u64 (AA .shr .u64 s2 (IntKind.wrap .u64 x1.symbol)) 2)=1)) w3 x1) fun o2=>
   some o2)) (
  AG (VF s1 s2 s7 s8 s9 s10 false w3 x1) fun o3=>
  some o3)
def IO(s1 s2:Int)(s7 s8:Int)(w3:AD)(s9 s10:Int):Option ((Int×Int)⊕(Int)):=
 AE (decide (s10<(w3.trans.length:Int))) (
  AG (aGi s1 s2 s7 s8 s9 s10 w3) fun o4=>
  some (.inl (o4,(AA .add .i64 s10 1)))) (
  some (.inr s9))
def aGl(s1 s2:Int)(s7 s8:Int)(w3:AD)(s9 s10:Int):Option (Int):=AR (fun s:Int×Int=>IO s1 s2 s7 s8 w3 s.1 s.2) (s9,s10)
def OH(s1 s2:Int)(s7 s8 s9:Int)(s66:Bool)(w3:AD):Option (Int):=
 AE (s66) (
  AV (0<=(IntKind.wrap .u64 s8)) (
   some (AA .shl .u32 1 (IntKind.wrap .u64 s8)))) (
  some s9)
def aGg(s1 s2:Int)(s7 s8:Int)(w3:AD):Option (Int):=
 AV (0<=(IntKind.wrap .u64 s8)) (
  AE (decide ((AA .rem .u32 (AA .shr .u32 s1 (IntKind.wrap .u64 s8)) 2)=0)) (
   some s7) (
   AG (aGl s1 s2 s7 s8 w3 0 0) fun o5=>
   AE (decide (o5=0)) (
    AU w3.states s8 fun x6=>
    AG (OH s1 s2 s7 s8 o5 (!x6.next) w3) fun o7=>
    some (AA .or .u32 s7 o7)) (
    AG (OH s1 s2 s7 s8 o5 false w3) fun o8=>
    some (AA .or .u32 s7 o8))))
def Gu(s1 s2:Int)(w3:AD)(s7 s8:Int):Option ((Int×Int)⊕(Int)):=
 AE (decide (s8<(w3.states.length:Int))) (
  AG (aGg s1 s2 s7 s8 w3) fun o9=>
  some (.inl (o9,(AA .add .i64 s8 1)))) (
  some (.inr s7))
def aO0(s1 s2:Int)(w3:AD)(s7 s8:Int):Option (Int):=AR (fun s:Int×Int=>Gu s1 s2 w3 s.1 s.2) (s7,s8)
def Xn(a0:AD)(a1 a2:Int):Option (Int):=
 AG (aO0 a1 a2 a0 0 0) fun o10=>
 some o10
def I2(s0:List Xk)(w3:Xk)(s5:Int):Option ((Int)⊕(Unit⊕Unit)):=
 AE (decide (s5<(s0.length:Int))) (
  AU s0 s5 fun x1=>
  AE ((Xk.eqb x1 w3)) (
   some (.inr (.inr ()))) (
   some (.inl (AA .add .i64 s5 1)))) (
  some (.inr (.inl ())))
def aP1(s0:List Xk)(w3:Xk)(s5:Int):Option (Unit⊕Unit):=AR (fun s:Int=>I2 s0 w3 s) s5
def Zh(a0:List Xk)(a1:Xk):Option (Bool):=
 AG (aP1 a0 a1 0) fun o2=>
 Cd o2 (fun o3=>
  some false) (fun o4=>
  some true)
def WC(s9:List Int)(s11 s12:Int)(s81:Bool)(w4:AD)(w10:List Xk)(w13:Xk):Option ((List Xk)):=
 AE (s81) (
  AV (fit w10.length [w13].length 8) (
   some (w10++[w13]))) (
  some w10)
def aH3(s9:List Int)(s11 s12:Int)(w4:AD)(w10:List Xk):Option ((List Xk)):=
 AU w10 s11 fun x6=>
 AU s9 s12 fun x7=>
 AG (Xn w4 x6.a x7) fun r8=>
 AU w10 s11 fun x9=>
 AU s9 s12 fun x10=>
 AG (Xn w4 x9.b x10) fun r11=>
 AE (!decide ((Xk.mk r8 r11).a=(Xk.mk r8 r11).b)) (
  AG (Zh w10 (Xk.mk r8 r11)) fun r12=>
  AG (WC s9 s11 s12 (!r12) w4 w10 (Xk.mk r8 r11)) fun o13=>
  some o13) (
  AG (WC s9 s11 s12 false w4 w10 (Xk.mk r8 r11)) fun o14=>
  some o14)
def Id(s9:List Int)(s11:Int)(w4:AD)(s12:Int)(w10:List Xk):Option ((Int×List Xk)⊕((List Xk))):=
 AE (decide (s12<(s9.length:Int))) (
  AG (aH3 s9 s11 s12 w4 w10) fun o15=>
  some (.inl ((AA .add .i64 s12 1),o15))) (
  some (.inr w10))
def aO7(s9:List Int)(s11:Int)(w4:AD)(s12:Int)(w10:List Xk):Option ((List Xk)):=AR (fun s:Int×List Xk=>Id s9 s11 w4 s.1 s.2) (s12,w10)
def G0(s9:List Int)(w4:AD)(s11:Int)(w10:List Xk):Option ((Int×List Xk)⊕(Unit⊕Unit)):=
 AE (decide (s11<(w10.length:Int))) (
  AU w10 s11 fun x2=>
  AG (Yr w4 x2.a) fun r3=>
  AU w10 s11 fun x4=>
  AG (Yr w4 x4.b) fun r5=>
  AE (!(r3==r5)) (
   some (.inr (.inr ()))) (
   AG (aO7 s9 s11 w4 0 w10) fun o16=>
   some (.inl ((AA .add .i64 s11 1),o16)))) (
  some (.inr (.inl ())))
def aO6(s9:List Int)(w4:AD)(s11:Int)(w10:List Xk):Option (Unit⊕Unit):=AR (fun s:Int×List Xk=>G0 s9 w4 s.1 s.2) (s11,w10)
def Y3(a0:AD)(a1:List X2)(a2 a3:Int):Option (Bool):=
 AG (Xy a0 a1) fun r1=>
 AG (aO6 r1 a0 0 [Xk.mk a2 a3]) fun o17=>
 Cd o17 (fun o18=>
  some true) (fun o19=>
  some false)
def Ic(s2 s3:Int)(s10 s12:List Int)(s13:Int)(w4:AD)(s14:Bool)(s15:Int):Option ((Bool×Int)⊕(Bool)):=
 AE (decide (s15<(s12.length:Int))) (
  AE (s14) (
   some (.inl (true,(AA .add .i64 s15 1)))) (
   AU s12 s15 fun x10=>
   AU s10 s13 fun x11=>
   some (.inl (decide (x10=x11),(AA .add .i64 s15 1))))) (
  some (.inr s14))
def aO5(s2 s3:Int)(s10 s12:List Int)(s13:Int)(w4:AD)(s14:Bool)(s15:Int):Option (Bool):=AR (fun s:Bool×Int=>Ic s2 s3 s10 s12 s13 w4 s.1 s.2) (s14,s15)
def Ib(s10 s12:List Int)(w4:AD)(s2 s3 s13:Int):Option ((Int×Int×Int)⊕((Int×Int)⊕Unit)):=
 AE (decide (s13<(s10.length:Int))) (
  AG (aO5 s2 s3 s10 s12 s13 w4 false 0) fun o12=>
  AE (!o12) (
   some (.inr (.inr ()))) (
   AG (Yr w4 s2) fun r13=>
   AG (Yr w4 s3) fun r14=>
   AE (!(r13==r14)) (
    some (.inr (.inr ()))) (
    AU s10 s13 fun x15=>
    AG (Xn w4 s2 x15) fun r16=>
    AU s10 s13 fun x17=>
    AG (Xn w4 s3 x17) fun r18=>
    some (.inl (r16,r18,(AA .add .i64 s13 1)))))) (
  some (.inr (.inl (s2,s3))))
def SJ(s10 s12:List Int)(w4:AD)(s2 s3 s13:Int):Option ((Int×Int)⊕Unit):=AR (fun s:Int×Int×Int=>Ib s10 s12 w4 s.1 s.2.1 s.2.2) (s2,s3,s13)
theorem P9(s10 s12:List Int)(w4:AD)(s2 s3 s13:Int):SJ s10 s12 w4 s2 s3 s13=CW (Ib s10 s12 w4 s2 s3 s13) (fun s:Int×Int×Int=>SJ s10 s12 w4 s.1 s.2.1 s.2.2):=Ah _ _
def Y1(a0:AD)(a1:List X2)(a2 a3:Int):Option (Bool):=
 AG (Zg a0 a1) fun r1=>
 AE (!r1) (
  AG (Zj) fun r2=>
  some r2) (
  AV (0<=(IntKind.wrap .u64 (a0.states.length:Int))) (
   AE (decide ((AA .shl .u32 1 (IntKind.wrap .u64 (a0.states.length:Int)))<=a2)) (
    AG (Zj) fun r3=>
    some r3) (
    AV (0<=(IntKind.wrap .u64 (a0.states.length:Int))) (
     AE (decide ((AA .shl .u32 1 (IntKind.wrap .u64 (a0.states.length:Int)))<=a3)) (
      AG (Zj) fun r4=>
      some r4) (
      AG (Y3 a0 a1 a2 a3) fun r5=>
      AG (X7 a0 a1 a2 a3) fun r6=>
      AE ((r6.2==r5)) (
       some false) (
       AG (Zm a0 a1 a2 a3) fun r7=>
       AE (!(r7==r5)) (
        some false) (
        AE (r5) (
         AE (decide ((r6.1.length:Int)=0)) (
          AG (Zj) fun r8=>
          some r8) (
          some false)) (
         AG (Xy a0 a1) fun r9=>
         AG (SJ r6.1 r9 a0 a2 a3 0) fun o19=>
         Cd o19 (fun o20=>
          AG (Yr a0 o20.1) fun r22=>
          AG (Yr a0 o20.2) fun r23=>
          AE (!(r22==r23)) (
           AG (Zj) fun r24=>
           some r24) (
           some false)) (fun o21=>
          some false)))))))))
end
end Go.Ac
