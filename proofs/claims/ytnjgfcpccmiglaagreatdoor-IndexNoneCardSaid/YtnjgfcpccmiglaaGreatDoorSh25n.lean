/- Own work, printed: the functions as Lean functions. -/
import Derived.Test.YtnjgfcpccmiglaaGreatDoorAcC
set_option linter.unusedVariables false
set_option linter.unusedSimpArgs false
namespace Go.Ac
noncomputable section
abbrev aHk(P:Program)(rd:Option Nat)(root:Code)(p:List Nat)(s:St)(x:Ex×St):Prop:=Dz P rd root p s x.1 x.2
abbrev dI(x:Int):A:=.d (D.i .i64 x)
abbrev sI(n:Nat)(x:Int):Nat×A:=(n,dI x)
abbrev sD{α:Type}(n:Nat)(f:α->D)(x:α):Nat×A:=(n,.d (f x))
abbrev bx(n:Nat):Nat×A:=(n,.box n 0)
abbrev rx(n:Nat):Nat×A:=(n,.row n)
abbrev cL{α:Type}(n:Nat)(f:α->D)(x:α):Nat×Bk:=(n,.cells (Ao (f x)))
abbrev rW{α:Type}(n e k:Nat)(f:α->D)(x:List α):Nat×Bk:=(n,.rw e k (x.map f))
abbrev eP{α:Type}(n:Nat)(f:α->D)(x:α):Nat×A:=(n,.eptr (D.cells (f x)))
abbrev dU:Int->D:=D.i .u64
abbrev dW:Int->D:=D.i .u32
abbrev dZ:Int->D:=D.i .i64
abbrev bT(n:Nat):Nat×W:=(n,.bit true)
abbrev bF(n:Nat):Nat×W:=(n,.bit false)
structure X9 where
 name:List UInt8
 types:List Int
 deriving DecidableEq
def X9.D(v:X9):D:=.agg ([D.s v.name]++[(D.l (D.i .i64)) v.types])
instance :Bp X9.D 2:=⟨fun _=>rfl⟩
structure Xc where
 all:Bool
 name:List UInt8
 type:Int
def Xc.D(v:Xc):D:=.agg ([D.b v.all]++[D.s v.name]++[(D.i .i64) v.type])
instance :Bp Xc.D 3:=⟨fun _=>rfl⟩
def Xc.eqb(a b:Xc):Bool:=((a.all==b.all)&&(decide (a.name=b.name)&&(decide (a.type=b.type)&&true)))
theorem Xc.eqb_iff(a b:Xc):Xc.eqb a b=true↔a=b:=by cases a;cases b;simp[Xc.eqb]
instance :DecidableEq Xc:=fun a b=>decidable_of_iff (Xc.eqb a b=true) (Xc.eqb_iff a b)
structure X4 where
 kind:Int
 int:Int
 str:List UInt8
 bool:Bool
def X4.D(v:X4):D:=.agg ([(D.i .i64) v.kind]++[(D.i .i64) v.int]++[D.s v.str]++[D.b v.bool])
instance :Bp X4.D 4:=⟨fun _=>rfl⟩
def X4.eqb(a b:X4):Bool:=(decide (a.kind=b.kind)&&(decide (a.int=b.int)&&(decide (a.str=b.str)&&((a.bool==b.bool)&&true))))
theorem X4.eqb_iff(a b:X4):X4.eqb a b=true↔a=b:=by cases a;cases b;simp[X4.eqb]
instance :DecidableEq X4:=fun a b=>decidable_of_iff (X4.eqb a b=true) (X4.eqb_iff a b)
structure Xf where
 name:List UInt8
 init_:X4
def Xf.D(v:Xf):D:=.agg ([D.s v.name]++(X4.D v.init_).cells)
instance :Bp Xf.D 5:=⟨fun _=>rfl⟩
def Xf.eqb(a b:Xf):Bool:=(decide (a.name=b.name)&&(X4.eqb a.init_ b.init_&&true))
theorem Xf.eqb_iff(a b:Xf):Xf.eqb a b=true↔a=b:=by cases a;cases b;simp[Xf.eqb,X4.eqb_iff]
instance :DecidableEq Xf:=fun a b=>decidable_of_iff (Xf.eqb a b=true) (Xf.eqb_iff a b)
structure Xv where
 name:List UInt8
 next:Bool
 accept:Bool
def Xv.D(v:Xv):D:=.agg ([D.s v.name]++[D.b v.next]++[D.b v.accept])
instance :Bp Xv.D 3:=⟨fun _=>rfl⟩
def Xv.eqb(a b:Xv):Bool:=(decide (a.name=b.name)&&((a.next==b.next)&&((a.accept==b.accept)&&true)))
theorem Xv.eqb_iff(a b:Xv):Xv.eqb a b=true↔a=b:=by cases a;cases b;simp[Xv.eqb]
instance :DecidableEq Xv:=fun a b=>decidable_of_iff (Xv.eqb a b=true) (Xv.eqb_iff a b)
structure AT where
 kind:Int
 n:Int
 value:X4
def AT.D(v:AT):D:=.agg ([(D.i .i64) v.kind]++[(D.i .i64) v.n]++(X4.D v.value).cells)
instance :Bp AT.D 6:=⟨fun _=>rfl⟩
def AT.eqb(a b:AT):Bool:=(decide (a.kind=b.kind)&&(decide (a.n=b.n)&&(X4.eqb a.value b.value&&true)))
theorem AT.eqb_iff(a b:AT):AT.eqb a b=true↔a=b:=by cases a;cases b;simp[AT.eqb,X4.eqb_iff]
instance :DecidableEq AT:=fun a b=>decidable_of_iff (AT.eqb a b=true) (AT.eqb_iff a b)
structure X3 where
 event:Int
 args:List AT
 deriving DecidableEq
def X3.D(v:X3):D:=.agg ([(D.i .i64) v.event]++[(D.l AT.D) v.args])
instance :Bp X3.D 2:=⟨fun _=>rfl⟩
structure X8 where
 op:Int
 a:Int
 b:Int
 value:X4
def X8.D(v:X8):D:=.agg ([(D.i .i64) v.op]++[(D.i .i64) v.a]++[(D.i .i64) v.b]++(X4.D v.value).cells)
instance :Bp X8.D 7:=⟨fun _=>rfl⟩
def X8.eqb(a b:X8):Bool:=(decide (a.op=b.op)&&(decide (a.a=b.a)&&(decide (a.b=b.b)&&(X4.eqb a.value b.value&&true))))
theorem X8.eqb_iff(a b:X8):X8.eqb a b=true↔a=b:=by cases a;cases b;simp[X8.eqb,X4.eqb_iff]
instance :DecidableEq X8:=fun a b=>decidable_of_iff (X8.eqb a b=true) (X8.eqb_iff a b)
structure Ar where
 free:Int
 expr:Int
def Ar.D(v:Ar):D:=.agg ([(D.i .i64) v.free]++[(D.i .i64) v.expr])
instance :Bp Ar.D 2:=⟨fun _=>rfl⟩
def Ar.eqb(a b:Ar):Bool:=(decide (a.free=b.free)&&(decide (a.expr=b.expr)&&true))
theorem Ar.eqb_iff(a b:Ar):Ar.eqb a b=true↔a=b:=by cases a;cases b;simp[Ar.eqb]
instance :DecidableEq Ar:=fun a b=>decidable_of_iff (Ar.eqb a b=true) (Ar.eqb_iff a b)
structure X5 where
 from_:Int
 symbol:Int
 to:Int
 guard:Int
 sets:List Ar
 deriving DecidableEq
def X5.D(v:X5):D:=.agg ([(D.i .i64) v.from_]++[(D.i .i64) v.symbol]++[(D.i .i64) v.to]++[(D.i .i64) v.guard]++[(D.l Ar.D) v.sets])
instance :Bp X5.D 5:=⟨fun _=>rfl⟩
structure AA where
 name:List UInt8
 decls:List X9
 quants:List Xc
 frees:List Xf
 states:List Xv
 start:Int
 symbols:List X3
 nodes:List X8
 trans:List X5
 deriving DecidableEq
def AA.D(v:AA):D:=.agg ([D.s v.name]++[(D.l X9.D) v.decls]++[(D.l Xc.D) v.quants]++[(D.l Xf.D) v.frees]++[(D.l Xv.D) v.states]++[(D.i .i64) v.start]++[(D.l X3.D) v.symbols]++[(D.l X8.D) v.nodes]++[(D.l X5.D) v.trans])
instance :Bp AA.D 9:=⟨fun _=>rfl⟩
structure X0 where
 var:Int
 value:X4
def X0.D(v:X0):D:=.agg ([(D.i .i64) v.var]++(X4.D v.value).cells)
instance :Bp X0.D 5:=⟨fun _=>rfl⟩
def X0.eqb(a b:X0):Bool:=(decide (a.var=b.var)&&(X4.eqb a.value b.value&&true))
theorem X0.eqb_iff(a b:X0):X0.eqb a b=true↔a=b:=by cases a;cases b;simp[X0.eqb,X4.eqb_iff]
instance :DecidableEq X0:=fun a b=>decidable_of_iff (X0.eqb a b=true) (X0.eqb_iff a b)
structure A8 where
 symbol:Int
 bind:List X0
 frees:List X0
 deriving DecidableEq
def A8.D(v:A8):D:=.agg ([(D.i .i64) v.symbol]++[(D.l X0.D) v.bind]++[(D.l X0.D) v.frees])
instance :Bp A8.D 3:=⟨fun _=>rfl⟩
structure X2 where
 kind:Int
 depth:Int
 from_:Int
def X2.D(v:X2):D:=.agg ([(D.i .i64) v.kind]++[(D.i .i64) v.depth]++[(D.i .i64) v.from_])
instance :Bp X2.D 3:=⟨fun _=>rfl⟩
def X2.eqb(a b:X2):Bool:=(decide (a.kind=b.kind)&&(decide (a.depth=b.depth)&&(decide (a.from_=b.from_)&&true)))
theorem X2.eqb_iff(a b:X2):X2.eqb a b=true↔a=b:=by cases a;cases b;simp[X2.eqb]
instance :DecidableEq X2:=fun a b=>decidable_of_iff (X2.eqb a b=true) (X2.eqb_iff a b)
def En(w1:AA)(s3:Int):Option ((Int)⊕(Unit⊕Unit)):=
 AE (decide (s3<(w1.decls.length:Int))) (
  Ae w1.decls s3 fun x1=>
  AE (decide (12<(x1.types.length:Int))) (
   some (.inr (.inr ()))) (
   Ae w1.decls s3 fun x2=>
   AE (decide (100<(x2.name.length:Int))) (
    some (.inr (.inr ()))) (
    some (.inl (AB .add .i64 s3 1))))) (
  some (.inr (.inl ())))
def V9(w1:AA)(s3:Int):Option (Unit⊕Unit):=Ab (fun s:Int=>En w1 s) s3
def Ep(s4:Int)(w1:AA)(s5:Int):Option ((Int)⊕(Unit⊕Unit)):=
 Ae w1.symbols s4 fun x7=>
 AE (decide (s5<(x7.args.length:Int))) (
  Ae w1.symbols s4 fun x8=>
  Ae x8.args s5 fun x9=>
  AE (decide (100<(x9.value.str.length:Int))) (
   some (.inr (.inr ()))) (
   some (.inl (AB .add .i64 s5 1)))) (
  some (.inr (.inl ())))
def WB(s4:Int)(w1:AA)(s5:Int):Option (Unit⊕Unit):=Ab (fun s:Int=>Ep s4 w1 s) s5
def Eo(w1:AA)(s4:Int):Option ((Int)⊕(Unit⊕Unit)):=
 AE (decide (s4<(w1.symbols.length:Int))) (
  Ae w1.symbols s4 fun x6=>
  AE (decide (12<(x6.args.length:Int))) (
   some (.inr (.inr ()))) (
   AF (WB s4 w1 0) fun o10=>
   Ap o10 (fun o11=>
    some (.inl (AB .add .i64 s4 1))) (fun o12=>
    some (.inr (.inr ()))))) (
  some (.inr (.inl ())))
def WA(w1:AA)(s4:Int):Option (Unit⊕Unit):=Ab (fun s:Int=>Eo w1 s) s4
def Eq(w1:AA)(s6:Int):Option ((Int)⊕(Unit⊕Unit)):=
 AE (decide (s6<(w1.frees.length:Int))) (
  Ae w1.frees s6 fun x16=>
  AE (decide (100<(x16.init_.str.length:Int))) (
   some (.inr (.inr ()))) (
   some (.inl (AB .add .i64 s6 1)))) (
  some (.inr (.inl ())))
def WC(w1:AA)(s6:Int):Option (Unit⊕Unit):=Ab (fun s:Int=>Eq w1 s) s6
def Er(w1:AA)(s7:Int):Option ((Int)⊕(Unit⊕Unit)):=
 AE (decide (s7<(w1.nodes.length:Int))) (
  Ae w1.nodes s7 fun x20=>
  AE (decide (100<(x20.value.str.length:Int))) (
   some (.inr (.inr ()))) (
   some (.inl (AB .add .i64 s7 1)))) (
  some (.inr (.inl ())))
def WD(w1:AA)(s7:Int):Option (Unit⊕Unit):=Ab (fun s:Int=>Er w1 s) s7
def Es(w1:AA)(s8:Int):Option ((Int)⊕(Unit⊕Unit)):=
 AE (decide (s8<(w1.trans.length:Int))) (
  Ae w1.trans s8 fun x24=>
  AE (decide (12<(x24.sets.length:Int))) (
   some (.inr (.inr ()))) (
   some (.inl (AB .add .i64 s8 1)))) (
  some (.inr (.inl ())))
def WE(w1:AA)(s8:Int):Option (Unit⊕Unit):=Ab (fun s:Int=>Es w1 s) s8
def X7(a0:AA):Option (Int):=
 AE (decide (12<(a0.decls.length:Int))) (
  some 0) (
  AE (decide (9<(a0.quants.length:Int))) (
   some 0) (
   AE (decide (12<(a0.frees.length:Int))) (
    some 0) (
    AE (decide (12<(a0.states.length:Int))) (
     some 0) (
     AE (decide (12<(a0.symbols.length:Int))) (
      some 0) (
      AE (decide (12<(a0.trans.length:Int))) (
       some 0) (
       AE (decide (40<(a0.nodes.length:Int))) (
        some 0) (
        AE (decide (100<(a0.name.length:Int))) (
         some 0) (
         AF (V9 a0 0) fun o3=>
         Ap o3 (fun o4=>
          AF (WA a0 0) fun o13=>
          Ap o13 (fun o14=>
           AF (WC a0 0) fun o17=>
           Ap o17 (fun o18=>
            AF (WD a0 0) fun o21=>
            Ap o21 (fun o22=>
             AF (WE a0 0) fun o25=>
             Ap o25 (fun o26=>
              some 1) (fun o27=>
              some 0)) (fun o23=>
             some 0)) (fun o19=>
            some 0)) (fun o15=>
           some 0)) (fun o5=>
          some 0)))))))))
def Q4(a0:AA):Option (Bool):=
 AE (decide ((a0.quants.length:Int)<=8)) (
  AE (decide ((a0.frees.length:Int)<=16)) (
   AE (decide ((a0.states.length:Int)<=32)) (
    AE (decide ((a0.symbols.length:Int)<=64)) (
     AE (decide ((a0.nodes.length:Int)<=2048)) (
      some (decide ((a0.trans.length:Int)<=256))) (
      some false)) (
     some false)) (
    some false)) (
   some false)) (
  some false)
def Qi(a0:X9)(a1:List UInt8):Option (Bool):=
 some (decide (a0.name=a1))
def FI(s0:List X9)(s1:List UInt8)(s7 s8:Int):Option ((Int)⊕(Unit⊕Int)):=
 AE (decide (s8<s7)) (
  Ae s0 s8 fun x1=>
  AF (Qi x1 s1) fun r2=>
  AE (r2) (
   some (.inr (.inr s8))) (
   some (.inl (AB .add .i64 s8 1)))) (
  some (.inr (.inl ())))
def PT(s0:List X9)(s1:List UInt8)(s7 s8:Int):Option (Unit⊕Int):=Ab (fun s:Int=>FI s0 s1 s7 s) s8
def Y2(a0:List X9)(a1:List UInt8):Option (Int):=
 AF (PT a0 a1 (a0.length:Int) 0) fun o3=>
 Ap o3 (fun o4=>
  some (-1)) (fun o5=>
  some o5)
def Z9(a0:List X9)(a1:List UInt8):Option (Int×Bool):=
 AF (Y2 a0 a1) fun r1=>
 some ((Ea r1 0),decide (0<=r1))
def Q5(a0:Int):Option (Bool):=
 AE (!decide (a0=95)) (
  AE (decide (a0<48)) (
   AE (decide (a0<65)) (
    AE (decide (a0<97)) (
     some true) (
     some (decide (122<a0)))) (
    AE (decide (90<a0)) (
     AE (decide (a0<97)) (
      some true) (
      some (decide (122<a0)))) (
     some false))) (
   AE (decide (57<a0)) (
    AE (decide (a0<65)) (
     AE (decide (a0<97)) (
      some true) (
      some (decide (122<a0)))) (
     AE (decide (90<a0)) (
      AE (decide (a0<97)) (
       some true) (
       some (decide (122<a0)))) (
      some false))) (
    some false))) (
  some false)
def Q7(s:List UInt8):Option Int:=VE Q5 s
def Zn(a0:List UInt8):Option (Bool):=
 AE (decide (a0=([]:List UInt8))) (
  some false) (
  AE (decide (32<(a0.length:Int))) (
   some false) (
   Ae a0 0 fun x1=>
   AE (decide (((48:UInt8).toNat:Int)<=(x1.toNat:Int))) (
    Ae a0 0 fun x2=>
    AE (decide ((x2.toNat:Int)<=((57:UInt8).toNat:Int))) (
     some false) (
     AF (Q7 a0) fun r3=>
     some (decide (r3<0)))) (
    AF (Q7 a0) fun r4=>
    some (decide (r4<0)))))
def FF(s0:List (List UInt8))(s1:List UInt8)(s7 s8:Int):Option ((Int)⊕(Unit⊕Int)):=
 AE (decide (s8<s7)) (
  Ae s0 s8 fun x1=>
  AE (decide (s1=x1)) (
   some (.inr (.inr s8))) (
   some (.inl (AB .add .i64 s8 1)))) (
  some (.inr (.inl ())))
def PM(s0:List (List UInt8))(s1:List UInt8)(s7 s8:Int):Option (Unit⊕Int):=Ab (fun s:Int=>FF s0 s1 s7 s) s8
def Xz(a0:List (List UInt8))(a1:List UInt8):Option (Int):=
 AF (PM a0 a1 (a0.length:Int) 0) fun o2=>
 Ap o2 (fun o3=>
  some (-1)) (fun o4=>
  some o4)
def Za(a0:List (List UInt8))(a1:List UInt8):Option (Bool):=
 AF (Xz a0 a1) fun r1=>
 some (decide (0<=r1))
def Yx(a0:List UInt8):Option (Bool):=
 AF (Zn a0) fun r1=>
 AE (r1) (
  AF (Za BZ a0) fun r2=>
  some r2) (
  some false)
def Yh(a0:List UInt8):Option (Bool):=
 AF (Zn a0) fun r1=>
 AE (r1) (
  AF (Yx a0) fun r2=>
  AE (!r2) (
   some (!decide (a0=([95]:List UInt8)))) (
   some false)) (
  some false)
def Zo(a0:Int):Option (List UInt8):=
 AE (decide (a0=1)) (
  some ([105,110,116]:List UInt8)) (
  AE (decide (a0=2)) (
   some ([115,116,114,105,110,103]:List UInt8)) (
   AE (decide (a0=3)) (
    some ([98,111,111,108]:List UInt8)) (
    some ([]:List UInt8))))
def Qj(a0:Int):Option (Bool):=
 AF (Zo a0) fun r1=>
 some (decide (r1=([]:List UInt8)))
def FN(s0:List Int)(s7 s8:Int):Option ((Int)⊕(Unit⊕Int)):=
 AE (decide (s8<s7)) (
  Ae s0 s8 fun x1=>
  AF (Qj x1) fun r2=>
  AE (r2) (
   some (.inr (.inr s8))) (
   some (.inl (AB .add .i64 s8 1)))) (
  some (.inr (.inl ())))
def Pl(s0:List Int)(s7 s8:Int):Option (Unit⊕Int):=Ab (fun s:Int=>FN s0 s7 s) s8
def Y8(a0:List Int):Option (Int):=
 AF (Pl a0 (a0.length:Int) 0) fun o3=>
 Ap o3 (fun o4=>
  some (-1)) (fun o5=>
  some o5)
def Zb(a0:List Int):Option (Bool):=
 AF (Y8 a0) fun r1=>
 some (decide (0<=r1))
def Z2(a0:List X9)(a1:Int):Option (Int):=
 Ae a0 a1 fun x1=>
 AF (Z9 a0 x1.name) fun r2=>
 AF (Yh x1.name) fun r3=>
 AE (!r3) (
  some 11) (
  AE (decide (r2.1<a1)) (
   some 10) (
   AE (decide (8<(x1.types.length:Int))) (
    some 14) (
    AF (Zb x1.types) fun r4=>
    AE (r4) (
     some 8) (
     some 0))))
def DH(s0:List X9)(s10 s11:Int):Option ((Int)⊕(Unit⊕(Int×Int))):=
 AE (decide (s11<s10)) (
  AF (Z2 s0 s11) fun r1=>
  AE (!decide (r1=0)) (
   some (.inr (.inr (s11,r1)))) (
   some (.inl (AB .add .i64 s11 1)))) (
  some (.inr (.inl ())))
def Ox(s0:List X9)(s10 s11:Int):Option (Unit⊕(Int×Int)):=Ab (fun s:Int=>DH s0 s10 s) s11
def Xp(a0:List X9):Option (Int×Int):=
 AE (decide (32<(a0.length:Int))) (
  some (32,14)) (
  AF (Ox a0 (a0.length:Int) 0) fun o2=>
  Ap o2 (fun o3=>
   some ((-1),0)) (fun o4=>
   some (o4.1,o4.2)))
def Zc(a0:Int)(a1:List UInt8)(a2:List (List UInt8)):Option (Bool):=
 AF (Yh a1) fun r1=>
 AE (r1) (
  AF (Xz a2 a1) fun r2=>
  some (decide (r2=a0))) (
  some false)
def EA(s1 s7:List (List UInt8))(s8 s9:Int):Option ((Int)⊕(Unit⊕Unit)):=
 AE (decide (s9<s8)) (
  Ae s7 s9 fun x1=>
  AF (Zc s9 x1 s1) fun r2=>
  AE (!r2) (
   some (.inr (.inr ()))) (
   some (.inl (AB .add .i64 s9 1)))) (
  some (.inr (.inl ())))
def PD(s1 s7:List (List UInt8))(s8 s9:Int):Option (Unit⊕Unit):=Ab (fun s:Int=>EA s1 s7 s8 s) s9
def Xw(a0 a1:List (List UInt8)):Option (Bool):=
 AF (PD a1 a0 (a0.length:Int) 0) fun o3=>
 Ap o3 (fun o4=>
  some true) (fun o5=>
  some false)
def Yt(a0:List (List UInt8)):Option (Bool):=
 AF (Xw a0 a0) fun r1=>
 some r1
def Qk(a0:Int)(a1:Xc):Option (Bool):=
 AF (Zo a1.type) fun r1=>
 some (!decide (r1=([]:List UInt8)))
def FJ(s7:List Xc)(s8 s9:Int):Option ((Int)⊕(Unit⊕Unit)):=
 AE (decide (s9<s8)) (
  Ae s7 s9 fun x1=>
  AF (Qk s9 x1) fun r2=>
  AE (!r2) (
   some (.inr (.inr ()))) (
   some (.inl (AB .add .i64 s9 1)))) (
  some (.inr (.inl ())))
def PW(s7:List Xc)(s8 s9:Int):Option (Unit⊕Unit):=Ab (fun s:Int=>FJ s7 s8 s) s9
def Y3(a0:List Xc):Option (Bool):=
 AF (PW a0 (a0.length:Int) 0) fun o3=>
 Ap o3 (fun o4=>
  some true) (fun o5=>
  some false)
def Ql(a0:Int):Option (X4):=
 some (X4.mk 1 a0 ([]:List UInt8) false)
def Qm(a0:List UInt8):Option (X4):=
 some (X4.mk 2 0 a0 false)
def Qn(a0:Bool):Option (X4):=
 some (X4.mk 3 0 ([]:List UInt8) a0)
def Yy(a0:X4):Option (Bool):=
 AE (decide (a0.kind=1)) (
  AF (Ql a0.int) fun r1=>
  some (X4.eqb a0 r1)) (
  AE (decide (a0.kind=2)) (
   AF (Qm a0.str) fun r2=>
   AE ((X4.eqb a0 r2)) (
    some (decide ((a0.str.length:Int)<=4096))) (
    some false)) (
   AE (decide (a0.kind=3)) (
    AF (Qn a0.bool) fun r3=>
    some (X4.eqb a0 r3)) (
    some false)))
def Qo(a0:Int)(a1:Xf):Option (Bool):=
 AF (Yy a1.init_) fun r1=>
 some r1
def FK(s7:List Xf)(s8 s9:Int):Option ((Int)⊕(Unit⊕Unit)):=
 AE (decide (s9<s8)) (
  Ae s7 s9 fun x1=>
  AF (Qo s9 x1) fun r2=>
  AE (!r2) (
   some (.inr (.inr ()))) (
   some (.inl (AB .add .i64 s9 1)))) (
  some (.inr (.inl ())))
def PZ(s7:List Xf)(s8 s9:Int):Option (Unit⊕Unit):=Ab (fun s:Int=>FK s7 s8 s) s9
def Y4(a0:List Xf):Option (Bool):=
 AF (PZ a0 (a0.length:Int) 0) fun o3=>
 Ap o3 (fun o4=>
  some true) (fun o5=>
  some false)
def D1(s14:List Xc)(s15:Int)(w1:AA)(s16:Int)(w3:List (List UInt8)):Option ((Int×List (List UInt8))⊕((List (List UInt8)))):=
 AE (decide (s16<s15)) (
  Ae s14 s16 fun x2=>
  BC (fit w3.length [x2.name].length 16) (
   some (.inl ((AB .add .i64 s16 1),w3++[x2.name])))) (
  some (.inr w3))
def MZ(s14:List Xc)(s15:Int)(w1:AA)(s16:Int)(w3:List (List UInt8)):Option ((List (List UInt8))):=Ab (fun s:Int×List (List UInt8)=>D1 s14 s15 w1 s.1 s.2) (s16,w3)
def D2(s27:List Xf)(s28:Int)(w1:AA)(s29:Int)(w3:List (List UInt8)):Option ((Int×List (List UInt8))⊕((List (List UInt8)))):=
 AE (decide (s29<s28)) (
  Ae s27 s29 fun x4=>
  BC (fit w3.length [x4.name].length 16) (
   some (.inl ((AB .add .i64 s29 1),w3++[x4.name])))) (
  some (.inr w3))
def Ma(s27:List Xf)(s28:Int)(w1:AA)(s29:Int)(w3:List (List UInt8)):Option ((List (List UInt8))):=Ab (fun s:Int×List (List UInt8)=>D2 s27 s28 w1 s.1 s.2) (s29,w3)
def D3(s40:List Xv)(s41:Int)(w1:AA)(w3:List (List UInt8))(s42:Int)(w4:List (List UInt8)):Option ((Int×List (List UInt8))⊕((List (List UInt8)))):=
 AE (decide (s42<s41)) (
  Ae s40 s42 fun x7=>
  BC (fit w4.length [x7.name].length 16) (
   some (.inl ((AB .add .i64 s42 1),w4++[x7.name])))) (
  some (.inr w4))
def Mb(s40:List Xv)(s41:Int)(w1:AA)(w3:List (List UInt8))(s42:Int)(w4:List (List UInt8)):Option ((List (List UInt8))):=Ab (fun s:Int×List (List UInt8)=>D3 s40 s41 w1 w3 s.1 s.2) (s42,w4)
def Xb(a0:AA):Option (Bool):=
 AF (MZ a0.quants (a0.quants.length:Int) a0 0 ([]:List (List UInt8))) fun o3=>
 AF (Ma a0.frees (a0.frees.length:Int) a0 0 o3) fun o5=>
 AF (Mb a0.states (a0.states.length:Int) a0 o5 0 ([]:List (List UInt8))) fun o8=>
 AF (Xp a0.decls) fun r9=>
 AE (decide (r9.2=0)) (
  AF (Yh a0.name) fun r10=>
  AE (r10) (
   AF (Yt o5) fun r11=>
   AE (r11) (
    AF (Yt o8) fun r12=>
    AE (r12) (
     AF (Y3 a0.quants) fun r13=>
     AE (r13) (
      AF (Y4 a0.frees) fun r14=>
      AE (r14) (
       AE (decide (0<=a0.start)) (
        some (decide (a0.start<(a0.states.length:Int)))) (
        some false)) (
       some false)) (
      some false)) (
     some false)) (
    some false)) (
   some false)) (
  some false)
def Q9(a0:AA)(a1:Int):Option (X2×Bool):=
 Ae a0.nodes a1 fun x1=>
 AE (decide (x1.op=1)) (
  AE ((X8.eqb x1 (X8.mk x1.op 0 0 x1.value))) (
   AF (Yy x1.value) fun r2=>
   AE (r2) (
    some (X2.mk x1.value.kind 1 a1,true)) (
    AE (decide (x1.op=2)) (
     AE ((X8.eqb x1 (X8.mk x1.op x1.a 0 (X4.mk 0 0 ([]:List UInt8) false)))) (
      AE (decide (0<=x1.a)) (
       AE (decide (x1.a<(a0.quants.length:Int))) (
        Ae a0.quants x1.a fun x3=>
        some (X2.mk x3.type 1 a1,true)) (
        AE (decide (x1.op=3)) (
         AE (decide (x1.a<(a0.frees.length:Int))) (
          Ae a0.frees x1.a fun x4=>
          some (X2.mk x4.init_.kind 1 a1,true)) (
          some (X2.mk 0 0 0,false))) (
         some (X2.mk 0 0 0,false)))) (
       AE (decide (x1.op=3)) (
        some (X2.mk 0 0 0,false)) (
        some (X2.mk 0 0 0,false)))) (
      AE (decide (x1.op=3)) (
       some (X2.mk 0 0 0,false)) (
       some (X2.mk 0 0 0,false)))) (
     AE (decide (x1.op=3)) (
      AE ((X8.eqb x1 (X8.mk x1.op x1.a 0 (X4.mk 0 0 ([]:List UInt8) false)))) (
       AE (decide (0<=x1.a)) (
        AE (decide (x1.a<(a0.frees.length:Int))) (
         Ae a0.frees x1.a fun x5=>
         some (X2.mk x5.init_.kind 1 a1,true)) (
         some (X2.mk 0 0 0,false))) (
        some (X2.mk 0 0 0,false))) (
       some (X2.mk 0 0 0,false))) (
      some (X2.mk 0 0 0,false))))) (
   AE (decide (x1.op=2)) (
    AE ((X8.eqb x1 (X8.mk x1.op x1.a 0 (X4.mk 0 0 ([]:List UInt8) false)))) (
     AE (decide (0<=x1.a)) (
      AE (decide (x1.a<(a0.quants.length:Int))) (
       Ae a0.quants x1.a fun x6=>
       some (X2.mk x6.type 1 a1,true)) (
       AE (decide (x1.op=3)) (
        AE (decide (x1.a<(a0.frees.length:Int))) (
         Ae a0.frees x1.a fun x7=>
         some (X2.mk x7.init_.kind 1 a1,true)) (
         some (X2.mk 0 0 0,false))) (
        some (X2.mk 0 0 0,false)))) (
      AE (decide (x1.op=3)) (
       some (X2.mk 0 0 0,false)) (
       some (X2.mk 0 0 0,false)))) (
     AE (decide (x1.op=3)) (
      some (X2.mk 0 0 0,false)) (
      some (X2.mk 0 0 0,false)))) (
    AE (decide (x1.op=3)) (
     AE ((X8.eqb x1 (X8.mk x1.op x1.a 0 (X4.mk 0 0 ([]:List UInt8) false)))) (
      AE (decide (0<=x1.a)) (
       AE (decide (x1.a<(a0.frees.length:Int))) (
        Ae a0.frees x1.a fun x8=>
        some (X2.mk x8.init_.kind 1 a1,true)) (
        some (X2.mk 0 0 0,false))) (
       some (X2.mk 0 0 0,false))) (
      some (X2.mk 0 0 0,false))) (
     some (X2.mk 0 0 0,false))))) (
  AE (decide (x1.op=2)) (
   AE ((X8.eqb x1 (X8.mk x1.op x1.a 0 (X4.mk 0 0 ([]:List UInt8) false)))) (
    AE (decide (0<=x1.a)) (
     AE (decide (x1.a<(a0.quants.length:Int))) (
      Ae a0.quants x1.a fun x9=>
      some (X2.mk x9.type 1 a1,true)) (
      AE (decide (x1.op=3)) (
       AE (decide (x1.a<(a0.frees.length:Int))) (
        Ae a0.frees x1.a fun x10=>
        some (X2.mk x10.init_.kind 1 a1,true)) (
        some (X2.mk 0 0 0,false))) (
       some (X2.mk 0 0 0,false)))) (
     AE (decide (x1.op=3)) (
      some (X2.mk 0 0 0,false)) (
      some (X2.mk 0 0 0,false)))) (
    AE (decide (x1.op=3)) (
     some (X2.mk 0 0 0,false)) (
     some (X2.mk 0 0 0,false)))) (
   AE (decide (x1.op=3)) (
    AE ((X8.eqb x1 (X8.mk x1.op x1.a 0 (X4.mk 0 0 ([]:List UInt8) false)))) (
     AE (decide (0<=x1.a)) (
      AE (decide (x1.a<(a0.frees.length:Int))) (
       Ae a0.frees x1.a fun x11=>
       some (X2.mk x11.init_.kind 1 a1,true)) (
       some (X2.mk 0 0 0,false))) (
      some (X2.mk 0 0 0,false))) (
     some (X2.mk 0 0 0,false))) (
    some (X2.mk 0 0 0,false))))
def Yi(a0:Bool)(a1:Int):Option (Int):=
 AE (!a0) (
  some 0) (
  some a1)
def WQ(s1 s2 s7:Int)(s10:Bool):Option (Bool):=
 AE (s10) (
  some true) (
  some (decide (s7=7)))
def OC(s1 s2 s7:Int)(s15:Bool):Option (Bool):=
 AE (s15) (
  some true) (
  some (decide (s7=12)))
def OA(s1 s2 s7:Int)(s15:Bool):Option (Bool):=
 AE (s15) (
  some true) (
  AF (OC s1 s2 s7 (decide (s7=11))) fun o2=>
  some o2)
def WR(s1 s2 s7:Int)(s15:Bool):Option (Bool):=
 AE (s15) (
  some true) (
  AF (OA s1 s2 s7 (decide (s7=10))) fun o3=>
  some o3)
def OE(s1 s2 s7:Int)(s22:Bool):Option (Bool):=
 AE (s22) (
  some true) (
  some (decide (s7=14)))
def OG(s1 s2 s7:Int)(s25:Bool):Option (Bool):=
 AE (s25) (
  some true) (
  some (decide (s7=16)))
def WO(s1 s2 s7:Int):Option (Int⊕(Unit⊕(Unit⊕(Unit⊕(Unit⊕(Unit⊕Unit)))))):=
 AE (decide (s7=4)) (
  some (.inl s1)) (
  AF (WQ s1 s2 s7 (decide (s7=6))) fun o1=>
  AE (o1) (
   some (.inl s2)) (
   AE (decide (s7=5)) (
    some (.inr (.inr (.inl ())))) (
    AF (WR s1 s2 s7 (decide (s7=9))) fun o4=>
    AE (o4) (
     some (.inr (.inr (.inr (.inl ()))))) (
     AE (decide (s7=8)) (
      some (.inr (.inr (.inr (.inr (.inl ())))))) (
      AF (OE s1 s2 s7 (decide (s7=13))) fun o5=>
      AE (o5) (
       some (.inr (.inr (.inr (.inr (.inr (.inl ()))))))) (
       AF (OG s1 s2 s7 (decide (s7=15))) fun o6=>
       AE (o6) (
        some (.inr (.inr (.inr (.inr (.inr (.inr ()))))))) (
        some (.inr (.inl ())))))))))
def WM(s1 s2 s7:Int):Option (Unit⊕(Unit⊕(Unit⊕(Unit⊕(Unit⊕(Unit⊕Int)))))):=
 AF (WO s1 s2 s7) fun o7=>
 Ap o7 (fun o8=>
  AE (decide (s1=3)) (
   AF (Yi (decide (o8=s1)) 3) fun r10=>
   some (.inr (.inr (.inr (.inr (.inr (.inr r10))))))) (
   AF (Yi false 3) fun r11=>
   some (.inr (.inr (.inr (.inr (.inr (.inr r11)))))))) (fun o9=>
  Ap o9 (fun o12=>
   some (.inr (.inl ()))) (fun o13=>
   Ap o13 (fun o14=>
    some (.inl ())) (fun o15=>
    Ap o15 (fun o16=>
     some (.inr (.inr (.inl ())))) (fun o17=>
     Ap o17 (fun o18=>
      some (.inr (.inr (.inr (.inl ()))))) (fun o19=>
      Ap o19 (fun o20=>
       some (.inr (.inr (.inr (.inr (.inl ())))))) (fun o21=>
       some (.inr (.inr (.inr (.inr (.inr (.inl ()))))))))))))
def WK(s1 s2 s7:Int):Option (Int⊕(Unit⊕(Unit⊕(Unit⊕(Unit⊕Int))))):=
 AF (WM s1 s2 s7) fun o22=>
 Ap o22 (fun o23=>
  some (.inl s1)) (fun o24=>
  Ap o24 (fun o25=>
   some (.inr (.inl ()))) (fun o26=>
   Ap o26 (fun o27=>
    some (.inl s2)) (fun o28=>
    Ap o28 (fun o29=>
     some (.inr (.inr (.inl ())))) (fun o30=>
     Ap o30 (fun o31=>
      some (.inr (.inr (.inr (.inl ()))))) (fun o32=>
      Ap o32 (fun o33=>
       some (.inr (.inr (.inr (.inr (.inl ())))))) (fun o34=>
       some (.inr (.inr (.inr (.inr (.inr o34)))))))))))
def WI(s1 s2 s7:Int):Option (Unit⊕(Unit⊕(Unit⊕(Unit⊕Int)))):=
 AF (WK s1 s2 s7) fun o35=>
 Ap o35 (fun o36=>
  AE (decide (s1=1)) (
   AF (Yi (decide (o36=s1)) s1) fun r38=>
   some (.inr (.inr (.inr (.inr r38))))) (
   AF (Yi false s1) fun r39=>
   some (.inr (.inr (.inr (.inr r39)))))) (fun o37=>
  Ap o37 (fun o40=>
   some (.inr (.inl ()))) (fun o41=>
   Ap o41 (fun o42=>
    some (.inl ())) (fun o43=>
    Ap o43 (fun o44=>
     some (.inr (.inr (.inl ())))) (fun o45=>
     Ap o45 (fun o46=>
      some (.inr (.inr (.inr (.inl ()))))) (fun o47=>
      some (.inr (.inr (.inr (.inr o47)))))))))
def WH(s1 s2 s7:Int):Option (Unit⊕(Unit⊕(Unit⊕Int))):=
 AF (WI s1 s2 s7) fun o48=>
 Ap o48 (fun o49=>
  AE (decide (s1=1)) (
   AF (Yi (decide (s2=s1)) s1) fun r51=>
   some (.inr (.inr (.inr r51)))) (
   AE (decide (s1=2)) (
    AF (Yi (decide (s2=s1)) s1) fun r52=>
    some (.inr (.inr (.inr r52)))) (
    AF (Yi false s1) fun r53=>
    some (.inr (.inr (.inr r53)))))) (fun o50=>
  Ap o50 (fun o54=>
   some (.inr (.inl ()))) (fun o55=>
   Ap o55 (fun o56=>
    some (.inl ())) (fun o57=>
    Ap o57 (fun o58=>
     some (.inr (.inr (.inl ())))) (fun o59=>
     some (.inr (.inr (.inr o59)))))))
def WG(s1 s2 s7:Int):Option (Unit⊕(Unit⊕Int)):=
 AF (WH s1 s2 s7) fun o60=>
 Ap o60 (fun o61=>
  AF (Zo s1) fun r63=>
  AE (!decide (r63=([]:List UInt8))) (
   AF (Yi (decide (s2=s1)) 3) fun r64=>
   some (.inr (.inr r64))) (
   AF (Yi false 3) fun r65=>
   some (.inr (.inr r65)))) (fun o62=>
  Ap o62 (fun o66=>
   some (.inr (.inl ()))) (fun o67=>
   Ap o67 (fun o68=>
    some (.inl ())) (fun o69=>
    some (.inr (.inr o69)))))
def WF(s1 s2 s7:Int):Option (Unit⊕Int):=
 AF (WG s1 s2 s7) fun o70=>
 Ap o70 (fun o71=>
  AE (decide (s1=1)) (
   AF (Yi (decide (s2=s1)) 3) fun r73=>
   some (.inr r73)) (
   AE (decide (s1=2)) (
    AF (Yi (decide (s2=s1)) 3) fun r74=>
    some (.inr r74)) (
    AF (Yi false 3) fun r75=>
    some (.inr r75)))) (fun o72=>
  Ap o72 (fun o76=>
   some (.inl ())) (fun o77=>
   some (.inr o77)))
def Xd(a0 a1 a2:Int):Option (Int):=
 AF (WF a1 a2 a0) fun o78=>
 Ap o78 (fun o79=>
  some 0) (fun o80=>
  some o80)
def JZ(s4:Int)(s15:List X8)(s16 s17:Int)(s77:Bool)(w1:AA)(w3:List X2)(w5:X8)(w8:X2):Option ((List X2)):=
 AE (s77) (
  AF (Xd w5.op w8.kind w8.kind) fun r5=>
  BC (0<=s4/\s4+1<=(w3.length:Int)) (
   BC (0<=s4/\s4+1<=(w3.length:Int)) (
    some (w3.set s4.toNat (X2.mk r5 (AB .add .i64 w8.depth 1) w8.from_))))) (
  some w3)
def Ez(s4:Int)(s15:List X8)(s16 s17:Int)(s120:Bool)(w1:AA)(w3:List X2)(w5:X8)(w8:X2):Option ((List X2)):=
 AE (s120) (
  BC (0<=w5.a/\w5.a+1<=(w3.length:Int)) (
   Ae w3 w5.a fun x9=>
   AF (Xd w5.op x9.kind w8.kind) fun r10=>
   BC (0<=s4/\s4+1<=(w3.length:Int)) (
    BC (0<=s4/\s4+1<=(w3.length:Int)) (
     some (w3.set s4.toNat (X2.mk r10 (AB .add .i64 (Ea x9.depth w8.depth) 1) x9.from_)))))) (
  some w3)
def OV(s15:List X8)(s16 s17:Int)(w1:AA)(w3:List X2):Option ((List X2)):=
 Ae s15 s17 fun x1=>
 AF (Q9 w1 s17) fun r2=>
 AE (r2.2) (
  BC (0<=s17/\s17+1<=(w3.length:Int)) (
   BC (0<=s17/\s17+1<=(w3.length:Int)) (
    some (w3.set s17.toNat r2.1)))) (
  AE (decide (x1.op<4)) (
   some w3) (
   AE (decide (16<x1.op)) (
    some w3) (
    AE (decide (s17=0)) (
     some w3) (
     BC (0<=(AB .sub .i64 s17 1)/\(AB .sub .i64 s17 1)+1<=(w3.length:Int)) (
      Ae w3 (AB .sub .i64 s17 1) fun x3=>
      AE (decide (x3.kind=0)) (
       some w3) (
       AE (!(X4.eqb x1.value (X4.mk 0 0 ([]:List UInt8) false))) (
        some w3) (
        BC (0<=(AB .sub .i64 s17 1)/\(AB .sub .i64 s17 1)+1<=(w3.length:Int)) (
         Ae w3 (AB .sub .i64 s17 1) fun x4=>
         AE (decide (x1.op<=5)) (
          AE (decide (x1.a=(AB .sub .i64 s17 1))) (
           AF (JZ s17 s15 s16 s17 (decide (x1.b=0)) w1 w3 x1 x4) fun o6=>
           some o6) (
           AF (JZ s17 s15 s16 s17 false w1 w3 x1 x4) fun o7=>
           some o7)) (
          AE (decide (x1.b=(AB .sub .i64 s17 1))) (
           AE (decide (x1.a=(AB .sub .i64 x4.from_ 1))) (
            AE (decide (0<=x1.a)) (
             BC (0<=x1.a/\x1.a+1<=(w3.length:Int)) (
              Ae w3 x1.a fun x8=>
              AF (Ez s17 s15 s16 s17 (!decide (x8.kind=0)) w1 w3 x1 x4) fun o11=>
              some o11)) (
             AF (Ez s17 s15 s16 s17 false w1 w3 x1 x4) fun o12=>
             some o12)) (
            AF (Ez s17 s15 s16 s17 false w1 w3 x1 x4) fun o13=>
            some o13)) (
           AF (Ez s17 s15 s16 s17 false w1 w3 x1 x4) fun o14=>
           some o14))))))))))
def E0(s15:List X8)(s16:Int)(w1:AA)(s17:Int)(w3:List X2):Option ((Int×List X2)⊕((List X2))):=
 AE (decide (s17<s16)) (
  AF (OV s15 s16 s17 w1 w3) fun o15=>
  some (.inl ((AB .add .i64 s17 1),o15))) (
  some (.inr w3))
def Ja(s15:List X8)(s16:Int)(w1:AA)(s17:Int)(w3:List X2):Option ((List X2)):=Ab (fun s:Int×List X2=>E0 s15 s16 w1 s.1 s.2) (s17,w3)
def Xh(a0:AA):Option (List X2):=
 BC (0<=(a0.nodes.length:Int)/\fit 0 (a0.nodes.length:Int).toNat 24) (
  AF (Ja a0.nodes (a0.nodes.length:Int) a0 0 (List.replicate (a0.nodes.length:Int).toNat (X2.mk 0 0 0))) fun o16=>
  some o16)
def Zw(a0 a1:Int)(a3:List X2)(w0:Int):Option (Bool×Int):=
 AE (decide (a0<w0)) (
  some (false,w0)) (
  AE (decide ((a3.length:Int)<=a0)) (
   some (false,w0)) (
   Ae a3 a0 fun x1=>
   AE (!decide (x1.kind=a1)) (
    some (false,w0)) (
    AE (decide (a1=0)) (
     some (false,w0)) (
     Ae a3 a0 fun x2=>
     AE (!decide (x2.from_=w0)) (
      some (false,w0)) (
      Ae a3 a0 fun x3=>
      AE (decide (64<x3.depth)) (
       some (false,w0)) (
       some (true,(AB .add .i64 a0 1))))))))
def Qp(a0 a1:Ar):Option (Bool):=
 some (decide (a0.free=a1.free))
def FO(s0:List Ar)(s1:Ar)(s7 s8:Int):Option ((Int)⊕(Unit⊕Int)):=
 AE (decide (s8<s7)) (
  Ae s0 s8 fun x1=>
  AF (Qp x1 s1) fun r2=>
  AE (r2) (
   some (.inr (.inr s8))) (
   some (.inl (AB .add .i64 s8 1)))) (
  some (.inr (.inl ())))
def Po(s0:List Ar)(s1:Ar)(s7 s8:Int):Option (Unit⊕Int):=Ab (fun s:Int=>FO s0 s1 s7 s) s8
def Y9(a0:List Ar)(a1:Ar):Option (Int):=
 AF (Po a0 a1 (a0.length:Int) 0) fun o3=>
 Ap o3 (fun o4=>
  some (-1)) (fun o5=>
  some o5)
def Z3(a0:List Ar)(a1:Ar):Option (Bool):=
 AF (Y9 a0 a1) fun r1=>
 some (decide (0<=r1))
def Zd(a0:Int)(a1:Ar)(a2:X5)(a3:AA)(w0:List X2)(w1:Int):Option (Bool×List X2×Int):=
 BC ((0:Int)<=0/\(0:Int)<=a0/\a0<=(a2.sets.length:Int)) (
  AF (Z3 (sub a2.sets 0 a0) a1) fun r1=>
  AE (decide (0<=a1.free)) (
   AE (decide (a1.free<(a3.frees.length:Int))) (
    AE (!r1) (
     Ae a3.frees a1.free fun x2=>
     AF (Zw a1.expr x2.init_.kind w0 w1) fun r3=>
     some (r3.1,w0,r3.2)) (
     some (false,w0,w1))) (
    some (false,w0,w1))) (
   some (false,w0,w1)))
def Co(s1_1:X5)(s1_2:AA)(s7:List Ar)(s8:Int)(w997_1:X5)(w997_2:AA)(s9:Int)(w0:List X2)(w1:Int):Option ((Int×List X2×Int)⊕((List X2×Int)⊕(List X2×Int))):=
 AE (decide (s9<s8)) (
  Ae s7 s9 fun x1=>
  AF (Zd s9 x1 s1_1 s1_2 w0 w1) fun r2=>
  AE (!r2.1) (
   some (.inr (.inr (r2.2.1,r2.2.2)))) (
   some (.inl ((AB .add .i64 s9 1),r2.2.1,r2.2.2)))) (
  some (.inr (.inl (w0,w1))))
def Jg(s1_1:X5)(s1_2:AA)(s7:List Ar)(s8:Int)(w997_1:X5)(w997_2:AA)(s9:Int)(w0:List X2)(w1:Int):Option ((List X2×Int)⊕(List X2×Int)):=Ab (fun s:Int×List X2×Int=>Co s1_1 s1_2 s7 s8 w997_1 w997_2 s.1 s.2.1 s.2.2) (s9,w0,w1)
theorem LQ(s1_1:X5)(s1_2:AA)(s7:List Ar)(s8:Int)(w997_1:X5)(w997_2:AA)(s9:Int)(w0:List X2)(w1:Int):Jg s1_1 s1_2 s7 s8 w997_1 w997_2 s9 w0 w1=H4 (Co s1_1 s1_2 s7 s8 w997_1 w997_2 s9 w0 w1) (fun s:Int×List X2×Int=>Jg s1_1 s1_2 s7 s8 w997_1 w997_2 s.1 s.2.1 s.2.2):=Cj _ _
def Xk(a0:List Ar)(a1_1:X5)(a1_2:AA)(w0:List X2)(w1:Int):Option (Bool×List X2×Int):=
 AF (Jg a1_1 a1_2 a0 (a0.length:Int) a1_1 a1_2 0 w0 w1) fun o3=>
 Ap o3 (fun o4=>
  some (true,o4.1,o4.2)) (fun o5=>
  some (false,o5.1,o5.2))
def FQ(s0:List AT)(s7:Int)(w3:AT)(s8:Int):Option ((Int)⊕(Unit⊕Int)):=
 AE (decide (s8<s7)) (
  Ae s0 s8 fun x1=>
  AE ((AT.eqb w3 x1)) (
   some (.inr (.inr s8))) (
   some (.inl (AB .add .i64 s8 1)))) (
  some (.inr (.inl ())))
def Pr(s0:List AT)(s7:Int)(w3:AT)(s8:Int):Option (Unit⊕Int):=Ab (fun s:Int=>FQ s0 s7 w3 s) s8
def Ya(a0:List AT)(a1:AT):Option (Int):=
 AF (Pr a0 (a0.length:Int) a1 0) fun o2=>
 Ap o2 (fun o3=>
  some (-1)) (fun o4=>
  some o4)
def Ze(a0:List AT)(a1:AT):Option (Bool):=
 AF (Ya a0 a1) fun r1=>
 some (decide (0<=r1))
def Yv(a0:X3)(a1:Int):Option (Bool):=
 AF (Ze a0.args (AT.mk 2 a1 (X4.mk 0 0 ([]:List UInt8) false))) fun r1=>
 some r1
def Zf(a0:Int)(a1:X8)(a2:AA)(a3:X5):Option (Bool):=
 AE (!decide (a1.op=2)) (
  some true) (
  Ae a2.symbols a3.symbol fun x1=>
  AF (Yv x1 a1.a) fun r2=>
  some r2)
def D6(s1_1:AA)(s1_2:X5)(s7:List X8)(s8 s9:Int):Option ((Int)⊕(Unit⊕Unit)):=
 AE (decide (s9<s8)) (
  Ae s7 s9 fun x1=>
  AF (Zf s9 x1 s1_1 s1_2) fun r2=>
  AE (!r2) (
   some (.inr (.inr ()))) (
   some (.inl (AB .add .i64 s9 1)))) (
  some (.inr (.inl ())))
def Ou(s1_1:AA)(s1_2:X5)(s7:List X8)(s8 s9:Int):Option (Unit⊕Unit):=Ab (fun s:Int=>D6 s1_1 s1_2 s7 s8 s) s9
def Xo(a0:List X8)(a1_1:AA)(a1_2:X5):Option (Bool):=
 AF (Ou a1_1 a1_2 a0 (a0.length:Int) 0) fun o3=>
 Ap o3 (fun o4=>
  some true) (fun o5=>
  some false)
def Z4(a0:Int)(a1:X5)(a3:AA)(w0:Int)(w1:List X2):Option (Bool×Int×List X2):=
 AE (decide (a1.from_<0)) (
  some (false,w0,w1)) (
  AE (decide ((a3.states.length:Int)<=a1.from_)) (
   some (false,w0,w1)) (
   AE (decide (a1.to<0)) (
    some (false,w0,w1)) (
    AE (decide ((a3.states.length:Int)<=a1.to)) (
     some (false,w0,w1)) (
     AE (decide (a1.symbol<0)) (
      some (false,w0,w1)) (
      AE (decide ((a3.symbols.length:Int)<=a1.symbol)) (
       some (false,w0,w1)) (
       AE (!decide (a1.guard=(-1))) (
        AF (Zw a1.guard 3 w1 w0) fun r1=>
        AE (!r1.1) (
         some (false,r1.2,w1)) (
         AF (Xk a1.sets a1 a3 w1 r1.2) fun r2=>
         AE (r2.1) (
          BC ((0:Int)<=w0/\(w0:Int)<=r2.2.2/\r2.2.2<=(a3.nodes.length:Int)) (
           AF (Xo (sub a3.nodes w0 r2.2.2) a3 a1) fun r3=>
           some (r3,r2.2.2,r2.2.1))) (
          some (false,r2.2.2,r2.2.1)))) (
        AF (Xk a1.sets a1 a3 w1 w0) fun r4=>
        AE (r4.1) (
         BC ((0:Int)<=w0/\(w0:Int)<=r4.2.2/\r4.2.2<=(a3.nodes.length:Int)) (
          AF (Xo (sub a3.nodes w0 r4.2.2) a3 a1) fun r5=>
          some (r5,r4.2.2,r4.2.1))) (
         some (false,r4.2.2,r4.2.1)))))))))
def DG(s1:AA)(s7:List X5)(s8:Int)(w997:AA)(s9 w0:Int)(w1:List X2):Option ((Int×Int×List X2)⊕((Int×List X2)⊕(Int×List X2))):=
 AE (decide (s9<s8)) (
  Ae s7 s9 fun x1=>
  AF (Z4 s9 x1 s1 w0 w1) fun r2=>
  AE (!r2.1) (
   some (.inr (.inr (r2.2.1,r2.2.2)))) (
   some (.inl ((AB .add .i64 s9 1),r2.2.1,r2.2.2)))) (
  some (.inr (.inl (w0,w1))))
def IP(s1:AA)(s7:List X5)(s8:Int)(w997:AA)(s9 w0:Int)(w1:List X2):Option ((Int×List X2)⊕(Int×List X2)):=Ab (fun s:Int×Int×List X2=>DG s1 s7 s8 w997 s.1 s.2.1 s.2.2) (s9,w0,w1)
theorem LT(s1:AA)(s7:List X5)(s8:Int)(w997:AA)(s9 w0:Int)(w1:List X2):IP s1 s7 s8 w997 s9 w0 w1=H4 (DG s1 s7 s8 w997 s9 w0 w1) (fun s:Int×Int×List X2=>IP s1 s7 s8 w997 s.1 s.2.1 s.2.2):=Cj _ _
def Xm(a0:List X5)(a1:AA)(w0:Int)(w1:List X2):Option (Bool×Int×List X2):=
 AF (IP a1 a0 (a0.length:Int) a1 0 w0 w1) fun o3=>
 Ap o3 (fun o4=>
  some (true,o4.1,o4.2)) (fun o5=>
  some (false,o5.1,o5.2))
def Yz(a0:AA):Option (Bool):=
 AF (Xh a0) fun r1=>
 AF (Xm a0.trans a0 0 r1) fun r2=>
 AE (r2.1) (
  some (decide (r2.2.1=(r1.length:Int)))) (
  some false)
def FR(s0:List Int)(s1 s7 s8:Int):Option ((Int)⊕(Unit⊕Int)):=
 AE (decide (s8<s7)) (
  Ae s0 s8 fun x1=>
  AE (decide (s1=x1)) (
   some (.inr (.inr s8))) (
   some (.inl (AB .add .i64 s8 1)))) (
  some (.inr (.inl ())))
def Pu(s0:List Int)(s1 s7 s8:Int):Option (Unit⊕Int):=Ab (fun s:Int=>FR s0 s1 s7 s) s8
def Yb(a0:List Int)(a1:Int):Option (Int):=
 AF (Pu a0 a1 (a0.length:Int) 0) fun o2=>
 Ap o2 (fun o3=>
  some (-1)) (fun o4=>
  some o4)
def Z5(a0:List Int)(a1:Int):Option (Bool):=
 AF (Yb a0 a1) fun r1=>
 some (decide (0<=r1))
def Qq(a0 a1:Int)(a2:AA)(a3:List Int):Option (Bool):=
 some (decide (a1=(AB .add .i64 (AB .sub .i64 (a2.symbols.length:Int) (a3.length:Int)) a0)))
def FL(s1_1:AA)(s1_2 s7:List Int)(s8 s9:Int):Option ((Int)⊕(Unit⊕Unit)):=
 AE (decide (s9<s8)) (
  Ae s7 s9 fun x1=>
  AF (Qq s9 x1 s1_1 s1_2) fun r2=>
  AE (!r2) (
   some (.inr (.inr ()))) (
   some (.inl (AB .add .i64 s9 1)))) (
  some (.inr (.inl ())))
def Pc(s1_1:AA)(s1_2 s7:List Int)(s8 s9:Int):Option (Unit⊕Unit):=Ab (fun s:Int=>FL s1_1 s1_2 s7 s8 s) s9
def Y5(a0:List Int)(a1_1:AA)(a1_2:List Int):Option (Bool):=
 AF (Pc a1_1 a1_2 a0 (a0.length:Int) 0) fun o3=>
 Ap o3 (fun o4=>
  some true) (fun o5=>
  some false)
def Q0(a0:AA)(a1:AT)(a2:Int):Option (Bool):=
 AE (decide (a1.kind=1)) (
  AE (decide (a1.n=0)) (
   AF (Yy a1.value) fun r1=>
   AE (r1) (
    some (decide (a1.value.kind=a2))) (
    some false)) (
   some false)) (
  AE (decide (a1.kind=2)) (
   AE (decide (0<=a1.n)) (
    AE (decide (a1.n<(a0.quants.length:Int))) (
     Ae a0.quants a1.n fun x2=>
     AE (decide (x2.type=a2)) (
      some (X4.eqb a1.value (X4.mk 0 0 ([]:List UInt8) false))) (
      some false)) (
     some false)) (
    some false)) (
   AE (decide (a1.kind=3)) (
    AE (decide (0<=a1.n)) (
     AE (decide (a1.n<(a0.frees.length:Int))) (
      Ae a0.frees a1.n fun x3=>
      AE (decide (x3.init_.kind=a2)) (
       some (X4.eqb a1.value (X4.mk 0 0 ([]:List UInt8) false))) (
       some false)) (
      some false)) (
     some false)) (
    some (AT.eqb a1 (AT.mk 4 0 (X4.mk 0 0 ([]:List UInt8) false))))))
def Qr(a0:AT)(a1:Int)(a2:AA):Option (Bool):=
 AF (Q0 a2 a0 a1) fun r1=>
 some r1
def FS(s1:List Int)(s2:AA)(s15:List AT)(s16 s17:Int):Option ((Int)⊕(Unit⊕Unit)):=
 AE (decide (s17<s16)) (
  Ae s15 s17 fun x1=>
  Ae s1 s17 fun x2=>
  AF (Qr x1 x2 s2) fun r3=>
  AE (!r3) (
   some (.inr (.inr ()))) (
   some (.inl (AB .add .i64 s17 1)))) (
  some (.inr (.inl ())))
def Px(s1:List Int)(s2:AA)(s15:List AT)(s16 s17:Int):Option (Unit⊕Unit):=Ab (fun s:Int=>FS s1 s2 s15 s16 s) s17
def Yc(a0:List AT)(a1:List Int)(a2:AA):Option (Bool):=
 AE (!decide ((a0.length:Int)=(a1.length:Int))) (
  some false) (
  AF (Px a1 a2 a0 (a0.length:Int) 0) fun o4=>
  Ap o4 (fun o5=>
   some true) (fun o6=>
   some false))
def Z6(a0:AA)(a1:X3):Option (Bool):=
 AE (decide (a1.event<0)) (
  some false) (
  AE (decide ((a0.decls.length:Int)<=a1.event)) (
   some false) (
   Ae a0.decls a1.event fun x1=>
   AF (Yc a1.args x1.types a0) fun r2=>
   some r2))
def FT(s0 s1:List AT)(s12 s13:Int):Option ((Int)⊕(Unit⊕Unit)):=
 AE (decide (s13<s12)) (
  Ae s0 s13 fun x1=>
  Ae s1 s13 fun x2=>
  AE (!(AT.eqb x1 x2)) (
   some (.inr (.inr ()))) (
   some (.inl (AB .add .i64 s13 1)))) (
  some (.inr (.inl ())))
def P0(s0 s1:List AT)(s12 s13:Int):Option (Unit⊕Unit):=Ab (fun s:Int=>FT s0 s1 s12 s) s13
def Yd(a0 a1:List AT):Option (Bool):=
 AE (!decide ((a0.length:Int)=(a1.length:Int))) (
  some false) (
  AF (P0 a0 a1 (a0.length:Int) 0) fun o3=>
  Ap o3 (fun o4=>
   some true) (fun o5=>
   some false))
def Z7(a0 a1:X3):Option (Bool):=
 AE (decide (a0.event=a1.event)) (
  AF (Yd a0.args a1.args) fun r1=>
  some r1) (
  some false)
def Zg(a0 a1:X3):Option (Bool):=
 AF (Z7 a0 a1) fun r1=>
 some r1
def D7(s0:List X3)(s1:X3)(s7 s8:Int):Option ((Int)⊕(Unit⊕Int)):=
 AE (decide (s8<s7)) (
  Ae s0 s8 fun x1=>
  AF (Zg x1 s1) fun r2=>
  AE (r2) (
   some (.inr (.inr s8))) (
   some (.inl (AB .add .i64 s8 1)))) (
  some (.inr (.inl ())))
def O0(s0:List X3)(s1:X3)(s7 s8:Int):Option (Unit⊕Int):=Ab (fun s:Int=>D7 s0 s1 s7 s) s8
def Xq(a0:List X3)(a1:X3):Option (Int):=
 AF (O0 a0 a1 (a0.length:Int) 0) fun o3=>
 Ap o3 (fun o4=>
  some (-1)) (fun o5=>
  some o5)
def Zh(a0:Int)(a1:X3)(a2:AA):Option (Bool):=
 AF (Z6 a2 a1) fun r1=>
 AE (r1) (
  AF (Xq a2.symbols a1) fun r2=>
  some (decide (r2=a0))) (
  some false)
def D8(s1:AA)(s7:List X3)(s8 s9:Int):Option ((Int)⊕(Unit⊕Unit)):=
 AE (decide (s9<s8)) (
  Ae s7 s9 fun x1=>
  AF (Zh s9 x1 s1) fun r2=>
  AE (!r2) (
   some (.inr (.inr ()))) (
   some (.inl (AB .add .i64 s9 1)))) (
  some (.inr (.inl ())))
def O3(s1:AA)(s7:List X3)(s8 s9:Int):Option (Unit⊕Unit):=Ab (fun s:Int=>D8 s1 s7 s8 s) s9
def Xr(a0:List X3)(a1:AA):Option (Bool):=
 AF (O3 a1 a0 (a0.length:Int) 0) fun o3=>
 Ap o3 (fun o4=>
  some true) (fun o5=>
  some false)
def Zi(a0:X3)(a1:Int):Option (Bool):=
 AF (Yv a0 a1) fun r1=>
 some r1
def EB(s0:List X3)(s1 s7 s8:Int):Option ((Int)⊕(Unit⊕Int)):=
 AE (decide (s8<s7)) (
  Ae s0 s8 fun x1=>
  AF (Zi x1 s1) fun r2=>
  AE (r2) (
   some (.inr (.inr s8))) (
   some (.inl (AB .add .i64 s8 1)))) (
  some (.inr (.inl ())))
def PG(s0:List X3)(s1 s7 s8:Int):Option (Unit⊕Int):=Ab (fun s:Int=>EB s0 s1 s7 s) s8
def Xx(a0:List X3)(a1:Int):Option (Int):=
 AF (PG a0 a1 (a0.length:Int) 0) fun o3=>
 Ap o3 (fun o4=>
  some (-1)) (fun o5=>
  some o5)
def Z8(a0:List X3)(a1:Int):Option (Bool):=
 AF (Xx a0 a1) fun r1=>
 some (decide (0<=r1))
def Zj(a0:Int)(a1:Xc)(a2:AA):Option (Bool):=
 AF (Z8 a2.symbols a0) fun r1=>
 some r1
def D9(s1:AA)(s7:List Xc)(s8 s9:Int):Option ((Int)⊕(Unit⊕Unit)):=
 AE (decide (s9<s8)) (
  Ae s7 s9 fun x1=>
  AF (Zj s9 x1 s1) fun r2=>
  AE (!r2) (
   some (.inr (.inr ()))) (
   some (.inl (AB .add .i64 s9 1)))) (
  some (.inr (.inl ())))
def O6(s1:AA)(s7:List Xc)(s8 s9:Int):Option (Unit⊕Unit):=Ab (fun s:Int=>D9 s1 s7 s8 s) s9
def Xs(a0:List Xc)(a1:AA):Option (Bool):=
 AF (O6 a1 a0 (a0.length:Int) 0) fun o3=>
 Ap o3 (fun o4=>
  some true) (fun o5=>
  some false)
def OY(s1:AA)(s8:List X5)(s9 s10:Int)(s18:Bool)(w5:X5)(w600:List Int):Option ((List Int)):=
 AE (s18) (
  BC (fit w600.length [w5.symbol].length 8) (
   some (w600++[w5.symbol]))) (
  some w600)
def Mc(s1:AA)(s8:List X5)(s9 s10:Int)(w600:List Int):Option ((List Int)):=
 Ae s8 s10 fun x5=>
 AF (Z5 w600 x5.symbol) fun r6=>
 AF (OY s1 s8 s9 s10 (!r6) x5 w600) fun o7=>
 some o7
def DF(s1:AA)(s8:List X5)(s9 s10:Int)(w600:List Int):Option ((Int×List Int)⊕((List Int))):=
 AE (decide (s10<s9)) (
  AF (Mc s1 s8 s9 s10 w600) fun o8=>
  some (.inl ((AB .add .i64 s10 1),o8))) (
  some (.inr w600))
def Md(s1:AA)(s8:List X5)(s9 s10:Int)(w600:List Int):Option ((List Int)):=Ab (fun s:Int×List Int=>DF s1 s8 s9 s.1 s.2) (s10,w600)
def Xi(a0:AA):Option (Bool):=
 AF (Md a0 a0.trans (a0.trans.length:Int) 0 ([]:List Int)) fun o9=>
 AF (Y5 o9 a0 o9) fun r10=>
 AE (r10) (
  AF (Xr a0.symbols a0) fun r11=>
  AE (r11) (
   AF (Xs a0.quants a0) fun r12=>
   some r12) (
   some false)) (
  some false)
def Yu(a0:AA):Option (Bool):=
 AF (Q4 a0) fun r1=>
 AE (r1) (
  AF (Xb a0) fun r2=>
  AE (r2) (
   AF (Yz a0) fun r3=>
   AE (r3) (
    AF (Xi a0) fun r4=>
    some r4) (
    some false)) (
   some false)) (
  some false)
def Zp(a0:AA):Option (Unit):=
 AF (Yu a0) fun r1=>
 AE (!r1) (
  some ()) (
  none)
def Zv(a0:AA):Option (AA×MP Int (List X0)×MP (List UInt8) (List Int)):=
 AF (Yu a0) fun r1=>
 AE (!r1) (
  none) (
  some (a0,(GG:MP Int (List X0)),(GG:MP (List UInt8) (List Int))))
def Zk(a0:Int):Option (X0):=
 some (X0.mk 0 (X4.mk 1 a0 ([]:List UInt8) false))
def Qt(l:List X0):Option (List X0):=Fc 48 l
def Q1(a0 a1:Int):Option (List UInt8):=
 some [u8w a0,u8w a1]
def J4(s1:Int)(s8:List X0)(s9:Int)(w4:X4)(s10:Int):Option ((Int)⊕(Unit⊕X4)):=
 AE (decide (s10<s9)) (
  Ae s8 s10 fun x1=>
  AE (decide (x1.var=s1)) (
   some (.inr (.inr x1.value))) (
   some (.inl (AB .add .i64 s10 1)))) (
  some (.inr (.inl ())))
def UL(s1:Int)(s8:List X0)(s9:Int)(w4:X4)(s10:Int):Option (Unit⊕X4):=Ab (fun s:Int=>J4 s1 s8 s9 w4 s) s10
def Y6(a0:List X0)(a1:Int):Option (X4×Bool):=
 AF (UL a1 a0 (a0.length:Int) (X4.mk 0 0 ([]:List UInt8) false) 0) fun o2=>
 Ap o2 (fun o3=>
  some (X4.mk 0 0 ([]:List UInt8) false,false)) (fun o4=>
  some (o4,true))
def KC(s3 s10:Int)(w4:List UInt8):Option ((Int×List UInt8)⊕((List UInt8))):=
 AE (decide (s10<8)) (
  BC (0<=(AB .mul .i64 8 (AB .sub .i64 7 s10))) (
   BC (0<=s10/\s10+1<=8) (
    BC (0<=s10/\s10+1<=(w4.length:Int)) (
     some (.inl ((AB .add .i64 s10 1),w4.set s10.toNat (u8w (AB .shr .u64 s3 (AB .mul .i64 8 (AB .sub .i64 7 s10)))))))))) (
  some (.inr w4))
def UX(s3 s10:Int)(w4:List UInt8):Option ((List UInt8)):=Ab (fun s:Int×List UInt8=>KC s3 s.1 s.2) (s10,w4)
def Ye(a0:Int):Option (List UInt8):=
 AF (UX (AB .xor .u64 (IntKind.wrap .u64 a0) 9223372036854775808) 0 (List.replicate 8 (0:UInt8))) fun o1=>
 BC (0<=(8:Int)/\fit 0 (8:Int).toNat 1) (
  BC (o1.length=8) (
   some (o1.take (List.replicate (8:Int).toNat (0:UInt8)).length++(List.replicate (8:Int).toNat (0:UInt8)).drop o1.length)))
def WV(s0:List UInt8)(s6 s7:Int)(s19:Bool)(w3:List UInt8):Option ((List UInt8)):=
 AE (s19) (
  BC (fit w3.length [(255:UInt8)].length 1) (
   some (w3++[(255:UInt8)]))) (
  some w3)
def WW(s0:List UInt8)(s6 s7:Int)(w3:List UInt8):Option ((List UInt8)):=
 Ae s0 s7 fun x5=>
 BC (fit w3.length [x5].length 1) (
  Ae s0 s7 fun x6=>
  AF (WV s0 s6 s7 (decide ((x6.toNat:Int)=((0:UInt8).toNat:Int))) (w3++[x5])) fun o7=>
  some o7)
def Jv(s0:List UInt8)(s6 s7:Int)(w3:List UInt8):Option ((Int×List UInt8)⊕((List UInt8))):=
 AE (decide (s7<s6)) (
  AF (WW s0 s6 s7 w3) fun o8=>
  some (.inl ((AB .add .i64 s7 1),o8))) (
  some (.inr w3))
def UB(s0:List UInt8)(s6 s7:Int)(w3:List UInt8):Option ((List UInt8)):=Ab (fun s:Int×List UInt8=>Jv s0 s6 s.1 s.2) (s7,w3)
def Xy(a0:List UInt8):Option (List UInt8):=
 AF (UB a0 (a0.length:Int) 0 ([]:List UInt8)) fun o9=>
 BC (fit o9.length [(0:UInt8),(1:UInt8)].length 1) (
  some (o9++[(0:UInt8),(1:UInt8)]))
def Zq(a0:X4):Option (List UInt8):=
 AE (decide (a0.kind=1)) (
  AF (Ye a0.int) fun r1=>
  BC (fit [u8w a0.kind].length r1.length 1) (
   some ([u8w a0.kind]++r1))) (
  AE (decide (a0.kind=2)) (
   AF (Xy a0.str) fun r2=>
   BC (fit [u8w a0.kind].length r2.length 1) (
    some ([u8w a0.kind]++r2))) (
   AE (a0.bool) (
    BC (fit [u8w a0.kind].length [(1:UInt8)].length 1) (
     some ([u8w a0.kind]++[(1:UInt8)]))) (
    BC (fit [u8w a0.kind].length [(0:UInt8)].length 1) (
     some ([u8w a0.kind]++[(0:UInt8)])))))
def HO(s6:List X4)(s7 s8:Int)(w3:List UInt8):Option ((Int×List UInt8)⊕((List UInt8)⊕Unit)):=
 AE (decide (s8<s7)) (
  Ae s6 s8 fun x4=>
  AF (Yy x4) fun r5=>
  AE (!r5) (
   some (.inr (.inr ()))) (
   AF (Zq x4) fun r6=>
   BC (fit w3.length r6.length 1) (
    some (.inl ((AB .add .i64 s8 1),w3++r6))))) (
  some (.inr (.inl w3)))
def T1(s6:List X4)(s7 s8:Int)(w3:List UInt8):Option ((List UInt8)⊕Unit):=Ab (fun s:Int×List UInt8=>HO s6 s7 s.1 s.2) (s8,w3)
def Xt(a0:List X4):Option (List UInt8):=
 AF (T1 a0 (a0.length:Int) 0 ([]:List UInt8)) fun o7=>
 Ap o7 (fun o8=>
  some o8) (fun o9=>
  some ([]:List UInt8))
def Zu(a0:Int):Option (Bool):=
 some (!decide (a0=a0))
def Qu(a0 a1:Int):Option (Bool):=
 AF (Zu a0) fun r1=>
 AE (r1) (
  AF (Zu a1) fun r2=>
  AE (!r2) (
   some true) (
   some (decide (a0<a1)))) (
  some (decide (a0<a1)))
def WT(s0:List Int)(s1 s6:Int)(s7 s8 s9:Int)(s27:Bool):Option ((Int×Int)):=
 AE (s27) (
  some ((AB .add .i64 s9 1),s8)) (
  some (s7,s9))
def WS(s0:List Int)(s1 s6:Int)(s7 s8:Int):Option ((Int×Int)):=
 Ae s0 (IntKind.wrap .i64 (AB .shr .u64 (IntKind.wrap .u64 (AB .add .i64 s7 s8)) 1)) fun x1=>
 AF (Qu x1 s1) fun r2=>
 AF (WT s0 s1 s6 s7 s8 (IntKind.wrap .i64 (AB .shr .u64 (IntKind.wrap .u64 (AB .add .i64 s7 s8)) 1)) r2) fun o3=>
 some (o3.1,o3.2)
def Jj(s0:List Int)(s1 s6:Int)(s7 s8:Int):Option ((Int×Int)⊕(Int)):=
 AE (decide (s7<s8)) (
  AF (WS s0 s1 s6 s7 s8) fun o4=>
  some (.inl (o4.1,o4.2))) (
  some (.inr s7))
def Tp(s0:List Int)(s1 s6:Int)(s7 s8:Int):Option (Int):=Ab (fun s:Int×Int=>Jj s0 s1 s6 s.1 s.2) (s7,s8)
def Xl(a0:List Int)(a1:Int):Option (Int×Bool):=
 AF (Tp a0 a1 (a0.length:Int) 0 (a0.length:Int)) fun o5=>
 AE (decide (o5<(a0.length:Int))) (
  Ae a0 o5 fun x6=>
  AE (decide (x6=a1)) (
   some (o5,true)) (
   Ae a0 o5 fun x7=>
   AF (Zu x7) fun r8=>
   AE (r8) (
    AF (Zu a1) fun r9=>
    some (o5,r9)) (
    some (o5,false)))) (
  some (o5,false))
def Qv(i:Int)(ys:List Int):Option (List Int):=aG4 8 i ys
def Zr(a1:Int):Option (List Int):=
 AF (Xl ([]:List Int) a1) fun r1=>
 AE (r1.2) (
  some ([]:List Int)) (
  AF (Qv r1.1 [a1]) fun r2=>
  some r2)
def Zs(a0:List UInt8)(a2:Int)(w1:AA)(w2:MP Int (List X0))(w3:MP (List UInt8) (List Int)):Option (AA×MP Int (List X0)×MP (List UInt8) (List Int)):=
 BC ((Cs ([]:List Int) w3 a0).2=false) (
  AF (Zr a2) fun r1=>
  some (w1,w2,GH w3 a0 r1))
def Ny(s1:List X0)(s2 s6:Int)(s10:List UInt8)(s17:List X3)(s18 s19:Int)(s25:List AT)(s26 s27:Int)(s45:Bool)(w0:AA)(w11:X4)(w502:MP Int (List X0))(w503:MP (List UInt8) (List Int))(w997:Int):Option ((List UInt8)):=
 AE (s45) (
  AF (Xt [w11]) fun r5=>
  BC (s10.length+r5.length<=9223372036854775807) (
   some (s10++r5))) (
  some s10)
def Nw(s1:List X0)(s2 s6:Int)(s17:List X3)(s18 s19:Int)(s25:List AT)(s26 s27:Int)(w0:AA)(w502:MP Int (List X0))(w503:MP (List UInt8) (List Int))(w997:Int):Option ((AA×MP Int (List X0)×MP (List UInt8) (List Int))):=
 Ae s25 s27 fun x2=>
 AE (!decide (x2.kind=2)) (
  some (w0,w502,w503)) (
  AF (Q1 s6 s27) fun r3=>
  AF (Y6 s1 x2.n) fun r4=>
  AF (Ny s1 s2 s6 r3 s17 s18 s19 s25 s26 s27 r4.2 w0 r4.1 w502 w503 w997) fun o6=>
  AF (Zs o6 s2 w0 w502 w503) fun r7=>
  some (r7.1,r7.2.1,r7.2.2))
def HJ(s1:List X0)(s2 s6:Int)(s17:List X3)(s18 s19:Int)(s25:List AT)(s26 w997 s27:Int)(w0:AA)(w502:MP Int (List X0))(w503:MP (List UInt8) (List Int)):Option ((Int×AA×MP Int (List X0)×MP (List UInt8) (List Int))⊕((AA×MP Int (List X0)×MP (List UInt8) (List Int)))):=
 AE (decide (s27<s26)) (
  AF (Nw s1 s2 s6 s17 s18 s19 s25 s26 s27 w0 w502 w503 w997) fun o8=>
  some (.inl ((AB .add .i64 s27 1),o8.1,o8.2.1,o8.2.2))) (
  some (.inr (w0,w502,w503)))
def TB(s1:List X0)(s2 s6:Int)(s17:List X3)(s18 s19:Int)(s25:List AT)(s26 w997 s27:Int)(w0:AA)(w502:MP Int (List X0))(w503:MP (List UInt8) (List Int)):Option ((AA×MP Int (List X0)×MP (List UInt8) (List Int))):=Ab (fun s:Int×AA×MP Int (List X0)×MP (List UInt8) (List Int)=>HJ s1 s2 s6 s17 s18 s19 s25 s26 w997 s.1 s.2.1 s.2.2.1 s.2.2.2) (s27,w0,w502,w503)
def HI(s1:List X0)(s2:Int)(s17:List X3)(s18 w997 s19:Int)(w0:AA)(w502:MP Int (List X0))(w503:MP (List UInt8) (List Int)):Option ((Int×AA×MP Int (List X0)×MP (List UInt8) (List Int))⊕((AA×MP Int (List X0)×MP (List UInt8) (List Int)))):=
 AE (decide (s19<s18)) (
  Ae s17 s19 fun x1=>
  AF (TB s1 s2 s19 s17 s18 s19 x1.args (x1.args.length:Int) w997 0 w0 w502 w503) fun o9=>
  some (.inl ((AB .add .i64 s19 1),o9.1,o9.2.1,o9.2.2))) (
  some (.inr (w0,w502,w503)))
def S9(s1:List X0)(s2:Int)(s17:List X3)(s18 w997 s19:Int)(w0:AA)(w502:MP Int (List X0))(w503:MP (List UInt8) (List Int)):Option ((AA×MP Int (List X0)×MP (List UInt8) (List Int))):=Ab (fun s:Int×AA×MP Int (List X0)×MP (List UInt8) (List Int)=>HI s1 s2 s17 s18 w997 s.1 s.2.1 s.2.2.1 s.2.2.2) (s19,w0,w502,w503)
def Xa(a1:List X0)(a2:Int)(w0:AA)(w2:MP Int (List X0))(w3:MP (List UInt8) (List Int)):Option (AA×MP Int (List X0)×MP (List UInt8) (List Int)):=
 AF (S9 a1 a2 w0.symbols (w0.symbols.length:Int) a2 0 w0 w2 w3) fun o10=>
 some (o10.1,o10.2.1,o10.2.2)
def Yr(a1:Int)(a2:List X0)(w0:AA)(w1:MP Int (List X0))(w2:MP (List UInt8) (List Int)):Option (Bool×AA×MP Int (List X0)×MP (List UInt8) (List Int)):=
 AE ((Cs ([]:List X0) w1 a1).2) (
  some (false,w0,w1,w2)) (
  AF (Qt a2) fun r1=>
  AF (Xa a2 a1 w0 (GH w1 a1 r1) w2) fun r2=>
  some (true,r2.1,r2.2.1,r2.2.2))
def Qw(l:List Int):Option (List Int):=Fc 8 l
def Qx(i:Int)(xs ys:List Int):Option (List Int):=aG3 8 i xs ys
def Zt(a1:Int)(w0:List Int):Option (List Int):=
 AF (Xl w0 a1) fun r1=>
 AE (r1.2) (
  some w0) (
  AF (Qx r1.1 w0 [a1]) fun r2=>
  some r2)
def HP(s10:List Int)(s11 s12:Int)(w5:List Int):Option ((Int×List Int)⊕((List Int))):=
 AE (decide (s12<s11)) (
  Ae s10 s12 fun x2=>
  AF (Zt x2 w5) fun r3=>
  some (.inl ((AB .add .i64 s12 1),r3))) (
  some (.inr w5))
def T4(s10:List Int)(s11 s12:Int)(w5:List Int):Option ((List Int)):=Ab (fun s:Int×List Int=>HP s10 s11 s.1 s.2) (s12,w5)
def Xu(a0 a1:List Int):Option (List Int):=
 AF (Qw a0) fun r1=>
 AF (T4 a1 (a1.length:Int) 0 r1) fun o4=>
 some o4
def Qy(l:List Int):Option (List Int):=Fc 8 l
def Ti(s1:List Int)(s7:Int)(s10:List Int)(s11 s12:Int)(s22:Bool)(w5:List Int):Option ((List Int)):=
 AE (s22) (
  BC (fit w5.length [s7].length 8) (
   some (w5++[s7]))) (
  some w5)
def Oc(s1 s10:List Int)(s11 s12:Int)(w5:List Int):Option ((List Int)):=
 Ae s10 s12 fun x5=>
 AF (Xl s1 x5) fun r6=>
 AF (Ti s1 x5 s10 s11 s12 r6.2 w5) fun o7=>
 some o7
def HM(s1 s10:List Int)(s11 s12:Int)(w5:List Int):Option ((Int×List Int)⊕((List Int))):=
 AE (decide (s12<s11)) (
  AF (Oc s1 s10 s11 s12 w5) fun o8=>
  some (.inl ((AB .add .i64 s12 1),o8))) (
  some (.inr w5))
def Tk(s1 s10:List Int)(s11 s12:Int)(w5:List Int):Option ((List Int)):=Ab (fun s:Int×List Int=>HM s1 s10 s11 s.1 s.2) (s12,w5)
def Xj(a0 a1:List Int):Option (List Int):=
 AF (Tk a1 a0 (a0.length:Int) 0 ([]:List Int)) fun o9=>
 some o9
def OJ(s2:Bool)(s7:List Int)(s8:Bool)(s13:List UInt8)(s14:List Int)(s24:List AT)(s25 s26:Int)(s58:Bool)(w0:AA)(w4:A8)(w501:MP Int (List X0))(w502:MP (List UInt8) (List Int)):Option ((List Int)):=
 AE (s58) (
  AF (Xu s14 ((Cs ([]:List Int) w502 s13).1)) fun r16=>
  some r16) (
  some s14)
def OK(s2:Bool)(s7:List Int)(s8:Bool)(s14:List Int)(s24:List AT)(s25 s26:Int)(s67:Bool)(w0:AA)(w4:A8)(w501:MP Int (List X0))(w502:MP (List UInt8) (List Int)):Option ((List Int×Bool)):=
 AE (s67) (
  AF (Qy s14) fun r18=>
  some (r18,false)) (
  AF (Xj s7 s14) fun r19=>
  some (r19,s8))
def OI(s2:Bool)(s7:List Int)(s8:Bool)(s24:List AT)(s25 s26:Int)(w0:AA)(w4:A8)(w501:MP Int (List X0))(w502:MP (List UInt8) (List Int)):Option ((List Int×Bool)):=
 Ae s24 s26 fun x12=>
 AE (!decide (x12.kind=2)) (
  some (s7,s8)) (
  AF (Y6 w4.bind x12.n) fun r13=>
  AF (Q1 w4.symbol s26) fun r14=>
  AF (Xt [r13.1]) fun r15=>
  BC (r14.length+r15.length<=9223372036854775807) (
   AF (OJ s2 s7 s8 r14 ((Cs ([]:List Int) w502 (r14++r15)).1) s24 s25 s26 (!s2) w0 w4 w501 w502) fun o17=>
   AF (OK s2 s7 s8 o17 s24 s25 s26 s8 w0 w4 w501 w502) fun o20=>
   some (o20.1,o20.2)))
def HK(s2:Bool)(s24:List AT)(s25:Int)(w0:AA)(w4:A8)(w501:MP Int (List X0))(w502:MP (List UInt8) (List Int))(s7:List Int)(s8:Bool)(s26:Int):Option ((List Int×Bool×Int)⊕((List Int×Bool))):=
 AE (decide (s26<s25)) (
  AF (OI s2 s7 s8 s24 s25 s26 w0 w4 w501 w502) fun o21=>
  some (.inl (o21.1,o21.2,(AB .add .i64 s26 1)))) (
  some (.inr (s7,s8)))
def TS(s2:Bool)(s24:List AT)(s25:Int)(w0:AA)(w4:A8)(w501:MP Int (List X0))(w502:MP (List UInt8) (List Int))(s7:List Int)(s8:Bool)(s26:Int):Option ((List Int×Bool)):=Ab (fun s:List Int×Bool×Int=>HK s2 s24 s25 w0 w4 w501 w502 s.1 s.2.1 s.2.2) (s7,s8,s26)
def Xe(a1:A8)(a2:Bool)(w0:AA)(w1:MP Int (List X0))(w2:MP (List UInt8) (List Int)):Option (List Int×AA×MP Int (List X0)×MP (List UInt8) (List Int)):=
 Ae w0.symbols a1.symbol fun x1=>
 AF (TS a2 x1.args (x1.args.length:Int) w0 a1 w1 w2 ([]:List Int) true 0) fun o22=>
 AE (o22.2) (
  none) (
  some (o22.1,w0,w1,w2))
def HQ(s2:Bool)(s12:List A8)(s13:Int)(s7:List Int)(s14:Int)(w0:AA)(w501:MP Int (List X0))(w502:MP (List UInt8) (List Int)):Option ((List Int×Int×AA×MP Int (List X0)×MP (List UInt8) (List Int))⊕((List Int×AA×MP Int (List X0)×MP (List UInt8) (List Int)))):=
 AE (decide (s14<s13)) (
  Ae s12 s14 fun x4=>
  AF (Xe x4 s2 w0 w501 w502) fun r5=>
  AF (Xu s7 r5.1) fun r6=>
  some (.inl (r6,(AB .add .i64 s14 1),r5.2.1,r5.2.2.1,r5.2.2.2))) (
  some (.inr (s7,w0,w501,w502)))
def UF(s2:Bool)(s12:List A8)(s13:Int)(s7:List Int)(s14:Int)(w0:AA)(w501:MP Int (List X0))(w502:MP (List UInt8) (List Int)):Option ((List Int×AA×MP Int (List X0)×MP (List UInt8) (List Int))):=Ab (fun s:List Int×Int×AA×MP Int (List X0)×MP (List UInt8) (List Int)=>HQ s2 s12 s13 s.1 s.2.1 s.2.2.1 s.2.2.2.1 s.2.2.2.2) (s7,s14,w0,w501,w502)
def Y1(a1:List A8)(a2:Bool)(w0:AA)(w1:MP Int (List X0))(w2:MP (List UInt8) (List Int)):Option (List Int×AA×MP Int (List X0)×MP (List UInt8) (List Int)):=
 AF (UF a2 a1 (a1.length:Int) ([]:List Int) 0 w0 w1 w2) fun o7=>
 some (o7.1,o7.2.1,o7.2.2.1,o7.2.2.2)
def Zl(a1:List A8)(w0:AA)(w1:MP Int (List X0))(w2:MP (List UInt8) (List Int)):Option (List Int×AA×MP Int (List X0)×MP (List UInt8) (List Int)):=
 AF (Y1 a1 false w0 w1 w2) fun r1=>
 some (r1.1,r1.2.1,r1.2.2.1,r1.2.2.2)
def Zm:Option (Bool):=
 AF (Wz (Zp (AA.mk ([113]:List UInt8) ([X9.mk ([97]:List UInt8) [1]]) ([Xc.mk false ([120]:List UInt8) 1]) ([]:List Xf) ([Xv.mk ([115]:List UInt8) false false]) 0 ([X3.mk 0 ([AT.mk 2 0 (X4.mk 0 0 ([]:List UInt8) false)])]) ([]:List X8) ([]:List X5))) (Zv (AA.mk ([113]:List UInt8) ([X9.mk ([97]:List UInt8) [1]]) ([Xc.mk false ([120]:List UInt8) 1]) ([]:List Xf) ([Xv.mk ([115]:List UInt8) false false]) 0 ([X3.mk 0 ([AT.mk 2 0 (X4.mk 0 0 ([]:List UInt8) false)])]) ([]:List X8) ([]:List X5)))) fun o1=>
 Ap o1 (fun o2=>
  some false) (fun o3=>
  AF (Zk 5) fun r4=>
  AF (Yr 4 [r4] o3.1 o3.2.1 o3.2.2) fun r5=>
  AF (Zk 6) fun r6=>
  AF (Yr 5 [r6] r5.2.1 r5.2.2.1 r5.2.2.2) fun r7=>
  AF (Yr 6 ([]:List X0) r7.2.1 r7.2.2.1 r7.2.2.2) fun r8=>
  AF (Zk 5) fun r9=>
  AF (Zl ([A8.mk 0 [r9] ([]:List X0)]) r8.2.1 r8.2.2.1 r8.2.2.2) fun r10=>
  AE (decide ((r10.1.length:Int)=2)) (
   Ae r10.1 0 fun x11=>
   AE (decide (x11=4)) (
    Ae r10.1 1 fun x12=>
    some (decide (x12=6))) (
    some false)) (
   some false))
def Qs:Option (List (List UInt8)):=
 some ([([97,99,99,101,112,116]:List UInt8),([97,108,115,111]:List UInt8),([97,110,100]:List UInt8),([98,111,111,108]:List UInt8),([100,111]:List UInt8),([101,118,101,110,116]:List UInt8),([101,120,105,115,116,115]:List UInt8),([102,97,108,115,101]:List UInt8),([102,111,114,97,108,108]:List UInt8),([102,114,101,101]:List UInt8),([105,102]:List UInt8),([105,110,116]:List UInt8),([110,101,120,116]:List UInt8),([110,111,116]:List UInt8),([111,110]:List UInt8),([111,114]:List UInt8),([113,101,97]:List UInt8),([115,107,105,112]:List UInt8),([115,116,97,114,116]:List UInt8),([115,116,114,105,110,103]:List UInt8),([116,111]:List UInt8),([116,114,117,101]:List UInt8)])
def HT(s0:List UInt8)(s3:Int):Option ((Int)⊕(Unit⊕Unit)):=
 AE (decide (s3<(s0.length:Int))) (
  Ae s0 s3 fun x1=>
  AE (decide (((65:UInt8).toNat:Int)<=(x1.toNat:Int))) (
   AE (decide ((x1.toNat:Int)<=((90:UInt8).toNat:Int))) (
    some (.inl (AB .add .i64 s3 1))) (
    AE (decide (((97:UInt8).toNat:Int)<=(x1.toNat:Int))) (
     AE (decide ((x1.toNat:Int)<=((122:UInt8).toNat:Int))) (
      some (.inl (AB .add .i64 s3 1))) (
      AE (!(decide ((x1.toNat:Int)=((95:UInt8).toNat:Int)))) (
       AE (decide (s3=0)) (
        some (.inr (.inr ()))) (
        AE (decide ((x1.toNat:Int)<((48:UInt8).toNat:Int))) (
         some (.inr (.inr ()))) (
         AE (decide (((57:UInt8).toNat:Int)<(x1.toNat:Int))) (
          some (.inr (.inr ()))) (
          some (.inl (AB .add .i64 s3 1)))))) (
       some (.inl (AB .add .i64 s3 1))))) (
     AE (!(decide ((x1.toNat:Int)=((95:UInt8).toNat:Int)))) (
      AE (decide (s3=0)) (
       some (.inr (.inr ()))) (
       AE (decide ((x1.toNat:Int)<((48:UInt8).toNat:Int))) (
        some (.inr (.inr ()))) (
        AE (decide (((57:UInt8).toNat:Int)<(x1.toNat:Int))) (
         some (.inr (.inr ()))) (
         some (.inl (AB .add .i64 s3 1)))))) (
      some (.inl (AB .add .i64 s3 1)))))) (
   AE (decide (((97:UInt8).toNat:Int)<=(x1.toNat:Int))) (
    AE (decide ((x1.toNat:Int)<=((122:UInt8).toNat:Int))) (
     some (.inl (AB .add .i64 s3 1))) (
     AE (!(decide ((x1.toNat:Int)=((95:UInt8).toNat:Int)))) (
      AE (decide (s3=0)) (
       some (.inr (.inr ()))) (
       AE (decide ((x1.toNat:Int)<((48:UInt8).toNat:Int))) (
        some (.inr (.inr ()))) (
        AE (decide (((57:UInt8).toNat:Int)<(x1.toNat:Int))) (
         some (.inr (.inr ()))) (
         some (.inl (AB .add .i64 s3 1)))))) (
      some (.inl (AB .add .i64 s3 1))))) (
    AE (!(decide ((x1.toNat:Int)=((95:UInt8).toNat:Int)))) (
     AE (decide (s3=0)) (
      some (.inr (.inr ()))) (
      AE (decide ((x1.toNat:Int)<((48:UInt8).toNat:Int))) (
       some (.inr (.inr ()))) (
       AE (decide (((57:UInt8).toNat:Int)<(x1.toNat:Int))) (
        some (.inr (.inr ()))) (
        some (.inl (AB .add .i64 s3 1)))))) (
     some (.inl (AB .add .i64 s3 1)))))) (
  some (.inr (.inl ())))
def Wc(s0:List UInt8)(s3:Int):Option (Unit⊕Unit):=Ab (fun s:Int=>HT s0 s) s3
def Yj(a0:List UInt8):Option (Bool):=
 AE (decide ((a0.length:Int)<1)) (
  some false) (
  AE (decide (32<(a0.length:Int))) (
   some false) (
   AF (Wc a0 0) fun o2=>
   Ap o2 (fun o3=>
    some true) (fun o4=>
    some false)))
def HS(s0:List UInt8)(s3:List (List UInt8))(s4:Int):Option ((Int)⊕(Unit⊕Unit)):=
 AE (decide (s4<(s3.length:Int))) (
  Ae s3 s4 fun x2=>
  AE (decide (x2=s0)) (
   some (.inr (.inr ()))) (
   some (.inl (AB .add .i64 s4 1)))) (
  some (.inr (.inl ())))
def WZ(s0:List UInt8)(s3:List (List UInt8))(s4:Int):Option (Unit⊕Unit):=Ab (fun s:Int=>HS s0 s3 s) s4
def Yf(a0:List UInt8):Option (Bool):=
 AF (Qs) fun r1=>
 AF (WZ a0 r1 0) fun o3=>
 Ap o3 (fun o4=>
  AF (Yj a0) fun r6=>
  AE (r6) (
   some (!decide (a0=([95]:List UInt8)))) (
   some false)) (fun o5=>
  some false)
def HW(s0:List X9)(s1:List UInt8)(s5:Int):Option ((Int)⊕(Unit⊕Int)):=
 AE (decide (s5<(s0.length:Int))) (
  Ae s0 s5 fun x1=>
  AE (decide (x1.name=s1)) (
   some (.inr (.inr s5))) (
   some (.inl (AB .add .i64 s5 1)))) (
  some (.inr (.inl ())))
def Wg(s0:List X9)(s1:List UInt8)(s5:Int):Option (Unit⊕Int):=Ab (fun s:Int=>HW s0 s1 s) s5
def Ym(a0:List X9)(a1:List UInt8):Option (Int):=
 AF (Wg a0 a1 0) fun o2=>
 Ap o2 (fun o3=>
  some (-1)) (fun o4=>
  some o4)
def HR(s0:List X9)(s4 s5:Int):Option ((Int)⊕(Unit⊕Unit)):=
 Ae s0 s4 fun x6=>
 AE (decide (s5<(x6.types.length:Int))) (
  Ae s0 s4 fun x7=>
  Ae x7.types s5 fun x8=>
  AE (decide (x8<1)) (
   some (.inr (.inr ()))) (
   Ae s0 s4 fun x9=>
   Ae x9.types s5 fun x10=>
   AE (decide (3<x10)) (
    some (.inr (.inr ()))) (
    some (.inl (AB .add .i64 s5 1))))) (
  some (.inr (.inl ())))
def UP(s0:List X9)(s4 s5:Int):Option (Unit⊕Unit):=Ab (fun s:Int=>HR s0 s4 s) s5
def FM(s0:List X9)(s4:Int):Option ((Int)⊕(Unit⊕(Int×Int))):=
 AE (decide (s4<(s0.length:Int))) (
  Ae s0 s4 fun x1=>
  AF (Yf x1.name) fun r2=>
  AE (!r2) (
   some (.inr (.inr (11,s4)))) (
   Ae s0 s4 fun x3=>
   AF (Ym s0 x3.name) fun r4=>
   AE (decide (r4<s4)) (
    some (.inr (.inr (10,s4)))) (
    Ae s0 s4 fun x5=>
    AE (decide (8<(x5.types.length:Int))) (
     some (.inr (.inr (14,s4)))) (
     AF (UP s0 s4 0) fun o11=>
     Ap o11 (fun o12=>
      some (.inl (AB .add .i64 s4 1))) (fun o13=>
      some (.inr (.inr (8,s4)))))))) (
  some (.inr (.inl ())))
def WY(s0:List X9)(s4:Int):Option (Unit⊕(Int×Int)):=Ab (fun s:Int=>FM s0 s) s4
def Y7(a0:List X9):Option (Int×Int):=
 AE (decide (32<(a0.length:Int))) (
  some (14,32)) (
  AF (WY a0 0) fun o14=>
  Ap o14 (fun o15=>
   some (0,(-1))) (fun o16=>
   some (o16.1,o16.2)))
def Z0(a0:X4):Option (Bool):=
 AE (decide (a0.kind=1)) (
  AE (decide (a0.str=([]:List UInt8))) (
   some (!a0.bool)) (
   some false)) (
  AE (decide (a0.kind=2)) (
   AE (decide (a0.int=0)) (
    AE (!a0.bool) (
     some (decide ((a0.str.length:Int)<=4096))) (
     some false)) (
    some false)) (
   AE (decide (a0.kind=3)) (
    AE (decide (a0.int=0)) (
     some (decide (a0.str=([]:List UInt8)))) (
     some false)) (
    some false)))
def HU(s0:List (List UInt8))(s1 s5:Int):Option ((Int)⊕(Unit⊕Unit)):=
 AE (decide (s5<s1)) (
  Ae s0 s5 fun x1=>
  Ae s0 s1 fun x2=>
  AE (decide (x1=x2)) (
   some (.inr (.inr ()))) (
   some (.inl (AB .add .i64 s5 1)))) (
  some (.inr (.inl ())))
def Wd(s0:List (List UInt8))(s1 s5:Int):Option (Unit⊕Unit):=Ab (fun s:Int=>HU s0 s1 s) s5
def Yk(a0:List (List UInt8))(a1:Int):Option (Bool):=
 AF (Wd a0 a1 0) fun o3=>
 Ap o3 (fun o4=>
  some false) (fun o5=>
  some true)
def Ew(w1:AA)(s4:Int)(w3:List (List UInt8)):Option ((Int×List (List UInt8))⊕((List (List UInt8))⊕Unit)):=
 AE (decide (s4<(w1.quants.length:Int))) (
  Ae w1.quants s4 fun x4=>
  BC (fit w3.length [x4.name].length 16) (
   Ae w1.quants s4 fun x5=>
   AE (decide (x5.type<1)) (
    some (.inr (.inr ()))) (
    Ae w1.quants s4 fun x6=>
    AE (decide (3<x6.type)) (
     some (.inr (.inr ()))) (
     some (.inl ((AB .add .i64 s4 1),w3++[x4.name])))))) (
  some (.inr (.inl w3)))
def TU(w1:AA)(s4:Int)(w3:List (List UInt8)):Option ((List (List UInt8))⊕Unit):=Ab (fun s:Int×List (List UInt8)=>Ew w1 s.1 s.2) (s4,w3)
def Ey(w1:AA)(s5:Int)(w3:List (List UInt8)):Option ((Int×List (List UInt8))⊕((List (List UInt8))⊕Unit)):=
 AE (decide (s5<(w1.frees.length:Int))) (
  Ae w1.frees s5 fun x10=>
  BC (fit w3.length [x10.name].length 16) (
   Ae w1.frees s5 fun x11=>
   AF (Z0 x11.init_) fun r12=>
   AE (!r12) (
    some (.inr (.inr ()))) (
    some (.inl ((AB .add .i64 s5 1),w3++[x10.name]))))) (
  some (.inr (.inl w3)))
def TW(w1:AA)(s5:Int)(w3:List (List UInt8)):Option ((List (List UInt8))⊕Unit):=Ab (fun s:Int×List (List UInt8)=>Ey w1 s.1 s.2) (s5,w3)
def HL(w1:AA)(w3:List (List UInt8))(s6:Int):Option ((Int)⊕(Unit⊕Unit)):=
 AE (decide (s6<(w3.length:Int))) (
  Ae w3 s6 fun x16=>
  AF (Yf x16) fun r17=>
  AE (!r17) (
   some (.inr (.inr ()))) (
   AF (Yk w3 s6) fun r18=>
   AE (r18) (
    some (.inr (.inr ()))) (
    some (.inl (AB .add .i64 s6 1))))) (
  some (.inr (.inl ())))
def TY(w1:AA)(w3:List (List UInt8))(s6:Int):Option (Unit⊕Unit):=Ab (fun s:Int=>HL w1 w3 s) s6
def D4(w1:AA)(s8:Int)(w7:List (List UInt8)):Option ((Int×List (List UInt8))⊕(Unit⊕Unit)):=
 AE (decide (s8<(w1.states.length:Int))) (
  Ae w1.states s8 fun x26=>
  BC (fit w7.length [x26.name].length 16) (
   Ae (w7++[x26.name]) s8 fun x27=>
   AF (Yf x27) fun r28=>
   AE (!r28) (
    some (.inr (.inr ()))) (
    AF (Yk (w7++[x26.name]) s8) fun r29=>
    AE (r29) (
     some (.inr (.inr ()))) (
     some (.inl ((AB .add .i64 s8 1),w7++[x26.name])))))) (
  some (.inr (.inl ())))
def Ta(w1:AA)(s8:Int)(w7:List (List UInt8)):Option (Unit⊕Unit):=Ab (fun s:Int×List (List UInt8)=>D4 w1 s.1 s.2) (s8,w7)
def Xg(a0:AA):Option (Bool):=
 AF (TU a0 0 ([]:List (List UInt8))) fun o7=>
 Ap o7 (fun o8=>
  AF (TW a0 0 o8) fun o13=>
  Ap o13 (fun o14=>
   AF (TY a0 o14 0) fun o19=>
   Ap o19 (fun o20=>
    AF (Ta a0 0 ([]:List (List UInt8))) fun o30=>
    Ap o30 (fun o31=>
     AF (Yf a0.name) fun r33=>
     some r33) (fun o32=>
     some false)) (fun o21=>
    some false)) (fun o15=>
   some false)) (fun o9=>
  some false)
def Ys(a0:Bool):Option (X4×Int):=
 some (X4.mk 3 0 ([]:List UInt8) a0,0)
def Qz(a0 a1:Int):Option (Int×Bool):=
 AE (decide (0<a1)) (
  AE (decide ((AB .sub .i64 9223372036854775807 a1)<a0)) (
   some (0,false)) (
   AE (decide (a1<0)) (
    AE (decide (a0<(AB .sub .i64 (-9223372036854775808) a1))) (
     some (0,false)) (
     some ((AB .add .i64 a0 a1),true))) (
    some ((AB .add .i64 a0 a1),true)))) (
  AE (decide (a1<0)) (
   AE (decide (a0<(AB .sub .i64 (-9223372036854775808) a1))) (
    some (0,false)) (
    some ((AB .add .i64 a0 a1),true))) (
   some ((AB .add .i64 a0 a1),true)))
def Zx(a0:Int)(a1:Bool):Option (X4×Int):=
 AE (!a1) (
  some (X4.mk 0 0 ([]:List UInt8) false,6)) (
  some (X4.mk 1 a0 ([]:List UInt8) false,0))
def Zy(a0 a1:Int):Option (Int×Bool):=
 AE (decide (a1<0)) (
  AE (decide ((AB .add .i64 9223372036854775807 a1)<a0)) (
   some (0,false)) (
   AE (decide (0<a1)) (
    AE (decide (a0<(AB .add .i64 (-9223372036854775808) a1))) (
     some (0,false)) (
     some ((AB .sub .i64 a0 a1),true))) (
    some ((AB .sub .i64 a0 a1),true)))) (
  AE (decide (0<a1)) (
   AE (decide (a0<(AB .add .i64 (-9223372036854775808) a1))) (
    some (0,false)) (
    some ((AB .sub .i64 a0 a1),true))) (
   some ((AB .sub .i64 a0 a1),true)))
def U0(a0 a1:Int):Option (Int×Bool):=
 AE (decide (a0=0)) (
  some (0,true)) (
  AE (decide (a1=0)) (
   some (0,true)) (
   AE (decide (a0=(-1))) (
    AF (Zy 0 a1) fun r1=>
    some (r1.1,r1.2)) (
    AE (decide (a1=(-1))) (
     AF (Zy 0 a0) fun r2=>
     some (r2.1,r2.2)) (
     AE (decide (0<a0)) (
      AE (decide (0<a1)) (
       BC (a1≠0) (
        AE (decide ((AB .quo .i64 9223372036854775807 a1)<a0)) (
         some (0,false)) (
         AE (decide (a1<0)) (
          BC (a0≠0) (
           AE (decide (a1<(AB .quo .i64 (-9223372036854775808) a0))) (
            some (0,false)) (
            AE (decide (a0<0)) (
             BC (a1≠0) (
              AE (decide (a0<(AB .quo .i64 (-9223372036854775808) a1))) (
               some (0,false)) (
               BC (a1≠0) (
                AE (decide (a0<(AB .quo .i64 9223372036854775807 a1))) (
                 some (0,false)) (
                 some ((AB .mul .i64 a0 a1),true)))))) (
             some ((AB .mul .i64 a0 a1),true))))) (
          AE (decide (a0<0)) (
           BC (a1≠0) (
            AE (decide (a0<(AB .quo .i64 (-9223372036854775808) a1))) (
             some (0,false)) (
             some ((AB .mul .i64 a0 a1),true)))) (
           some ((AB .mul .i64 a0 a1),true)))))) (
       AE (decide (a1<0)) (
        BC (a0≠0) (
         AE (decide (a1<(AB .quo .i64 (-9223372036854775808) a0))) (
          some (0,false)) (
          AE (decide (a0<0)) (
           BC (a1≠0) (
            AE (decide (a0<(AB .quo .i64 9223372036854775807 a1))) (
             some (0,false)) (
             some ((AB .mul .i64 a0 a1),true)))) (
           some ((AB .mul .i64 a0 a1),true))))) (
        AE (decide (a0<0)) (
         some ((AB .mul .i64 a0 a1),true)) (
         some ((AB .mul .i64 a0 a1),true))))) (
      AE (decide (a0<0)) (
       AE (decide (0<a1)) (
        BC (a1≠0) (
         AE (decide (a0<(AB .quo .i64 (-9223372036854775808) a1))) (
          some (0,false)) (
          AE (decide (a1<0)) (
           BC (a1≠0) (
            AE (decide (a0<(AB .quo .i64 9223372036854775807 a1))) (
             some (0,false)) (
             some ((AB .mul .i64 a0 a1),true)))) (
           some ((AB .mul .i64 a0 a1),true))))) (
        AE (decide (a1<0)) (
         BC (a1≠0) (
          AE (decide (a0<(AB .quo .i64 9223372036854775807 a1))) (
           some (0,false)) (
           some ((AB .mul .i64 a0 a1),true)))) (
         some ((AB .mul .i64 a0 a1),true)))) (
       some ((AB .mul .i64 a0 a1),true)))))))
def U1(a0 a1:Int):Option (Int×Int×Int):=
 AE (decide (a1=0)) (
  some (0,0,7)) (
  AE (decide (a1=(-1))) (
   AF (Zy 0 a0) fun r1=>
   AE (!r1.2) (
    some (0,0,6)) (
    some (r1.1,0,0))) (
   BC (a1≠0) (
    BC (a1≠0) (
     some ((AB .quo .i64 a0 a1),(AB .rem .i64 a0 a1),0)))))
def Qa(a0 a1 a2:Int):Option (X4×Int):=
 AE (decide (a0=8)) (
  AF (Qz a1 a2) fun r1=>
  AF (Zx r1.1 r1.2) fun r2=>
  some (r2.1,r2.2)) (
  AE (decide (a0=9)) (
   AF (Zy a1 a2) fun r3=>
   AF (Zx r3.1 r3.2) fun r4=>
   some (r4.1,r4.2)) (
   AE (decide (a0=10)) (
    AF (U0 a1 a2) fun r5=>
    AF (Zx r5.1 r5.2) fun r6=>
    some (r6.1,r6.2)) (
    AF (U1 a1 a2) fun r7=>
    AE (decide (r7.2.2=7)) (
     some (X4.mk 0 0 ([]:List UInt8) false,7)) (
     AE (decide (a0=12)) (
      some (X4.mk 1 r7.2.1 ([]:List UInt8) false,0)) (
      AF (Zx r7.1 (decide (r7.2.2=0))) fun r8=>
      some (r8.1,r8.2))))))
def KD(s0 s1:List UInt8)(s5:Int):Option ((Int)⊕(Unit⊕Bool)):=
 AE (decide (s5<(s0.length:Int))) (
  AE (decide (s5<(s1.length:Int))) (
   Ae s0 s5 fun x1=>
   Ae s1 s5 fun x2=>
   AE (!decide ((x1.toNat:Int)=(x2.toNat:Int))) (
    Ae s0 s5 fun x3=>
    Ae s1 s5 fun x4=>
    some (.inr (.inr (decide ((x3.toNat:Int)<(x4.toNat:Int)))))) (
    some (.inl (AB .add .i64 s5 1)))) (
   some (.inr (.inl ())))) (
  some (.inr (.inl ())))
def Wh(s0 s1:List UInt8)(s5:Int):Option (Unit⊕Bool):=Ab (fun s:Int=>KD s0 s1 s) s5
def Yn(a0 a1:List UInt8):Option (Bool):=
 AF (Wh a0 a1 0) fun o5=>
 Ap o5 (fun o6=>
  some (decide ((a0.length:Int)<(a1.length:Int)))) (fun o7=>
  some o7)
def Zz(a0 a1:X4):Option (Bool):=
 AE (!decide (a0.kind=a1.kind)) (
  some (decide (a0.kind<a1.kind))) (
  AE (decide (a0.kind=1)) (
   some (decide (a0.int<a1.int))) (
   AE (decide (a0.kind=2)) (
    AF (Yn a0.str a1.str) fun r1=>
    some r1) (
    AE (!a0.bool) (
     some a1.bool) (
     some false))))
def U2(a0:Int)(a1 a2:X4):Option (X4×Int):=
 AE (decide (a0<4)) (
  some (X4.mk 0 0 ([]:List UInt8) false,1)) (
  AE (decide (16<a0)) (
   some (X4.mk 0 0 ([]:List UInt8) false,1)) (
   AE (decide (a0=4)) (
    AE (!decide (a1.kind=3)) (
     some (X4.mk 0 0 ([]:List UInt8) false,8)) (
     AF (Ys (!a1.bool)) fun r1=>
     some (r1.1,r1.2))) (
    AE (decide (a0=5)) (
     AE (!decide (a1.kind=1)) (
      some (X4.mk 0 0 ([]:List UInt8) false,8)) (
      AF (Qa 9 0 a1.int) fun r2=>
      some (r2.1,r2.2))) (
     AE (!decide (a1.kind=a2.kind)) (
      some (X4.mk 0 0 ([]:List UInt8) false,8)) (
      AE (decide (a0=13)) (
       AF (Ys (X4.eqb a1 a2)) fun r3=>
       some (r3.1,r3.2)) (
       AE (decide (a0=14)) (
        AF (Ys (!(X4.eqb a1 a2))) fun r4=>
        some (r4.1,r4.2)) (
        AE (decide (a1.kind=3)) (
         AE (decide (a0=6)) (
          AE (a1.bool) (
           AF (Ys a2.bool) fun r5=>
           some (r5.1,r5.2)) (
           AF (Ys false) fun r6=>
           some (r6.1,r6.2))) (
          AE (decide (a0=7)) (
           AE (a1.bool) (
            AF (Ys true) fun r7=>
            some (r7.1,r7.2)) (
            AF (Ys a2.bool) fun r8=>
            some (r8.1,r8.2))) (
           some (X4.mk 0 0 ([]:List UInt8) false,8)))) (
         AE (decide (a0=15)) (
          AF (Zz a1 a2) fun r9=>
          AF (Ys r9) fun r10=>
          some (r10.1,r10.2)) (
          AE (decide (a0=16)) (
           AF (Zz a2 a1) fun r11=>
           AF (Ys (!r11)) fun r12=>
           some (r12.1,r12.2)) (
           AE (decide (a1.kind=1)) (
            AE (decide (8<=a0)) (
             AE (decide (a0<=12)) (
              AF (Qa a0 a1.int a2.int) fun r13=>
              some (r13.1,r13.2)) (
              AE (decide (a1.kind=2)) (
               AE (decide (a0=8)) (
                AE (decide (4096<(AB .add .i64 (a1.str.length:Int) (a2.str.length:Int)))) (
                 some (X4.mk 0 0 ([]:List UInt8) false,3)) (
                 BC (a1.str.length+a2.str.length<=9223372036854775807) (
                  some (X4.mk 2 0 (a1.str++a2.str) false,0)))) (
                some (X4.mk 0 0 ([]:List UInt8) false,8))) (
               some (X4.mk 0 0 ([]:List UInt8) false,8)))) (
             AE (decide (a1.kind=2)) (
              AE (decide (a0=8)) (
               AE (decide (4096<(AB .add .i64 (a1.str.length:Int) (a2.str.length:Int)))) (
                some (X4.mk 0 0 ([]:List UInt8) false,3)) (
                BC (a1.str.length+a2.str.length<=9223372036854775807) (
                 some (X4.mk 2 0 (a1.str++a2.str) false,0)))) (
               some (X4.mk 0 0 ([]:List UInt8) false,8))) (
              some (X4.mk 0 0 ([]:List UInt8) false,8)))) (
            AE (decide (a1.kind=2)) (
             AE (decide (a0=8)) (
              AE (decide (4096<(AB .add .i64 (a1.str.length:Int) (a2.str.length:Int)))) (
               some (X4.mk 0 0 ([]:List UInt8) false,3)) (
               BC (a1.str.length+a2.str.length<=9223372036854775807) (
                some (X4.mk 2 0 (a1.str++a2.str) false,0)))) (
              some (X4.mk 0 0 ([]:List UInt8) false,8))) (
             some (X4.mk 0 0 ([]:List UInt8) false,8)))))))))))))
def Yw(a0 a1 a2:Int):Option (Int):=
 AE (decide (a1<1)) (
  some 0) (
  AE (!decide (a1=a2)) (
   some 0) (
   AF (U2 a0 (X4.mk a1 0 ([]:List UInt8) false) (X4.mk a2 0 ([]:List UInt8) false)) fun r1=>
   AE (decide (r1.2=7)) (
    some 1) (
    AE (!decide (r1.2=0)) (
     some 0) (
     some r1.1.kind))))
def Jx(self:AA->Int->Option (Int×Int×Int))(a0:AA)(a1:Int):Option (Int×Int×Int):=
 AE (decide (a1<0)) (
  some (0,0,0)) (
  AE (decide ((a0.nodes.length:Int)<=a1)) (
   some (0,0,0)) (
   Ae a0.nodes a1 fun x1=>
   AE (decide (x1.op=1)) (
    AE (!decide (x1.a=0)) (
     some (0,0,0)) (
     AE (!decide (x1.b=0)) (
      some (0,0,0)) (
      AF (Z0 x1.value) fun r2=>
      AE (!r2) (
       some (0,0,0)) (
       some (x1.value.kind,1,a1))))) (
    AE (!(X4.eqb x1.value (X4.mk 0 0 ([]:List UInt8) false))) (
     some (0,0,0)) (
     AE (decide (x1.op=2)) (
      AE (decide (x1.a<0)) (
       some (0,0,0)) (
       AE (decide ((a0.quants.length:Int)<=x1.a)) (
        some (0,0,0)) (
        AE (!decide (x1.b=0)) (
         some (0,0,0)) (
         Ae a0.quants x1.a fun x3=>
         some (x3.type,1,a1))))) (
      AE (decide (x1.op=3)) (
       AE (decide (x1.a<0)) (
        some (0,0,0)) (
        AE (decide ((a0.frees.length:Int)<=x1.a)) (
         some (0,0,0)) (
         AE (!decide (x1.b=0)) (
          some (0,0,0)) (
          Ae a0.frees x1.a fun x4=>
          some (x4.init_.kind,1,a1))))) (
       AE (decide (x1.op<4)) (
        some (0,0,0)) (
        AE (decide (16<x1.op)) (
         some (0,0,0)) (
         AF (self a0 (AB .sub .i64 a1 1)) fun r5=>
         AE (decide (x1.op<=5)) (
          AE (decide (r5.1=0)) (
           some (0,0,0)) (
           AE (!decide (x1.a=(AB .sub .i64 a1 1))) (
            some (0,0,0)) (
            AE (!decide (x1.b=0)) (
             some (0,0,0)) (
             AF (Yw x1.op r5.1 r5.1) fun r6=>
             some (r6,(AB .add .i64 r5.2.1 1),r5.2.2))))) (
          AE (decide (r5.1=0)) (
           some (0,0,0)) (
           AE (!decide (x1.b=(AB .sub .i64 a1 1))) (
            some (0,0,0)) (
            AE (!decide (x1.a=(AB .sub .i64 r5.2.2 1))) (
             some (0,0,0)) (
             AF (self a0 (AB .sub .i64 r5.2.2 1)) fun r7=>
             AF (Yw x1.op r7.1 r5.1) fun r8=>
             some (r8,(AB .add .i64 (Ea r5.2.1 r7.2.1) 1),r7.2.2)))))))))))))
def GA:Nat->AA->Int->Option (Int×Int×Int)
 |0=>fun _ _=>none
 |n+1=>fun a0 a1=>Jx (GA n) a0 a1
def Y0(a0:AA)(a1:Int):Option (Int×Int×Int):=GA 100000 a0 a1
def Q3(a0:AA)(a1 a2:Int):Option (Int×Int):=
 AF (Y0 a0 a2) fun r1=>
 AE (decide (r1.1=0)) (
  some (0,0)) (
  AE (!decide (r1.2.2=a1)) (
   some (0,0)) (
   some (r1.1,r1.2.1)))
def HV(s1:Int)(w2:X3)(s5:Int):Option ((Int)⊕(Unit⊕Unit)):=
 AE (decide (s5<(w2.args.length:Int))) (
  Ae w2.args s5 fun x1=>
  AE (decide (x1.kind=2)) (
   Ae w2.args s5 fun x2=>
   AE (decide (x2.n=s1)) (
    some (.inr (.inr ()))) (
    some (.inl (AB .add .i64 s5 1)))) (
   some (.inl (AB .add .i64 s5 1)))) (
  some (.inr (.inl ())))
def We(s1:Int)(w2:X3)(s5:Int):Option (Unit⊕Unit):=Ab (fun s:Int=>HV s1 w2 s) s5
def Yl(a0:X3)(a1:Int):Option (Bool):=
 AF (We a1 a0 0) fun o3=>
 Ap o3 (fun o4=>
  some false) (fun o5=>
  some true)
def HX(s3:Int)(w4:AA)(w5:X3)(s9:Int):Option ((Int)⊕(Unit⊕Unit)):=
 AE (decide (s9<s3)) (
  Ae w4.nodes s9 fun x1=>
  AE (decide (x1.op=2)) (
   Ae w4.nodes s9 fun x2=>
   AF (Yl w5 x2.a) fun r3=>
   AE (!r3) (
    some (.inr (.inr ()))) (
    some (.inl (AB .add .i64 s9 1)))) (
   some (.inl (AB .add .i64 s9 1)))) (
  some (.inr (.inl ())))
def Wi(s3:Int)(w4:AA)(w5:X3)(s9:Int):Option (Unit⊕Unit):=Ab (fun s:Int=>HX s3 w4 w5 s) s9
def Yo(a0:AA)(a1:X3)(a2 a3:Int):Option (Bool):=
 AF (Wi a3 a0 a1 a2) fun o4=>
 Ap o4 (fun o5=>
  some true) (fun o6=>
  some false)
def Ol(s2 s8:Int)(s56:Bool)(w3:AA)(w4:X5):Option (Int⊕Unit):=
 AE (s56) (
  AF (Q3 w3 s8 w4.guard) fun r1=>
  AE (!decide (r1.1=3)) (
   some (.inr ())) (
   AE (decide (64<r1.2)) (
    some (.inr ())) (
    some (.inl (AB .add .i64 w4.guard 1))))) (
  some (.inl s8))
def HN(s2 s11:Int)(w3:AA)(w4:X5)(w12:Ar)(s15:Int):Option ((Int)⊕(Unit⊕Unit)):=
 AE (decide (s15<s11)) (
  Ae w4.sets s15 fun x8=>
  AE (decide (x8.free=w12.free)) (
   some (.inr (.inr ()))) (
   some (.inl (AB .add .i64 s15 1)))) (
  some (.inr (.inl ())))
def Tu(s2 s11:Int)(w3:AA)(w4:X5)(w12:Ar)(s15:Int):Option (Unit⊕Unit):=Ab (fun s:Int=>HN s2 s11 w3 w4 w12 s) s15
def D5(s2:Int)(w3:AA)(w4:X5)(s8 s11:Int):Option ((Int×Int)⊕(Int⊕Unit)):=
 AE (decide (s11<(w4.sets.length:Int))) (
  Ae w4.sets s11 fun x5=>
  AF (Q3 w3 s8 x5.expr) fun r6=>
  AE (decide (x5.free<0)) (
   some (.inr (.inr ()))) (
   AE (decide ((w3.frees.length:Int)<=x5.free)) (
    some (.inr (.inr ()))) (
    AE (decide (r6.1=0)) (
     some (.inr (.inr ()))) (
     AE (decide (64<r6.2)) (
      some (.inr (.inr ()))) (
      Ae w3.frees x5.free fun x7=>
      AE (!decide (r6.1=x7.init_.kind)) (
       some (.inr (.inr ()))) (
       AF (Tu s2 s11 w3 w4 x5 0) fun o9=>
       Ap o9 (fun o10=>
        some (.inl ((AB .add .i64 x5.expr 1),(AB .add .i64 s11 1)))) (fun o11=>
        some (.inr (.inr ()))))))))) (
  some (.inr (.inl s8)))
def Om(s2:Int)(w3:AA)(w4:X5)(s8 s11:Int):Option (Int⊕Unit):=Ab (fun s:Int×Int=>D5 s2 w3 w4 s.1 s.2) (s8,s11)
theorem LV(s2:Int)(w3:AA)(w4:X5)(s8 s11:Int):Om s2 w3 w4 s8 s11=H4 (D5 s2 w3 w4 s8 s11) (fun s:Int×Int=>Om s2 w3 w4 s.1 s.2):=Cj _ _
def Xn(a0:AA)(a1:X5)(a2:Int):Option (Int×Bool):=
 AE (decide (a1.from_<0)) (
  some (0,false)) (
  AE (decide ((a0.states.length:Int)<=a1.from_)) (
   some (0,false)) (
   AE (decide (a1.to<0)) (
    some (0,false)) (
    AE (decide ((a0.states.length:Int)<=a1.to)) (
     some (0,false)) (
     AE (decide (a1.symbol<0)) (
      some (0,false)) (
      AE (decide ((a0.symbols.length:Int)<=a1.symbol)) (
       some (0,false)) (
       AF (Ol a2 a2 (!decide (a1.guard=(-1))) a0 a1) fun o2=>
       Ap o2 (fun o3=>
        AF (Om a2 a0 a1 o3 0) fun o12=>
        Ap o12 (fun o13=>
         Ae a0.symbols a1.symbol fun x15=>
         AF (Yo a0 x15 a2 o13) fun r16=>
         some (o13,r16)) (fun o14=>
         some (0,false))) (fun o4=>
        some (0,false))))))))
def Qb(a0:AA)(a1:AT)(a2:Int):Option (Bool):=
 AE (decide (a1.kind=1)) (
  AE (decide (a1.n=0)) (
   AF (Z0 a1.value) fun r1=>
   AE (r1) (
    some (decide (a1.value.kind=a2))) (
    some false)) (
   some false)) (
  AE (!(X4.eqb a1.value (X4.mk 0 0 ([]:List UInt8) false))) (
   some false) (
   AE (decide (a1.kind=2)) (
    AE (decide (0<=a1.n)) (
     AE (decide (a1.n<(a0.quants.length:Int))) (
      Ae a0.quants a1.n fun x2=>
      some (decide (x2.type=a2))) (
      some false)) (
     some false)) (
    AE (decide (a1.kind=3)) (
     AE (decide (0<=a1.n)) (
      AE (decide (a1.n<(a0.frees.length:Int))) (
       Ae a0.frees a1.n fun x3=>
       some (decide (x3.init_.kind=a2))) (
       some false)) (
      some false)) (
     AE (decide (a1.kind=4)) (
      some (decide (a1.n=0))) (
      some false)))))
def HY(w2:AA)(w3:X3)(s5:Int):Option ((Int)⊕(Unit⊕Unit)):=
 AE (decide (s5<(w3.args.length:Int))) (
  Ae w3.args s5 fun x2=>
  Ae w2.decls w3.event fun x3=>
  Ae x3.types s5 fun x4=>
  AF (Qb w2 x2 x4) fun r5=>
  AE (!r5) (
   some (.inr (.inr ()))) (
   some (.inl (AB .add .i64 s5 1)))) (
  some (.inr (.inl ())))
def Wj(w2:AA)(w3:X3)(s5:Int):Option (Unit⊕Unit):=Ab (fun s:Int=>HY w2 w3 s) s5
def Yp(a0:AA)(a1:X3):Option (Bool):=
 AE (decide (a1.event<0)) (
  some false) (
  AE (decide ((a0.decls.length:Int)<=a1.event)) (
   some false) (
   Ae a0.decls a1.event fun x1=>
   AE (!decide ((a1.args.length:Int)=(x1.types.length:Int))) (
    some false) (
    AF (Wj a0 a1 0) fun o6=>
    Ap o6 (fun o7=>
     some true) (fun o8=>
     some false))))
def HZ(w2 w3:X3)(s5:Int):Option ((Int)⊕(Unit⊕Unit)):=
 AE (decide (s5<(w2.args.length:Int))) (
  Ae w2.args s5 fun x1=>
  Ae w3.args s5 fun x2=>
  AE (!(AT.eqb x1 x2)) (
   some (.inr (.inr ()))) (
   some (.inl (AB .add .i64 s5 1)))) (
  some (.inr (.inl ())))
def Wl(w2 w3:X3)(s5:Int):Option (Unit⊕Unit):=Ab (fun s:Int=>HZ w2 w3 s) s5
def Yq(a0 a1:X3):Option (Bool):=
 AE (!decide (a0.event=a1.event)) (
  some false) (
  AE (!decide ((a0.args.length:Int)=(a1.args.length:Int))) (
   some false) (
   AF (Wl a0 a1 0) fun o3=>
   Ap o3 (fun o4=>
    some true) (fun o5=>
    some false)))
def So(s5 s6:Int)(s34:Bool)(w1:AA)(w3:List Bool)(w4:List Int):Option ((List Int)):=
 AE (s34) (
  BC (fit w4.length [s6].length 8) (
   some (w4++[s6]))) (
  some w4)
def Sm(s5:Int)(w1:AA)(w3:List Bool)(w4:List Int):Option ((List Bool×List Int)):=
 Ae w1.trans s5 fun x5=>
 BC (0<=x5.symbol/\x5.symbol+1<=(w3.length:Int)) (
  Ae w3 x5.symbol fun x6=>
  AF (So s5 x5.symbol (!x6) w1 w3 w4) fun o7=>
  BC (0<=x5.symbol/\x5.symbol+1<=(w3.length:Int)) (
   BC (0<=x5.symbol/\x5.symbol+1<=(w3.length:Int)) (
    some (w3.set x5.symbol.toNat true,o7))))
def Em(w1:AA)(s5:Int)(w3:List Bool)(w4:List Int):Option ((Int×List Bool×List Int)⊕((List Int))):=
 AE (decide (s5<(w1.trans.length:Int))) (
  AF (Sm s5 w1 w3 w4) fun o8=>
  some (.inl ((AB .add .i64 s5 1),o8.1,o8.2))) (
  some (.inr w4))
def Sq(w1:AA)(s5:Int)(w3:List Bool)(w4:List Int):Option ((List Int)):=Ab (fun s:Int×List Bool×List Int=>Em w1 s.1 s.2.1 s.2.2) (s5,w3,w4)
def HE(w1:AA)(w4:List Int)(s7:Int):Option ((Int)⊕(Unit⊕Unit)):=
 AE (decide (s7<(w4.length:Int))) (
  Ae w4 s7 fun x10=>
  AE (!decide (x10=(AB .add .i64 (AB .sub .i64 (w1.symbols.length:Int) (w4.length:Int)) s7))) (
   some (.inr (.inr ()))) (
   some (.inl (AB .add .i64 s7 1)))) (
  some (.inr (.inl ())))
def Ss(w1:AA)(w4:List Int)(s7:Int):Option (Unit⊕Unit):=Ab (fun s:Int=>HE w1 w4 s) s7
def HG(s8:Int)(w1:AA)(s9:Int):Option ((Int)⊕(Unit⊕Unit)):=
 AE (decide (s9<s8)) (
  Ae w1.symbols s8 fun x16=>
  Ae w1.symbols s9 fun x17=>
  AF (Yq x16 x17) fun r18=>
  AE (r18) (
   some (.inr (.inr ()))) (
   some (.inl (AB .add .i64 s9 1)))) (
  some (.inr (.inl ())))
def Sx(s8:Int)(w1:AA)(s9:Int):Option (Unit⊕Unit):=Ab (fun s:Int=>HG s8 w1 s) s9
def HF(w1:AA)(s8:Int):Option ((Int)⊕(Unit⊕Unit)):=
 AE (decide (s8<(w1.symbols.length:Int))) (
  Ae w1.symbols s8 fun x14=>
  AF (Yp w1 x14) fun r15=>
  AE (!r15) (
   some (.inr (.inr ()))) (
   AF (Sx s8 w1 0) fun o19=>
   Ap o19 (fun o20=>
    some (.inl (AB .add .i64 s8 1))) (fun o21=>
    some (.inr (.inr ()))))) (
  some (.inr (.inl ())))
def Sv(w1:AA)(s8:Int):Option (Unit⊕Unit):=Ab (fun s:Int=>HF w1 s) s8
def DS(s10:Int)(w1:AA)(s11:Bool)(s12:Int):Option ((Bool×Int)⊕(Bool)):=
 AE (decide (s12<(w1.symbols.length:Int))) (
  AE (s11) (
   some (.inl (true,(AB .add .i64 s12 1)))) (
   Ae w1.symbols s12 fun x25=>
   AF (Yl x25 s10) fun r26=>
   some (.inl (r26,(AB .add .i64 s12 1))))) (
  some (.inr s11))
def K6(s10:Int)(w1:AA)(s11:Bool)(s12:Int):Option (Bool):=Ab (fun s:Bool×Int=>DS s10 w1 s.1 s.2) (s11,s12)
def HH(w1:AA)(s10:Int):Option ((Int)⊕(Unit⊕Unit)):=
 AE (decide (s10<(w1.quants.length:Int))) (
  AF (K6 s10 w1 false 0) fun o27=>
  AE (!o27) (
   some (.inr (.inr ()))) (
   some (.inl (AB .add .i64 s10 1)))) (
  some (.inr (.inl ())))
def Sz(w1:AA)(s10:Int):Option (Unit⊕Unit):=Ab (fun s:Int=>HH w1 s) s10
def X6(a0:AA):Option (Bool):=
 BC (0<=(a0.symbols.length:Int)/\fit 0 (a0.symbols.length:Int).toNat 1) (
  AF (Sq a0 0 (List.replicate (a0.symbols.length:Int).toNat false) ([]:List Int)) fun o9=>
  AF (Ss a0 o9 0) fun o11=>
  Ap o11 (fun o12=>
   AF (Sv a0 0) fun o22=>
   Ap o22 (fun o23=>
    AF (Sz a0 0) fun o28=>
    Ap o28 (fun o29=>
     some true) (fun o30=>
     some false)) (fun o24=>
    some false)) (fun o13=>
   some false))
def FU(w1:AA)(s5 s6:Int):Option ((Int×Int)⊕(Int⊕Unit)):=
 AE (decide (s6<(w1.trans.length:Int))) (
  Ae w1.trans s6 fun x3=>
  AF (Xn w1 x3 s5) fun r4=>
  AE (!r4.2) (
   some (.inr (.inr ()))) (
   some (.inl (r4.1,(AB .add .i64 s6 1))))) (
  some (.inr (.inl s5)))
def Mf(w1:AA)(s5 s6:Int):Option (Int⊕Unit):=Ab (fun s:Int×Int=>FU w1 s.1 s.2) (s5,s6)
theorem Ly(w1:AA)(s5 s6:Int):Mf w1 s5 s6=H4 (FU w1 s5 s6) (fun s:Int×Int=>Mf w1 s.1 s.2):=Cj _ _
def Yg(a0:AA):Option (Bool):=
 AF (Y7 a0.decls) fun r1=>
 AE (!decide (r1.1=0)) (
  some false) (
  AE (decide (8<(a0.quants.length:Int))) (
   some false) (
   AE (decide (16<(a0.frees.length:Int))) (
    some false) (
    AE (decide (32<(a0.states.length:Int))) (
     some false) (
     AE (decide (64<(a0.symbols.length:Int))) (
      some false) (
      AE (decide (2048<(a0.nodes.length:Int))) (
       some false) (
       AE (decide (256<(a0.trans.length:Int))) (
        some false) (
        AE (decide (a0.start<0)) (
         some false) (
         AE (decide ((a0.states.length:Int)<=a0.start)) (
          some false) (
          AF (Xg a0) fun r2=>
          AE (!r2) (
           some false) (
           AF (Mf a0 0 0) fun o5=>
           Ap o5 (fun o6=>
            AE (decide (o6=(a0.nodes.length:Int))) (
             AF (X6 a0) fun r8=>
             some r8) (
             some false)) (fun o7=>
            some false)))))))))))
def Q8(a1:Int)(a2:List X0):Option (Bool):=
 some false
def Qc(a1:Int):Option (Bool):=
 some false
def Qd(a1:List A8)(a2:Bool):Option (List Int):=
 some ([]:List Int)
def Qe(a1:List A8):Option (List Int):=
 AF (Qd a1 false) fun r1=>
 some r1
def Qf(a1:List A8):Option (List Int):=
 AF (Qd a1 true) fun r1=>
 some r1
def Qg:Option (List (List UInt8)):=
 some ([]:List (List UInt8))
def Qh:Option (Int):=
 some 0
def Z1(a0:AA)(a1:Int):Option (Bool):=
 AF (X7 a0) fun r1=>
 AE (decide (r1=0)) (
  AF (Zm) fun r2=>
  some r2) (
  AF (Wz (Zp a0) (Zv a0)) fun o3=>
  Ap o3 (fun o4=>
   AF (Yg a0) fun r6=>
   AE (!(false==r6)) (
    some false) (
    AF (Q8 a1 ([]:List X0)) fun r7=>
    AE (!r7) (
     AF (Qc a1) fun r8=>
     AE (!r8) (
      AF (Qe ([A8.mk 0 ([]:List X0) ([]:List X0)])) fun r9=>
      AE (decide ((r9.length:Int)=0)) (
       AF (Qf ([A8.mk 0 ([]:List X0) ([]:List X0)])) fun r10=>
       AE (decide ((r10.length:Int)=0)) (
        AF (Qg) fun r11=>
        AE (decide ((r11.length:Int)=0)) (
         AF (Qh) fun r12=>
         AE (decide (r12=0)) (
          AF (Zm) fun r13=>
          some r13) (
          some false)) (
         some false)) (
        some false)) (
       some false)) (
      some false)) (
     some false))) (fun o5=>
   AF (Yg a0) fun r14=>
   AE (!(true==r14)) (
    some false) (
    AF (Q8 a1 ([]:List X0)) fun r15=>
    AE (!r15) (
     AF (Qc a1) fun r16=>
     AE (!r16) (
      AF (Qe ([A8.mk 0 ([]:List X0) ([]:List X0)])) fun r17=>
      AE (decide ((r17.length:Int)=0)) (
       AF (Qf ([A8.mk 0 ([]:List X0) ([]:List X0)])) fun r18=>
       AE (decide ((r18.length:Int)=0)) (
        AF (Qg) fun r19=>
        AE (decide ((r19.length:Int)=0)) (
         AF (Qh) fun r20=>
         AE (decide (r20=0)) (
          AF (Zm) fun r21=>
          some r21) (
          some false)) (
         some false)) (
        some false)) (
       some false)) (
      some false)) (
     some false))))
end
end Go.Ac
