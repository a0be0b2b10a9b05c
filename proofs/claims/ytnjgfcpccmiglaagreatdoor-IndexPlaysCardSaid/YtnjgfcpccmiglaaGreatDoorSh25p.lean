/- Own work, printed: the functions as Lean functions. -/
import Derived.Test.YtnjgfcpccmiglaaGreatDoorAcC
import Derived.Test.YtnjgfcpccmiglaaGreatDoorAcD
set_option linter.unusedVariables false
set_option linter.unusedSimpArgs false
namespace Go.Ac
noncomputable section
abbrev bAo(P:Program)(rd:Option Nat)(root:Code)(p:List Nat)(s:St)(x:Ex×St):Prop:=EL P rd root p s x.1 x.2
abbrev dI(x:Int):A:=.d (D.i .i64 x)
abbrev sI(n:Nat)(x:Int):Nat×A:=(n,dI x)
abbrev sD{α:Type}(n:Nat)(f:α->D)(x:α):Nat×A:=(n,.d (f x))
abbrev bx(n:Nat):Nat×A:=(n,.box n 0)
abbrev rx(n:Nat):Nat×A:=(n,.row n)
abbrev cL{α:Type}(n:Nat)(f:α->D)(x:α):Nat×Bk:=(n,.cells (AW (f x)))
abbrev rW{α:Type}(n e k:Nat)(f:α->D)(x:List α):Nat×Bk:=(n,.rw e k (x.map f))
abbrev eP{α:Type}(n:Nat)(f:α->D)(x:α):Nat×A:=(n,.eptr (D.cells (f x)))
abbrev dU:Int->D:=D.i .u64
abbrev dW:Int->D:=D.i .u32
abbrev dZ:Int->D:=D.i .i64
abbrev bT(n:Nat):Nat×W:=(n,.bit true)
abbrev bF(n:Nat):Nat×W:=(n,.bit false)
structure X8 where
 name:List UInt8
 types:List Int
 deriving DecidableEq
def X8.D(v:X8):D:=.agg ([D.s v.name]++[(D.l (D.i .i64)) v.types])
instance :Bz X8.D 2:=⟨fun _=>rfl⟩
structure Xd where
 all:Bool
 name:List UInt8
 type:Int
def Xd.D(v:Xd):D:=.agg ([D.b v.all]++[D.s v.name]++[(D.i .i64) v.type])
instance :Bz Xd.D 3:=⟨fun _=>rfl⟩
def Xd.eqb(a b:Xd):Bool:=((a.all==b.all)&&(decide (a.name=b.name)&&(decide (a.type=b.type)&&true)))
theorem Xd.eqb_iff(a b:Xd):Xd.eqb a b=true↔a=b:=by cases a;cases b;simp[Xd.eqb]
instance :DecidableEq Xd:=fun a b=>decidable_of_iff (Xd.eqb a b=true) (Xd.eqb_iff a b)
structure X3 where
 kind:Int
 int:Int
 str:List UInt8
 bool:Bool
def X3.D(v:X3):D:=.agg ([(D.i .i64) v.kind]++[(D.i .i64) v.int]++[D.s v.str]++[D.b v.bool])
instance :Bz X3.D 4:=⟨fun _=>rfl⟩
def X3.eqb(a b:X3):Bool:=(decide (a.kind=b.kind)&&(decide (a.int=b.int)&&(decide (a.str=b.str)&&((a.bool==b.bool)&&true))))
theorem X3.eqb_iff(a b:X3):X3.eqb a b=true↔a=b:=by cases a;cases b;simp[X3.eqb]
instance :DecidableEq X3:=fun a b=>decidable_of_iff (X3.eqb a b=true) (X3.eqb_iff a b)
structure Xi where
 name:List UInt8
 init_:X3
def Xi.D(v:Xi):D:=.agg ([D.s v.name]++(X3.D v.init_).cells)
instance :Bz Xi.D 5:=⟨fun _=>rfl⟩
def Xi.eqb(a b:Xi):Bool:=(decide (a.name=b.name)&&(X3.eqb a.init_ b.init_&&true))
theorem Xi.eqb_iff(a b:Xi):Xi.eqb a b=true↔a=b:=by cases a;cases b;simp[Xi.eqb,X3.eqb_iff]
instance :DecidableEq Xi:=fun a b=>decidable_of_iff (Xi.eqb a b=true) (Xi.eqb_iff a b)
structure Yc where
 name:List UInt8
 next:Bool
 accept:Bool
def Yc.D(v:Yc):D:=.agg ([D.s v.name]++[D.b v.next]++[D.b v.accept])
instance :Bz Yc.D 3:=⟨fun _=>rfl⟩
def Yc.eqb(a b:Yc):Bool:=(decide (a.name=b.name)&&((a.next==b.next)&&((a.accept==b.accept)&&true)))
theorem Yc.eqb_iff(a b:Yc):Yc.eqb a b=true↔a=b:=by cases a;cases b;simp[Yc.eqb]
instance :DecidableEq Yc:=fun a b=>decidable_of_iff (Yc.eqb a b=true) (Yc.eqb_iff a b)
structure AX where
 kind:Int
 n:Int
 value:X3
def AX.D(v:AX):D:=.agg ([(D.i .i64) v.kind]++[(D.i .i64) v.n]++(X3.D v.value).cells)
instance :Bz AX.D 6:=⟨fun _=>rfl⟩
def AX.eqb(a b:AX):Bool:=(decide (a.kind=b.kind)&&(decide (a.n=b.n)&&(X3.eqb a.value b.value&&true)))
theorem AX.eqb_iff(a b:AX):AX.eqb a b=true↔a=b:=by cases a;cases b;simp[AX.eqb,X3.eqb_iff]
instance :DecidableEq AX:=fun a b=>decidable_of_iff (AX.eqb a b=true) (AX.eqb_iff a b)
structure X2 where
 event:Int
 args:List AX
 deriving DecidableEq
def X2.D(v:X2):D:=.agg ([(D.i .i64) v.event]++[(D.l AX.D) v.args])
instance :Bz X2.D 2:=⟨fun _=>rfl⟩
structure Xb where
 op:Int
 a:Int
 b:Int
 value:X3
def Xb.D(v:Xb):D:=.agg ([(D.i .i64) v.op]++[(D.i .i64) v.a]++[(D.i .i64) v.b]++(X3.D v.value).cells)
instance :Bz Xb.D 7:=⟨fun _=>rfl⟩
def Xb.eqb(a b:Xb):Bool:=(decide (a.op=b.op)&&(decide (a.a=b.a)&&(decide (a.b=b.b)&&(X3.eqb a.value b.value&&true))))
theorem Xb.eqb_iff(a b:Xb):Xb.eqb a b=true↔a=b:=by cases a;cases b;simp[Xb.eqb,X3.eqb_iff]
instance :DecidableEq Xb:=fun a b=>decidable_of_iff (Xb.eqb a b=true) (Xb.eqb_iff a b)
structure A9 where
 free:Int
 expr:Int
def A9.D(v:A9):D:=.agg ([(D.i .i64) v.free]++[(D.i .i64) v.expr])
instance :Bz A9.D 2:=⟨fun _=>rfl⟩
def A9.eqb(a b:A9):Bool:=(decide (a.free=b.free)&&(decide (a.expr=b.expr)&&true))
theorem A9.eqb_iff(a b:A9):A9.eqb a b=true↔a=b:=by cases a;cases b;simp[A9.eqb]
instance :DecidableEq A9:=fun a b=>decidable_of_iff (A9.eqb a b=true) (A9.eqb_iff a b)
structure X5 where
 from_:Int
 symbol:Int
 to:Int
 guard:Int
 sets:List A9
 deriving DecidableEq
def X5.D(v:X5):D:=.agg ([(D.i .i64) v.from_]++[(D.i .i64) v.symbol]++[(D.i .i64) v.to]++[(D.i .i64) v.guard]++[(D.l A9.D) v.sets])
instance :Bz X5.D 5:=⟨fun _=>rfl⟩
structure AA where
 name:List UInt8
 decls:List X8
 quants:List Xd
 frees:List Xi
 states:List Yc
 start:Int
 symbols:List X2
 nodes:List Xb
 trans:List X5
 deriving DecidableEq
def AA.D(v:AA):D:=.agg ([D.s v.name]++[(D.l X8.D) v.decls]++[(D.l Xd.D) v.quants]++[(D.l Xi.D) v.frees]++[(D.l Yc.D) v.states]++[(D.i .i64) v.start]++[(D.l X2.D) v.symbols]++[(D.l Xb.D) v.nodes]++[(D.l X5.D) v.trans])
instance :Bz AA.D 9:=⟨fun _=>rfl⟩
structure X0 where
 var:Int
 value:X3
def X0.D(v:X0):D:=.agg ([(D.i .i64) v.var]++(X3.D v.value).cells)
instance :Bz X0.D 5:=⟨fun _=>rfl⟩
def X0.eqb(a b:X0):Bool:=(decide (a.var=b.var)&&(X3.eqb a.value b.value&&true))
theorem X0.eqb_iff(a b:X0):X0.eqb a b=true↔a=b:=by cases a;cases b;simp[X0.eqb,X3.eqb_iff]
instance :DecidableEq X0:=fun a b=>decidable_of_iff (X0.eqb a b=true) (X0.eqb_iff a b)
structure Xg where
 kind:Int
 iD:Int
 bind:List X0
 deriving DecidableEq
def Xg.D(v:Xg):D:=.agg ([(D.i .i64) v.kind]++[(D.i .i64) v.iD]++[(D.l X0.D) v.bind])
instance :Bz Xg.D 3:=⟨fun _=>rfl⟩
structure Ae where
 symbol:Int
 bind:List X0
 frees:List X0
 deriving DecidableEq
def Ae.D(v:Ae):D:=.agg ([(D.i .i64) v.symbol]++[(D.l X0.D) v.bind]++[(D.l X0.D) v.frees])
instance :Bz Ae.D 3:=⟨fun _=>rfl⟩
structure Xm where
 name:List UInt8
 args:List X3
 deriving DecidableEq
def Xm.D(v:Xm):D:=.agg ([D.s v.name]++[(D.l X3.D) v.args])
instance :Bz Xm.D 2:=⟨fun _=>rfl⟩
structure X6 where
 iD:Int
 bind:List X0
 deriving DecidableEq
def X6.D(v:X6):D:=.agg ([(D.i .i64) v.iD]++[(D.l X0.D) v.bind])
instance :Bz X6.D 2:=⟨fun _=>rfl⟩
structure X4 where
 kind:Int
 depth:Int
 from_:Int
def X4.D(v:X4):D:=.agg ([(D.i .i64) v.kind]++[(D.i .i64) v.depth]++[(D.i .i64) v.from_])
instance :Bz X4.D 3:=⟨fun _=>rfl⟩
def X4.eqb(a b:X4):Bool:=(decide (a.kind=b.kind)&&(decide (a.depth=b.depth)&&(decide (a.from_=b.from_)&&true)))
theorem X4.eqb_iff(a b:X4):X4.eqb a b=true↔a=b:=by cases a;cases b;simp[X4.eqb]
instance :DecidableEq X4:=fun a b=>decidable_of_iff (X4.eqb a b=true) (X4.eqb_iff a b)
def GH(w1:AA)(s3:Int):Option ((Int)⊕(Unit⊕Unit)):=
 AE (decide (s3<(w1.decls.length:Int))) (
  Ab w1.decls s3 fun x1=>
  AE (decide (12<(x1.types.length:Int))) (
   some (.inr (.inr ()))) (
   Ab w1.decls s3 fun x2=>
   AE (decide (100<(x2.name.length:Int))) (
    some (.inr (.inr ()))) (
    some (.inl (AB .add .i64 s3 1))))) (
  some (.inr (.inl ())))
def aLx(w1:AA)(s3:Int):Option (Unit⊕Unit):=AZ (fun s:Int=>GH w1 s) s3
def GJ(s4:Int)(w1:AA)(s5:Int):Option ((Int)⊕(Unit⊕Unit)):=
 Ab w1.symbols s4 fun x7=>
 AE (decide (s5<(x7.args.length:Int))) (
  Ab w1.symbols s4 fun x8=>
  Ab x8.args s5 fun x9=>
  AE (decide (100<(x9.value.str.length:Int))) (
   some (.inr (.inr ()))) (
   some (.inl (AB .add .i64 s5 1)))) (
  some (.inr (.inl ())))
def aLz(s4:Int)(w1:AA)(s5:Int):Option (Unit⊕Unit):=AZ (fun s:Int=>GJ s4 w1 s) s5
def GI(w1:AA)(s4:Int):Option ((Int)⊕(Unit⊕Unit)):=
 AE (decide (s4<(w1.symbols.length:Int))) (
  Ab w1.symbols s4 fun x6=>
  AE (decide (12<(x6.args.length:Int))) (
   some (.inr (.inr ()))) (
   AG (aLz s4 w1 0) fun o10=>
   As o10 (fun o11=>
    some (.inl (AB .add .i64 s4 1))) (fun o12=>
    some (.inr (.inr ()))))) (
  some (.inr (.inl ())))
def aLy(w1:AA)(s4:Int):Option (Unit⊕Unit):=AZ (fun s:Int=>GI w1 s) s4
def GK(w1:AA)(s6:Int):Option ((Int)⊕(Unit⊕Unit)):=
 AE (decide (s6<(w1.frees.length:Int))) (
  Ab w1.frees s6 fun x16=>
  AE (decide (100<(x16.init_.str.length:Int))) (
   some (.inr (.inr ()))) (
   some (.inl (AB .add .i64 s6 1)))) (
  some (.inr (.inl ())))
def aL0(w1:AA)(s6:Int):Option (Unit⊕Unit):=AZ (fun s:Int=>GK w1 s) s6
def GL(w1:AA)(s7:Int):Option ((Int)⊕(Unit⊕Unit)):=
 AE (decide (s7<(w1.nodes.length:Int))) (
  Ab w1.nodes s7 fun x20=>
  AE (decide (100<(x20.value.str.length:Int))) (
   some (.inr (.inr ()))) (
   some (.inl (AB .add .i64 s7 1)))) (
  some (.inr (.inl ())))
def aL1(w1:AA)(s7:Int):Option (Unit⊕Unit):=AZ (fun s:Int=>GL w1 s) s7
def GM(w1:AA)(s8:Int):Option ((Int)⊕(Unit⊕Unit)):=
 AE (decide (s8<(w1.trans.length:Int))) (
  Ab w1.trans s8 fun x24=>
  AE (decide (12<(x24.sets.length:Int))) (
   some (.inr (.inr ()))) (
   some (.inl (AB .add .i64 s8 1)))) (
  some (.inr (.inl ())))
def aL2(w1:AA)(s8:Int):Option (Unit⊕Unit):=AZ (fun s:Int=>GM w1 s) s8
def Xa(a0:AA):Option (Int):=
 AE (decide (12<(a0.decls.length:Int))) (
  some 0) (
  AE (decide (9<(a0.quants.length:Int))) (
   some 0) (
   AE (decide (12<(a0.frees.length:Int))) (
    some 0) (
    AE (decide (12<(a0.states.length:Int))) (
     some 0) (
     AE (decide (12<(a0.symbols.length:Int))) (
      some 0) (
      AE (decide (12<(a0.trans.length:Int))) (
       some 0) (
       AE (decide (40<(a0.nodes.length:Int))) (
        some 0) (
        AE (decide (100<(a0.name.length:Int))) (
         some 0) (
         AG (aLx a0 0) fun o3=>
         As o3 (fun o4=>
          AG (aLy a0 0) fun o13=>
          As o13 (fun o14=>
           AG (aL0 a0 0) fun o17=>
           As o17 (fun o18=>
            AG (aL1 a0 0) fun o21=>
            As o21 (fun o22=>
             AG (aL2 a0 0) fun o25=>
             As o25 (fun o26=>
              some 1) (fun o27=>
              some 0)) (fun o23=>
             some 0)) (fun o19=>
            some 0)) (fun o15=>
           some 0)) (fun o5=>
          some 0)))))))))
def Ue:Option (List (List UInt8)):=
 some ([([97,99,99,101,112,116]:List UInt8),([97,108,115,111]:List UInt8),([97,110,100]:List UInt8),([98,111,111,108]:List UInt8),([100,111]:List UInt8),([101,118,101,110,116]:List UInt8),([101,120,105,115,116,115]:List UInt8),([102,97,108,115,101]:List UInt8),([102,111,114,97,108,108]:List UInt8),([102,114,101,101]:List UInt8),([105,102]:List UInt8),([105,110,116]:List UInt8),([110,101,120,116]:List UInt8),([110,111,116]:List UInt8),([111,110]:List UInt8),([111,114]:List UInt8),([113,101,97]:List UInt8),([115,107,105,112]:List UInt8),([115,116,97,114,116]:List UInt8),([115,116,114,105,110,103]:List UInt8),([116,111]:List UInt8),([116,114,117,101]:List UInt8)])
def Jt(s0:List UInt8)(s3:Int):Option ((Int)⊕(Unit⊕Unit)):=
 AE (decide (s3<(s0.length:Int))) (
  Ab s0 s3 fun x1=>
  AE (decide (((65:UInt8).toNat:Int)<=(x1.toNat:Int))) (
   AE (decide ((x1.toNat:Int)<=((90:UInt8).toNat:Int))) (
    some (.inl (AB .add .i64 s3 1))) (
    AE (decide (((97:UInt8).toNat:Int)<=(x1.toNat:Int))) (
     AE (decide ((x1.toNat:Int)<=((122:UInt8).toNat:Int))) (
      some (.inl (AB .add .i64 s3 1))) (
      AE (!(decide ((x1.toNat:Int)=((95:UInt8).toNat:Int)))) (
       AE (decide (s3=0)) (
        some (.inr (.inr ()))) (
        AE (decide ((x1.toNat:Int)<((48:UInt8).toNat:Int))) (
         some (.inr (.inr ()))) (
         AE (decide (((57:UInt8).toNat:Int)<(x1.toNat:Int))) (
          some (.inr (.inr ()))) (
          some (.inl (AB .add .i64 s3 1)))))) (
       some (.inl (AB .add .i64 s3 1))))) (
     AE (!(decide ((x1.toNat:Int)=((95:UInt8).toNat:Int)))) (
      AE (decide (s3=0)) (
       some (.inr (.inr ()))) (
       AE (decide ((x1.toNat:Int)<((48:UInt8).toNat:Int))) (
        some (.inr (.inr ()))) (
        AE (decide (((57:UInt8).toNat:Int)<(x1.toNat:Int))) (
         some (.inr (.inr ()))) (
         some (.inl (AB .add .i64 s3 1)))))) (
      some (.inl (AB .add .i64 s3 1)))))) (
   AE (decide (((97:UInt8).toNat:Int)<=(x1.toNat:Int))) (
    AE (decide ((x1.toNat:Int)<=((122:UInt8).toNat:Int))) (
     some (.inl (AB .add .i64 s3 1))) (
     AE (!(decide ((x1.toNat:Int)=((95:UInt8).toNat:Int)))) (
      AE (decide (s3=0)) (
       some (.inr (.inr ()))) (
       AE (decide ((x1.toNat:Int)<((48:UInt8).toNat:Int))) (
        some (.inr (.inr ()))) (
        AE (decide (((57:UInt8).toNat:Int)<(x1.toNat:Int))) (
         some (.inr (.inr ()))) (
         some (.inl (AB .add .i64 s3 1)))))) (
      some (.inl (AB .add .i64 s3 1))))) (
    AE (!(decide ((x1.toNat:Int)=((95:UInt8).toNat:Int)))) (
     AE (decide (s3=0)) (
      some (.inr (.inr ()))) (
      AE (decide ((x1.toNat:Int)<((48:UInt8).toNat:Int))) (
       some (.inr (.inr ()))) (
       AE (decide (((57:UInt8).toNat:Int)<(x1.toNat:Int))) (
        some (.inr (.inr ()))) (
        some (.inl (AB .add .i64 s3 1)))))) (
     some (.inl (AB .add .i64 s3 1)))))) (
  some (.inr (.inl ())))
def aMw(s0:List UInt8)(s3:Int):Option (Unit⊕Unit):=AZ (fun s:Int=>Jt s0 s) s3
def Z8(a0:List UInt8):Option (Bool):=
 AE (decide ((a0.length:Int)<1)) (
  some false) (
  AE (decide (32<(a0.length:Int))) (
   some false) (
   AG (aMw a0 0) fun o2=>
   As o2 (fun o3=>
    some true) (fun o4=>
    some false)))
def Jr(s0:List UInt8)(s3:List (List UInt8))(s4:Int):Option ((Int)⊕(Unit⊕Unit)):=
 AE (decide (s4<(s3.length:Int))) (
  Ab s3 s4 fun x2=>
  AE (decide (x2=s0)) (
   some (.inr (.inr ()))) (
   some (.inl (AB .add .i64 s4 1)))) (
  some (.inr (.inl ())))
def aMr(s0:List UInt8)(s3:List (List UInt8))(s4:Int):Option (Unit⊕Unit):=AZ (fun s:Int=>Jr s0 s3 s) s4
def Yx(a0:List UInt8):Option (Bool):=
 AG (Ue) fun r1=>
 AG (aMr a0 r1 0) fun o3=>
 As o3 (fun o4=>
  AG (Z8 a0) fun r6=>
  AE (r6) (
   some (!decide (a0=([95]:List UInt8)))) (
   some false)) (fun o5=>
  some false)
def FH(s0:List X8)(s1:List UInt8)(s5:Int):Option ((Int)⊕(Unit⊕Int)):=
 AE (decide (s5<(s0.length:Int))) (
  Ab s0 s5 fun x1=>
  AE (decide (x1.name=s1)) (
   some (.inr (.inr s5))) (
   some (.inl (AB .add .i64 s5 1)))) (
  some (.inr (.inl ())))
def aHp(s0:List X8)(s1:List UInt8)(s5:Int):Option (Unit⊕Int):=AZ (fun s:Int=>FH s0 s1 s) s5
def Yz(a0:List X8)(a1:List UInt8):Option (Int):=
 AG (aHp a0 a1 0) fun o2=>
 As o2 (fun o3=>
  some (-1)) (fun o4=>
  some o4)
def Jp(s0:List X8)(s4 s5:Int):Option ((Int)⊕(Unit⊕Unit)):=
 Ab s0 s4 fun x6=>
 AE (decide (s5<(x6.types.length:Int))) (
  Ab s0 s4 fun x7=>
  Ab x7.types s5 fun x8=>
  AE (decide (x8<1)) (
   some (.inr (.inr ()))) (
   Ab s0 s4 fun x9=>
   Ab x9.types s5 fun x10=>
   AE (decide (3<x10)) (
    some (.inr (.inr ()))) (
    some (.inl (AB .add .i64 s5 1))))) (
  some (.inr (.inl ())))
def aG2(s0:List X8)(s4 s5:Int):Option (Unit⊕Unit):=AZ (fun s:Int=>Jp s0 s4 s) s5
def G4(s0:List X8)(s4:Int):Option ((Int)⊕(Unit⊕(Int×Int))):=
 AE (decide (s4<(s0.length:Int))) (
  Ab s0 s4 fun x1=>
  AG (Yx x1.name) fun r2=>
  AE (!r2) (
   some (.inr (.inr (11,s4)))) (
   Ab s0 s4 fun x3=>
   AG (Yz s0 x3.name) fun r4=>
   AE (decide (r4<s4)) (
    some (.inr (.inr (10,s4)))) (
    Ab s0 s4 fun x5=>
    AE (decide (8<(x5.types.length:Int))) (
     some (.inr (.inr (14,s4)))) (
     AG (aG2 s0 s4 0) fun o11=>
     As o11 (fun o12=>
      some (.inl (AB .add .i64 s4 1))) (fun o13=>
      some (.inr (.inr (8,s4)))))))) (
  some (.inr (.inl ())))
def aMo(s0:List X8)(s4:Int):Option (Unit⊕(Int×Int)):=AZ (fun s:Int=>G4 s0 s) s4
def Yk(a0:List X8):Option (Int×Int):=
 AE (decide (32<(a0.length:Int))) (
  some (14,32)) (
  AG (aMo a0 0) fun o14=>
  As o14 (fun o15=>
   some (0,(-1))) (fun o16=>
   some (o16.1,o16.2)))
def Zm(a0:X3):Option (Bool):=
 AE (decide (a0.kind=1)) (
  AE (decide (a0.str=([]:List UInt8))) (
   some (!a0.bool)) (
   some false)) (
  AE (decide (a0.kind=2)) (
   AE (decide (a0.int=0)) (
    AE (!a0.bool) (
     some (decide ((a0.str.length:Int)<=4096))) (
     some false)) (
    some false)) (
   AE (decide (a0.kind=3)) (
    AE (decide (a0.int=0)) (
     some (decide (a0.str=([]:List UInt8)))) (
     some false)) (
    some false)))
def Ju(s0:List (List UInt8))(s1 s5:Int):Option ((Int)⊕(Unit⊕Unit)):=
 AE (decide (s5<s1)) (
  Ab s0 s5 fun x1=>
  Ab s0 s1 fun x2=>
  AE (decide (x1=x2)) (
   some (.inr (.inr ()))) (
   some (.inl (AB .add .i64 s5 1)))) (
  some (.inr (.inl ())))
def aMx(s0:List (List UInt8))(s1 s5:Int):Option (Unit⊕Unit):=AZ (fun s:Int=>Ju s0 s1 s) s5
def Z9(a0:List (List UInt8))(a1:Int):Option (Bool):=
 AG (aMx a0 a1 0) fun o3=>
 As o3 (fun o4=>
  some false) (fun o5=>
  some true)
def GR(w1:AA)(s4:Int)(w3:List (List UInt8)):Option ((Int×List (List UInt8))⊕((List (List UInt8))⊕Unit)):=
 AE (decide (s4<(w1.quants.length:Int))) (
  Ab w1.quants s4 fun x4=>
  Az (fit w3.length [x4.name].length 16) (
   Ab w1.quants s4 fun x5=>
   AE (decide (x5.type<1)) (
    some (.inr (.inr ()))) (
    Ab w1.quants s4 fun x6=>
    AE (decide (3<x6.type)) (
     some (.inr (.inr ()))) (
     some (.inl ((AB .add .i64 s4 1),w3++[x4.name])))))) (
  some (.inr (.inl w3)))
def aEc(w1:AA)(s4:Int)(w3:List (List UInt8)):Option ((List (List UInt8))⊕Unit):=AZ (fun s:Int×List (List UInt8)=>GR w1 s.1 s.2) (s4,w3)
def GS(w1:AA)(s5:Int)(w3:List (List UInt8)):Option ((Int×List (List UInt8))⊕((List (List UInt8))⊕Unit)):=
 AE (decide (s5<(w1.frees.length:Int))) (
  Ab w1.frees s5 fun x10=>
  Az (fit w3.length [x10.name].length 16) (
   Ab w1.frees s5 fun x11=>
   AG (Zm x11.init_) fun r12=>
   AE (!r12) (
    some (.inr (.inr ()))) (
    some (.inl ((AB .add .i64 s5 1),w3++[x10.name]))))) (
  some (.inr (.inl w3)))
def aEe(w1:AA)(s5:Int)(w3:List (List UInt8)):Option ((List (List UInt8))⊕Unit):=AZ (fun s:Int×List (List UInt8)=>GS w1 s.1 s.2) (s5,w3)
def Jj(w1:AA)(w3:List (List UInt8))(s6:Int):Option ((Int)⊕(Unit⊕Unit)):=
 AE (decide (s6<(w3.length:Int))) (
  Ab w3 s6 fun x16=>
  AG (Yx x16) fun r17=>
  AE (!r17) (
   some (.inr (.inr ()))) (
   AG (Z9 w3 s6) fun r18=>
   AE (r18) (
    some (.inr (.inr ()))) (
    some (.inl (AB .add .i64 s6 1))))) (
  some (.inr (.inl ())))
def aEg(w1:AA)(w3:List (List UInt8))(s6:Int):Option (Unit⊕Unit):=AZ (fun s:Int=>Jj w1 w3 s) s6
def Ey(w1:AA)(s8:Int)(w7:List (List UInt8)):Option ((Int×List (List UInt8))⊕(Unit⊕Unit)):=
 AE (decide (s8<(w1.states.length:Int))) (
  Ab w1.states s8 fun x26=>
  Az (fit w7.length [x26.name].length 16) (
   Ab (w7++[x26.name]) s8 fun x27=>
   AG (Yx x27) fun r28=>
   AE (!r28) (
    some (.inr (.inr ()))) (
    AG (Z9 (w7++[x26.name]) s8) fun r29=>
    AE (r29) (
     some (.inr (.inr ()))) (
     some (.inl ((AB .add .i64 s8 1),w7++[x26.name])))))) (
  some (.inr (.inl ())))
def aEi(w1:AA)(s8:Int)(w7:List (List UInt8)):Option (Unit⊕Unit):=AZ (fun s:Int×List (List UInt8)=>Ey w1 s.1 s.2) (s8,w7)
def Xj(a0:AA):Option (Bool):=
 AG (aEc a0 0 ([]:List (List UInt8))) fun o7=>
 As o7 (fun o8=>
  AG (aEe a0 0 o8) fun o13=>
  As o13 (fun o14=>
   AG (aEg a0 o14 0) fun o19=>
   As o19 (fun o20=>
    AG (aEi a0 0 ([]:List (List UInt8))) fun o30=>
    As o30 (fun o31=>
     AG (Yx a0.name) fun r33=>
     some r33) (fun o32=>
     some false)) (fun o21=>
    some false)) (fun o15=>
   some false)) (fun o9=>
  some false)
def Zn(a0:Bool):Option (X3×Int):=
 some (X3.mk 3 0 ([]:List UInt8) a0,0)
def Ut(a0 a1:Int):Option (Int×Bool):=
 AE (decide (0<a1)) (
  AE (decide ((AB .sub .i64 9223372036854775807 a1)<a0)) (
   some (0,false)) (
   AE (decide (a1<0)) (
    AE (decide (a0<(AB .sub .i64 (-9223372036854775808) a1))) (
     some (0,false)) (
     some ((AB .add .i64 a0 a1),true))) (
    some ((AB .add .i64 a0 a1),true)))) (
  AE (decide (a1<0)) (
   AE (decide (a0<(AB .sub .i64 (-9223372036854775808) a1))) (
    some (0,false)) (
    some ((AB .add .i64 a0 a1),true))) (
   some ((AB .add .i64 a0 a1),true)))
def Qq(a0:Int)(a1:Bool):Option (X3×Int):=
 AE (!a1) (
  some (X3.mk 0 0 ([]:List UInt8) false,6)) (
  some (X3.mk 1 a0 ([]:List UInt8) false,0))
def Qr(a0 a1:Int):Option (Int×Bool):=
 AE (decide (a1<0)) (
  AE (decide ((AB .add .i64 9223372036854775807 a1)<a0)) (
   some (0,false)) (
   AE (decide (0<a1)) (
    AE (decide (a0<(AB .add .i64 (-9223372036854775808) a1))) (
     some (0,false)) (
     some ((AB .sub .i64 a0 a1),true))) (
    some ((AB .sub .i64 a0 a1),true)))) (
  AE (decide (0<a1)) (
   AE (decide (a0<(AB .add .i64 (-9223372036854775808) a1))) (
    some (0,false)) (
    some ((AB .sub .i64 a0 a1),true))) (
   some ((AB .sub .i64 a0 a1),true)))
def Uu(a0 a1:Int):Option (Int×Bool):=
 AE (decide (a0=0)) (
  some (0,true)) (
  AE (decide (a1=0)) (
   some (0,true)) (
   AE (decide (a0=(-1))) (
    AG (Qr 0 a1) fun r1=>
    some (r1.1,r1.2)) (
    AE (decide (a1=(-1))) (
     AG (Qr 0 a0) fun r2=>
     some (r2.1,r2.2)) (
     AE (decide (0<a0)) (
      AE (decide (0<a1)) (
       Az (a1≠0) (
        AE (decide ((AB .quo .i64 9223372036854775807 a1)<a0)) (
         some (0,false)) (
         AE (decide (a1<0)) (
          Az (a0≠0) (
           AE (decide (a1<(AB .quo .i64 (-9223372036854775808) a0))) (
            some (0,false)) (
            AE (decide (a0<0)) (
             Az (a1≠0) (
              AE (decide (a0<(AB .quo .i64 (-9223372036854775808) a1))) (
               some (0,false)) (
               Az (a1≠0) (
                AE (decide (a0<(AB .quo .i64 9223372036854775807 a1))) (
                 some (0,false)) (
                 some ((AB .mul .i64 a0 a1),true)))))) (
             some ((AB .mul .i64 a0 a1),true))))) (
          AE (decide (a0<0)) (
           Az (a1≠0) (
            AE (decide (a0<(AB .quo .i64 (-9223372036854775808) a1))) (
             some (0,false)) (
             some ((AB .mul .i64 a0 a1),true)))) (
           some ((AB .mul .i64 a0 a1),true)))))) (
       AE (decide (a1<0)) (
        Az (a0≠0) (
         AE (decide (a1<(AB .quo .i64 (-9223372036854775808) a0))) (
          some (0,false)) (
          AE (decide (a0<0)) (
           Az (a1≠0) (
            AE (decide (a0<(AB .quo .i64 9223372036854775807 a1))) (
             some (0,false)) (
             some ((AB .mul .i64 a0 a1),true)))) (
           some ((AB .mul .i64 a0 a1),true))))) (
        AE (decide (a0<0)) (
         some ((AB .mul .i64 a0 a1),true)) (
         some ((AB .mul .i64 a0 a1),true))))) (
      AE (decide (a0<0)) (
       AE (decide (0<a1)) (
        Az (a1≠0) (
         AE (decide (a0<(AB .quo .i64 (-9223372036854775808) a1))) (
          some (0,false)) (
          AE (decide (a1<0)) (
           Az (a1≠0) (
            AE (decide (a0<(AB .quo .i64 9223372036854775807 a1))) (
             some (0,false)) (
             some ((AB .mul .i64 a0 a1),true)))) (
           some ((AB .mul .i64 a0 a1),true))))) (
        AE (decide (a1<0)) (
         Az (a1≠0) (
          AE (decide (a0<(AB .quo .i64 9223372036854775807 a1))) (
           some (0,false)) (
           some ((AB .mul .i64 a0 a1),true)))) (
         some ((AB .mul .i64 a0 a1),true)))) (
       some ((AB .mul .i64 a0 a1),true)))))))
def Uv(a0 a1:Int):Option (Int×Int×Int):=
 AE (decide (a1=0)) (
  some (0,0,7)) (
  AE (decide (a1=(-1))) (
   AG (Qr 0 a0) fun r1=>
   AE (!r1.2) (
    some (0,0,6)) (
    some (r1.1,0,0))) (
   Az (a1≠0) (
    Az (a1≠0) (
     some ((AB .quo .i64 a0 a1),(AB .rem .i64 a0 a1),0)))))
def U0(a0 a1 a2:Int):Option (X3×Int):=
 AE (decide (a0=8)) (
  AG (Ut a1 a2) fun r1=>
  AG (Qq r1.1 r1.2) fun r2=>
  some (r2.1,r2.2)) (
  AE (decide (a0=9)) (
   AG (Qr a1 a2) fun r3=>
   AG (Qq r3.1 r3.2) fun r4=>
   some (r4.1,r4.2)) (
   AE (decide (a0=10)) (
    AG (Uu a1 a2) fun r5=>
    AG (Qq r5.1 r5.2) fun r6=>
    some (r6.1,r6.2)) (
    AG (Uv a1 a2) fun r7=>
    AE (decide (r7.2.2=7)) (
     some (X3.mk 0 0 ([]:List UInt8) false,7)) (
     AE (decide (a0=12)) (
      some (X3.mk 1 r7.2.1 ([]:List UInt8) false,0)) (
      AG (Qq r7.1 (decide (r7.2.2=0))) fun r8=>
      some (r8.1,r8.2))))))
def FF(s0 s1:List UInt8)(s5:Int):Option ((Int)⊕(Unit⊕Bool)):=
 AE (decide (s5<(s0.length:Int))) (
  AE (decide (s5<(s1.length:Int))) (
   Ab s0 s5 fun x1=>
   Ab s1 s5 fun x2=>
   AE (!decide ((x1.toNat:Int)=(x2.toNat:Int))) (
    Ab s0 s5 fun x3=>
    Ab s1 s5 fun x4=>
    some (.inr (.inr (decide ((x3.toNat:Int)<(x4.toNat:Int)))))) (
    some (.inl (AB .add .i64 s5 1)))) (
   some (.inr (.inl ())))) (
  some (.inr (.inl ())))
def aHn(s0 s1:List UInt8)(s5:Int):Option (Unit⊕Bool):=AZ (fun s:Int=>FF s0 s1 s) s5
def Yy(a0 a1:List UInt8):Option (Bool):=
 AG (aHn a0 a1 0) fun o5=>
 As o5 (fun o6=>
  some (decide ((a0.length:Int)<(a1.length:Int)))) (fun o7=>
  some o7)
def Qt(a0 a1:X3):Option (Bool):=
 AE (!decide (a0.kind=a1.kind)) (
  some (decide (a0.kind<a1.kind))) (
  AE (decide (a0.kind=1)) (
   some (decide (a0.int<a1.int))) (
   AE (decide (a0.kind=2)) (
    AG (Yy a0.str a1.str) fun r1=>
    some r1) (
    AE (!a0.bool) (
     some a1.bool) (
     some false))))
def Uw(a0:Int)(a1 a2:X3):Option (X3×Int):=
 AE (decide (a0<4)) (
  some (X3.mk 0 0 ([]:List UInt8) false,1)) (
  AE (decide (16<a0)) (
   some (X3.mk 0 0 ([]:List UInt8) false,1)) (
   AE (decide (a0=4)) (
    AE (!decide (a1.kind=3)) (
     some (X3.mk 0 0 ([]:List UInt8) false,8)) (
     AG (Zn (!a1.bool)) fun r1=>
     some (r1.1,r1.2))) (
    AE (decide (a0=5)) (
     AE (!decide (a1.kind=1)) (
      some (X3.mk 0 0 ([]:List UInt8) false,8)) (
      AG (U0 9 0 a1.int) fun r2=>
      some (r2.1,r2.2))) (
     AE (!decide (a1.kind=a2.kind)) (
      some (X3.mk 0 0 ([]:List UInt8) false,8)) (
      AE (decide (a0=13)) (
       AG (Zn (X3.eqb a1 a2)) fun r3=>
       some (r3.1,r3.2)) (
       AE (decide (a0=14)) (
        AG (Zn (!(X3.eqb a1 a2))) fun r4=>
        some (r4.1,r4.2)) (
        AE (decide (a1.kind=3)) (
         AE (decide (a0=6)) (
          AE (a1.bool) (
           AG (Zn a2.bool) fun r5=>
           some (r5.1,r5.2)) (
           AG (Zn false) fun r6=>
           some (r6.1,r6.2))) (
          AE (decide (a0=7)) (
           AE (a1.bool) (
            AG (Zn true) fun r7=>
            some (r7.1,r7.2)) (
            AG (Zn a2.bool) fun r8=>
            some (r8.1,r8.2))) (
           some (X3.mk 0 0 ([]:List UInt8) false,8)))) (
         AE (decide (a0=15)) (
          AG (Qt a1 a2) fun r9=>
          AG (Zn r9) fun r10=>
          some (r10.1,r10.2)) (
          AE (decide (a0=16)) (
           AG (Qt a2 a1) fun r11=>
           AG (Zn (!r11)) fun r12=>
           some (r12.1,r12.2)) (
           AE (decide (a1.kind=1)) (
            AE (decide (8<=a0)) (
             AE (decide (a0<=12)) (
              AG (U0 a0 a1.int a2.int) fun r13=>
              some (r13.1,r13.2)) (
              AE (decide (a1.kind=2)) (
               AE (decide (a0=8)) (
                AE (decide (4096<(AB .add .i64 (a1.str.length:Int) (a2.str.length:Int)))) (
                 some (X3.mk 0 0 ([]:List UInt8) false,3)) (
                 Az (a1.str.length+a2.str.length<=9223372036854775807) (
                  some (X3.mk 2 0 (a1.str++a2.str) false,0)))) (
                some (X3.mk 0 0 ([]:List UInt8) false,8))) (
               some (X3.mk 0 0 ([]:List UInt8) false,8)))) (
             AE (decide (a1.kind=2)) (
              AE (decide (a0=8)) (
               AE (decide (4096<(AB .add .i64 (a1.str.length:Int) (a2.str.length:Int)))) (
                some (X3.mk 0 0 ([]:List UInt8) false,3)) (
                Az (a1.str.length+a2.str.length<=9223372036854775807) (
                 some (X3.mk 2 0 (a1.str++a2.str) false,0)))) (
               some (X3.mk 0 0 ([]:List UInt8) false,8))) (
              some (X3.mk 0 0 ([]:List UInt8) false,8)))) (
            AE (decide (a1.kind=2)) (
             AE (decide (a0=8)) (
              AE (decide (4096<(AB .add .i64 (a1.str.length:Int) (a2.str.length:Int)))) (
               some (X3.mk 0 0 ([]:List UInt8) false,3)) (
               Az (a1.str.length+a2.str.length<=9223372036854775807) (
                some (X3.mk 2 0 (a1.str++a2.str) false,0)))) (
              some (X3.mk 0 0 ([]:List UInt8) false,8))) (
             some (X3.mk 0 0 ([]:List UInt8) false,8)))))))))))))
def Zr(a0 a1 a2:Int):Option (Int):=
 AE (decide (a1<1)) (
  some 0) (
  AE (!decide (a1=a2)) (
   some 0) (
   AG (Uw a0 (X3.mk a1 0 ([]:List UInt8) false) (X3.mk a2 0 ([]:List UInt8) false)) fun r1=>
   AE (decide (r1.2=7)) (
    some 1) (
    AE (!decide (r1.2=0)) (
     some 0) (
     some r1.1.kind))))
def NM(self:AA->Int->Option (Int×Int×Int))(a0:AA)(a1:Int):Option (Int×Int×Int):=
 AE (decide (a1<0)) (
  some (0,0,0)) (
  AE (decide ((a0.nodes.length:Int)<=a1)) (
   some (0,0,0)) (
   Ab a0.nodes a1 fun x1=>
   AE (decide (x1.op=1)) (
    AE (!decide (x1.a=0)) (
     some (0,0,0)) (
     AE (!decide (x1.b=0)) (
      some (0,0,0)) (
      AG (Zm x1.value) fun r2=>
      AE (!r2) (
       some (0,0,0)) (
       some (x1.value.kind,1,a1))))) (
    AE (!(X3.eqb x1.value (X3.mk 0 0 ([]:List UInt8) false))) (
     some (0,0,0)) (
     AE (decide (x1.op=2)) (
      AE (decide (x1.a<0)) (
       some (0,0,0)) (
       AE (decide ((a0.quants.length:Int)<=x1.a)) (
        some (0,0,0)) (
        AE (!decide (x1.b=0)) (
         some (0,0,0)) (
         Ab a0.quants x1.a fun x3=>
         some (x3.type,1,a1))))) (
      AE (decide (x1.op=3)) (
       AE (decide (x1.a<0)) (
        some (0,0,0)) (
        AE (decide ((a0.frees.length:Int)<=x1.a)) (
         some (0,0,0)) (
         AE (!decide (x1.b=0)) (
          some (0,0,0)) (
          Ab a0.frees x1.a fun x4=>
          some (x4.init_.kind,1,a1))))) (
       AE (decide (x1.op<4)) (
        some (0,0,0)) (
        AE (decide (16<x1.op)) (
         some (0,0,0)) (
         AG (self a0 (AB .sub .i64 a1 1)) fun r5=>
         AE (decide (x1.op<=5)) (
          AE (decide (r5.1=0)) (
           some (0,0,0)) (
           AE (!decide (x1.a=(AB .sub .i64 a1 1))) (
            some (0,0,0)) (
            AE (!decide (x1.b=0)) (
             some (0,0,0)) (
             AG (Zr x1.op r5.1 r5.1) fun r6=>
             some (r6,(AB .add .i64 r5.2.1 1),r5.2.2))))) (
          AE (decide (r5.1=0)) (
           some (0,0,0)) (
           AE (!decide (x1.b=(AB .sub .i64 a1 1))) (
            some (0,0,0)) (
            AE (!decide (x1.a=(AB .sub .i64 r5.2.2 1))) (
             some (0,0,0)) (
             AG (self a0 (AB .sub .i64 r5.2.2 1)) fun r7=>
             AG (Zr x1.op r7.1 r5.1) fun r8=>
             some (r8,(AB .add .i64 (Fv r5.2.1 r7.2.1) 1),r7.2.2)))))))))))))
def IM:Nat->AA->Int->Option (Int×Int×Int)
 |0=>fun _ _=>none
 |n+1=>fun a0 a1=>NM (IM n) a0 a1
def Yf(a0:AA)(a1:Int):Option (Int×Int×Int):=IM 100000 a0 a1
def Qv(a0:AA)(a1 a2:Int):Option (Int×Int):=
 AG (Yf a0 a2) fun r1=>
 AE (decide (r1.1=0)) (
  some (0,0)) (
  AE (!decide (r1.2.2=a1)) (
   some (0,0)) (
   some (r1.1,r1.2.1)))
def Jv(s1:Int)(w2:X2)(s5:Int):Option ((Int)⊕(Unit⊕Unit)):=
 AE (decide (s5<(w2.args.length:Int))) (
  Ab w2.args s5 fun x1=>
  AE (decide (x1.kind=2)) (
   Ab w2.args s5 fun x2=>
   AE (decide (x2.n=s1)) (
    some (.inr (.inr ()))) (
    some (.inl (AB .add .i64 s5 1)))) (
   some (.inl (AB .add .i64 s5 1)))) (
  some (.inr (.inl ())))
def aMy(s1:Int)(w2:X2)(s5:Int):Option (Unit⊕Unit):=AZ (fun s:Int=>Jv s1 w2 s) s5
def Za(a0:X2)(a1:Int):Option (Bool):=
 AG (aMy a1 a0 0) fun o3=>
 As o3 (fun o4=>
  some false) (fun o5=>
  some true)
def J0(s3:Int)(w4:AA)(w5:X2)(s9:Int):Option ((Int)⊕(Unit⊕Unit)):=
 AE (decide (s9<s3)) (
  Ab w4.nodes s9 fun x1=>
  AE (decide (x1.op=2)) (
   Ab w4.nodes s9 fun x2=>
   AG (Za w5 x2.a) fun r3=>
   AE (!r3) (
    some (.inr (.inr ()))) (
    some (.inl (AB .add .i64 s9 1)))) (
   some (.inl (AB .add .i64 s9 1)))) (
  some (.inr (.inl ())))
def aM5(s3:Int)(w4:AA)(w5:X2)(s9:Int):Option (Unit⊕Unit):=AZ (fun s:Int=>J0 s3 w4 w5 s) s9
def Zi(a0:AA)(a1:X2)(a2 a3:Int):Option (Bool):=
 AG (aM5 a3 a0 a1 a2) fun o4=>
 As o4 (fun o5=>
  some true) (fun o6=>
  some false)
def Ve(s2 s8:Int)(s56:Bool)(w3:AA)(w4:X5):Option (Int⊕Unit):=
 AE (s56) (
  AG (Qv w3 s8 w4.guard) fun r1=>
  AE (!decide (r1.1=3)) (
   some (.inr ())) (
   AE (decide (64<r1.2)) (
    some (.inr ())) (
    some (.inl (AB .add .i64 w4.guard 1))))) (
  some (.inl s8))
def Jm(s2 s11:Int)(w3:AA)(w4:X5)(w12:A9)(s15:Int):Option ((Int)⊕(Unit⊕Unit)):=
 AE (decide (s15<s11)) (
  Ab w4.sets s15 fun x8=>
  AE (decide (x8.free=w12.free)) (
   some (.inr (.inr ()))) (
   some (.inl (AB .add .i64 s15 1)))) (
  some (.inr (.inl ())))
def aF3(s2 s11:Int)(w3:AA)(w4:X5)(w12:A9)(s15:Int):Option (Unit⊕Unit):=AZ (fun s:Int=>Jm s2 s11 w3 w4 w12 s) s15
def E4(s2:Int)(w3:AA)(w4:X5)(s8 s11:Int):Option ((Int×Int)⊕(Int⊕Unit)):=
 AE (decide (s11<(w4.sets.length:Int))) (
  Ab w4.sets s11 fun x5=>
  AG (Qv w3 s8 x5.expr) fun r6=>
  AE (decide (x5.free<0)) (
   some (.inr (.inr ()))) (
   AE (decide ((w3.frees.length:Int)<=x5.free)) (
    some (.inr (.inr ()))) (
    AE (decide (r6.1=0)) (
     some (.inr (.inr ()))) (
     AE (decide (64<r6.2)) (
      some (.inr (.inr ()))) (
      Ab w3.frees x5.free fun x7=>
      AE (!decide (r6.1=x7.init_.kind)) (
       some (.inr (.inr ()))) (
       AG (aF3 s2 s11 w3 w4 x5 0) fun o9=>
       As o9 (fun o10=>
        some (.inl ((AB .add .i64 x5.expr 1),(AB .add .i64 s11 1)))) (fun o11=>
        some (.inr (.inr ()))))))))) (
  some (.inr (.inl s8)))
def Vf(s2:Int)(w3:AA)(w4:X5)(s8 s11:Int):Option (Int⊕Unit):=AZ (fun s:Int×Int=>E4 s2 w3 w4 s.1 s.2) (s8,s11)
theorem Pa(s2:Int)(w3:AA)(w4:X5)(s8 s11:Int):Vf s2 w3 w4 s8 s11=Bh (E4 s2 w3 w4 s8 s11) (fun s:Int×Int=>Vf s2 w3 w4 s.1 s.2):=Au _ _
def Y2(a0:AA)(a1:X5)(a2:Int):Option (Int×Bool):=
 AE (decide (a1.from_<0)) (
  some (0,false)) (
  AE (decide ((a0.states.length:Int)<=a1.from_)) (
   some (0,false)) (
   AE (decide (a1.to<0)) (
    some (0,false)) (
    AE (decide ((a0.states.length:Int)<=a1.to)) (
     some (0,false)) (
     AE (decide (a1.symbol<0)) (
      some (0,false)) (
      AE (decide ((a0.symbols.length:Int)<=a1.symbol)) (
       some (0,false)) (
       AG (Ve a2 a2 (!decide (a1.guard=(-1))) a0 a1) fun o2=>
       As o2 (fun o3=>
        AG (Vf a2 a0 a1 o3 0) fun o12=>
        As o12 (fun o13=>
         Ab a0.symbols a1.symbol fun x15=>
         AG (Zi a0 x15 a2 o13) fun r16=>
         some (o13,r16)) (fun o14=>
         some (0,false))) (fun o4=>
        some (0,false))))))))
def U1(a0:AA)(a1:AX)(a2:Int):Option (Bool):=
 AE (decide (a1.kind=1)) (
  AE (decide (a1.n=0)) (
   AG (Zm a1.value) fun r1=>
   AE (r1) (
    some (decide (a1.value.kind=a2))) (
    some false)) (
   some false)) (
  AE (!(X3.eqb a1.value (X3.mk 0 0 ([]:List UInt8) false))) (
   some false) (
   AE (decide (a1.kind=2)) (
    AE (decide (0<=a1.n)) (
     AE (decide (a1.n<(a0.quants.length:Int))) (
      Ab a0.quants a1.n fun x2=>
      some (decide (x2.type=a2))) (
      some false)) (
     some false)) (
    AE (decide (a1.kind=3)) (
     AE (decide (0<=a1.n)) (
      AE (decide (a1.n<(a0.frees.length:Int))) (
       Ab a0.frees a1.n fun x3=>
       some (decide (x3.init_.kind=a2))) (
       some false)) (
      some false)) (
     AE (decide (a1.kind=4)) (
      some (decide (a1.n=0))) (
      some false)))))
def J3(w2:AA)(w3:X2)(s5:Int):Option ((Int)⊕(Unit⊕Unit)):=
 AE (decide (s5<(w3.args.length:Int))) (
  Ab w3.args s5 fun x2=>
  Ab w2.decls w3.event fun x3=>
  Ab x3.types s5 fun x4=>
  AG (U1 w2 x2 x4) fun r5=>
  AE (!r5) (
   some (.inr (.inr ()))) (
   some (.inl (AB .add .i64 s5 1)))) (
  some (.inr (.inl ())))
def aM6(w2:AA)(w3:X2)(s5:Int):Option (Unit⊕Unit):=AZ (fun s:Int=>J3 w2 w3 s) s5
def Zj(a0:AA)(a1:X2):Option (Bool):=
 AE (decide (a1.event<0)) (
  some false) (
  AE (decide ((a0.decls.length:Int)<=a1.event)) (
   some false) (
   Ab a0.decls a1.event fun x1=>
   AE (!decide ((a1.args.length:Int)=(x1.types.length:Int))) (
    some false) (
    AG (aM6 a0 a1 0) fun o6=>
    As o6 (fun o7=>
     some true) (fun o8=>
     some false))))
def J4(w2 w3:X2)(s5:Int):Option ((Int)⊕(Unit⊕Unit)):=
 AE (decide (s5<(w2.args.length:Int))) (
  Ab w2.args s5 fun x1=>
  Ab w3.args s5 fun x2=>
  AE (!(AX.eqb x1 x2)) (
   some (.inr (.inr ()))) (
   some (.inl (AB .add .i64 s5 1)))) (
  some (.inr (.inl ())))
def aM7(w2 w3:X2)(s5:Int):Option (Unit⊕Unit):=AZ (fun s:Int=>J4 w2 w3 s) s5
def Zk(a0 a1:X2):Option (Bool):=
 AE (!decide (a0.event=a1.event)) (
  some false) (
  AE (!decide ((a0.args.length:Int)=(a1.args.length:Int))) (
   some false) (
   AG (aM7 a0 a1 0) fun o3=>
   As o3 (fun o4=>
    some true) (fun o5=>
    some false)))
def aDa(s5 s6:Int)(s34:Bool)(w1:AA)(w3:List Bool)(w4:List Int):Option ((List Int)):=
 AE (s34) (
  Az (fit w4.length [s6].length 8) (
   some (w4++[s6]))) (
  some w4)
def aC8(s5:Int)(w1:AA)(w3:List Bool)(w4:List Int):Option ((List Bool×List Int)):=
 Ab w1.trans s5 fun x5=>
 Az (0<=x5.symbol/\x5.symbol+1<=(w3.length:Int)) (
  Ab w3 x5.symbol fun x6=>
  AG (aDa s5 x5.symbol (!x6) w1 w3 w4) fun o7=>
  Az (0<=x5.symbol/\x5.symbol+1<=(w3.length:Int)) (
   Az (0<=x5.symbol/\x5.symbol+1<=(w3.length:Int)) (
    some (w3.set x5.symbol.toNat true,o7))))
def GG(w1:AA)(s5:Int)(w3:List Bool)(w4:List Int):Option ((Int×List Bool×List Int)⊕((List Int))):=
 AE (decide (s5<(w1.trans.length:Int))) (
  AG (aC8 s5 w1 w3 w4) fun o8=>
  some (.inl ((AB .add .i64 s5 1),o8.1,o8.2))) (
  some (.inr w4))
def aDc(w1:AA)(s5:Int)(w3:List Bool)(w4:List Int):Option ((List Int)):=AZ (fun s:Int×List Bool×List Int=>GG w1 s.1 s.2.1 s.2.2) (s5,w3,w4)
def Jf(w1:AA)(w4:List Int)(s7:Int):Option ((Int)⊕(Unit⊕Unit)):=
 AE (decide (s7<(w4.length:Int))) (
  Ab w4 s7 fun x10=>
  AE (!decide (x10=(AB .add .i64 (AB .sub .i64 (w1.symbols.length:Int) (w4.length:Int)) s7))) (
   some (.inr (.inr ()))) (
   some (.inl (AB .add .i64 s7 1)))) (
  some (.inr (.inl ())))
def aDe(w1:AA)(w4:List Int)(s7:Int):Option (Unit⊕Unit):=AZ (fun s:Int=>Jf w1 w4 s) s7
def Jh(s8:Int)(w1:AA)(s9:Int):Option ((Int)⊕(Unit⊕Unit)):=
 AE (decide (s9<s8)) (
  Ab w1.symbols s8 fun x16=>
  Ab w1.symbols s9 fun x17=>
  AG (Zk x16 x17) fun r18=>
  AE (r18) (
   some (.inr (.inr ()))) (
   some (.inl (AB .add .i64 s9 1)))) (
  some (.inr (.inl ())))
def aDi(s8:Int)(w1:AA)(s9:Int):Option (Unit⊕Unit):=AZ (fun s:Int=>Jh s8 w1 s) s9
def Jg(w1:AA)(s8:Int):Option ((Int)⊕(Unit⊕Unit)):=
 AE (decide (s8<(w1.symbols.length:Int))) (
  Ab w1.symbols s8 fun x14=>
  AG (Zj w1 x14) fun r15=>
  AE (!r15) (
   some (.inr (.inr ()))) (
   AG (aDi s8 w1 0) fun o19=>
   As o19 (fun o20=>
    some (.inl (AB .add .i64 s8 1))) (fun o21=>
    some (.inr (.inr ()))))) (
  some (.inr (.inl ())))
def aDg(w1:AA)(s8:Int):Option (Unit⊕Unit):=AZ (fun s:Int=>Jg w1 s) s8
def EO(s10:Int)(w1:AA)(s11:Bool)(s12:Int):Option ((Bool×Int)⊕(Bool)):=
 AE (decide (s12<(w1.symbols.length:Int))) (
  AE (s11) (
   some (.inl (true,(AB .add .i64 s12 1)))) (
   Ab w1.symbols s12 fun x25=>
   AG (Za x25 s10) fun r26=>
   some (.inl (r26,(AB .add .i64 s12 1))))) (
  some (.inr s11))
def Ol(s10:Int)(w1:AA)(s11:Bool)(s12:Int):Option (Bool):=AZ (fun s:Bool×Int=>EO s10 w1 s.1 s.2) (s11,s12)
def Ji(w1:AA)(s10:Int):Option ((Int)⊕(Unit⊕Unit)):=
 AE (decide (s10<(w1.quants.length:Int))) (
  AG (Ol s10 w1 false 0) fun o27=>
  AE (!o27) (
   some (.inr (.inr ()))) (
   some (.inl (AB .add .i64 s10 1)))) (
  some (.inr (.inl ())))
def aDk(w1:AA)(s10:Int):Option (Unit⊕Unit):=AZ (fun s:Int=>Ji w1 s) s10
def X9(a0:AA):Option (Bool):=
 Az (0<=(a0.symbols.length:Int)/\fit 0 (a0.symbols.length:Int).toNat 1) (
  AG (aDc a0 0 (List.replicate (a0.symbols.length:Int).toNat false) ([]:List Int)) fun o9=>
  AG (aDe a0 o9 0) fun o11=>
  As o11 (fun o12=>
   AG (aDg a0 0) fun o22=>
   As o22 (fun o23=>
    AG (aDk a0 0) fun o28=>
    As o28 (fun o29=>
     some true) (fun o30=>
     some false)) (fun o24=>
    some false)) (fun o13=>
   some false))
def HG(w1:AA)(s5 s6:Int):Option ((Int×Int)⊕(Int⊕Unit)):=
 AE (decide (s6<(w1.trans.length:Int))) (
  Ab w1.trans s6 fun x3=>
  AG (Y2 w1 x3 s5) fun r4=>
  AE (!r4.2) (
   some (.inr (.inr ()))) (
   some (.inl (r4.1,(AB .add .i64 s6 1))))) (
  some (.inr (.inl s5)))
def Rw(w1:AA)(s5 s6:Int):Option (Int⊕Unit):=AZ (fun s:Int×Int=>HG w1 s.1 s.2) (s5,s6)
theorem Pz(w1:AA)(s5 s6:Int):Rw w1 s5 s6=Bh (HG w1 s5 s6) (fun s:Int×Int=>Rw w1 s.1 s.2):=Au _ _
def Z0(a0:AA):Option (Bool):=
 AG (Yk a0.decls) fun r1=>
 AE (!decide (r1.1=0)) (
  some false) (
  AE (decide (8<(a0.quants.length:Int))) (
   some false) (
   AE (decide (16<(a0.frees.length:Int))) (
    some false) (
    AE (decide (32<(a0.states.length:Int))) (
     some false) (
     AE (decide (64<(a0.symbols.length:Int))) (
      some false) (
      AE (decide (2048<(a0.nodes.length:Int))) (
       some false) (
       AE (decide (256<(a0.trans.length:Int))) (
        some false) (
        AE (decide (a0.start<0)) (
         some false) (
         AE (decide ((a0.states.length:Int)<=a0.start)) (
          some false) (
          AG (Xj a0) fun r2=>
          AE (!r2) (
           some false) (
           AG (Rw a0 0 0) fun o5=>
           As o5 (fun o6=>
            AE (decide (o6=(a0.nodes.length:Int))) (
             AG (X9 a0) fun r8=>
             some r8) (
             some false)) (fun o7=>
            some false)))))))))))
def HK(s0:List X0)(s3:Int):Option ((Int)⊕(Unit⊕Unit)):=
 AE (decide (s3<(s0.length:Int))) (
  Ab s0 s3 fun x1=>
  AE (decide (x1.var<0)) (
   some (.inr (.inr ()))) (
   Ab s0 s3 fun x2=>
   AE (decide (7<x2.var)) (
    some (.inr (.inr ()))) (
    Ab s0 s3 fun x3=>
    AG (Zm x3.value) fun r4=>
    AE (!r4) (
     some (.inr (.inr ()))) (
     AE (decide (0<s3)) (
      Ab s0 s3 fun x5=>
      Ab s0 (AB .sub .i64 s3 1) fun x6=>
      AE (decide (x5.var<=x6.var)) (
       some (.inr (.inr ()))) (
       some (.inl (AB .add .i64 s3 1)))) (
      some (.inl (AB .add .i64 s3 1))))))) (
  some (.inr (.inl ())))
def aM4(s0:List X0)(s3:Int):Option (Unit⊕Unit):=AZ (fun s:Int=>HK s0 s) s3
def Zg(a0:List X0):Option (Bool):=
 AG (aM4 a0 0) fun o7=>
 As o7 (fun o8=>
  some true) (fun o9=>
  some false)
def G3(s1:List Xg)(s5:Int)(w2:AA)(s6:Int):Option ((Int)⊕(Unit⊕Unit)):=
 Ab s1 s5 fun x6=>
 AE (decide (s6<(x6.bind.length:Int))) (
  Ab s1 s5 fun x7=>
  Ab x7.bind s6 fun x8=>
  AE (decide ((w2.quants.length:Int)<=x8.var)) (
   some (.inr (.inr ()))) (
   Ab w2.quants x8.var fun x9=>
   AE (!decide (x8.value.kind=x9.type)) (
    some (.inr (.inr ()))) (
    AE (decide (100<(x8.value.str.length:Int))) (
     some (.inr (.inr ()))) (
     some (.inl (AB .add .i64 s6 1)))))) (
  some (.inr (.inl ())))
def aGz(s1:List Xg)(s5:Int)(w2:AA)(s6:Int):Option (Unit⊕Unit):=AZ (fun s:Int=>G3 s1 s5 w2 s) s6
def G2(s1:List Xg)(w2:AA)(s5:Int):Option ((Int)⊕(Unit⊕Unit)):=
 AE (decide (s5<(s1.length:Int))) (
  Ab s1 s5 fun x3=>
  AE (decide (8<(x3.bind.length:Int))) (
   some (.inr (.inr ()))) (
   Ab s1 s5 fun x4=>
   AG (Zg x4.bind) fun r5=>
   AE (!r5) (
    some (.inr (.inr ()))) (
    AG (aGz s1 s5 w2 0) fun o10=>
    As o10 (fun o11=>
     some (.inl (AB .add .i64 s5 1))) (fun o12=>
     some (.inr (.inr ())))))) (
  some (.inr (.inl ())))
def aMn(s1:List Xg)(w2:AA)(s5:Int):Option (Unit⊕Unit):=AZ (fun s:Int=>G2 s1 w2 s) s5
def Yj(a0:AA)(a1:List Xg):Option (Bool):=
 AE (decide (30<(a1.length:Int))) (
  some false) (
  AG (Xa a0) fun r1=>
  AE (decide (r1=0)) (
   some false) (
   AG (Z0 a0) fun r2=>
   AE (!r2) (
    some false) (
    AG (aMn a1 a0 0) fun o13=>
    As o13 (fun o14=>
     some true) (fun o15=>
     some false))))
def Qu(a0:AA):Option (Bool):=
 AE (decide ((a0.quants.length:Int)<=8)) (
  AE (decide ((a0.frees.length:Int)<=16)) (
   AE (decide ((a0.states.length:Int)<=32)) (
    AE (decide ((a0.symbols.length:Int)<=64)) (
     AE (decide ((a0.nodes.length:Int)<=2048)) (
      some (decide ((a0.trans.length:Int)<=256))) (
      some false)) (
     some false)) (
    some false)) (
   some false)) (
  some false)
def Uf(a0:X8)(a1:List UInt8):Option (Bool):=
 some (decide (a0.name=a1))
def G5(s0:List X8)(s1:List UInt8)(s7 s8:Int):Option ((Int)⊕(Unit⊕Int)):=
 AE (decide (s8<s7)) (
  Ab s0 s8 fun x1=>
  AG (Uf x1 s1) fun r2=>
  AE (r2) (
   some (.inr (.inr s8))) (
   some (.inl (AB .add .i64 s8 1)))) (
  some (.inr (.inl ())))
def WU(s0:List X8)(s1:List UInt8)(s7 s8:Int):Option (Unit⊕Int):=AZ (fun s:Int=>G5 s0 s1 s7 s) s8
def Yl(a0:List X8)(a1:List UInt8):Option (Int):=
 AG (WU a0 a1 (a0.length:Int) 0) fun o3=>
 As o3 (fun o4=>
  some (-1)) (fun o5=>
  some o5)
def Q5(a0:List X8)(a1:List UInt8):Option (Int×Bool):=
 AG (Yl a0 a1) fun r1=>
 some ((Fv r1 0),decide (0<=r1))
def Qx(a0:Int):Option (Bool):=
 AE (!decide (a0=95)) (
  AE (decide (a0<48)) (
   AE (decide (a0<65)) (
    AE (decide (a0<97)) (
     some true) (
     some (decide (122<a0)))) (
    AE (decide (90<a0)) (
     AE (decide (a0<97)) (
      some true) (
      some (decide (122<a0)))) (
     some false))) (
   AE (decide (57<a0)) (
    AE (decide (a0<65)) (
     AE (decide (a0<97)) (
      some true) (
      some (decide (122<a0)))) (
     AE (decide (90<a0)) (
      AE (decide (a0<97)) (
       some true) (
       some (decide (122<a0)))) (
      some false))) (
    some false))) (
  some false)
def Qy(s:List UInt8):Option Int:=aI6 Qx s
def Qm(a0:List UInt8):Option (Bool):=
 AE (decide (a0=([]:List UInt8))) (
  some false) (
  AE (decide (32<(a0.length:Int))) (
   some false) (
   Ab a0 0 fun x1=>
   AE (decide (((48:UInt8).toNat:Int)<=(x1.toNat:Int))) (
    Ab a0 0 fun x2=>
    AE (decide ((x2.toNat:Int)<=((57:UInt8).toNat:Int))) (
     some false) (
     AG (Qy a0) fun r3=>
     some (decide (r3<0)))) (
    AG (Qy a0) fun r4=>
    some (decide (r4<0)))))
def Gz(s0:List (List UInt8))(s1:List UInt8)(s7 s8:Int):Option ((Int)⊕(Unit⊕Int)):=
 AE (decide (s8<s7)) (
  Ab s0 s8 fun x1=>
  AE (decide (s1=x1)) (
   some (.inr (.inr s8))) (
   some (.inl (AB .add .i64 s8 1)))) (
  some (.inr (.inl ())))
def WF(s0:List (List UInt8))(s1:List UInt8)(s7 s8:Int):Option (Unit⊕Int):=AZ (fun s:Int=>Gz s0 s1 s7 s) s8
def Yg(a0:List (List UInt8))(a1:List UInt8):Option (Int):=
 AG (WF a0 a1 (a0.length:Int) 0) fun o2=>
 As o2 (fun o3=>
  some (-1)) (fun o4=>
  some o4)
def Q7(a0:List (List UInt8))(a1:List UInt8):Option (Bool):=
 AG (Yg a0 a1) fun r1=>
 some (decide (0<=r1))
def Zt(a0:List UInt8):Option (Bool):=
 AG (Qm a0) fun r1=>
 AE (r1) (
  AG (Q7 By a0) fun r2=>
  some r2) (
  some false)
def Z1(a0:List UInt8):Option (Bool):=
 AG (Qm a0) fun r1=>
 AE (r1) (
  AG (Zt a0) fun r2=>
  AE (!r2) (
   some (!decide (a0=([95]:List UInt8)))) (
   some false)) (
  some false)
def Qn(a0:Int):Option (List UInt8):=
 AE (decide (a0=1)) (
  some ([105,110,116]:List UInt8)) (
  AE (decide (a0=2)) (
   some ([115,116,114,105,110,103]:List UInt8)) (
   AE (decide (a0=3)) (
    some ([98,111,111,108]:List UInt8)) (
    some ([]:List UInt8))))
def Ug(a0:Int):Option (Bool):=
 AG (Qn a0) fun r1=>
 some (decide (r1=([]:List UInt8)))
def G9(s0:List Int)(s7 s8:Int):Option ((Int)⊕(Unit⊕Int)):=
 AE (decide (s8<s7)) (
  Ab s0 s8 fun x1=>
  AG (Ug x1) fun r2=>
  AE (r2) (
   some (.inr (.inr s8))) (
   some (.inl (AB .add .i64 s8 1)))) (
  some (.inr (.inl ())))
def Wh(s0:List Int)(s7 s8:Int):Option (Unit⊕Int):=AZ (fun s:Int=>G9 s0 s7 s) s8
def Yp(a0:List Int):Option (Int):=
 AG (Wh a0 (a0.length:Int) 0) fun o3=>
 As o3 (fun o4=>
  some (-1)) (fun o5=>
  some o5)
def Q8(a0:List Int):Option (Bool):=
 AG (Yp a0) fun r1=>
 some (decide (0<=r1))
def Zw(a0:List X8)(a1:Int):Option (Int):=
 Ab a0 a1 fun x1=>
 AG (Q5 a0 x1.name) fun r2=>
 AG (Z1 x1.name) fun r3=>
 AE (!r3) (
  some 11) (
  AE (decide (r2.1<a1)) (
   some 10) (
   AE (decide (8<(x1.types.length:Int))) (
    some 14) (
    AG (Q8 x1.types) fun r4=>
    AE (r4) (
     some 8) (
     some 0))))
def EB(s0:List X8)(s10 s11:Int):Option ((Int)⊕(Unit⊕(Int×Int))):=
 AE (decide (s11<s10)) (
  AG (Zw s0 s11) fun r1=>
  AE (!decide (r1=0)) (
   some (.inr (.inr (s11,r1)))) (
   some (.inl (AB .add .i64 s11 1)))) (
  some (.inr (.inl ())))
def Vu(s0:List X8)(s10 s11:Int):Option (Unit⊕(Int×Int)):=AZ (fun s:Int=>EB s0 s10 s) s11
def Y7(a0:List X8):Option (Int×Int):=
 AE (decide (32<(a0.length:Int))) (
  some (32,14)) (
  AG (Vu a0 (a0.length:Int) 0) fun o2=>
  As o2 (fun o3=>
   some ((-1),0)) (fun o4=>
   some (o4.1,o4.2)))
def Q9(a0:Int)(a1:List UInt8)(a2:List (List UInt8)):Option (Bool):=
 AG (Z1 a1) fun r1=>
 AE (r1) (
  AG (Yg a2 a1) fun r2=>
  some (decide (r2=a0))) (
  some false)
def FD(s1 s7:List (List UInt8))(s8 s9:Int):Option ((Int)⊕(Unit⊕Unit)):=
 AE (decide (s9<s8)) (
  Ab s7 s9 fun x1=>
  AG (Q9 s9 x1 s1) fun r2=>
  AE (!r2) (
   some (.inr (.inr ()))) (
   some (.inl (AB .add .i64 s9 1)))) (
  some (.inr (.inl ())))
def V8(s1 s7:List (List UInt8))(s8 s9:Int):Option (Unit⊕Unit):=AZ (fun s:Int=>FD s1 s7 s8 s) s9
def Yd(a0 a1:List (List UInt8)):Option (Bool):=
 AG (V8 a1 a0 (a0.length:Int) 0) fun o3=>
 As o3 (fun o4=>
  some true) (fun o5=>
  some false)
def Zo(a0:List (List UInt8)):Option (Bool):=
 AG (Yd a0 a0) fun r1=>
 some r1
def Uh(a0:Int)(a1:Xd):Option (Bool):=
 AG (Qn a1.type) fun r1=>
 some (!decide (r1=([]:List UInt8)))
def G6(s7:List Xd)(s8 s9:Int):Option ((Int)⊕(Unit⊕Unit)):=
 AE (decide (s9<s8)) (
  Ab s7 s9 fun x1=>
  AG (Uh s9 x1) fun r2=>
  AE (!r2) (
   some (.inr (.inr ()))) (
   some (.inl (AB .add .i64 s9 1)))) (
  some (.inr (.inl ())))
def WX(s7:List Xd)(s8 s9:Int):Option (Unit⊕Unit):=AZ (fun s:Int=>G6 s7 s8 s) s9
def Ym(a0:List Xd):Option (Bool):=
 AG (WX a0 (a0.length:Int) 0) fun o3=>
 As o3 (fun o4=>
  some true) (fun o5=>
  some false)
def U2(a0:Int):Option (X3):=
 some (X3.mk 1 a0 ([]:List UInt8) false)
def U3(a0:List UInt8):Option (X3):=
 some (X3.mk 2 0 a0 false)
def U4(a0:Bool):Option (X3):=
 some (X3.mk 3 0 ([]:List UInt8) a0)
def Zp(a0:X3):Option (Bool):=
 AE (decide (a0.kind=1)) (
  AG (U2 a0.int) fun r1=>
  some (X3.eqb a0 r1)) (
  AE (decide (a0.kind=2)) (
   AG (U3 a0.str) fun r2=>
   AE ((X3.eqb a0 r2)) (
    some (decide ((a0.str.length:Int)<=4096))) (
    some false)) (
   AE (decide (a0.kind=3)) (
    AG (U4 a0.bool) fun r3=>
    some (X3.eqb a0 r3)) (
    some false)))
def Ui(a0:Int)(a1:Xi):Option (Bool):=
 AG (Zp a1.init_) fun r1=>
 some r1
def G7(s7:List Xi)(s8 s9:Int):Option ((Int)⊕(Unit⊕Unit)):=
 AE (decide (s9<s8)) (
  Ab s7 s9 fun x1=>
  AG (Ui s9 x1) fun r2=>
  AE (!r2) (
   some (.inr (.inr ()))) (
   some (.inl (AB .add .i64 s9 1)))) (
  some (.inr (.inl ())))
def Wa(s7:List Xi)(s8 s9:Int):Option (Unit⊕Unit):=AZ (fun s:Int=>G7 s7 s8 s) s9
def Yn(a0:List Xi):Option (Bool):=
 AG (Wa a0 (a0.length:Int) 0) fun o3=>
 As o3 (fun o4=>
  some true) (fun o5=>
  some false)
def Eu(s14:List Xd)(s15:Int)(w1:AA)(s16:Int)(w3:List (List UInt8)):Option ((Int×List (List UInt8))⊕((List (List UInt8)))):=
 AE (decide (s16<s15)) (
  Ab s14 s16 fun x2=>
  Az (fit w3.length [x2.name].length 16) (
   some (.inl ((AB .add .i64 s16 1),w3++[x2.name])))) (
  some (.inr w3))
def RX(s14:List Xd)(s15:Int)(w1:AA)(s16:Int)(w3:List (List UInt8)):Option ((List (List UInt8))):=AZ (fun s:Int×List (List UInt8)=>Eu s14 s15 w1 s.1 s.2) (s16,w3)
def Ev(s27:List Xi)(s28:Int)(w1:AA)(s29:Int)(w3:List (List UInt8)):Option ((Int×List (List UInt8))⊕((List (List UInt8)))):=
 AE (decide (s29<s28)) (
  Ab s27 s29 fun x4=>
  Az (fit w3.length [x4.name].length 16) (
   some (.inl ((AB .add .i64 s29 1),w3++[x4.name])))) (
  some (.inr w3))
def RY(s27:List Xi)(s28:Int)(w1:AA)(s29:Int)(w3:List (List UInt8)):Option ((List (List UInt8))):=AZ (fun s:Int×List (List UInt8)=>Ev s27 s28 w1 s.1 s.2) (s29,w3)
def Ew(s40:List Yc)(s41:Int)(w1:AA)(w3:List (List UInt8))(s42:Int)(w4:List (List UInt8)):Option ((Int×List (List UInt8))⊕((List (List UInt8)))):=
 AE (decide (s42<s41)) (
  Ab s40 s42 fun x7=>
  Az (fit w4.length [x7.name].length 16) (
   some (.inl ((AB .add .i64 s42 1),w4++[x7.name])))) (
  some (.inr w4))
def RZ(s40:List Yc)(s41:Int)(w1:AA)(w3:List (List UInt8))(s42:Int)(w4:List (List UInt8)):Option ((List (List UInt8))):=AZ (fun s:Int×List (List UInt8)=>Ew s40 s41 w1 w3 s.1 s.2) (s42,w4)
def Xc(a0:AA):Option (Bool):=
 AG (RX a0.quants (a0.quants.length:Int) a0 0 ([]:List (List UInt8))) fun o3=>
 AG (RY a0.frees (a0.frees.length:Int) a0 0 o3) fun o5=>
 AG (RZ a0.states (a0.states.length:Int) a0 o5 0 ([]:List (List UInt8))) fun o8=>
 AG (Y7 a0.decls) fun r9=>
 AE (decide (r9.2=0)) (
  AG (Z1 a0.name) fun r10=>
  AE (r10) (
   AG (Zo o5) fun r11=>
   AE (r11) (
    AG (Zo o8) fun r12=>
    AE (r12) (
     AG (Ym a0.quants) fun r13=>
     AE (r13) (
      AG (Yn a0.frees) fun r14=>
      AE (r14) (
       AE (decide (0<=a0.start)) (
        some (decide (a0.start<(a0.states.length:Int)))) (
        some false)) (
       some false)) (
      some false)) (
     some false)) (
    some false)) (
   some false)) (
  some false)
def U5(a0:AA)(a1:Int):Option (X4×Bool):=
 Ab a0.nodes a1 fun x1=>
 AE (decide (x1.op=1)) (
  AE ((Xb.eqb x1 (Xb.mk x1.op 0 0 x1.value))) (
   AG (Zp x1.value) fun r2=>
   AE (r2) (
    some (X4.mk x1.value.kind 1 a1,true)) (
    AE (decide (x1.op=2)) (
     AE ((Xb.eqb x1 (Xb.mk x1.op x1.a 0 (X3.mk 0 0 ([]:List UInt8) false)))) (
      AE (decide (0<=x1.a)) (
       AE (decide (x1.a<(a0.quants.length:Int))) (
        Ab a0.quants x1.a fun x3=>
        some (X4.mk x3.type 1 a1,true)) (
        AE (decide (x1.op=3)) (
         AE (decide (x1.a<(a0.frees.length:Int))) (
          Ab a0.frees x1.a fun x4=>
          some (X4.mk x4.init_.kind 1 a1,true)) (
          some (X4.mk 0 0 0,false))) (
         some (X4.mk 0 0 0,false)))) (
       AE (decide (x1.op=3)) (
        some (X4.mk 0 0 0,false)) (
        some (X4.mk 0 0 0,false)))) (
      AE (decide (x1.op=3)) (
       some (X4.mk 0 0 0,false)) (
       some (X4.mk 0 0 0,false)))) (
     AE (decide (x1.op=3)) (
      AE ((Xb.eqb x1 (Xb.mk x1.op x1.a 0 (X3.mk 0 0 ([]:List UInt8) false)))) (
       AE (decide (0<=x1.a)) (
        AE (decide (x1.a<(a0.frees.length:Int))) (
         Ab a0.frees x1.a fun x5=>
         some (X4.mk x5.init_.kind 1 a1,true)) (
         some (X4.mk 0 0 0,false))) (
        some (X4.mk 0 0 0,false))) (
       some (X4.mk 0 0 0,false))) (
      some (X4.mk 0 0 0,false))))) (
   AE (decide (x1.op=2)) (
    AE ((Xb.eqb x1 (Xb.mk x1.op x1.a 0 (X3.mk 0 0 ([]:List UInt8) false)))) (
     AE (decide (0<=x1.a)) (
      AE (decide (x1.a<(a0.quants.length:Int))) (
       Ab a0.quants x1.a fun x6=>
       some (X4.mk x6.type 1 a1,true)) (
       AE (decide (x1.op=3)) (
        AE (decide (x1.a<(a0.frees.length:Int))) (
         Ab a0.frees x1.a fun x7=>
         some (X4.mk x7.init_.kind 1 a1,true)) (
         some (X4.mk 0 0 0,false))) (
        some (X4.mk 0 0 0,false)))) (
      AE (decide (x1.op=3)) (
       some (X4.mk 0 0 0,false)) (
       some (X4.mk 0 0 0,false)))) (
     AE (decide (x1.op=3)) (
      some (X4.mk 0 0 0,false)) (
      some (X4.mk 0 0 0,false)))) (
    AE (decide (x1.op=3)) (
     AE ((Xb.eqb x1 (Xb.mk x1.op x1.a 0 (X3.mk 0 0 ([]:List UInt8) false)))) (
      AE (decide (0<=x1.a)) (
       AE (decide (x1.a<(a0.frees.length:Int))) (
        Ab a0.frees x1.a fun x8=>
        some (X4.mk x8.init_.kind 1 a1,true)) (
        some (X4.mk 0 0 0,false))) (
       some (X4.mk 0 0 0,false))) (
      some (X4.mk 0 0 0,false))) (
     some (X4.mk 0 0 0,false))))) (
  AE (decide (x1.op=2)) (
   AE ((Xb.eqb x1 (Xb.mk x1.op x1.a 0 (X3.mk 0 0 ([]:List UInt8) false)))) (
    AE (decide (0<=x1.a)) (
     AE (decide (x1.a<(a0.quants.length:Int))) (
      Ab a0.quants x1.a fun x9=>
      some (X4.mk x9.type 1 a1,true)) (
      AE (decide (x1.op=3)) (
       AE (decide (x1.a<(a0.frees.length:Int))) (
        Ab a0.frees x1.a fun x10=>
        some (X4.mk x10.init_.kind 1 a1,true)) (
        some (X4.mk 0 0 0,false))) (
       some (X4.mk 0 0 0,false)))) (
     AE (decide (x1.op=3)) (
      some (X4.mk 0 0 0,false)) (
      some (X4.mk 0 0 0,false)))) (
    AE (decide (x1.op=3)) (
     some (X4.mk 0 0 0,false)) (
     some (X4.mk 0 0 0,false)))) (
   AE (decide (x1.op=3)) (
    AE ((Xb.eqb x1 (Xb.mk x1.op x1.a 0 (X3.mk 0 0 ([]:List UInt8) false)))) (
     AE (decide (0<=x1.a)) (
      AE (decide (x1.a<(a0.frees.length:Int))) (
       Ab a0.frees x1.a fun x11=>
       some (X4.mk x11.init_.kind 1 a1,true)) (
       some (X4.mk 0 0 0,false))) (
      some (X4.mk 0 0 0,false))) (
     some (X4.mk 0 0 0,false))) (
    some (X4.mk 0 0 0,false))))
def Z5(a0:Bool)(a1:Int):Option (Int):=
 AE (!a0) (
  some 0) (
  some a1)
def aMe(s1 s2 s7:Int)(s10:Bool):Option (Bool):=
 AE (s10) (
  some true) (
  some (decide (s7=7)))
def Tu(s1 s2 s7:Int)(s15:Bool):Option (Bool):=
 AE (s15) (
  some true) (
  some (decide (s7=12)))
def Ts(s1 s2 s7:Int)(s15:Bool):Option (Bool):=
 AE (s15) (
  some true) (
  AG (Tu s1 s2 s7 (decide (s7=11))) fun o2=>
  some o2)
def aMf(s1 s2 s7:Int)(s15:Bool):Option (Bool):=
 AE (s15) (
  some true) (
  AG (Ts s1 s2 s7 (decide (s7=10))) fun o3=>
  some o3)
def Tw(s1 s2 s7:Int)(s22:Bool):Option (Bool):=
 AE (s22) (
  some true) (
  some (decide (s7=14)))
def Ty(s1 s2 s7:Int)(s25:Bool):Option (Bool):=
 AE (s25) (
  some true) (
  some (decide (s7=16)))
def aMc(s1 s2 s7:Int):Option (Int⊕(Unit⊕(Unit⊕(Unit⊕(Unit⊕(Unit⊕Unit)))))):=
 AE (decide (s7=4)) (
  some (.inl s1)) (
  AG (aMe s1 s2 s7 (decide (s7=6))) fun o1=>
  AE (o1) (
   some (.inl s2)) (
   AE (decide (s7=5)) (
    some (.inr (.inr (.inl ())))) (
    AG (aMf s1 s2 s7 (decide (s7=9))) fun o4=>
    AE (o4) (
     some (.inr (.inr (.inr (.inl ()))))) (
     AE (decide (s7=8)) (
      some (.inr (.inr (.inr (.inr (.inl ())))))) (
      AG (Tw s1 s2 s7 (decide (s7=13))) fun o5=>
      AE (o5) (
       some (.inr (.inr (.inr (.inr (.inr (.inl ()))))))) (
       AG (Ty s1 s2 s7 (decide (s7=15))) fun o6=>
       AE (o6) (
        some (.inr (.inr (.inr (.inr (.inr (.inr ()))))))) (
        some (.inr (.inl ())))))))))
def aMa(s1 s2 s7:Int):Option (Unit⊕(Unit⊕(Unit⊕(Unit⊕(Unit⊕(Unit⊕Int)))))):=
 AG (aMc s1 s2 s7) fun o7=>
 As o7 (fun o8=>
  AE (decide (s1=3)) (
   AG (Z5 (decide (o8=s1)) 3) fun r10=>
   some (.inr (.inr (.inr (.inr (.inr (.inr r10))))))) (
   AG (Z5 false 3) fun r11=>
   some (.inr (.inr (.inr (.inr (.inr (.inr r11)))))))) (fun o9=>
  As o9 (fun o12=>
   some (.inr (.inl ()))) (fun o13=>
   As o13 (fun o14=>
    some (.inl ())) (fun o15=>
    As o15 (fun o16=>
     some (.inr (.inr (.inl ())))) (fun o17=>
     As o17 (fun o18=>
      some (.inr (.inr (.inr (.inl ()))))) (fun o19=>
      As o19 (fun o20=>
       some (.inr (.inr (.inr (.inr (.inl ())))))) (fun o21=>
       some (.inr (.inr (.inr (.inr (.inr (.inl ()))))))))))))
def aL8(s1 s2 s7:Int):Option (Int⊕(Unit⊕(Unit⊕(Unit⊕(Unit⊕Int))))):=
 AG (aMa s1 s2 s7) fun o22=>
 As o22 (fun o23=>
  some (.inl s1)) (fun o24=>
  As o24 (fun o25=>
   some (.inr (.inl ()))) (fun o26=>
   As o26 (fun o27=>
    some (.inl s2)) (fun o28=>
    As o28 (fun o29=>
     some (.inr (.inr (.inl ())))) (fun o30=>
     As o30 (fun o31=>
      some (.inr (.inr (.inr (.inl ()))))) (fun o32=>
      As o32 (fun o33=>
       some (.inr (.inr (.inr (.inr (.inl ())))))) (fun o34=>
       some (.inr (.inr (.inr (.inr (.inr o34)))))))))))
def aL6(s1 s2 s7:Int):Option (Unit⊕(Unit⊕(Unit⊕(Unit⊕Int)))):=
 AG (aL8 s1 s2 s7) fun o35=>
 As o35 (fun o36=>
  AE (decide (s1=1)) (
   AG (Z5 (decide (o36=s1)) s1) fun r38=>
   some (.inr (.inr (.inr (.inr r38))))) (
   AG (Z5 false s1) fun r39=>
   some (.inr (.inr (.inr (.inr r39)))))) (fun o37=>
  As o37 (fun o40=>
   some (.inr (.inl ()))) (fun o41=>
   As o41 (fun o42=>
    some (.inl ())) (fun o43=>
    As o43 (fun o44=>
     some (.inr (.inr (.inl ())))) (fun o45=>
     As o45 (fun o46=>
      some (.inr (.inr (.inr (.inl ()))))) (fun o47=>
      some (.inr (.inr (.inr (.inr o47)))))))))
def aL5(s1 s2 s7:Int):Option (Unit⊕(Unit⊕(Unit⊕Int))):=
 AG (aL6 s1 s2 s7) fun o48=>
 As o48 (fun o49=>
  AE (decide (s1=1)) (
   AG (Z5 (decide (s2=s1)) s1) fun r51=>
   some (.inr (.inr (.inr r51)))) (
   AE (decide (s1=2)) (
    AG (Z5 (decide (s2=s1)) s1) fun r52=>
    some (.inr (.inr (.inr r52)))) (
    AG (Z5 false s1) fun r53=>
    some (.inr (.inr (.inr r53)))))) (fun o50=>
  As o50 (fun o54=>
   some (.inr (.inl ()))) (fun o55=>
   As o55 (fun o56=>
    some (.inl ())) (fun o57=>
    As o57 (fun o58=>
     some (.inr (.inr (.inl ())))) (fun o59=>
     some (.inr (.inr (.inr o59)))))))
def aL4(s1 s2 s7:Int):Option (Unit⊕(Unit⊕Int)):=
 AG (aL5 s1 s2 s7) fun o60=>
 As o60 (fun o61=>
  AG (Qn s1) fun r63=>
  AE (!decide (r63=([]:List UInt8))) (
   AG (Z5 (decide (s2=s1)) 3) fun r64=>
   some (.inr (.inr r64))) (
   AG (Z5 false 3) fun r65=>
   some (.inr (.inr r65)))) (fun o62=>
  As o62 (fun o66=>
   some (.inr (.inl ()))) (fun o67=>
   As o67 (fun o68=>
    some (.inl ())) (fun o69=>
    some (.inr (.inr o69)))))
def aL3(s1 s2 s7:Int):Option (Unit⊕Int):=
 AG (aL4 s1 s2 s7) fun o70=>
 As o70 (fun o71=>
  AE (decide (s1=1)) (
   AG (Z5 (decide (s2=s1)) 3) fun r73=>
   some (.inr r73)) (
   AE (decide (s1=2)) (
    AG (Z5 (decide (s2=s1)) 3) fun r74=>
    some (.inr r74)) (
    AG (Z5 false 3) fun r75=>
    some (.inr r75)))) (fun o72=>
  As o72 (fun o76=>
   some (.inl ())) (fun o77=>
   some (.inr o77)))
def Xf(a0 a1 a2:Int):Option (Int):=
 AG (aL3 a1 a2 a0) fun o78=>
 As o78 (fun o79=>
  some 0) (fun o80=>
  some o80)
def Mq(s4:Int)(s15:List Xb)(s16 s17:Int)(s77:Bool)(w1:AA)(w3:List X4)(w5:Xb)(w8:X4):Option ((List X4)):=
 AE (s77) (
  AG (Xf w5.op w8.kind w8.kind) fun r5=>
  Az (0<=s4/\s4+1<=(w3.length:Int)) (
   Az (0<=s4/\s4+1<=(w3.length:Int)) (
    some (w3.set s4.toNat (X4.mk r5 (AB .add .i64 w8.depth 1) w8.from_))))) (
  some w3)
def GT(s4:Int)(s15:List Xb)(s16 s17:Int)(s120:Bool)(w1:AA)(w3:List X4)(w5:Xb)(w8:X4):Option ((List X4)):=
 AE (s120) (
  Az (0<=w5.a/\w5.a+1<=(w3.length:Int)) (
   Ab w3 w5.a fun x9=>
   AG (Xf w5.op x9.kind w8.kind) fun r10=>
   Az (0<=s4/\s4+1<=(w3.length:Int)) (
    Az (0<=s4/\s4+1<=(w3.length:Int)) (
     some (w3.set s4.toNat (X4.mk r10 (AB .add .i64 (Fv x9.depth w8.depth) 1) x9.from_)))))) (
  some w3)
def UD(s15:List Xb)(s16 s17:Int)(w1:AA)(w3:List X4):Option ((List X4)):=
 Ab s15 s17 fun x1=>
 AG (U5 w1 s17) fun r2=>
 AE (r2.2) (
  Az (0<=s17/\s17+1<=(w3.length:Int)) (
   Az (0<=s17/\s17+1<=(w3.length:Int)) (
    some (w3.set s17.toNat r2.1)))) (
  AE (decide (x1.op<4)) (
   some w3) (
   AE (decide (16<x1.op)) (
    some w3) (
    AE (decide (s17=0)) (
     some w3) (
     Az (0<=(AB .sub .i64 s17 1)/\(AB .sub .i64 s17 1)+1<=(w3.length:Int)) (
      Ab w3 (AB .sub .i64 s17 1) fun x3=>
      AE (decide (x3.kind=0)) (
       some w3) (
       AE (!(X3.eqb x1.value (X3.mk 0 0 ([]:List UInt8) false))) (
        some w3) (
        Az (0<=(AB .sub .i64 s17 1)/\(AB .sub .i64 s17 1)+1<=(w3.length:Int)) (
         Ab w3 (AB .sub .i64 s17 1) fun x4=>
         AE (decide (x1.op<=5)) (
          AE (decide (x1.a=(AB .sub .i64 s17 1))) (
           AG (Mq s17 s15 s16 s17 (decide (x1.b=0)) w1 w3 x1 x4) fun o6=>
           some o6) (
           AG (Mq s17 s15 s16 s17 false w1 w3 x1 x4) fun o7=>
           some o7)) (
          AE (decide (x1.b=(AB .sub .i64 s17 1))) (
           AE (decide (x1.a=(AB .sub .i64 x4.from_ 1))) (
            AE (decide (0<=x1.a)) (
             Az (0<=x1.a/\x1.a+1<=(w3.length:Int)) (
              Ab w3 x1.a fun x8=>
              AG (GT s17 s15 s16 s17 (!decide (x8.kind=0)) w1 w3 x1 x4) fun o11=>
              some o11)) (
             AG (GT s17 s15 s16 s17 false w1 w3 x1 x4) fun o12=>
             some o12)) (
            AG (GT s17 s15 s16 s17 false w1 w3 x1 x4) fun o13=>
            some o13)) (
           AG (GT s17 s15 s16 s17 false w1 w3 x1 x4) fun o14=>
           some o14))))))))))
def GU(s15:List Xb)(s16:Int)(w1:AA)(s17:Int)(w3:List X4):Option ((Int×List X4)⊕((List X4))):=
 AE (decide (s17<s16)) (
  AG (UD s15 s16 s17 w1 w3) fun o15=>
  some (.inl ((AB .add .i64 s17 1),o15))) (
  some (.inr w3))
def Mr(s15:List Xb)(s16:Int)(w1:AA)(s17:Int)(w3:List X4):Option ((List X4)):=AZ (fun s:Int×List X4=>GU s15 s16 w1 s.1 s.2) (s17,w3)
def Xk(a0:AA):Option (List X4):=
 Az (0<=(a0.nodes.length:Int)/\fit 0 (a0.nodes.length:Int).toNat 24) (
  AG (Mr a0.nodes (a0.nodes.length:Int) a0 0 (List.replicate (a0.nodes.length:Int).toNat (X4.mk 0 0 0))) fun o16=>
  some o16)
def Qs(a0 a1:Int)(a3:List X4)(w0:Int):Option (Bool×Int):=
 AE (decide (a0<w0)) (
  some (false,w0)) (
  AE (decide ((a3.length:Int)<=a0)) (
   some (false,w0)) (
   Ab a3 a0 fun x1=>
   AE (!decide (x1.kind=a1)) (
    some (false,w0)) (
    AE (decide (a1=0)) (
     some (false,w0)) (
     Ab a3 a0 fun x2=>
     AE (!decide (x2.from_=w0)) (
      some (false,w0)) (
      Ab a3 a0 fun x3=>
      AE (decide (64<x3.depth)) (
       some (false,w0)) (
       some (true,(AB .add .i64 a0 1))))))))
def Uj(a0 a1:A9):Option (Bool):=
 some (decide (a0.free=a1.free))
def HA(s0:List A9)(s1:A9)(s7 s8:Int):Option ((Int)⊕(Unit⊕Int)):=
 AE (decide (s8<s7)) (
  Ab s0 s8 fun x1=>
  AG (Uj x1 s1) fun r2=>
  AE (r2) (
   some (.inr (.inr s8))) (
   some (.inl (AB .add .i64 s8 1)))) (
  some (.inr (.inl ())))
def Wl(s0:List A9)(s1:A9)(s7 s8:Int):Option (Unit⊕Int):=AZ (fun s:Int=>HA s0 s1 s7 s) s8
def Yq(a0:List A9)(a1:A9):Option (Int):=
 AG (Wl a0 a1 (a0.length:Int) 0) fun o3=>
 As o3 (fun o4=>
  some (-1)) (fun o5=>
  some o5)
def Zx(a0:List A9)(a1:A9):Option (Bool):=
 AG (Yq a0 a1) fun r1=>
 some (decide (0<=r1))
def Qa(a0:Int)(a1:A9)(a2:X5)(a3:AA)(w0:List X4)(w1:Int):Option (Bool×List X4×Int):=
 Az ((0:Int)<=0/\(0:Int)<=a0/\a0<=(a2.sets.length:Int)) (
  AG (Zx (sub a2.sets 0 a0) a1) fun r1=>
  AE (decide (0<=a1.free)) (
   AE (decide (a1.free<(a3.frees.length:Int))) (
    AE (!r1) (
     Ab a3.frees a1.free fun x2=>
     AG (Qs a1.expr x2.init_.kind w0 w1) fun r3=>
     some (r3.1,w0,r3.2)) (
     some (false,w0,w1))) (
    some (false,w0,w1))) (
   some (false,w0,w1)))
def DP(s1_1:X5)(s1_2:AA)(s7:List A9)(s8:Int)(w997_1:X5)(w997_2:AA)(s9:Int)(w0:List X4)(w1:Int):Option ((Int×List X4×Int)⊕((List X4×Int)⊕(List X4×Int))):=
 AE (decide (s9<s8)) (
  Ab s7 s9 fun x1=>
  AG (Qa s9 x1 s1_1 s1_2 w0 w1) fun r2=>
  AE (!r2.1) (
   some (.inr (.inr (r2.2.1,r2.2.2)))) (
   some (.inl ((AB .add .i64 s9 1),r2.2.1,r2.2.2)))) (
  some (.inr (.inl (w0,w1))))
def M7(s1_1:X5)(s1_2:AA)(s7:List A9)(s8:Int)(w997_1:X5)(w997_2:AA)(s9:Int)(w0:List X4)(w1:Int):Option ((List X4×Int)⊕(List X4×Int)):=AZ (fun s:Int×List X4×Int=>DP s1_1 s1_2 s7 s8 w997_1 w997_2 s.1 s.2.1 s.2.2) (s9,w0,w1)
theorem PP(s1_1:X5)(s1_2:AA)(s7:List A9)(s8:Int)(w997_1:X5)(w997_2:AA)(s9:Int)(w0:List X4)(w1:Int):M7 s1_1 s1_2 s7 s8 w997_1 w997_2 s9 w0 w1=Bh (DP s1_1 s1_2 s7 s8 w997_1 w997_2 s9 w0 w1) (fun s:Int×List X4×Int=>M7 s1_1 s1_2 s7 s8 w997_1 w997_2 s.1 s.2.1 s.2.2):=Au _ _
def Xx(a0:List A9)(a1_1:X5)(a1_2:AA)(w0:List X4)(w1:Int):Option (Bool×List X4×Int):=
 AG (M7 a1_1 a1_2 a0 (a0.length:Int) a1_1 a1_2 0 w0 w1) fun o3=>
 As o3 (fun o4=>
  some (true,o4.1,o4.2)) (fun o5=>
  some (false,o5.1,o5.2))
def HB(s0:List AX)(s7:Int)(w3:AX)(s8:Int):Option ((Int)⊕(Unit⊕Int)):=
 AE (decide (s8<s7)) (
  Ab s0 s8 fun x1=>
  AE ((AX.eqb w3 x1)) (
   some (.inr (.inr s8))) (
   some (.inl (AB .add .i64 s8 1)))) (
  some (.inr (.inl ())))
def Wo(s0:List AX)(s7:Int)(w3:AX)(s8:Int):Option (Unit⊕Int):=AZ (fun s:Int=>HB s0 s7 w3 s) s8
def Yr(a0:List AX)(a1:AX):Option (Int):=
 AG (Wo a0 (a0.length:Int) a1 0) fun o2=>
 As o2 (fun o3=>
  some (-1)) (fun o4=>
  some o4)
def Qb(a0:List AX)(a1:AX):Option (Bool):=
 AG (Yr a0 a1) fun r1=>
 some (decide (0<=r1))
def Zq(a0:X2)(a1:Int):Option (Bool):=
 AG (Qb a0.args (AX.mk 2 a1 (X3.mk 0 0 ([]:List UInt8) false))) fun r1=>
 some r1
def Qc(a0:Int)(a1:Xb)(a2:AA)(a3:X5):Option (Bool):=
 AE (!decide (a1.op=2)) (
  some true) (
  Ab a2.symbols a3.symbol fun x1=>
  AG (Zq x1 a1.a) fun r2=>
  some r2)
def E5(s1_1:AA)(s1_2:X5)(s7:List Xb)(s8 s9:Int):Option ((Int)⊕(Unit⊕Unit)):=
 AE (decide (s9<s8)) (
  Ab s7 s9 fun x1=>
  AG (Qc s9 x1 s1_1 s1_2) fun r2=>
  AE (!r2) (
   some (.inr (.inr ()))) (
   some (.inl (AB .add .i64 s9 1)))) (
  some (.inr (.inl ())))
def Vm(s1_1:AA)(s1_2:X5)(s7:List Xb)(s8 s9:Int):Option (Unit⊕Unit):=AZ (fun s:Int=>E5 s1_1 s1_2 s7 s8 s) s9
def Y4(a0:List Xb)(a1_1:AA)(a1_2:X5):Option (Bool):=
 AG (Vm a1_1 a1_2 a0 (a0.length:Int) 0) fun o3=>
 As o3 (fun o4=>
  some true) (fun o5=>
  some false)
def Zy(a0:Int)(a1:X5)(a3:AA)(w0:Int)(w1:List X4):Option (Bool×Int×List X4):=
 AE (decide (a1.from_<0)) (
  some (false,w0,w1)) (
  AE (decide ((a3.states.length:Int)<=a1.from_)) (
   some (false,w0,w1)) (
   AE (decide (a1.to<0)) (
    some (false,w0,w1)) (
    AE (decide ((a3.states.length:Int)<=a1.to)) (
     some (false,w0,w1)) (
     AE (decide (a1.symbol<0)) (
      some (false,w0,w1)) (
      AE (decide ((a3.symbols.length:Int)<=a1.symbol)) (
       some (false,w0,w1)) (
       AE (!decide (a1.guard=(-1))) (
        AG (Qs a1.guard 3 w1 w0) fun r1=>
        AE (!r1.1) (
         some (false,r1.2,w1)) (
         AG (Xx a1.sets a1 a3 w1 r1.2) fun r2=>
         AE (r2.1) (
          Az ((0:Int)<=w0/\(w0:Int)<=r2.2.2/\r2.2.2<=(a3.nodes.length:Int)) (
           AG (Y4 (sub a3.nodes w0 r2.2.2) a3 a1) fun r3=>
           some (r3,r2.2.2,r2.2.1))) (
          some (false,r2.2.2,r2.2.1)))) (
        AG (Xx a1.sets a1 a3 w1 w0) fun r4=>
        AE (r4.1) (
         Az ((0:Int)<=w0/\(w0:Int)<=r4.2.2/\r4.2.2<=(a3.nodes.length:Int)) (
          AG (Y4 (sub a3.nodes w0 r4.2.2) a3 a1) fun r5=>
          some (r5,r4.2.2,r4.2.1))) (
         some (false,r4.2.2,r4.2.1)))))))))
def EA(s1:AA)(s7:List X5)(s8:Int)(w997:AA)(s9 w0:Int)(w1:List X4):Option ((Int×Int×List X4)⊕((Int×List X4)⊕(Int×List X4))):=
 AE (decide (s9<s8)) (
  Ab s7 s9 fun x1=>
  AG (Zy s9 x1 s1 w0 w1) fun r2=>
  AE (!r2.1) (
   some (.inr (.inr (r2.2.1,r2.2.2)))) (
   some (.inl ((AB .add .i64 s9 1),r2.2.1,r2.2.2)))) (
  some (.inr (.inl (w0,w1))))
def LK(s1:AA)(s7:List X5)(s8:Int)(w997:AA)(s9 w0:Int)(w1:List X4):Option ((Int×List X4)⊕(Int×List X4)):=AZ (fun s:Int×Int×List X4=>EA s1 s7 s8 w997 s.1 s.2.1 s.2.2) (s9,w0,w1)
theorem Pb(s1:AA)(s7:List X5)(s8:Int)(w997:AA)(s9 w0:Int)(w1:List X4):LK s1 s7 s8 w997 s9 w0 w1=Bh (EA s1 s7 s8 w997 s9 w0 w1) (fun s:Int×Int×List X4=>LK s1 s7 s8 w997 s.1 s.2.1 s.2.2):=Au _ _
def Y3(a0:List X5)(a1:AA)(w0:Int)(w1:List X4):Option (Bool×Int×List X4):=
 AG (LK a1 a0 (a0.length:Int) a1 0 w0 w1) fun o3=>
 As o3 (fun o4=>
  some (true,o4.1,o4.2)) (fun o5=>
  some (false,o5.1,o5.2))
def Zs(a0:AA):Option (Bool):=
 AG (Xk a0) fun r1=>
 AG (Y3 a0.trans a0 0 r1) fun r2=>
 AE (r2.1) (
  some (decide (r2.2.1=(r1.length:Int)))) (
  some false)
def HC(s0:List Int)(s1 s7 s8:Int):Option ((Int)⊕(Unit⊕Int)):=
 AE (decide (s8<s7)) (
  Ab s0 s8 fun x1=>
  AE (decide (s1=x1)) (
   some (.inr (.inr s8))) (
   some (.inl (AB .add .i64 s8 1)))) (
  some (.inr (.inl ())))
def Wr(s0:List Int)(s1 s7 s8:Int):Option (Unit⊕Int):=AZ (fun s:Int=>HC s0 s1 s7 s) s8
def Ys(a0:List Int)(a1:Int):Option (Int):=
 AG (Wr a0 a1 (a0.length:Int) 0) fun o2=>
 As o2 (fun o3=>
  some (-1)) (fun o4=>
  some o4)
def Zz(a0:List Int)(a1:Int):Option (Bool):=
 AG (Ys a0 a1) fun r1=>
 some (decide (0<=r1))
def Uk(a0 a1:Int)(a2:AA)(a3:List Int):Option (Bool):=
 some (decide (a1=(AB .add .i64 (AB .sub .i64 (a2.symbols.length:Int) (a3.length:Int)) a0)))
def G8(s1_1:AA)(s1_2 s7:List Int)(s8 s9:Int):Option ((Int)⊕(Unit⊕Unit)):=
 AE (decide (s9<s8)) (
  Ab s7 s9 fun x1=>
  AG (Uk s9 x1 s1_1 s1_2) fun r2=>
  AE (!r2) (
   some (.inr (.inr ()))) (
   some (.inl (AB .add .i64 s9 1)))) (
  some (.inr (.inl ())))
def Wd(s1_1:AA)(s1_2 s7:List Int)(s8 s9:Int):Option (Unit⊕Unit):=AZ (fun s:Int=>G8 s1_1 s1_2 s7 s8 s) s9
def Yo(a0:List Int)(a1_1:AA)(a1_2:List Int):Option (Bool):=
 AG (Wd a1_1 a1_2 a0 (a0.length:Int) 0) fun o3=>
 As o3 (fun o4=>
  some true) (fun o5=>
  some false)
def Qw(a0:AA)(a1:AX)(a2:Int):Option (Bool):=
 AE (decide (a1.kind=1)) (
  AE (decide (a1.n=0)) (
   AG (Zp a1.value) fun r1=>
   AE (r1) (
    some (decide (a1.value.kind=a2))) (
    some false)) (
   some false)) (
  AE (decide (a1.kind=2)) (
   AE (decide (0<=a1.n)) (
    AE (decide (a1.n<(a0.quants.length:Int))) (
     Ab a0.quants a1.n fun x2=>
     AE (decide (x2.type=a2)) (
      some (X3.eqb a1.value (X3.mk 0 0 ([]:List UInt8) false))) (
      some false)) (
     some false)) (
    some false)) (
   AE (decide (a1.kind=3)) (
    AE (decide (0<=a1.n)) (
     AE (decide (a1.n<(a0.frees.length:Int))) (
      Ab a0.frees a1.n fun x3=>
      AE (decide (x3.init_.kind=a2)) (
       some (X3.eqb a1.value (X3.mk 0 0 ([]:List UInt8) false))) (
       some false)) (
      some false)) (
     some false)) (
    some (AX.eqb a1 (AX.mk 4 0 (X3.mk 0 0 ([]:List UInt8) false))))))
def Ul(a0:AX)(a1:Int)(a2:AA):Option (Bool):=
 AG (Qw a2 a0 a1) fun r1=>
 some r1
def HD(s1:List Int)(s2:AA)(s15:List AX)(s16 s17:Int):Option ((Int)⊕(Unit⊕Unit)):=
 AE (decide (s17<s16)) (
  Ab s15 s17 fun x1=>
  Ab s1 s17 fun x2=>
  AG (Ul x1 x2 s2) fun r3=>
  AE (!r3) (
   some (.inr (.inr ()))) (
   some (.inl (AB .add .i64 s17 1)))) (
  some (.inr (.inl ())))
def Wv(s1:List Int)(s2:AA)(s15:List AX)(s16 s17:Int):Option (Unit⊕Unit):=AZ (fun s:Int=>HD s1 s2 s15 s16 s) s17
def Yt(a0:List AX)(a1:List Int)(a2:AA):Option (Bool):=
 AE (!decide ((a0.length:Int)=(a1.length:Int))) (
  some false) (
  AG (Wv a1 a2 a0 (a0.length:Int) 0) fun o4=>
  As o4 (fun o5=>
   some true) (fun o6=>
   some false))
def Q0(a0:AA)(a1:X2):Option (Bool):=
 AE (decide (a1.event<0)) (
  some false) (
  AE (decide ((a0.decls.length:Int)<=a1.event)) (
   some false) (
   Ab a0.decls a1.event fun x1=>
   AG (Yt a1.args x1.types a0) fun r2=>
   some r2))
def HE(s0 s1:List AX)(s12 s13:Int):Option ((Int)⊕(Unit⊕Unit)):=
 AE (decide (s13<s12)) (
  Ab s0 s13 fun x1=>
  Ab s1 s13 fun x2=>
  AE (!(AX.eqb x1 x2)) (
   some (.inr (.inr ()))) (
   some (.inl (AB .add .i64 s13 1)))) (
  some (.inr (.inl ())))
def Wy(s0 s1:List AX)(s12 s13:Int):Option (Unit⊕Unit):=AZ (fun s:Int=>HE s0 s1 s12 s) s13
def Yu(a0 a1:List AX):Option (Bool):=
 AE (!decide ((a0.length:Int)=(a1.length:Int))) (
  some false) (
  AG (Wy a0 a1 (a0.length:Int) 0) fun o3=>
  As o3 (fun o4=>
   some true) (fun o5=>
   some false))
def Q1(a0 a1:X2):Option (Bool):=
 AE (decide (a0.event=a1.event)) (
  AG (Yu a0.args a1.args) fun r1=>
  some r1) (
  some false)
def Qd(a0 a1:X2):Option (Bool):=
 AG (Q1 a0 a1) fun r1=>
 some r1
def E9(s0:List X2)(s1:X2)(s7 s8:Int):Option ((Int)⊕(Unit⊕Int)):=
 AE (decide (s8<s7)) (
  Ab s0 s8 fun x1=>
  AG (Qd x1 s1) fun r2=>
  AE (r2) (
   some (.inr (.inr s8))) (
   some (.inl (AB .add .i64 s8 1)))) (
  some (.inr (.inl ())))
def Vz(s0:List X2)(s1:X2)(s7 s8:Int):Option (Unit⊕Int):=AZ (fun s:Int=>E9 s0 s1 s7 s) s8
def Y9(a0:List X2)(a1:X2):Option (Int):=
 AG (Vz a0 a1 (a0.length:Int) 0) fun o3=>
 As o3 (fun o4=>
  some (-1)) (fun o5=>
  some o5)
def Qe(a0:Int)(a1:X2)(a2:AA):Option (Bool):=
 AG (Q0 a2 a1) fun r1=>
 AE (r1) (
  AG (Y9 a2.symbols a1) fun r2=>
  some (decide (r2=a0))) (
  some false)
def FA(s1:AA)(s7:List X2)(s8 s9:Int):Option ((Int)⊕(Unit⊕Unit)):=
 AE (decide (s9<s8)) (
  Ab s7 s9 fun x1=>
  AG (Qe s9 x1 s1) fun r2=>
  AE (!r2) (
   some (.inr (.inr ()))) (
   some (.inl (AB .add .i64 s9 1)))) (
  some (.inr (.inl ())))
def V2(s1:AA)(s7:List X2)(s8 s9:Int):Option (Unit⊕Unit):=AZ (fun s:Int=>FA s1 s7 s8 s) s9
def Ya(a0:List X2)(a1:AA):Option (Bool):=
 AG (V2 a1 a0 (a0.length:Int) 0) fun o3=>
 As o3 (fun o4=>
  some true) (fun o5=>
  some false)
def Qf(a0:X2)(a1:Int):Option (Bool):=
 AG (Zq a0 a1) fun r1=>
 some r1
def FE(s0:List X2)(s1 s7 s8:Int):Option ((Int)⊕(Unit⊕Int)):=
 AE (decide (s8<s7)) (
  Ab s0 s8 fun x1=>
  AG (Qf x1 s1) fun r2=>
  AE (r2) (
   some (.inr (.inr s8))) (
   some (.inl (AB .add .i64 s8 1)))) (
  some (.inr (.inl ())))
def WB(s0:List X2)(s1 s7 s8:Int):Option (Unit⊕Int):=AZ (fun s:Int=>FE s0 s1 s7 s) s8
def Ye(a0:List X2)(a1:Int):Option (Int):=
 AG (WB a0 a1 (a0.length:Int) 0) fun o3=>
 As o3 (fun o4=>
  some (-1)) (fun o5=>
  some o5)
def Q3(a0:List X2)(a1:Int):Option (Bool):=
 AG (Ye a0 a1) fun r1=>
 some (decide (0<=r1))
def Qg(a0:Int)(a1:Xd)(a2:AA):Option (Bool):=
 AG (Q3 a2.symbols a0) fun r1=>
 some r1
def FC(s1:AA)(s7:List Xd)(s8 s9:Int):Option ((Int)⊕(Unit⊕Unit)):=
 AE (decide (s9<s8)) (
  Ab s7 s9 fun x1=>
  AG (Qg s9 x1 s1) fun r2=>
  AE (!r2) (
   some (.inr (.inr ()))) (
   some (.inl (AB .add .i64 s9 1)))) (
  some (.inr (.inl ())))
def V5(s1:AA)(s7:List Xd)(s8 s9:Int):Option (Unit⊕Unit):=AZ (fun s:Int=>FC s1 s7 s8 s) s9
def Yb(a0:List Xd)(a1:AA):Option (Bool):=
 AG (V5 a1 a0 (a0.length:Int) 0) fun o3=>
 As o3 (fun o4=>
  some true) (fun o5=>
  some false)
def UI(s1:AA)(s8:List X5)(s9 s10:Int)(s18:Bool)(w5:X5)(w600:List Int):Option ((List Int)):=
 AE (s18) (
  Az (fit w600.length [w5.symbol].length 8) (
   some (w600++[w5.symbol]))) (
  some w600)
def Rh(s1:AA)(s8:List X5)(s9 s10:Int)(w600:List Int):Option ((List Int)):=
 Ab s8 s10 fun x5=>
 AG (Zz w600 x5.symbol) fun r6=>
 AG (UI s1 s8 s9 s10 (!r6) x5 w600) fun o7=>
 some o7
def D5(s1:AA)(s8:List X5)(s9 s10:Int)(w600:List Int):Option ((Int×List Int)⊕((List Int))):=
 AE (decide (s10<s9)) (
  AG (Rh s1 s8 s9 s10 w600) fun o8=>
  some (.inl ((AB .add .i64 s10 1),o8))) (
  some (.inr w600))
def Ri(s1:AA)(s8:List X5)(s9 s10:Int)(w600:List Int):Option ((List Int)):=AZ (fun s:Int×List Int=>D5 s1 s8 s9 s.1 s.2) (s10,w600)
def Xn(a0:AA):Option (Bool):=
 AG (Ri a0 a0.trans (a0.trans.length:Int) 0 ([]:List Int)) fun o9=>
 AG (Yo o9 a0 o9) fun r10=>
 AE (r10) (
  AG (Ya a0.symbols a0) fun r11=>
  AE (r11) (
   AG (Yb a0.quants a0) fun r12=>
   some r12) (
   some false)) (
  some false)
def Zh(a0:AA):Option (Bool):=
 AG (Qu a0) fun r1=>
 AE (r1) (
  AG (Xc a0) fun r2=>
  AE (r2) (
   AG (Zs a0) fun r3=>
   AE (r3) (
    AG (Xn a0) fun r4=>
    some r4) (
    some false)) (
   some false)) (
  some false)
def Qo(a0:AA):Option (Unit):=
 AG (Zh a0) fun r1=>
 AE (!r1) (
  some ()) (
  none)
def Qp(a0:AA):Option (AA×MP Int (List X0)×MP (List UInt8) (List Int)):=
 AG (Zh a0) fun r1=>
 AE (!r1) (
  none) (
  some (a0,(Ce:MP Int (List X0)),(Ce:MP (List UInt8) (List Int))))
def Qh(a0:Int):Option (X0):=
 some (X0.mk 0 (X3.mk 1 a0 ([]:List UInt8) false))
def U6(l:List X0):Option (List X0):=CK 48 l
def Qi(a0 a1:Int):Option (List UInt8):=
 some [u8w a0,u8w a1]
def Gr(s1:Int)(s8:List X0)(s9:Int)(w4:X3)(s10:Int):Option ((Int)⊕(Unit⊕X3)):=
 AE (decide (s10<s9)) (
  Ab s8 s10 fun x1=>
  AE (decide (x1.var=s1)) (
   some (.inr (.inr x1.value))) (
   some (.inl (AB .add .i64 s10 1)))) (
  some (.inr (.inl ())))
def Vp(s1:Int)(s8:List X0)(s9:Int)(w4:X3)(s10:Int):Option (Unit⊕X3):=AZ (fun s:Int=>Gr s1 s8 s9 w4 s) s10
def Y5(a0:List X0)(a1:Int):Option (X3×Bool):=
 AG (Vp a1 a0 (a0.length:Int) (X3.mk 0 0 ([]:List UInt8) false) 0) fun o2=>
 As o2 (fun o3=>
  some (X3.mk 0 0 ([]:List UInt8) false,false)) (fun o4=>
  some (o4,true))
def E6(s3 s10:Int)(w4:List UInt8):Option ((Int×List UInt8)⊕((List UInt8))):=
 AE (decide (s10<8)) (
  Az (0<=(AB .mul .i64 8 (AB .sub .i64 7 s10))) (
   Az (0<=s10/\s10+1<=8) (
    Az (0<=s10/\s10+1<=(w4.length:Int)) (
     some (.inl ((AB .add .i64 s10 1),w4.set s10.toNat (u8w (AB .shr .u64 s3 (AB .mul .i64 8 (AB .sub .i64 7 s10)))))))))) (
  some (.inr w4))
def Jn(s3 s10:Int)(w4:List UInt8):Option ((List UInt8)):=AZ (fun s:Int×List UInt8=>E6 s3 s.1 s.2) (s10,w4)
theorem Pf(s3 s10:Int)(w4:List UInt8):Jn s3 s10 w4=Bh (E6 s3 s10 w4) (fun s:Int×List UInt8=>Jn s3 s.1 s.2):=Au _ _
def Y6(a0:Int):Option (List UInt8):=
 AG (Jn (AB .xor .u64 (IntKind.wrap .u64 a0) 9223372036854775808) 0 (List.replicate 8 (0:UInt8))) fun o1=>
 Az (0<=(8:Int)/\fit 0 (8:Int).toNat 1) (
  Az (o1.length=8) (
   some (o1.take (List.replicate (8:Int).toNat (0:UInt8)).length++(List.replicate (8:Int).toNat (0:UInt8)).drop o1.length)))
def aFo(s0:List UInt8)(s6 s7:Int)(s19:Bool)(w3:List UInt8):Option ((List UInt8)):=
 AE (s19) (
  Az (fit w3.length [(255:UInt8)].length 1) (
   some (w3++[(255:UInt8)]))) (
  some w3)
def VN(s0:List UInt8)(s6 s7:Int)(w3:List UInt8):Option ((List UInt8)):=
 Ab s0 s7 fun x5=>
 Az (fit w3.length [x5].length 1) (
  Ab s0 s7 fun x6=>
  AG (aFo s0 s6 s7 (decide ((x6.toNat:Int)=((0:UInt8).toNat:Int))) (w3++[x5])) fun o7=>
  some o7)
def Gf(s0:List UInt8)(s6 s7:Int)(w3:List UInt8):Option ((Int×List UInt8)⊕((List UInt8))):=
 AE (decide (s7<s6)) (
  AG (VN s0 s6 s7 w3) fun o8=>
  some (.inl ((AB .add .i64 s7 1),o8))) (
  some (.inr w3))
def Rp(s0:List UInt8)(s6 s7:Int)(w3:List UInt8):Option ((List UInt8)):=AZ (fun s:Int×List UInt8=>Gf s0 s6 s.1 s.2) (s7,w3)
def Xv(a0:List UInt8):Option (List UInt8):=
 AG (Rp a0 (a0.length:Int) 0 ([]:List UInt8)) fun o9=>
 Az (fit o9.length [(0:UInt8),(1:UInt8)].length 1) (
  some (o9++[(0:UInt8),(1:UInt8)]))
def Zu(a0:X3):Option (List UInt8):=
 AE (decide (a0.kind=1)) (
  AG (Y6 a0.int) fun r1=>
  Az (fit [u8w a0.kind].length r1.length 1) (
   some ([u8w a0.kind]++r1))) (
  AE (decide (a0.kind=2)) (
   AG (Xv a0.str) fun r2=>
   Az (fit [u8w a0.kind].length r2.length 1) (
    some ([u8w a0.kind]++r2))) (
   AE (a0.bool) (
    Az (fit [u8w a0.kind].length [(1:UInt8)].length 1) (
     some ([u8w a0.kind]++[(1:UInt8)]))) (
    Az (fit [u8w a0.kind].length [(0:UInt8)].length 1) (
     some ([u8w a0.kind]++[(0:UInt8)])))))
def E3(s6:List X3)(s7 s8:Int)(w3:List UInt8):Option ((Int×List UInt8)⊕((List UInt8)⊕Unit)):=
 AE (decide (s8<s7)) (
  Ab s6 s8 fun x4=>
  AG (Zp x4) fun r5=>
  AE (!r5) (
   some (.inr (.inr ()))) (
   AG (Zu x4) fun r6=>
   Az (fit w3.length r6.length 1) (
    some (.inl ((AB .add .i64 s8 1),w3++r6))))) (
  some (.inr (.inl w3)))
def Rq(s6:List X3)(s7 s8:Int)(w3:List UInt8):Option ((List UInt8)⊕Unit):=AZ (fun s:Int×List UInt8=>E3 s6 s7 s.1 s.2) (s8,w3)
def Xw(a0:List X3):Option (List UInt8):=
 AG (Rq a0 (a0.length:Int) 0 ([]:List UInt8)) fun o7=>
 As o7 (fun o8=>
  some o8) (fun o9=>
  some ([]:List UInt8))
def Qj(a0:Int):Option (Bool):=
 some (!decide (a0=a0))
def U7(a0 a1:Int):Option (Bool):=
 AG (Qj a0) fun r1=>
 AE (r1) (
  AG (Qj a1) fun r2=>
  AE (!r2) (
   some true) (
   some (decide (a0<a1)))) (
  some (decide (a0<a1)))
def aE7(s0:List Int)(s1 s6:Int)(s7 s8 s9:Int)(s27:Bool):Option ((Int×Int)):=
 AE (s27) (
  some ((AB .add .i64 s9 1),s8)) (
  some (s7,s9))
def aE5(s0:List Int)(s1 s6:Int)(s7 s8:Int):Option ((Int×Int)):=
 Ab s0 (IntKind.wrap .i64 (AB .shr .u64 (IntKind.wrap .u64 (AB .add .i64 s7 s8)) 1)) fun x1=>
 AG (U7 x1 s1) fun r2=>
 AG (aE7 s0 s1 s6 s7 s8 (IntKind.wrap .i64 (AB .shr .u64 (IntKind.wrap .u64 (AB .add .i64 s7 s8)) 1)) r2) fun o3=>
 some (o3.1,o3.2)
def E2(s0:List Int)(s1 s6:Int)(s7 s8:Int):Option ((Int×Int)⊕(Int)):=
 AE (decide (s7<s8)) (
  AG (aE5 s0 s1 s6 s7 s8) fun o4=>
  some (.inl (o4.1,o4.2))) (
  some (.inr s7))
def Uy(s0:List Int)(s1 s6:Int)(s7 s8:Int):Option (Int):=AZ (fun s:Int×Int=>E2 s0 s1 s6 s.1 s.2) (s7,s8)
def Xr(a0:List Int)(a1:Int):Option (Int×Bool):=
 AG (Uy a0 a1 (a0.length:Int) 0 (a0.length:Int)) fun o5=>
 AE (decide (o5<(a0.length:Int))) (
  Ab a0 o5 fun x6=>
  AE (decide (x6=a1)) (
   some (o5,true)) (
   Ab a0 o5 fun x7=>
   AG (Qj x7) fun r8=>
   AE (r8) (
    AG (Qj a1) fun r9=>
    some (o5,r9)) (
    some (o5,false)))) (
  some (o5,false))
def U8(i:Int)(xs ys:List Int):Option (List Int):=aT3 8 i xs ys
def Zb(a1:Int)(w0:List Int):Option (List Int):=
 AG (Xr w0 a1) fun r1=>
 AE (r1.2) (
  some w0) (
  AG (U8 r1.1 w0 [a1]) fun r2=>
  some r2)
def Q4(a0:List UInt8)(a2:Int)(w1:AA)(w2:MP Int (List X0))(w3:MP (List UInt8) (List Int)):Option (AA×MP Int (List X0)×MP (List UInt8) (List Int)):=
 AG (Zb a2 ((A5 [] w3 a0).1)) fun r1=>
 some (w1,w2,(CJ w3 a0 r1))
def IJ(s1:List X0)(s2 s6:Int)(s10:List UInt8)(s17:List X2)(s18 s19:Int)(s25:List AX)(s26 s27:Int)(s45:Bool)(w0:AA)(w11:X3)(w502:MP Int (List X0))(w503:MP (List UInt8) (List Int))(w997:Int):Option ((List UInt8)):=
 AE (s45) (
  AG (Xw [w11]) fun r5=>
  Az (s10.length+r5.length<=9223372036854775807) (
   some (s10++r5))) (
  some s10)
def RW(s1:List X0)(s2 s6:Int)(s17:List X2)(s18 s19:Int)(s25:List AX)(s26 s27:Int)(w0:AA)(w502:MP Int (List X0))(w503:MP (List UInt8) (List Int))(w997:Int):Option ((AA×MP Int (List X0)×MP (List UInt8) (List Int))):=
 Ab s25 s27 fun x2=>
 AE (!decide (x2.kind=2)) (
  some (w0,w502,w503)) (
  AG (Qi s6 s27) fun r3=>
  AG (Y5 s1 x2.n) fun r4=>
  AG (IJ s1 s2 s6 r3 s17 s18 s19 s25 s26 s27 r4.2 w0 r4.1 w502 w503 w997) fun o6=>
  AG (Q4 o6 s2 w0 w502 w503) fun r7=>
  some (r7.1,r7.2.1,r7.2.2))
def D3(s1:List X0)(s2 s6:Int)(s17:List X2)(s18 s19:Int)(s25:List AX)(s26 w997 s27:Int)(w0:AA)(w502:MP Int (List X0))(w503:MP (List UInt8) (List Int)):Option ((Int×AA×MP Int (List X0)×MP (List UInt8) (List Int))⊕((AA×MP Int (List X0)×MP (List UInt8) (List Int)))):=
 AE (decide (s27<s26)) (
  AG (RW s1 s2 s6 s17 s18 s19 s25 s26 s27 w0 w502 w503 w997) fun o8=>
  some (.inl ((AB .add .i64 s27 1),o8.1,o8.2.1,o8.2.2))) (
  some (.inr (w0,w502,w503)))
def LE(s1:List X0)(s2 s6:Int)(s17:List X2)(s18 s19:Int)(s25:List AX)(s26 w997 s27:Int)(w0:AA)(w502:MP Int (List X0))(w503:MP (List UInt8) (List Int)):Option ((AA×MP Int (List X0)×MP (List UInt8) (List Int))):=AZ (fun s:Int×AA×MP Int (List X0)×MP (List UInt8) (List Int)=>D3 s1 s2 s6 s17 s18 s19 s25 s26 w997 s.1 s.2.1 s.2.2.1 s.2.2.2) (s27,w0,w502,w503)
theorem Oj(s1:List X0)(s2 s6:Int)(s17:List X2)(s18 s19:Int)(s25:List AX)(s26 w997 s27:Int)(w0:AA)(w502:MP Int (List X0))(w503:MP (List UInt8) (List Int)):LE s1 s2 s6 s17 s18 s19 s25 s26 w997 s27 w0 w502 w503=Bh (D3 s1 s2 s6 s17 s18 s19 s25 s26 w997 s27 w0 w502 w503) (fun s:Int×AA×MP Int (List X0)×MP (List UInt8) (List Int)=>LE s1 s2 s6 s17 s18 s19 s25 s26 w997 s.1 s.2.1 s.2.2.1 s.2.2.2):=Au _ _
def D2(s1:List X0)(s2:Int)(s17:List X2)(s18 w997 s19:Int)(w0:AA)(w502:MP Int (List X0))(w503:MP (List UInt8) (List Int)):Option ((Int×AA×MP Int (List X0)×MP (List UInt8) (List Int))⊕((AA×MP Int (List X0)×MP (List UInt8) (List Int)))):=
 AE (decide (s19<s18)) (
  Ab s17 s19 fun x1=>
  AG (LE s1 s2 s19 s17 s18 s19 x1.args (x1.args.length:Int) w997 0 w0 w502 w503) fun o9=>
  some (.inl ((AB .add .i64 s19 1),o9.1,o9.2.1,o9.2.2))) (
  some (.inr (w0,w502,w503)))
def LD(s1:List X0)(s2:Int)(s17:List X2)(s18 w997 s19:Int)(w0:AA)(w502:MP Int (List X0))(w503:MP (List UInt8) (List Int)):Option ((AA×MP Int (List X0)×MP (List UInt8) (List Int))):=AZ (fun s:Int×AA×MP Int (List X0)×MP (List UInt8) (List Int)=>D2 s1 s2 s17 s18 w997 s.1 s.2.1 s.2.2.1 s.2.2.2) (s19,w0,w502,w503)
theorem Oh(s1:List X0)(s2:Int)(s17:List X2)(s18 w997 s19:Int)(w0:AA)(w502:MP Int (List X0))(w503:MP (List UInt8) (List Int)):LD s1 s2 s17 s18 w997 s19 w0 w502 w503=Bh (D2 s1 s2 s17 s18 w997 s19 w0 w502 w503) (fun s:Int×AA×MP Int (List X0)×MP (List UInt8) (List Int)=>LD s1 s2 s17 s18 w997 s.1 s.2.1 s.2.2.1 s.2.2.2):=Au _ _
def X7(a1:List X0)(a2:Int)(w0:AA)(w2:MP Int (List X0))(w3:MP (List UInt8) (List Int)):Option (AA×MP Int (List X0)×MP (List UInt8) (List Int)):=
 AG (LD a1 a2 w0.symbols (w0.symbols.length:Int) a2 0 w0 w2 w3) fun o10=>
 some (o10.1,o10.2.1,o10.2.2)
def Z6(a1:Int)(a2:List X0)(w0:AA)(w1:MP Int (List X0))(w2:MP (List UInt8) (List Int)):Option (Bool×AA×MP Int (List X0)×MP (List UInt8) (List Int)):=
 AE ((A5 ([]:List X0) w1 a1).2) (
  some (false,w0,w1,w2)) (
  AG (U6 a2) fun r1=>
  AG (X7 a2 a1 w0 (CJ w1 a1 r1) w2) fun r2=>
  some (true,r2.1,r2.2.1,r2.2.2))
def Um(l:List Int):Option (List Int):=CK 8 l
def D8(s11:Int)(w0 w1:List Int)(s12:Int)(w5:List Int):Option ((Int×List Int)⊕((List Int))):=
 AE (decide (s12<s11)) (
  Az (0<=s12/\s12+1<=(w1.length:Int)) (
   Ab w1 s12 fun x2=>
   AG (Zb x2 w5) fun r3=>
   some (.inl ((AB .add .i64 s12 1),r3)))) (
  some (.inr w5))
def LI(s11:Int)(w0 w1:List Int)(s12:Int)(w5:List Int):Option ((List Int)):=AZ (fun s:Int×List Int=>D8 s11 w0 w1 s.1 s.2) (s12,w5)
theorem PU(s11:Int)(w0 w1:List Int)(s12:Int)(w5:List Int):LI s11 w0 w1 s12 w5=Bh (D8 s11 w0 w1 s12 w5) (fun s:Int×List Int=>LI s11 w0 w1 s.1 s.2):=Au _ _
def Xz(w0 w1:List Int):Option (List Int):=
 AG (Um w0) fun r1=>
 AG (LI (w1.length:Int) w0 w1 0 r1) fun o4=>
 some o4
def Un(l:List Int):Option (List Int):=CK 8 l
def T0(s1:List Int)(s7:Int)(s10:List Int)(s11 s12:Int)(s22:Bool)(w5:List Int):Option ((List Int)):=
 AE (s22) (
  Az (fit w5.length [s7].length 8) (
   some (w5++[s7]))) (
  some w5)
def Re(s1 s10:List Int)(s11 s12:Int)(w5:List Int):Option ((List Int)):=
 Ab s10 s12 fun x5=>
 AG (Xr s1 x5) fun r6=>
 AG (T0 s1 x5 s10 s11 s12 r6.2 w5) fun o7=>
 some o7
def D4(s1 s10:List Int)(s11 s12:Int)(w5:List Int):Option ((Int×List Int)⊕((List Int))):=
 AE (decide (s12<s11)) (
  AG (Re s1 s10 s11 s12 w5) fun o8=>
  some (.inl ((AB .add .i64 s12 1),o8))) (
  some (.inr w5))
def IK(s1 s10:List Int)(s11 s12:Int)(w5:List Int):Option ((List Int)):=AZ (fun s:Int×List Int=>D4 s1 s10 s11 s.1 s.2) (s12,w5)
theorem Oy(s1 s10:List Int)(s11 s12:Int)(w5:List Int):IK s1 s10 s11 s12 w5=Bh (D4 s1 s10 s11 s12 w5) (fun s:Int×List Int=>IK s1 s10 s11 s.1 s.2):=Au _ _
def Xh(a0 a1:List Int):Option (List Int):=
 AG (IK a1 a0 (a0.length:Int) 0 ([]:List Int)) fun o9=>
 some o9
def Uo(l:List Int):Option (List Int):=CK 8 l
def aFc(s7:Int)(s10:List Int)(s11 s12:Int)(s22:Bool)(w0 w5:List Int):Option ((List Int)):=
 AE (s22) (
  Az (fit w5.length [s7].length 8) (
   some (w5++[s7]))) (
  some w5)
def VB(s10:List Int)(s11 s12:Int)(w0 w5:List Int):Option ((List Int)):=
 Ab s10 s12 fun x5=>
 AG (Xr w0 x5) fun r6=>
 AG (aFc x5 s10 s11 s12 r6.2 w0 w5) fun o7=>
 some o7
def Jl(s10:List Int)(s11:Int)(w0:List Int)(s12:Int)(w5:List Int):Option ((Int×List Int)⊕((List Int))):=
 AE (decide (s12<s11)) (
  AG (VB s10 s11 s12 w0 w5) fun o8=>
  some (.inl ((AB .add .i64 s12 1),o8))) (
  some (.inr w5))
def aFe(s10:List Int)(s11:Int)(w0:List Int)(s12:Int)(w5:List Int):Option ((List Int)):=AZ (fun s:Int×List Int=>Jl s10 s11 w0 s.1 s.2) (s12,w5)
def Xs(a0 w0:List Int):Option (List Int):=
 AG (aFe a0 (a0.length:Int) w0 0 ([]:List Int)) fun o9=>
 some o9
def Qz(l:List Int):Option (List Int):=RS l
def Qk(xs:List Int):Option (List Int):=bagE Qz xs
def E1(w0:AA)(w501:MP Int (List X0))(w502:MP (List UInt8) (List Int))(k:Int)(v:List X0)(w3:List Int):Option (List Int):=
 Az (fit w3.length [k].length 8) (
  some (w3++[k]))
def GV(w0:AA)(w501:MP Int (List X0))(w502:MP (List UInt8) (List Int))(s:List Int):List Int:=(fun s:List Int=>(aLh s:List Int)) s
def Rg(w0:AA)(w501:MP Int (List X0))(w502:MP (List UInt8) (List Int))(w3:List Int):Option (List Int):=Fi (GV w0 w501 w502) (w501.es.map (·.2)) (fun(x:Int×List X0) (s:List Int)=>E1 w0 w501 w502 x.1 x.2 s) w3
def Rf(w0:AA)(w501:MP Int (List X0))(w502:MP (List UInt8) (List Int)):Option ((List Int)):=
 AG (Rg w0 w501 w502 ([]:List Int)) fun o1=>
 some o1
def Xl(w0:AA)(w1:MP Int (List X0))(w2:MP (List UInt8) (List Int)):Option (List Int×AA×MP Int (List X0)×MP (List UInt8) (List Int)):=
 AG (Rf w0 w1 w2) fun o2=>
 AG (Qk o2) fun r3=>
 some (r3,w0,w1,w2)
def Mx(s2:Bool)(s7:List Int)(s8:Bool)(s24:List AX)(s25 s26:Int)(w0:AA)(w4:Ae)(w501:MP Int (List X0))(w502:MP (List UInt8) (List Int)):Option ((List Int×Bool)):=
 Ab s24 s26 fun x12=>
 AE (!decide (x12.kind=2)) (
  some (s7,s8)) (
  AG (Y5 w4.bind x12.n) fun r13=>
  AG (Qi w4.symbol s26) fun r14=>
  AG (Xw [r13.1]) fun r15=>
  Az (r14.length+r15.length<=9223372036854775807) (
   AE (!s2) (
    Az ((r14++r15)≠r14) (
     AG (Xz ((A5 [] w502 (r14++r15)).1) ((A5 [] w502 r14).1)) fun r16=>
     AE (s8) (
      AG (Un r16) fun r17=>
      some (r17,false)) (
      AG (Xh s7 r16) fun r18=>
      some (r18,s8)))) (
    AE (s8) (
     AG (Uo ((A5 [] w502 (r14++r15)).1)) fun r19=>
     some (r19,false)) (
     AG (Xs s7 ((A5 [] w502 (r14++r15)).1)) fun r20=>
     some (r20,s8)))))
def D6(s2:Bool)(s24:List AX)(s25:Int)(w0:AA)(w4:Ae)(w501:MP Int (List X0))(w502:MP (List UInt8) (List Int))(s7:List Int)(s8:Bool)(s26:Int):Option ((List Int×Bool×Int)⊕((List Int×Bool))):=
 AE (decide (s26<s25)) (
  AG (Mx s2 s7 s8 s24 s25 s26 w0 w4 w501 w502) fun o21=>
  some (.inl (o21.1,o21.2,(AB .add .i64 s26 1)))) (
  some (.inr (s7,s8)))
def LG(s2:Bool)(s24:List AX)(s25:Int)(w0:AA)(w4:Ae)(w501:MP Int (List X0))(w502:MP (List UInt8) (List Int))(s7:List Int)(s8:Bool)(s26:Int):Option ((List Int×Bool)):=AZ (fun s:List Int×Bool×Int=>D6 s2 s24 s25 w0 w4 w501 w502 s.1 s.2.1 s.2.2) (s7,s8,s26)
theorem O8(s2:Bool)(s24:List AX)(s25:Int)(w0:AA)(w4:Ae)(w501:MP Int (List X0))(w502:MP (List UInt8) (List Int))(s7:List Int)(s8:Bool)(s26:Int):LG s2 s24 s25 w0 w4 w501 w502 s7 s8 s26=Bh (D6 s2 s24 s25 w0 w4 w501 w502 s7 s8 s26) (fun s:List Int×Bool×Int=>LG s2 s24 s25 w0 w4 w501 w502 s.1 s.2.1 s.2.2):=Au _ _
def Xp(a1:Ae)(a2:Bool)(w0:AA)(w1:MP Int (List X0))(w2:MP (List UInt8) (List Int)):Option (List Int×AA×MP Int (List X0)×MP (List UInt8) (List Int)):=
 Ab w0.symbols a1.symbol fun x1=>
 AG (LG a2 x1.args (x1.args.length:Int) w0 a1 w1 w2 ([]:List Int) true 0) fun o22=>
 AE (o22.2) (
  AG (Xl w0 w1 w2) fun r23=>
  some (r23.1,r23.2.1,r23.2.2.1,r23.2.2.2)) (
  some (o22.1,w0,w1,w2))
def Up(l:List Int):Option (List Int):=CK 8 l
def D9(s10:List Int)(s11 s12:Int)(w5:List Int):Option ((Int×List Int)⊕((List Int))):=
 AE (decide (s12<s11)) (
  Ab s10 s12 fun x2=>
  AG (Zb x2 w5) fun r3=>
  some (.inl ((AB .add .i64 s12 1),r3))) (
  some (.inr w5))
def LJ(s10:List Int)(s11 s12:Int)(w5:List Int):Option ((List Int)):=AZ (fun s:Int×List Int=>D9 s10 s11 s.1 s.2) (s12,w5)
theorem PX(s10:List Int)(s11 s12:Int)(w5:List Int):LJ s10 s11 s12 w5=Bh (D9 s10 s11 s12 w5) (fun s:Int×List Int=>LJ s10 s11 s.1 s.2):=Au _ _
def Y0(a0 a1:List Int):Option (List Int):=
 AG (Up a0) fun r1=>
 AG (LJ a1 (a1.length:Int) 0 r1) fun o4=>
 some o4
def D7(s2:Bool)(s12:List Ae)(s13:Int)(s7:List Int)(s14:Int)(w0:AA)(w501:MP Int (List X0))(w502:MP (List UInt8) (List Int)):Option ((List Int×Int×AA×MP Int (List X0)×MP (List UInt8) (List Int))⊕((List Int×AA×MP Int (List X0)×MP (List UInt8) (List Int)))):=
 AE (decide (s14<s13)) (
  Ab s12 s14 fun x4=>
  AG (Xp x4 s2 w0 w501 w502) fun r5=>
  AG (Y0 s7 r5.1) fun r6=>
  some (.inl (r6,(AB .add .i64 s14 1),r5.2.1,r5.2.2.1,r5.2.2.2))) (
  some (.inr (s7,w0,w501,w502)))
def LH(s2:Bool)(s12:List Ae)(s13:Int)(s7:List Int)(s14:Int)(w0:AA)(w501:MP Int (List X0))(w502:MP (List UInt8) (List Int)):Option ((List Int×AA×MP Int (List X0)×MP (List UInt8) (List Int))):=AZ (fun s:List Int×Int×AA×MP Int (List X0)×MP (List UInt8) (List Int)=>D7 s2 s12 s13 s.1 s.2.1 s.2.2.1 s.2.2.2.1 s.2.2.2.2) (s7,s14,w0,w501,w502)
theorem PS(s2:Bool)(s12:List Ae)(s13:Int)(s7:List Int)(s14:Int)(w0:AA)(w501:MP Int (List X0))(w502:MP (List UInt8) (List Int)):LH s2 s12 s13 s7 s14 w0 w501 w502=Bh (D7 s2 s12 s13 s7 s14 w0 w501 w502) (fun s:List Int×Int×AA×MP Int (List X0)×MP (List UInt8) (List Int)=>LH s2 s12 s13 s.1 s.2.1 s.2.2.1 s.2.2.2.1 s.2.2.2.2):=Au _ _
def Xy(a1:List Ae)(a2:Bool)(w0:AA)(w1:MP Int (List X0))(w2:MP (List UInt8) (List Int)):Option (List Int×AA×MP Int (List X0)×MP (List UInt8) (List Int)):=
 AG (LH a2 a1 (a1.length:Int) ([]:List Int) 0 w0 w1 w2) fun o7=>
 some (o7.1,o7.2.1,o7.2.2.1,o7.2.2.2)
def Zv(a1:List Ae)(w0:AA)(w1:MP Int (List X0))(w2:MP (List UInt8) (List Int)):Option (List Int×AA×MP Int (List X0)×MP (List UInt8) (List Int)):=
 AG (Xy a1 false w0 w1 w2) fun r1=>
 some (r1.1,r1.2.1,r1.2.2.1,r1.2.2.2)
def Ql:Option (Bool):=
 AG (aKk (Qo (AA.mk ([113]:List UInt8) ([X8.mk ([97]:List UInt8) [1]]) ([Xd.mk false ([120]:List UInt8) 1]) ([]:List Xi) ([Yc.mk ([115]:List UInt8) false false]) 0 ([X2.mk 0 ([AX.mk 2 0 (X3.mk 0 0 ([]:List UInt8) false)])]) ([]:List Xb) ([]:List X5))) (Qp (AA.mk ([113]:List UInt8) ([X8.mk ([97]:List UInt8) [1]]) ([Xd.mk false ([120]:List UInt8) 1]) ([]:List Xi) ([Yc.mk ([115]:List UInt8) false false]) 0 ([X2.mk 0 ([AX.mk 2 0 (X3.mk 0 0 ([]:List UInt8) false)])]) ([]:List Xb) ([]:List X5)))) fun o1=>
 As o1 (fun o2=>
  some false) (fun o3=>
  AG (Qh 5) fun r4=>
  AG (Z6 4 [r4] o3.1 o3.2.1 o3.2.2) fun r5=>
  AG (Qh 6) fun r6=>
  AG (Z6 5 [r6] r5.2.1 r5.2.2.1 r5.2.2.2) fun r7=>
  AG (Z6 6 ([]:List X0) r7.2.1 r7.2.2.1 r7.2.2.2) fun r8=>
  AG (Qh 5) fun r9=>
  AG (Zv ([Ae.mk 0 [r9] ([]:List X0)]) r8.2.1 r8.2.2.1 r8.2.2.2) fun r10=>
  AE (decide ((r10.1.length:Int)=2)) (
   Ab r10.1 0 fun x11=>
   AE (decide (x11=4)) (
    Ab r10.1 1 fun x12=>
    some (decide (x12=6))) (
    some false)) (
   some false))
def Jw(s0:List X8)(s5:Int)(w3:Xm)(s6:Int):Option ((Int)⊕(Unit⊕Unit)):=
 AE (decide (s6<(w3.args.length:Int))) (
  Ab w3.args s6 fun x3=>
  Ab s0 s5 fun x4=>
  Ab x4.types s6 fun x5=>
  AE (!decide (x3.kind=x5)) (
   some (.inr (.inr ()))) (
   Ab w3.args s6 fun x6=>
   AG (Zm x6) fun r7=>
   AE (!r7) (
    some (.inr (.inr ()))) (
    some (.inl (AB .add .i64 s6 1))))) (
  some (.inr (.inl ())))
def aM0(s0:List X8)(s5:Int)(w3:Xm)(s6:Int):Option (Unit⊕Unit):=AZ (fun s:Int=>Jw s0 s5 w3 s) s6
def Zc(a0:List X8)(a1:Xm):Option (Bool):=
 AG (Yz a0 a1.name) fun r1=>
 AE (decide (r1<0)) (
  some false) (
  Ab a0 r1 fun x2=>
  AE (!decide ((x2.types.length:Int)=(a1.args.length:Int))) (
   some false) (
   AG (aM0 a0 r1 a1 0) fun o8=>
   As o8 (fun o9=>
    some true) (fun o10=>
    some false)))
def Jq(s0:List X0)(s1:Int)(w4:X3)(s6:Int):Option ((Int)⊕(Unit⊕X3)):=
 AE (decide (s6<(s0.length:Int))) (
  Ab s0 s6 fun x1=>
  AE (decide (x1.var=s1)) (
   Ab s0 s6 fun x2=>
   some (.inr (.inr x2.value))) (
   some (.inl (AB .add .i64 s6 1)))) (
  some (.inr (.inl ())))
def aMp(s0:List X0)(s1:Int)(w4:X3)(s6:Int):Option (Unit⊕X3):=AZ (fun s:Int=>Jq s0 s1 w4 s) s6
def Yv(a0:List X0)(a1:Int):Option (X3×Bool):=
 AG (aMp a0 a1 (X3.mk 0 0 ([]:List UInt8) false) 0) fun o3=>
 As o3 (fun o4=>
  some (X3.mk 0 0 ([]:List UInt8) false,false)) (fun o5=>
  some (o5,true))
def Js(s0 s1:List X0)(s5:Int):Option ((Int)⊕(Unit⊕Unit)):=
 AE (decide (s5<(s0.length:Int))) (
  Ab s0 s5 fun x1=>
  AG (Yv s1 x1.var) fun r2=>
  AE (r2.2) (
   Ab s0 s5 fun x3=>
   AE (!(X3.eqb r2.1 x3.value)) (
    some (.inr (.inr ()))) (
    some (.inl (AB .add .i64 s5 1)))) (
   some (.inl (AB .add .i64 s5 1)))) (
  some (.inr (.inl ())))
def aMu(s0 s1:List X0)(s5:Int):Option (Unit⊕Unit):=AZ (fun s:Int=>Js s0 s1 s) s5
def Z4(a0 a1:List X0):Option (Bool):=
 AG (aMu a0 a1 0) fun o4=>
 As o4 (fun o5=>
  some true) (fun o6=>
  some false)
def aGq(s0 s1:List X0)(s6:Int)(s34:Bool)(w5:List X0)(w9:X3):Option ((List X0)):=
 AE (s34) (
  Az (fit w5.length [X0.mk s6 w9].length 48) (
   some (w5++[X0.mk s6 w9]))) (
  some w5)
def aGo(s0 s1:List X0)(s6:Int)(s10 s27:Bool)(w5:List X0)(w7 w9:X3):Option ((List X0)):=
 AE (s27) (
  Az (fit w5.length [X0.mk s6 w7].length 48) (
   some (w5++[X0.mk s6 w7]))) (
  AG (aGq s0 s1 s6 s10 w5 w9) fun o8=>
  some o8)
def aGm(s0 s1:List X0)(s6:Int)(w5:List X0):Option ((List X0)):=
 AG (Yv s0 s6) fun r6=>
 AG (Yv s1 s6) fun r7=>
 AG (aGo s0 s1 s6 r7.2 r6.2 w5 r6.1 r7.1) fun o9=>
 some o9
def G0(s0 s1:List X0)(s6:Int)(w5:List X0):Option ((Int×List X0)⊕((List X0))):=
 AE (decide (s6<8)) (
  AG (aGm s0 s1 s6 w5) fun o10=>
  some (.inl ((AB .add .i64 s6 1),o10))) (
  some (.inr w5))
def aMm(s0 s1:List X0)(s6:Int)(w5:List X0):Option ((List X0)):=AZ (fun s:Int×List X0=>G0 s0 s1 s.1 s.2) (s6,w5)
def Yh(a0 a1:List X0):Option (List X0):=
 AG (aMm a0 a1 0 ([]:List X0)) fun o11=>
 some o11
def HJ(s0:List X0)(w3:X0)(s5:Int):Option ((Int)⊕(Int)):=
 AE (decide (0<s5)) (
  Ab s0 (AB .sub .i64 s5 1) fun x1=>
  AE (decide (w3.var<x1.var)) (
   some (.inl (AB .sub .i64 s5 1))) (
   some (.inr s5))) (
  some (.inr s5))
def aMv(s0:List X0)(w3:X0)(s5:Int):Option (Int):=AZ (fun s:Int=>HJ s0 w3 s) s5
def Z7(a0:List X0)(a1:X0):Option (List X0):=
 AG (aMv a0 a1 (a0.length:Int)) fun o2=>
 Az ((0:Int)<=0/\(0:Int)<=o2/\o2<=(a0.length:Int)) (
  Az (fit ([]:List X0).length (sub a0 0 o2).length 48) (
   Az (fit (([]:List X0)++(sub a0 0 o2)).length [a1].length 48) (
    Az ((0:Int)<=o2/\(o2:Int)<=(a0.length:Int)/\(a0.length:Int)<=(a0.length:Int)) (
     Az (fit ((([]:List X0)++(sub a0 0 o2))++[a1]).length (sub a0 o2 (a0.length:Int)).length 48) (
      some (((([]:List X0)++(sub a0 0 o2))++[a1])++(sub a0 o2 (a0.length:Int))))))))
def VE(s1:Int)(s10 s11:List X0)(s12:Int)(s80:Bool)(w5:Xm)(w6:Int)(w8:X2)(w9:Ae)(w13:AX)(w14:List X0):Option ((List X0)⊕Unit):=
 AE (s80) (
  AG (Z4 s10 w14) fun r32=>
  AE (!r32) (
   some (.inr ())) (
   AG (Yh s10 w14) fun r33=>
   some (.inl r33))) (
  some (.inl s10))
def VG(s1:Int)(s10 s11:List X0)(s12:Int)(s111:Bool)(w5:Xm)(w6:Int)(w8:X2)(w9:Ae)(w14:List X0):Option ((List X0)):=
 AE (s111) (
  Ab w14 0 fun x39=>
  AG (Z7 s11 x39) fun r40=>
  some r40) (
  some s11)
def VF(s1:Int)(s10 s11:List X0)(s12:Int)(s91:Bool)(w5:Xm)(w6:Int)(w8:X2)(w9:Ae)(w13:AX)(w14:List X0):Option ((List X0)⊕Unit):=
 AE (s91) (
  AG (Yv s11 w13.n) fun r37=>
  AE (r37.2) (
   Ab w5.args s12 fun x38=>
   AE (!(X3.eqb r37.1 x38)) (
    some (.inr ())) (
    AG (VG s1 s10 s11 s12 (!r37.2) w5 w6 w8 w9 w14) fun o41=>
    some (.inl o41))) (
   AG (VG s1 s10 s11 s12 (!r37.2) w5 w6 w8 w9 w14) fun o42=>
   some (.inl o42))) (
  some (.inl s11))
def aFg(s1:Int)(s10 s11:List X0)(s12:Int)(w5:Xm)(w6:Int)(w8:X2)(w9:Ae):Option ((List X0×List X0)⊕Unit):=
 Ab w8.args s12 fun x29=>
 Ab w5.args s12 fun x30=>
 AE (decide (x29.kind=1)) (
  Ab w5.args s12 fun x31=>
  AE (!(X3.eqb x29.value x31)) (
   some (.inr ())) (
   AG (VE s1 s10 s11 s12 (decide (x29.kind=2)) w5 w6 w8 w9 x29 [X0.mk x29.n x30]) fun o34=>
   As o34 (fun o35=>
    AG (VF s1 o35 s11 s12 (decide (x29.kind=3)) w5 w6 w8 w9 x29 [X0.mk x29.n x30]) fun o43=>
    As o43 (fun o44=>
     some (.inl (o35,o44))) (fun o45=>
     some (.inr ()))) (fun o36=>
    some (.inr ())))) (
  AG (VE s1 s10 s11 s12 (decide (x29.kind=2)) w5 w6 w8 w9 x29 [X0.mk x29.n x30]) fun o46=>
  As o46 (fun o47=>
   AG (VF s1 o47 s11 s12 (decide (x29.kind=3)) w5 w6 w8 w9 x29 [X0.mk x29.n x30]) fun o49=>
   As o49 (fun o50=>
    some (.inl (o47,o50))) (fun o51=>
    some (.inr ()))) (fun o48=>
   some (.inr ())))
def Gc(s1:Int)(w5:Xm)(w6:Int)(w8:X2)(w9:Ae)(s10 s11:List X0)(s12:Int):Option ((List X0×List X0×Int)⊕((List X0×List X0)⊕Unit)):=
 AE (decide (s12<(w8.args.length:Int))) (
  AG (aFg s1 s10 s11 s12 w5 w6 w8 w9) fun o52=>
  As o52 (fun o53=>
   some (.inl (o53.1,o53.2,(AB .add .i64 s12 1)))) (fun o54=>
   some (.inr (.inr ())))) (
  some (.inr (.inl (s10,s11))))
def Rm(s1:Int)(w5:Xm)(w6:Int)(w8:X2)(w9:Ae)(s10 s11:List X0)(s12:Int):Option ((List X0×List X0)⊕Unit):=AZ (fun s:List X0×List X0×Int=>Gc s1 w5 w6 w8 w9 s.1 s.2.1 s.2.2) (s10,s11,s12)
theorem PH(s1:Int)(w5:Xm)(w6:Int)(w8:X2)(w9:Ae)(s10 s11:List X0)(s12:Int):Rm s1 w5 w6 w8 w9 s10 s11 s12=Bh (Gc s1 w5 w6 w8 w9 s10 s11 s12) (fun s:List X0×List X0×Int=>Rm s1 w5 w6 w8 w9 s.1 s.2.1 s.2.2):=Au _ _
def Xt(a0:AA)(a1:Int)(a2:Xm):Option (Ae×Bool):=
 Ab a0.symbols a1 fun x1=>
 Ab a0.decls x1.event fun x2=>
 AE (!decide (x2.name=a2.name)) (
  some (Ae.mk 0 ([]:List X0) ([]:List X0),false)) (
  AE (!decide ((x1.args.length:Int)=(a2.args.length:Int))) (
   some (Ae.mk 0 ([]:List X0) ([]:List X0),false)) (
   AG (Rm a1 a2 0 x1 (Ae.mk 0 ([]:List X0) ([]:List X0)) ([]:List X0) ([]:List X0) 0) fun o55=>
   As o55 (fun o56=>
    some (Ae.mk a1 o56.1 o56.2,true)) (fun o57=>
    some ((Ae.mk 0 ([]:List X0) ([]:List X0)),false))))
def aHh(s6:Int)(s23:Bool)(w2:AA)(w3:Xm)(w5:List Ae)(w7:Ae):Option ((List Ae)):=
 AE (s23) (
  Az (fit w5.length [w7].length 56) (
   some (w5++[w7]))) (
  some w5)
def aHf(s6:Int)(w2:AA)(w3:Xm)(w5:List Ae):Option ((List Ae)):=
 AG (Xt w2 s6 w3) fun r4=>
 AG (aHh s6 r4.2 w2 w3 w5 r4.1) fun o5=>
 some o5
def HF(w2:AA)(w3:Xm)(s6:Int)(w5:List Ae):Option ((Int×List Ae)⊕((List Ae))):=
 AE (decide (s6<(w2.symbols.length:Int))) (
  AG (aHf s6 w2 w3 w5) fun o6=>
  some (.inl ((AB .add .i64 s6 1),o6))) (
  some (.inr w5))
def aMq(w2:AA)(w3:Xm)(s6:Int)(w5:List Ae):Option ((List Ae)):=AZ (fun s:Int×List Ae=>HF w2 w3 s.1 s.2) (s6,w5)
def Yw(a0:AA)(a1:Xm):Option (List Ae):=
 AG (aMq a0 a1 0 ([]:List Ae)) fun o7=>
 some o7
def aGv(s0:List X6)(s6 s7:Int)(s22:Bool)(w3:Xg):Option (Int):=
 AE (s22) (
  some s7) (
  some s6)
def aGt(s0:List X6)(s6 s7:Int)(w3:Xg):Option (Int):=
 Ab s0 s7 fun x1=>
 AG (aGv s0 s6 s7 (decide (x1.iD=w3.iD)) w3) fun o2=>
 some o2
def G1(s0:List X6)(w3:Xg)(s6 s7:Int):Option ((Int×Int)⊕(Int)):=
 AE (decide (s7<(s0.length:Int))) (
  AG (aGt s0 s6 s7 w3) fun o3=>
  some (.inl (o3,(AB .add .i64 s7 1)))) (
  some (.inr s6))
def Ru(s0:List X6)(w3:Xg)(s6 s7:Int):Option (Int):=AZ (fun s:Int×Int=>G1 s0 w3 s.1 s.2) (s6,s7)
theorem Po(s0:List X6)(w3:Xg)(s6 s7:Int):Ru s0 w3 s6 s7=Bh (G1 s0 w3 s6 s7) (fun s:Int×Int=>Ru s0 w3 s.1 s.2):=Au _ _
def Yi(a0:List X6)(a1:Xg):Option (List X6×Bool):=
 AG (Ru a0 a1 (-1) 0) fun o4=>
 AE (decide (a1.kind=0)) (
  AE (decide (0<=o4)) (
   some (a0,false)) (
   Az (fit ([]:List X6).length a0.length 32) (
    Az (fit (([]:List X6)++a0).length [X6.mk a1.iD a1.bind].length 32) (
     some ((([]:List X6)++a0)++[X6.mk a1.iD a1.bind],true))))) (
  AE (decide (o4<0)) (
   some (a0,false)) (
   Az ((0:Int)<=0/\(0:Int)<=o4/\o4<=(a0.length:Int)) (
    Az (fit ([]:List X6).length (sub a0 0 o4).length 32) (
     Az ((0:Int)<=(AB .add .i64 o4 1)/\((AB .add .i64 o4 1):Int)<=(a0.length:Int)/\(a0.length:Int)<=(a0.length:Int)) (
      Az (fit (([]:List X6)++(sub a0 0 o4)).length (sub a0 (AB .add .i64 o4 1) (a0.length:Int)).length 32) (
       some ((([]:List X6)++(sub a0 0 o4))++(sub a0 (AB .add .i64 o4 1) (a0.length:Int)),true)))))))
def Uq(a b:Int)(l:List Int):Option (List Int):=aT1 a b l
def U9(a1:Int)(w0:List Int):Option (List Int):=
 AG (Xr w0 a1) fun r1=>
 AE (!r1.2) (
  some w0) (
  AG (Uq r1.1 (AB .add .i64 r1.1 1) w0) fun r2=>
  some r2)
def Ua(a0:List UInt8)(a2:Int)(w1:AA)(w2:MP Int (List X0))(w3:MP (List UInt8) (List Int)):Option (AA×MP Int (List X0)×MP (List UInt8) (List Int)):=
 AG (U9 a2 ((A5 [] w3 a0).1)) fun r1=>
 AE (decide (0<(r1.length:Int))) (
  some (w1,w2,(CJ w3 a0 r1))) (
  some (w1,w2,(Dp w3 a0)))
def aFj(s1:List X0)(s2 s6:Int)(s17:List X2)(s18 s19:Int)(s25:List AX)(s26 s27:Int)(w0:AA)(w502:MP Int (List X0))(w503:MP (List UInt8) (List Int))(w997:Int):Option ((AA×MP Int (List X0)×MP (List UInt8) (List Int))):=
 Ab s25 s27 fun x2=>
 AE (!decide (x2.kind=2)) (
  some (w0,w502,w503)) (
  AG (Qi s6 s27) fun r3=>
  AG (Y5 s1 x2.n) fun r4=>
  AG (IJ s1 s2 s6 r3 s17 s18 s19 s25 s26 s27 r4.2 w0 r4.1 w502 w503 w997) fun o6=>
  AG (Ua o6 s2 w0 w502 w503) fun r7=>
  some (r7.1,r7.2.1,r7.2.2))
def Ge(s1:List X0)(s2 s6:Int)(s17:List X2)(s18 s19:Int)(s25:List AX)(s26 w997 s27:Int)(w0:AA)(w502:MP Int (List X0))(w503:MP (List UInt8) (List Int)):Option ((Int×AA×MP Int (List X0)×MP (List UInt8) (List Int))⊕((AA×MP Int (List X0)×MP (List UInt8) (List Int)))):=
 AE (decide (s27<s26)) (
  AG (aFj s1 s2 s6 s17 s18 s19 s25 s26 s27 w0 w502 w503 w997) fun o8=>
  some (.inl ((AB .add .i64 s27 1),o8.1,o8.2.1,o8.2.2))) (
  some (.inr (w0,w502,w503)))
def Ro(s1:List X0)(s2 s6:Int)(s17:List X2)(s18 s19:Int)(s25:List AX)(s26 w997 s27:Int)(w0:AA)(w502:MP Int (List X0))(w503:MP (List UInt8) (List Int)):Option ((AA×MP Int (List X0)×MP (List UInt8) (List Int))):=AZ (fun s:Int×AA×MP Int (List X0)×MP (List UInt8) (List Int)=>Ge s1 s2 s6 s17 s18 s19 s25 s26 w997 s.1 s.2.1 s.2.2.1 s.2.2.2) (s27,w0,w502,w503)
theorem PK(s1:List X0)(s2 s6:Int)(s17:List X2)(s18 s19:Int)(s25:List AX)(s26 w997 s27:Int)(w0:AA)(w502:MP Int (List X0))(w503:MP (List UInt8) (List Int)):Ro s1 s2 s6 s17 s18 s19 s25 s26 w997 s27 w0 w502 w503=Bh (Ge s1 s2 s6 s17 s18 s19 s25 s26 w997 s27 w0 w502 w503) (fun s:Int×AA×MP Int (List X0)×MP (List UInt8) (List Int)=>Ro s1 s2 s6 s17 s18 s19 s25 s26 w997 s.1 s.2.1 s.2.2.1 s.2.2.2):=Au _ _
def Gd(s1:List X0)(s2:Int)(s17:List X2)(s18 w997 s19:Int)(w0:AA)(w502:MP Int (List X0))(w503:MP (List UInt8) (List Int)):Option ((Int×AA×MP Int (List X0)×MP (List UInt8) (List Int))⊕((AA×MP Int (List X0)×MP (List UInt8) (List Int)))):=
 AE (decide (s19<s18)) (
  Ab s17 s19 fun x1=>
  AG (Ro s1 s2 s19 s17 s18 s19 x1.args (x1.args.length:Int) w997 0 w0 w502 w503) fun o9=>
  some (.inl ((AB .add .i64 s19 1),o9.1,o9.2.1,o9.2.2))) (
  some (.inr (w0,w502,w503)))
def Rn(s1:List X0)(s2:Int)(s17:List X2)(s18 w997 s19:Int)(w0:AA)(w502:MP Int (List X0))(w503:MP (List UInt8) (List Int)):Option ((AA×MP Int (List X0)×MP (List UInt8) (List Int))):=AZ (fun s:Int×AA×MP Int (List X0)×MP (List UInt8) (List Int)=>Gd s1 s2 s17 s18 w997 s.1 s.2.1 s.2.2.1 s.2.2.2) (s19,w0,w502,w503)
theorem PJ(s1:List X0)(s2:Int)(s17:List X2)(s18 w997 s19:Int)(w0:AA)(w502:MP Int (List X0))(w503:MP (List UInt8) (List Int)):Rn s1 s2 s17 s18 w997 s19 w0 w502 w503=Bh (Gd s1 s2 s17 s18 w997 s19 w0 w502 w503) (fun s:Int×AA×MP Int (List X0)×MP (List UInt8) (List Int)=>Rn s1 s2 s17 s18 w997 s.1 s.2.1 s.2.2.1 s.2.2.2):=Au _ _
def Xu(a1:List X0)(a2:Int)(w0:AA)(w2:MP Int (List X0))(w3:MP (List UInt8) (List Int)):Option (AA×MP Int (List X0)×MP (List UInt8) (List Int)):=
 AG (Rn a1 a2 w0.symbols (w0.symbols.length:Int) a2 0 w0 w2 w3) fun o10=>
 some (o10.1,o10.2.1,o10.2.2)
def Ub(a1:Int)(w0:AA)(w1:MP Int (List X0))(w802:MP (List UInt8) (List Int)):Option (Bool×AA×MP Int (List X0)×MP (List UInt8) (List Int)):=
 AE (!((A5 ([]:List X0) w1 a1).2)) (
  some (false,w0,w1,w802)) (
  AG (Xu ((A5 ([]:List X0) w1 a1).1) a1 w0 (Dp w1 a1) w802) fun r1=>
  some (true,r1.1,r1.2.1,r1.2.2))
def Uc(w0:AA)(w1:MP Int (List X0))(w2:MP (List UInt8) (List Int)):Option (Int×AA×MP Int (List X0)×MP (List UInt8) (List Int)):=
 Az ((w1.es.length:Int)<=4611686018427387904) (
  some ((w1.es.length:Int),w0,w1,w2))
def J5(s0:List X0)(s1:List Ae)(s5:Int):Option ((Int)⊕(Unit⊕Unit)):=
 AE (decide (s5<(s1.length:Int))) (
  Ab s1 s5 fun x1=>
  AG (Z4 s0 x1.bind) fun r2=>
  AE (r2) (
   some (.inr (.inr ()))) (
   some (.inl (AB .add .i64 s5 1)))) (
  some (.inr (.inl ())))
def aM8(s0:List X0)(s1:List Ae)(s5:Int):Option (Unit⊕Unit):=AZ (fun s:Int=>J5 s0 s1 s) s5
def Zl(a0:List X0)(a1:List Ae):Option (Bool):=
 AG (aM8 a0 a1 0) fun o3=>
 As o3 (fun o4=>
  some false) (fun o5=>
  some true)
def HH(s0:List Int)(s1 s5:Int):Option ((Int)⊕(Int)):=
 AE (decide (0<s5)) (
  Ab s0 (AB .sub .i64 s5 1) fun x1=>
  AE (decide (s1<x1)) (
   some (.inl (AB .sub .i64 s5 1))) (
   some (.inr s5))) (
  some (.inr s5))
def XF(s0:List Int)(s1 s5:Int):Option (Int):=AZ (fun s:Int=>HH s0 s1 s) s5
theorem P0(s0:List Int)(s1 s5:Int):XF s0 s1 s5=Bh (HH s0 s1 s5) (fun s:Int=>XF s0 s1 s):=Au _ _
def Z2(a0:List Int)(a1:Int):Option (List Int):=
 AG (XF a0 a1 (a0.length:Int)) fun o2=>
 Az ((0:Int)<=0/\(0:Int)<=o2/\o2<=(a0.length:Int)) (
  Az (fit ([]:List Int).length (sub a0 0 o2).length 8) (
   Az (fit (([]:List Int)++(sub a0 0 o2)).length [a1].length 8) (
    Az ((0:Int)<=o2/\(o2:Int)<=(a0.length:Int)/\(a0.length:Int)<=(a0.length:Int)) (
     Az (fit ((([]:List Int)++(sub a0 0 o2))++[a1]).length (sub a0 o2 (a0.length:Int)).length 8) (
      some (((([]:List Int)++(sub a0 0 o2))++[a1])++(sub a0 o2 (a0.length:Int))))))))
def Jx(s0 s1:List X0)(s5:Int):Option ((Int)⊕(Unit⊕Unit)):=
 AE (decide (s5<(s0.length:Int))) (
  Ab s0 s5 fun x1=>
  AG (Yv s1 x1.var) fun r2=>
  AE (!r2.2) (
   some (.inr (.inr ()))) (
   Ab s0 s5 fun x3=>
   AE (!(X3.eqb r2.1 x3.value)) (
    some (.inr (.inr ()))) (
    some (.inl (AB .add .i64 s5 1))))) (
  some (.inr (.inl ())))
def aM1(s0 s1:List X0)(s5:Int):Option (Unit⊕Unit):=AZ (fun s:Int=>Jx s0 s1 s) s5
def Zd(a0 a1:List X0):Option (Bool):=
 AG (aM1 a0 a1 0) fun o4=>
 As o4 (fun o5=>
  some true) (fun o6=>
  some false)
def Jy(s0:List X0)(s1:List Ae)(s5:Int):Option ((Int)⊕(Unit⊕Unit)):=
 AE (decide (s5<(s1.length:Int))) (
  Ab s1 s5 fun x1=>
  AG (Zd x1.bind s0) fun r2=>
  AE (r2) (
   some (.inr (.inr ()))) (
   some (.inl (AB .add .i64 s5 1)))) (
  some (.inr (.inl ())))
def aM2(s0:List X0)(s1:List Ae)(s5:Int):Option (Unit⊕Unit):=AZ (fun s:Int=>Jy s0 s1 s) s5
def Ze(a0:List X0)(a1:List Ae):Option (Bool):=
 AG (aM2 a0 a1 0) fun o3=>
 As o3 (fun o4=>
  some false) (fun o5=>
  some true)
def IL(s0:List X6)(s1:List Ae)(s2:Bool)(s7:List Int)(s8:Int)(s37:Bool):Option ((List Int)):=
 AE (s37) (
  Ab s0 s8 fun x17=>
  AG (Z2 s7 x17.iD) fun r18=>
  some r18) (
  some s7)
def Vb(s0:List X6)(s1:List Ae)(s2:Bool)(s7:List Int)(s8:Int):Option ((List Int)):=
 AE (!s2) (
  Ab s0 s8 fun x15=>
  AG (Zl x15.bind s1) fun r16=>
  AE (r16) (
   AG (IL s0 s1 s2 s7 s8 true) fun o19=>
   some o19) (
   AE (s2) (
    Ab s0 s8 fun x20=>
    AG (Ze x20.bind s1) fun r21=>
    AG (IL s0 s1 s2 s7 s8 r21) fun o22=>
    some o22) (
    AG (IL s0 s1 s2 s7 s8 false) fun o23=>
    some o23))) (
  AE (s2) (
   Ab s0 s8 fun x24=>
   AG (Ze x24.bind s1) fun r25=>
   AG (IL s0 s1 s2 s7 s8 r25) fun o26=>
   some o26) (
   AG (IL s0 s1 s2 s7 s8 false) fun o27=>
   some o27))
def Gm(s0:List X6)(s1:List Ae)(s2:Bool)(s7:List Int)(s8:Int):Option ((List Int×Int)⊕((List Int))):=
 AE (decide (s8<(s0.length:Int))) (
  AG (Vb s0 s1 s2 s7 s8) fun o28=>
  some (.inl (o28,(AB .add .i64 s8 1)))) (
  some (.inr s7))
def Rt(s0:List X6)(s1:List Ae)(s2:Bool)(s7:List Int)(s8:Int):Option ((List Int)):=AZ (fun s:List Int×Int=>Gm s0 s1 s2 s.1 s.2) (s7,s8)
theorem PZ(s0:List X6)(s1:List Ae)(s2:Bool)(s7:List Int)(s8:Int):Rt s0 s1 s2 s7 s8=Bh (Gm s0 s1 s2 s7 s8) (fun s:List Int×Int=>Rt s0 s1 s2 s.1 s.2):=Au _ _
def Y1(a0:List X6)(a1:List Ae)(a2:Bool):Option (List Int):=
 AG (Rt a0 a1 a2 ([]:List Int) 0) fun o29=>
 some o29
def Jz(s0 s1:List Int)(s5:Int):Option ((Int)⊕(Unit⊕Unit)):=
 AE (decide (s5<(s0.length:Int))) (
  Ab s0 s5 fun x1=>
  Ab s1 s5 fun x2=>
  AE (!decide (x1=x2)) (
   some (.inr (.inr ()))) (
   some (.inl (AB .add .i64 s5 1)))) (
  some (.inr (.inl ())))
def aM3(s0 s1:List Int)(s5:Int):Option (Unit⊕Unit):=AZ (fun s:Int=>Jz s0 s1 s) s5
def Zf(a0 a1:List Int):Option (Bool):=
 AE (!decide ((a0.length:Int)=(a1.length:Int))) (
  some false) (
  AG (aM3 a0 a1 0) fun o3=>
  As o3 (fun o4=>
   some true) (fun o5=>
   some false))
def Ur(a1:List Ae)(w0:AA)(w1:MP Int (List X0))(w2:MP (List UInt8) (List Int)):Option (List Int×AA×MP Int (List X0)×MP (List UInt8) (List Int)):=
 AG (Xy a1 true w0 w1 w2) fun r1=>
 some (r1.1,r1.2.1,r1.2.2.1,r1.2.2.2)
def Ud(l:List (List UInt8)):Option (List (List UInt8)):=RT l
def Us(xs:List (List UInt8)):Option (List (List UInt8)):=bagE Ud xs
def Gt(w0:AA)(w501:MP Int (List X0))(w502:MP (List UInt8) (List Int))(k:List UInt8)(v:List Int)(w3:List (List UInt8)):Option (List (List UInt8)):=
 Az (fit w3.length [k].length 16) (
  some (w3++[k]))
def Jo(w0:AA)(w501:MP Int (List X0))(w502:MP (List UInt8) (List Int))(s:List (List UInt8)):List (List UInt8):=(fun s:List (List UInt8)=>(aOp s:List (List UInt8))) s
def aGd(w0:AA)(w501:MP Int (List X0))(w502:MP (List UInt8) (List Int))(w3:List (List UInt8)):Option (List (List UInt8)):=Fi (Jo w0 w501 w502) (w502.es.map (·.2)) (fun(x:List UInt8×List Int) (s:List (List UInt8))=>Gt w0 w501 w502 x.1 x.2 s) w3
def aGb(w0:AA)(w501:MP Int (List X0))(w502:MP (List UInt8) (List Int)):Option ((List (List UInt8))):=
 AG (aGd w0 w501 w502 ([]:List (List UInt8))) fun o1=>
 some o1
def Y8(w0:AA)(w1:MP Int (List X0))(w2:MP (List UInt8) (List Int)):Option (List (List UInt8)×AA×MP Int (List X0)×MP (List UInt8) (List Int)):=
 AG (aGb w0 w1 w2) fun o2=>
 AG (Us o2) fun r3=>
 some (r3,w0,w1,w2)
def aEt(s4:Int)(s44:Bool)(w1:X3)(w3:List UInt8):Option ((List UInt8)):=
 AE (s44) (
  Az (fit w3.length [(255:UInt8)].length 1) (
   some (w3++[(255:UInt8)]))) (
  some w3)
def UL(s4:Int)(w1:X3)(w3:List UInt8):Option ((List UInt8)):=
 Ab w1.str s4 fun x1=>
 Az (fit w3.length [x1].length 1) (
  Ab w1.str s4 fun x2=>
  AG (aEt s4 (decide ((x2.toNat:Int)=((0:UInt8).toNat:Int))) w1 (w3++[x1])) fun o3=>
  some o3)
def GX(w1:X3)(s4:Int)(w3:List UInt8):Option ((Int×List UInt8)⊕((List UInt8))):=
 AE (decide (s4<(w1.str.length:Int))) (
  AG (UL s4 w1 w3) fun o4=>
  some (.inl ((AB .add .i64 s4 1),o4))) (
  some (.inr w3))
def Rj(w1:X3)(s4:Int)(w3:List UInt8):Option ((List UInt8)):=AZ (fun s:Int×List UInt8=>GX w1 s.1 s.2) (s4,w3)
theorem aTs(w1:X3)(s4:Int)(w3:List UInt8):Rj w1 s4 w3=Bh (GX w1 s4 w3) (fun s:Int×List UInt8=>Rj w1 s.1 s.2):=Au _ _
def GY(s5 s6 s7:Int)(w3:List UInt8):Option ((Int×Int×List UInt8)⊕((List UInt8))):=
 AE (decide (s7<8)) (
  Az (s6≠0) (
   Az (fit w3.length [u8w (AB .rem .u64 (AB .quo .u64 s5 s6) 256)].length 1) (
    some (.inl ((AB .quo .u64 s6 256),(AB .add .i64 s7 1),w3++[u8w (AB .rem .u64 (AB .quo .u64 s5 s6) 256)]))))) (
  some (.inr w3))
def LF(s5 s6 s7:Int)(w3:List UInt8):Option ((List UInt8)):=AZ (fun s:Int×Int×List UInt8=>GY s5 s.1 s.2.1 s.2.2) (s6,s7,w3)
theorem O6(s5 s6 s7:Int)(w3:List UInt8):LF s5 s6 s7 w3=Bh (GY s5 s6 s7 w3) (fun s:Int×Int×List UInt8=>LF s5 s.1 s.2.1 s.2.2):=Au _ _
def Xo(a0:X3):Option (List UInt8):=
 AE (decide (a0.kind=3)) (
  AE (a0.bool) (
   Az (fit [u8w a0.kind].length [(1:UInt8)].length 1) (
    some ([u8w a0.kind]++[(1:UInt8)]))) (
   Az (fit [u8w a0.kind].length [(0:UInt8)].length 1) (
    some ([u8w a0.kind]++[(0:UInt8)])))) (
  AE (decide (a0.kind=2)) (
   AG (Rj a0 0 [u8w a0.kind]) fun o5=>
   Az (fit o5.length [(0:UInt8),(1:UInt8)].length 1) (
    some (o5++[(0:UInt8),(1:UInt8)]))) (
   AG (LF (AB .add .u64 (IntKind.wrap .u64 a0.int) 9223372036854775808) 72057594037927936 0 [u8w a0.kind]) fun o6=>
   some o6))
def HI(s0:List (List UInt8))(s1:List UInt8)(s5:Int):Option ((Int)⊕(Int)):=
 AE (decide (0<s5)) (
  Ab s0 (AB .sub .i64 s5 1) fun x1=>
  AG (Yy s1 x1) fun r2=>
  AE (r2) (
   some (.inl (AB .sub .i64 s5 1))) (
   some (.inr s5))) (
  some (.inr s5))
def XJ(s0:List (List UInt8))(s1:List UInt8)(s5:Int):Option (Int):=AZ (fun s:Int=>HI s0 s1 s) s5
theorem P1(s0:List (List UInt8))(s1:List UInt8)(s5:Int):XJ s0 s1 s5=Bh (HI s0 s1 s5) (fun s:Int=>XJ s0 s1 s):=Au _ _
def Z3(a0:List (List UInt8))(a1:List UInt8):Option (List (List UInt8)):=
 AG (XJ a0 a1 (a0.length:Int)) fun o3=>
 AE (decide (0<o3)) (
  Ab a0 (AB .sub .i64 o3 1) fun x4=>
  AE (decide (x4=a1)) (
   some a0) (
   Az ((0:Int)<=0/\(0:Int)<=o3/\o3<=(a0.length:Int)) (
    Az (fit ([]:List (List UInt8)).length (sub a0 0 o3).length 16) (
     Az (fit (([]:List (List UInt8))++(sub a0 0 o3)).length [a1].length 16) (
      Az ((0:Int)<=o3/\(o3:Int)<=(a0.length:Int)/\(a0.length:Int)<=(a0.length:Int)) (
       Az (fit ((([]:List (List UInt8))++(sub a0 0 o3))++[a1]).length (sub a0 o3 (a0.length:Int)).length 16) (
        some (((([]:List (List UInt8))++(sub a0 0 o3))++[a1])++(sub a0 o3 (a0.length:Int)))))))))) (
  Az ((0:Int)<=0/\(0:Int)<=o3/\o3<=(a0.length:Int)) (
   Az (fit ([]:List (List UInt8)).length (sub a0 0 o3).length 16) (
    Az (fit (([]:List (List UInt8))++(sub a0 0 o3)).length [a1].length 16) (
     Az ((0:Int)<=o3/\(o3:Int)<=(a0.length:Int)/\(a0.length:Int)<=(a0.length:Int)) (
      Az (fit ((([]:List (List UInt8))++(sub a0 0 o3))++[a1]).length (sub a0 o3 (a0.length:Int)).length 16) (
       some (((([]:List (List UInt8))++(sub a0 0 o3))++[a1])++(sub a0 o3 (a0.length:Int)))))))))
def Tl(s1:List X6)(s5:List (List UInt8))(s6 s7 s8:Int)(s65:Bool)(w2:AA)(w10:List UInt8)(w11:X3):Option ((List UInt8)):=
 AE (s65) (
  AG (Xo w11) fun r15=>
  Az (fit w10.length r15.length 1) (
   some (w10++r15))) (
  some w10)
def Tk(s1:List X6)(s5:List (List UInt8))(s6 s7 s8:Int)(w2:AA):Option ((List (List UInt8))):=
 Ab w2.symbols s7 fun x11=>
 Ab x11.args s8 fun x12=>
 AE (!decide (x12.kind=2)) (
  some s5) (
  Ab s1 s6 fun x13=>
  AG (Yv x13.bind x12.n) fun r14=>
  AG (Tl s1 s5 s6 s7 s8 r14.2 w2 [u8w s7,u8w s8] r14.1) fun o16=>
  AG (Z3 s5 o16) fun r17=>
  some r17)
def GO(s1:List X6)(s6 s7:Int)(w2:AA)(s5:List (List UInt8))(s8:Int):Option ((List (List UInt8)×Int)⊕((List (List UInt8)))):=
 Ab w2.symbols s7 fun x20=>
 AE (decide (s8<(x20.args.length:Int))) (
  AG (Tk s1 s5 s6 s7 s8 w2) fun o21=>
  some (.inl (o21,(AB .add .i64 s8 1)))) (
  some (.inr s5))
def Rb(s1:List X6)(s6 s7:Int)(w2:AA)(s5:List (List UInt8))(s8:Int):Option ((List (List UInt8))):=AZ (fun s:List (List UInt8)×Int=>GO s1 s6 s7 w2 s.1 s.2) (s5,s8)
theorem Ov(s1:List X6)(s6 s7:Int)(w2:AA)(s5:List (List UInt8))(s8:Int):Rb s1 s6 s7 w2 s5 s8=Bh (GO s1 s6 s7 w2 s5 s8) (fun s:List (List UInt8)×Int=>Rb s1 s6 s7 w2 s.1 s.2):=Au _ _
def GP(s1:List X6)(s6:Int)(w2:AA)(s5:List (List UInt8))(s7:Int):Option ((List (List UInt8)×Int)⊕((List (List UInt8)))):=
 AE (decide (s7<(w2.symbols.length:Int))) (
  AG (Rb s1 s6 s7 w2 s5 0) fun o24=>
  some (.inl (o24,(AB .add .i64 s7 1)))) (
  some (.inr s5))
def Rd(s1:List X6)(s6:Int)(w2:AA)(s5:List (List UInt8))(s7:Int):Option ((List (List UInt8))):=AZ (fun s:List (List UInt8)×Int=>GP s1 s6 w2 s.1 s.2) (s5,s7)
theorem Ow(s1:List X6)(s6:Int)(w2:AA)(s5:List (List UInt8))(s7:Int):Rd s1 s6 w2 s5 s7=Bh (GP s1 s6 w2 s5 s7) (fun s:List (List UInt8)×Int=>Rd s1 s6 w2 s.1 s.2):=Au _ _
def GN(s1:List X6)(w2:AA)(s5:List (List UInt8))(s6:Int):Option ((List (List UInt8)×Int)⊕((List (List UInt8)))):=
 AE (decide (s6<(s1.length:Int))) (
  AG (Rd s1 s6 w2 s5 0) fun o25=>
  some (.inl (o25,(AB .add .i64 s6 1)))) (
  some (.inr s5))
def Ra(s1:List X6)(w2:AA)(s5:List (List UInt8))(s6:Int):Option ((List (List UInt8))):=AZ (fun s:List (List UInt8)×Int=>GN s1 w2 s.1 s.2) (s5,s6)
theorem Ou(s1:List X6)(w2:AA)(s5:List (List UInt8))(s6:Int):Ra s1 w2 s5 s6=Bh (GN s1 w2 s5 s6) (fun s:List (List UInt8)×Int=>Ra s1 w2 s.1 s.2):=Au _ _
def Xe(a0:AA)(a1:List X6):Option (List (List UInt8)):=
 AG (Ra a1 a0 ([]:List (List UInt8)) 0) fun o26=>
 some o26
def UU(s1:List Xg)(s9:List Ae)(s10:Int)(s11:List X6)(s12 s62:Bool)(w3 w7:AA)(w950:MP Int (List X0))(w957:MP (List UInt8) (List Int)):Option ((Bool×AA×MP Int (List X0)×MP (List UInt8) (List Int))):=
 AE (s62) (
  Ab s1 s10 fun x13=>
  Ab s1 s10 fun x14=>
  AG (Z6 x13.iD x14.bind w7 w950 w957) fun r15=>
  some (r15.1,r15.2.1,r15.2.2.1,r15.2.2.2)) (
  Ab s1 s10 fun x16=>
  AG (Ub x16.iD w7 w950 w957) fun r17=>
  some (r17.1,r17.2.1,r17.2.2.1,r17.2.2.2))
def UV(s1:List Xg)(s8:List X6)(s9:List Ae)(s10:Int)(w3 w7:AA)(w950:MP Int (List X0))(w957:MP (List UInt8) (List Int)):Option ((List X6×AA×MP (List UInt8) (List Int)×MP Int (List X0))⊕Unit):=
 Ab s1 s10 fun x29=>
 AG (Yi s8 x29) fun r30=>
 Ab s1 s10 fun x31=>
 AG (UU s1 s9 s10 r30.1 r30.2 (decide (x31.kind=0)) w3 w7 w950 w957) fun o32=>
 AE (!(o32.1==r30.2)) (
  some (.inr ())) (
  AG (Uc o32.2.1 o32.2.2.1 o32.2.2.2) fun r33=>
  AE (!decide (r33.1=(r30.1.length:Int))) (
   some (.inr ())) (
   AG (Zv s9 r33.2.1 r33.2.2.1 r33.2.2.2) fun r34=>
   AG (Y1 r30.1 s9 false) fun r35=>
   AG (Zf r34.1 r35) fun r36=>
   AE (!r36) (
    some (.inr ())) (
    AG (Ur s9 r34.2.1 r34.2.2.1 r34.2.2.2) fun r37=>
    AG (Y1 r30.1 s9 true) fun r38=>
    AG (Zf r37.1 r38) fun r39=>
    AE (!r39) (
     some (.inr ())) (
     some (.inl (r30.1,r37.2.1,r37.2.2.2,r37.2.2.1))))))
def Ga(s1:List Xg)(s9:List Ae)(w3:AA)(s8:List X6)(s10:Int)(w7:AA)(w950:MP Int (List X0))(w957:MP (List UInt8) (List Int)):Option ((List X6×Int×AA×MP Int (List X0)×MP (List UInt8) (List Int))⊕((List X6×AA×MP Int (List X0)×MP (List UInt8) (List Int))⊕Unit)):=
 AE (decide (s10<(s1.length:Int))) (
  AG (UV s1 s8 s9 s10 w3 w7 w950 w957) fun o40=>
  As o40 (fun o41=>
   some (.inl (o41.1,(AB .add .i64 s10 1),o41.2.1,o41.2.2.2,o41.2.2.1))) (fun o42=>
   some (.inr (.inr ())))) (
  some (.inr (.inl (s8,w7,w950,w957))))
def Rk(s1:List Xg)(s9:List Ae)(w3:AA)(s8:List X6)(s10:Int)(w7:AA)(w950:MP Int (List X0))(w957:MP (List UInt8) (List Int)):Option ((List X6×AA×MP Int (List X0)×MP (List UInt8) (List Int))⊕Unit):=AZ (fun s:List X6×Int×AA×MP Int (List X0)×MP (List UInt8) (List Int)=>Ga s1 s9 w3 s.1 s.2.1 s.2.2.1 s.2.2.2.1 s.2.2.2.2) (s8,s10,w7,w950,w957)
theorem PA(s1:List Xg)(s9:List Ae)(w3:AA)(s8:List X6)(s10:Int)(w7:AA)(w950:MP Int (List X0))(w957:MP (List UInt8) (List Int)):Rk s1 s9 w3 s8 s10 w7 w950 w957=Bh (Ga s1 s9 w3 s8 s10 w7 w950 w957) (fun s:List X6×Int×AA×MP Int (List X0)×MP (List UInt8) (List Int)=>Rk s1 s9 w3 s.1 s.2.1 s.2.2.1 s.2.2.2.1 s.2.2.2.2):=Au _ _
def Jk(s14 s15:List (List UInt8))(s16:Int):Option ((Int)⊕(Unit⊕Unit)):=
 AE (decide (s16<(s14.length:Int))) (
  Ab s14 s16 fun x48=>
  Ab s15 s16 fun x49=>
  AE (!decide (x48=x49)) (
   some (.inr (.inr ()))) (
   some (.inl (AB .add .i64 s16 1)))) (
  some (.inr (.inl ())))
def aE2(s14 s15:List (List UInt8))(s16:Int):Option (Unit⊕Unit):=AZ (fun s:Int=>Jk s14 s15 s) s16
def Xq(a0:AA)(a1:List Xg)(a2:Xm):Option (Bool):=
 AG (Yj a0 a1) fun r1=>
 AE (!r1) (
  AG (Ql) fun r2=>
  some r2) (
  AG (Zc a0.decls a2) fun r3=>
  AE (!r3) (
   AG (Ql) fun r4=>
   some r4) (
   AE (decide (12<(a2.args.length:Int))) (
    AG (Ql) fun r5=>
    some r5) (
    AG (aKk (Qo a0) (Qp a0)) fun o6=>
    As o6 (fun o7=>
     some false) (fun o8=>
     AG (Yw a0 a2) fun r9=>
     AG (Rk a1 r9 a0 ([]:List X6) 0 o8.1 o8.2.1 o8.2.2) fun o43=>
     As o43 (fun o44=>
      AG (Y8 o44.2.1 o44.2.2.1 o44.2.2.2) fun r46=>
      AG (Xe a0 o44.1) fun r47=>
      AE (!decide ((r46.1.length:Int)=(r47.length:Int))) (
       some false) (
       AG (aE2 r46.1 r47 0) fun o50=>
       As o50 (fun o51=>
        AG (Ql) fun r53=>
        some r53) (fun o52=>
        some false))) (fun o45=>
      some false)))))
end
end Go.Ac
