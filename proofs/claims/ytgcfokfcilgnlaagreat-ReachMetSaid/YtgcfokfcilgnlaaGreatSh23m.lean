/- Own work, printed: the functions as Lean functions. -/
import Derived.Test.YtgcfokfcilgnlaaGreatAcC
set_option linter.unusedVariables false
set_option linter.unusedSimpArgs false
namespace Go.Ac
noncomputable section
abbrev aYz(P:Program)(rd:Option Nat)(root:Code)(p:List Nat)(s:St)(x:Ex×St):Prop:=Fg P rd root p s x.1 x.2
abbrev dI(x:Int):A:=.d (D.i .i64 x)
abbrev sI(n:Nat)(x:Int):Nat×A:=(n,dI x)
abbrev sD{α:Type}(n:Nat)(f:α->D)(x:α):Nat×A:=(n,.d (f x))
abbrev bx(n:Nat):Nat×A:=(n,.box n 0)
abbrev rx(n:Nat):Nat×A:=(n,.row n)
abbrev cL{α:Type}(n:Nat)(f:α->D)(x:α):Nat×Bk:=(n,.cells (aSn (f x)))
abbrev rW{α:Type}(n e k:Nat)(f:α->D)(x:List α):Nat×Bk:=(n,.rw e k (x.map f))
abbrev eP{α:Type}(n:Nat)(f:α->D)(x:α):Nat×A:=(n,.eptr (D.cells (f x)))
abbrev dU:Int->D:=D.i .u64
abbrev dW:Int->D:=D.i .u32
abbrev dZ:Int->D:=D.i .i64
abbrev bT(n:Nat):Nat×W:=(n,.bit true)
abbrev bF(n:Nat):Nat×W:=(n,.bit false)
structure Xe where
 name:List UInt8
 types:List Int
 deriving DecidableEq
def Xe.D(v:Xe):D:=.agg ([D.s v.name]++[(D.l (D.i .i64)) v.types])
instance :Dp Xe.D 2:=⟨fun _=>rfl⟩
structure Ye where
 all:Bool
 name:List UInt8
 type:Int
def Ye.D(v:Ye):D:=.agg ([D.b v.all]++[D.s v.name]++[(D.i .i64) v.type])
instance :Dp Ye.D 3:=⟨fun _=>rfl⟩
def Ye.eqb(a b:Ye):Bool:=((a.all==b.all)&&(decide (a.name=b.name)&&(decide (a.type=b.type)&&true)))
theorem Ye.eqb_iff(a b:Ye):Ye.eqb a b=true↔a=b:=by cases a;cases b;simp[Ye.eqb]
instance :DecidableEq Ye:=fun a b=>decidable_of_iff (Ye.eqb a b=true) (Ye.eqb_iff a b)
structure X0 where
 kind:Int
 int:Int
 str:List UInt8
 bool:Bool
def X0.D(v:X0):D:=.agg ([(D.i .i64) v.kind]++[(D.i .i64) v.int]++[D.s v.str]++[D.b v.bool])
instance :Dp X0.D 4:=⟨fun _=>rfl⟩
def X0.eqb(a b:X0):Bool:=(decide (a.kind=b.kind)&&(decide (a.int=b.int)&&(decide (a.str=b.str)&&((a.bool==b.bool)&&true))))
theorem X0.eqb_iff(a b:X0):X0.eqb a b=true↔a=b:=by cases a;cases b;simp[X0.eqb]
instance :DecidableEq X0:=fun a b=>decidable_of_iff (X0.eqb a b=true) (X0.eqb_iff a b)
structure Yg where
 name:List UInt8
 init_:X0
def Yg.D(v:Yg):D:=.agg ([D.s v.name]++(X0.D v.init_).cells)
instance :Dp Yg.D 5:=⟨fun _=>rfl⟩
def Yg.eqb(a b:Yg):Bool:=(decide (a.name=b.name)&&(X0.eqb a.init_ b.init_&&true))
theorem Yg.eqb_iff(a b:Yg):Yg.eqb a b=true↔a=b:=by cases a;cases b;simp[Yg.eqb,X0.eqb_iff]
instance :DecidableEq Yg:=fun a b=>decidable_of_iff (Yg.eqb a b=true) (Yg.eqb_iff a b)
structure Xc where
 name:List UInt8
 next:Bool
 accept:Bool
def Xc.D(v:Xc):D:=.agg ([D.s v.name]++[D.b v.next]++[D.b v.accept])
instance :Dp Xc.D 3:=⟨fun _=>rfl⟩
def Xc.eqb(a b:Xc):Bool:=(decide (a.name=b.name)&&((a.next==b.next)&&((a.accept==b.accept)&&true)))
theorem Xc.eqb_iff(a b:Xc):Xc.eqb a b=true↔a=b:=by cases a;cases b;simp[Xc.eqb]
instance :DecidableEq Xc:=fun a b=>decidable_of_iff (Xc.eqb a b=true) (Xc.eqb_iff a b)
structure BW where
 kind:Int
 n:Int
 value:X0
def BW.D(v:BW):D:=.agg ([(D.i .i64) v.kind]++[(D.i .i64) v.n]++(X0.D v.value).cells)
instance :Dp BW.D 6:=⟨fun _=>rfl⟩
def BW.eqb(a b:BW):Bool:=(decide (a.kind=b.kind)&&(decide (a.n=b.n)&&(X0.eqb a.value b.value&&true)))
theorem BW.eqb_iff(a b:BW):BW.eqb a b=true↔a=b:=by cases a;cases b;simp[BW.eqb,X0.eqb_iff]
instance :DecidableEq BW:=fun a b=>decidable_of_iff (BW.eqb a b=true) (BW.eqb_iff a b)
structure X3 where
 event:Int
 args:List BW
 deriving DecidableEq
def X3.D(v:X3):D:=.agg ([(D.i .i64) v.event]++[(D.l BW.D) v.args])
instance :Dp X3.D 2:=⟨fun _=>rfl⟩
structure Ym where
 op:Int
 a:Int
 b:Int
 value:X0
def Ym.D(v:Ym):D:=.agg ([(D.i .i64) v.op]++[(D.i .i64) v.a]++[(D.i .i64) v.b]++(X0.D v.value).cells)
instance :Dp Ym.D 7:=⟨fun _=>rfl⟩
def Ym.eqb(a b:Ym):Bool:=(decide (a.op=b.op)&&(decide (a.a=b.a)&&(decide (a.b=b.b)&&(X0.eqb a.value b.value&&true))))
theorem Ym.eqb_iff(a b:Ym):Ym.eqb a b=true↔a=b:=by cases a;cases b;simp[Ym.eqb,X0.eqb_iff]
instance :DecidableEq Ym:=fun a b=>decidable_of_iff (Ym.eqb a b=true) (Ym.eqb_iff a b)
structure Fi where
 free:Int
 expr:Int
def Fi.D(v:Fi):D:=.agg ([(D.i .i64) v.free]++[(D.i .i64) v.expr])
instance :Dp Fi.D 2:=⟨fun _=>rfl⟩
def Fi.eqb(a b:Fi):Bool:=(decide (a.free=b.free)&&(decide (a.expr=b.expr)&&true))
theorem Fi.eqb_iff(a b:Fi):Fi.eqb a b=true↔a=b:=by cases a;cases b;simp[Fi.eqb]
instance :DecidableEq Fi:=fun a b=>decidable_of_iff (Fi.eqb a b=true) (Fi.eqb_iff a b)
structure Xd where
 from_:Int
 symbol:Int
 to:Int
 guard:Int
 sets:List Fi
 deriving DecidableEq
def Xd.D(v:Xd):D:=.agg ([(D.i .i64) v.from_]++[(D.i .i64) v.symbol]++[(D.i .i64) v.to]++[(D.i .i64) v.guard]++[(D.l Fi.D) v.sets])
instance :Dp Xd.D 5:=⟨fun _=>rfl⟩
structure AD where
 name:List UInt8
 decls:List Xe
 quants:List Ye
 frees:List Yg
 states:List Xc
 start:Int
 symbols:List X3
 nodes:List Ym
 trans:List Xd
 deriving DecidableEq
def AD.D(v:AD):D:=.agg ([D.s v.name]++[(D.l Xe.D) v.decls]++[(D.l Ye.D) v.quants]++[(D.l Yg.D) v.frees]++[(D.l Xc.D) v.states]++[(D.i .i64) v.start]++[(D.l X3.D) v.symbols]++[(D.l Ym.D) v.nodes]++[(D.l Xd.D) v.trans])
instance :Dp AD.D 9:=⟨fun _=>rfl⟩
structure X2 where
 var:Int
 value:X0
def X2.D(v:X2):D:=.agg ([(D.i .i64) v.var]++(X0.D v.value).cells)
instance :Dp X2.D 5:=⟨fun _=>rfl⟩
def X2.eqb(a b:X2):Bool:=(decide (a.var=b.var)&&(X0.eqb a.value b.value&&true))
theorem X2.eqb_iff(a b:X2):X2.eqb a b=true↔a=b:=by cases a;cases b;simp[X2.eqb,X0.eqb_iff]
instance :DecidableEq X2:=fun a b=>decidable_of_iff (X2.eqb a b=true) (X2.eqb_iff a b)
structure Yn where
 state:Int
 vals:List X0
 deriving DecidableEq
def Yn.D(v:Yn):D:=.agg ([(D.i .i64) v.state]++[(D.l X0.D) v.vals])
instance :Dp Yn.D 2:=⟨fun _=>rfl⟩
structure Xr where
 q:AD
 b:List X2
 d_:Int
 at_:Int
 deriving DecidableEq
def Xr.D(v:Xr):D:=.agg ((AD.D v.q).cells++[(D.l X2.D) v.b]++[(D.i .i64) v.d_]++[(D.i .i64) v.at_])
instance :Dp Xr.D 12:=⟨fun _=>rfl⟩
structure X8 where
 name:List UInt8
 args:List X0
 deriving DecidableEq
def X8.D(v:X8):D:=.agg ([D.s v.name]++[(D.l X0.D) v.args])
instance :Dp X8.D 2:=⟨fun _=>rfl⟩
structure Ar where
 symbol:Int
 bind:List X2
 frees:List X2
 deriving DecidableEq
def Ar.D(v:Ar):D:=.agg ([(D.i .i64) v.symbol]++[(D.l X2.D) v.bind]++[(D.l X2.D) v.frees])
instance :Dp Ar.D 3:=⟨fun _=>rfl⟩
def Hu(w1:AD)(s3:Int):Option ((Int)⊕(Unit⊕Unit)):=
 AE (decide (s3<(w1.decls.length:Int))) (
  AW w1.decls s3 fun x1=>
  AE (decide (12<(x1.types.length:Int))) (
   some (.inr (.inr ()))) (
   AW w1.decls s3 fun x2=>
   AE (decide (100<(x2.name.length:Int))) (
    some (.inr (.inr ()))) (
    some (.inl (AA .add .i64 s3 1))))) (
  some (.inr (.inl ())))
def aMu(w1:AD)(s3:Int):Option (Unit⊕Unit):=AQ (fun s:Int=>Hu w1 s) s3
def Hx(s4:Int)(w1:AD)(s5:Int):Option ((Int)⊕(Unit⊕Unit)):=
 AW w1.symbols s4 fun x7=>
 AE (decide (s5<(x7.args.length:Int))) (
  AW w1.symbols s4 fun x8=>
  AW x8.args s5 fun x9=>
  AE (decide (100<(x9.value.str.length:Int))) (
   some (.inr (.inr ()))) (
   some (.inl (AA .add .i64 s5 1)))) (
  some (.inr (.inl ())))
def aMw(s4:Int)(w1:AD)(s5:Int):Option (Unit⊕Unit):=AQ (fun s:Int=>Hx s4 w1 s) s5
def Hv(w1:AD)(s4:Int):Option ((Int)⊕(Unit⊕Unit)):=
 AE (decide (s4<(w1.symbols.length:Int))) (
  AW w1.symbols s4 fun x6=>
  AE (decide (12<(x6.args.length:Int))) (
   some (.inr (.inr ()))) (
   AJ (aMw s4 w1 0) fun o10=>
   CH o10 (fun o11=>
    some (.inl (AA .add .i64 s4 1))) (fun o12=>
    some (.inr (.inr ()))))) (
  some (.inr (.inl ())))
def aMv(w1:AD)(s4:Int):Option (Unit⊕Unit):=AQ (fun s:Int=>Hv w1 s) s4
def Hy(w1:AD)(s6:Int):Option ((Int)⊕(Unit⊕Unit)):=
 AE (decide (s6<(w1.frees.length:Int))) (
  AW w1.frees s6 fun x16=>
  AE (decide (100<(x16.init_.str.length:Int))) (
   some (.inr (.inr ()))) (
   some (.inl (AA .add .i64 s6 1)))) (
  some (.inr (.inl ())))
def aMx(w1:AD)(s6:Int):Option (Unit⊕Unit):=AQ (fun s:Int=>Hy w1 s) s6
def Hz(w1:AD)(s7:Int):Option ((Int)⊕(Unit⊕Unit)):=
 AE (decide (s7<(w1.nodes.length:Int))) (
  AW w1.nodes s7 fun x20=>
  AE (decide (100<(x20.value.str.length:Int))) (
   some (.inr (.inr ()))) (
   some (.inl (AA .add .i64 s7 1)))) (
  some (.inr (.inl ())))
def aMy(w1:AD)(s7:Int):Option (Unit⊕Unit):=AQ (fun s:Int=>Hz w1 s) s7
def H0(w1:AD)(s8:Int):Option ((Int)⊕(Unit⊕Unit)):=
 AE (decide (s8<(w1.trans.length:Int))) (
  AW w1.trans s8 fun x24=>
  AE (decide (12<(x24.sets.length:Int))) (
   some (.inr (.inr ()))) (
   some (.inl (AA .add .i64 s8 1)))) (
  some (.inr (.inl ())))
def aMz(w1:AD)(s8:Int):Option (Unit⊕Unit):=AQ (fun s:Int=>H0 w1 s) s8
def Xa(a0:AD):Option (Int):=
 AE (decide (12<(a0.decls.length:Int))) (
  some 0) (
  AE (decide (9<(a0.quants.length:Int))) (
   some 0) (
   AE (decide (12<(a0.frees.length:Int))) (
    some 0) (
    AE (decide (12<(a0.states.length:Int))) (
     some 0) (
     AE (decide (12<(a0.symbols.length:Int))) (
      some 0) (
      AE (decide (12<(a0.trans.length:Int))) (
       some 0) (
       AE (decide (40<(a0.nodes.length:Int))) (
        some 0) (
        AE (decide (100<(a0.name.length:Int))) (
         some 0) (
         AJ (aMu a0 0) fun o3=>
         CH o3 (fun o4=>
          AJ (aMv a0 0) fun o13=>
          CH o13 (fun o14=>
           AJ (aMx a0 0) fun o17=>
           CH o17 (fun o18=>
            AJ (aMy a0 0) fun o21=>
            CH o21 (fun o22=>
             AJ (aMz a0 0) fun o25=>
             CH o25 (fun o26=>
              some 1) (fun o27=>
              some 0)) (fun o23=>
             some 0)) (fun o19=>
            some 0)) (fun o15=>
           some 0)) (fun o5=>
          some 0)))))))))
def Qz:Option (List (List UInt8)):=
 some ([([97,99,99,101,112,116]:List UInt8),([97,108,115,111]:List UInt8),([97,110,100]:List UInt8),([98,111,111,108]:List UInt8),([100,111]:List UInt8),([101,118,101,110,116]:List UInt8),([101,120,105,115,116,115]:List UInt8),([102,97,108,115,101]:List UInt8),([102,111,114,97,108,108]:List UInt8),([102,114,101,101]:List UInt8),([105,102]:List UInt8),([105,110,116]:List UInt8),([110,101,120,116]:List UInt8),([110,111,116]:List UInt8),([111,110]:List UInt8),([111,114]:List UInt8),([113,101,97]:List UInt8),([115,107,105,112]:List UInt8),([115,116,97,114,116]:List UInt8),([115,116,114,105,110,103]:List UInt8),([116,111]:List UInt8),([116,114,117,101]:List UInt8)])
def Io(s0:List UInt8)(s3:Int):Option ((Int)⊕(Unit⊕Unit)):=
 AE (decide (s3<(s0.length:Int))) (
  AW s0 s3 fun x1=>
  AE (decide (((65:UInt8).toNat:Int)<=(x1.toNat:Int))) (
   AE (decide ((x1.toNat:Int)<=((90:UInt8).toNat:Int))) (
    some (.inl (AA .add .i64 s3 1))) (
    AE (decide (((97:UInt8).toNat:Int)<=(x1.toNat:Int))) (
     AE (decide ((x1.toNat:Int)<=((122:UInt8).toNat:Int))) (
      some (.inl (AA .add .i64 s3 1))) (
      AE (!(decide ((x1.toNat:Int)=((95:UInt8).toNat:Int)))) (
       AE (decide (s3=0)) (
        some (.inr (.inr ()))) (
        AE (decide ((x1.toNat:Int)<((48:UInt8).toNat:Int))) (
         some (.inr (.inr ()))) (
         AE (decide (((57:UInt8).toNat:Int)<(x1.toNat:Int))) (
          some (.inr (.inr ()))) (
          some (.inl (AA .add .i64 s3 1)))))) (
       some (.inl (AA .add .i64 s3 1))))) (
     AE (!(decide ((x1.toNat:Int)=((95:UInt8).toNat:Int)))) (
      AE (decide (s3=0)) (
       some (.inr (.inr ()))) (
       AE (decide ((x1.toNat:Int)<((48:UInt8).toNat:Int))) (
        some (.inr (.inr ()))) (
        AE (decide (((57:UInt8).toNat:Int)<(x1.toNat:Int))) (
         some (.inr (.inr ()))) (
         some (.inl (AA .add .i64 s3 1)))))) (
      some (.inl (AA .add .i64 s3 1)))))) (
   AE (decide (((97:UInt8).toNat:Int)<=(x1.toNat:Int))) (
    AE (decide ((x1.toNat:Int)<=((122:UInt8).toNat:Int))) (
     some (.inl (AA .add .i64 s3 1))) (
     AE (!(decide ((x1.toNat:Int)=((95:UInt8).toNat:Int)))) (
      AE (decide (s3=0)) (
       some (.inr (.inr ()))) (
       AE (decide ((x1.toNat:Int)<((48:UInt8).toNat:Int))) (
        some (.inr (.inr ()))) (
        AE (decide (((57:UInt8).toNat:Int)<(x1.toNat:Int))) (
         some (.inr (.inr ()))) (
         some (.inl (AA .add .i64 s3 1)))))) (
      some (.inl (AA .add .i64 s3 1))))) (
    AE (!(decide ((x1.toNat:Int)=((95:UInt8).toNat:Int)))) (
     AE (decide (s3=0)) (
      some (.inr (.inr ()))) (
      AE (decide ((x1.toNat:Int)<((48:UInt8).toNat:Int))) (
       some (.inr (.inr ()))) (
       AE (decide (((57:UInt8).toNat:Int)<(x1.toNat:Int))) (
        some (.inr (.inr ()))) (
        some (.inl (AA .add .i64 s3 1)))))) (
     some (.inl (AA .add .i64 s3 1)))))) (
  some (.inr (.inl ())))
def aN8(s0:List UInt8)(s3:Int):Option (Unit⊕Unit):=AQ (fun s:Int=>Io s0 s) s3
def Yx(a0:List UInt8):Option (Bool):=
 AE (decide ((a0.length:Int)<1)) (
  some false) (
  AE (decide (32<(a0.length:Int))) (
   some false) (
   AJ (aN8 a0 0) fun o2=>
   CH o2 (fun o3=>
    some true) (fun o4=>
    some false)))
def Ii(s0:List UInt8)(s3:List (List UInt8))(s4:Int):Option ((Int)⊕(Unit⊕Unit)):=
 AE (decide (s4<(s3.length:Int))) (
  AW s3 s4 fun x2=>
  AE (decide (x2=s0)) (
   some (.inr (.inr ()))) (
   some (.inl (AA .add .i64 s4 1)))) (
  some (.inr (.inl ())))
def aN4(s0:List UInt8)(s3:List (List UInt8))(s4:Int):Option (Unit⊕Unit):=AQ (fun s:Int=>Ii s0 s3 s) s4
def Yl(a0:List UInt8):Option (Bool):=
 AJ (Qz) fun r1=>
 AJ (aN4 a0 r1 0) fun o3=>
 CH o3 (fun o4=>
  AJ (Yx a0) fun r6=>
  AE (r6) (
   some (!decide (a0=([95]:List UInt8)))) (
   some false)) (fun o5=>
  some false)
def Kz(s0:List Xe)(s1:List UInt8)(s5:Int):Option ((Int)⊕(Unit⊕Int)):=
 AE (decide (s5<(s0.length:Int))) (
  AW s0 s5 fun x1=>
  AE (decide (x1.name=s1)) (
   some (.inr (.inr s5))) (
   some (.inl (AA .add .i64 s5 1)))) (
  some (.inr (.inl ())))
def aOf(s0:List Xe)(s1:List UInt8)(s5:Int):Option (Unit⊕Int):=AQ (fun s:Int=>Kz s0 s1 s) s5
def Z4(a0:List Xe)(a1:List UInt8):Option (Int):=
 AJ (aOf a0 a1 0) fun o2=>
 CH o2 (fun o3=>
  some (-1)) (fun o4=>
  some o4)
def E3(s0:List Xe)(s4 s5:Int):Option ((Int)⊕(Unit⊕Unit)):=
 AW s0 s4 fun x6=>
 AE (decide (s5<(x6.types.length:Int))) (
  AW s0 s4 fun x7=>
  AW x7.types s5 fun x8=>
  AE (decide (x8<1)) (
   some (.inr (.inr ()))) (
   AW s0 s4 fun x9=>
   AW x9.types s5 fun x10=>
   AE (decide (3<x10)) (
    some (.inr (.inr ()))) (
    some (.inl (AA .add .i64 s5 1))))) (
  some (.inr (.inl ())))
def aFr(s0:List Xe)(s4 s5:Int):Option (Unit⊕Unit):=AQ (fun s:Int=>E3 s0 s4 s) s5
def E2(s0:List Xe)(s4:Int):Option ((Int)⊕(Unit⊕(Int×Int))):=
 AE (decide (s4<(s0.length:Int))) (
  AW s0 s4 fun x1=>
  AJ (Yl x1.name) fun r2=>
  AE (!r2) (
   some (.inr (.inr (11,s4)))) (
   AW s0 s4 fun x3=>
   AJ (Z4 s0 x3.name) fun r4=>
   AE (decide (r4<s4)) (
    some (.inr (.inr (10,s4)))) (
    AW s0 s4 fun x5=>
    AE (decide (8<(x5.types.length:Int))) (
     some (.inr (.inr (14,s4)))) (
     AJ (aFr s0 s4 0) fun o11=>
     CH o11 (fun o12=>
      some (.inl (AA .add .i64 s4 1))) (fun o13=>
      some (.inr (.inr (8,s4)))))))) (
  some (.inr (.inl ())))
def aFp(s0:List Xe)(s4:Int):Option (Unit⊕(Int×Int)):=AQ (fun s:Int=>E2 s0 s) s4
def Xz(a0:List Xe):Option (Int×Int):=
 AE (decide (32<(a0.length:Int))) (
  some (14,32)) (
  AJ (aFp a0 0) fun o14=>
  CH o14 (fun o15=>
   some (0,(-1))) (fun o16=>
   some (o16.1,o16.2)))
def Zn(a0:X0):Option (Bool):=
 AE (decide (a0.kind=1)) (
  AE (decide (a0.str=([]:List UInt8))) (
   some (!a0.bool)) (
   some false)) (
  AE (decide (a0.kind=2)) (
   AE (decide (a0.int=0)) (
    AE (!a0.bool) (
     some (decide ((a0.str.length:Int)<=4096))) (
     some false)) (
    some false)) (
   AE (decide (a0.kind=3)) (
    AE (decide (a0.int=0)) (
     some (decide (a0.str=([]:List UInt8)))) (
     some false)) (
    some false)))
def It(s0:List (List UInt8))(s1 s5:Int):Option ((Int)⊕(Unit⊕Unit)):=
 AE (decide (s5<s1)) (
  AW s0 s5 fun x1=>
  AW s0 s1 fun x2=>
  AE (decide (x1=x2)) (
   some (.inr (.inr ()))) (
   some (.inl (AA .add .i64 s5 1)))) (
  some (.inr (.inl ())))
def aR9(s0:List (List UInt8))(s1 s5:Int):Option (Unit⊕Unit):=AQ (fun s:Int=>It s0 s1 s) s5
def Z5(a0:List (List UInt8))(a1:Int):Option (Bool):=
 AJ (aR9 a0 a1 0) fun o3=>
 CH o3 (fun o4=>
  some false) (fun o5=>
  some true)
def IA(w1:AD)(s4:Int)(w3:List (List UInt8)):Option ((Int×List (List UInt8))⊕((List (List UInt8))⊕Unit)):=
 AE (decide (s4<(w1.quants.length:Int))) (
  AW w1.quants s4 fun x4=>
  AY (fit w3.length [x4.name].length 16) (
   AW w1.quants s4 fun x5=>
   AE (decide (x5.type<1)) (
    some (.inr (.inr ()))) (
    AW w1.quants s4 fun x6=>
    AE (decide (3<x6.type)) (
     some (.inr (.inr ()))) (
     some (.inl ((AA .add .i64 s4 1),w3++[x4.name])))))) (
  some (.inr (.inl w3)))
def aRs(w1:AD)(s4:Int)(w3:List (List UInt8)):Option ((List (List UInt8))⊕Unit):=AQ (fun s:Int×List (List UInt8)=>IA w1 s.1 s.2) (s4,w3)
def IB(w1:AD)(s5:Int)(w3:List (List UInt8)):Option ((Int×List (List UInt8))⊕((List (List UInt8))⊕Unit)):=
 AE (decide (s5<(w1.frees.length:Int))) (
  AW w1.frees s5 fun x10=>
  AY (fit w3.length [x10.name].length 16) (
   AW w1.frees s5 fun x11=>
   AJ (Zn x11.init_) fun r12=>
   AE (!r12) (
    some (.inr (.inr ()))) (
    some (.inl ((AA .add .i64 s5 1),w3++[x10.name]))))) (
  some (.inr (.inl w3)))
def aRt(w1:AD)(s5:Int)(w3:List (List UInt8)):Option ((List (List UInt8))⊕Unit):=AQ (fun s:Int×List (List UInt8)=>IB w1 s.1 s.2) (s5,w3)
def IC(w1:AD)(w3:List (List UInt8))(s6:Int):Option ((Int)⊕(Unit⊕Unit)):=
 AE (decide (s6<(w3.length:Int))) (
  AW w3 s6 fun x16=>
  AJ (Yl x16) fun r17=>
  AE (!r17) (
   some (.inr (.inr ()))) (
   AJ (Z5 w3 s6) fun r18=>
   AE (r18) (
    some (.inr (.inr ()))) (
    some (.inl (AA .add .i64 s6 1))))) (
  some (.inr (.inl ())))
def aRu(w1:AD)(w3:List (List UInt8))(s6:Int):Option (Unit⊕Unit):=AQ (fun s:Int=>IC w1 w3 s) s6
def ID(w1:AD)(s8:Int)(w7:List (List UInt8)):Option ((Int×List (List UInt8))⊕(Unit⊕Unit)):=
 AE (decide (s8<(w1.states.length:Int))) (
  AW w1.states s8 fun x26=>
  AY (fit w7.length [x26.name].length 16) (
   AW (w7++[x26.name]) s8 fun x27=>
   AJ (Yl x27) fun r28=>
   AE (!r28) (
    some (.inr (.inr ()))) (
    AJ (Z5 (w7++[x26.name]) s8) fun r29=>
    AE (r29) (
     some (.inr (.inr ()))) (
     some (.inl ((AA .add .i64 s8 1),w7++[x26.name])))))) (
  some (.inr (.inl ())))
def aRv(w1:AD)(s8:Int)(w7:List (List UInt8)):Option (Unit⊕Unit):=AQ (fun s:Int×List (List UInt8)=>ID w1 s.1 s.2) (s8,w7)
def Xi(a0:AD):Option (Bool):=
 AJ (aRs a0 0 ([]:List (List UInt8))) fun o7=>
 CH o7 (fun o8=>
  AJ (aRt a0 0 o8) fun o13=>
  CH o13 (fun o14=>
   AJ (aRu a0 o14 0) fun o19=>
   CH o19 (fun o20=>
    AJ (aRv a0 0 ([]:List (List UInt8))) fun o30=>
    CH o30 (fun o31=>
     AJ (Yl a0.name) fun r33=>
     some r33) (fun o32=>
     some false)) (fun o21=>
    some false)) (fun o15=>
   some false)) (fun o9=>
  some false)
def Zm(a0:Bool):Option (X0×Int):=
 some (X0.mk 3 0 ([]:List UInt8) a0,0)
def Qm(a0 a1:Int):Option (Int×Bool):=
 AE (decide (0<a1)) (
  AE (decide ((AA .sub .i64 9223372036854775807 a1)<a0)) (
   some (0,false)) (
   AE (decide (a1<0)) (
    AE (decide (a0<(AA .sub .i64 (-9223372036854775808) a1))) (
     some (0,false)) (
     some ((AA .add .i64 a0 a1),true))) (
    some ((AA .add .i64 a0 a1),true)))) (
  AE (decide (a1<0)) (
   AE (decide (a0<(AA .sub .i64 (-9223372036854775808) a1))) (
    some (0,false)) (
    some ((AA .add .i64 a0 a1),true))) (
   some ((AA .add .i64 a0 a1),true)))
def Zx(a0:Int)(a1:Bool):Option (X0×Int):=
 AE (!a1) (
  some (X0.mk 0 0 ([]:List UInt8) false,6)) (
  some (X0.mk 1 a0 ([]:List UInt8) false,0))
def Zt(a0 a1:Int):Option (Int×Bool):=
 AE (decide (a1<0)) (
  AE (decide ((AA .add .i64 9223372036854775807 a1)<a0)) (
   some (0,false)) (
   AE (decide (0<a1)) (
    AE (decide (a0<(AA .add .i64 (-9223372036854775808) a1))) (
     some (0,false)) (
     some ((AA .sub .i64 a0 a1),true))) (
    some ((AA .sub .i64 a0 a1),true)))) (
  AE (decide (0<a1)) (
   AE (decide (a0<(AA .add .i64 (-9223372036854775808) a1))) (
    some (0,false)) (
    some ((AA .sub .i64 a0 a1),true))) (
   some ((AA .sub .i64 a0 a1),true)))
def Qn(a0 a1:Int):Option (Int×Bool):=
 AE (decide (a0=0)) (
  some (0,true)) (
  AE (decide (a1=0)) (
   some (0,true)) (
   AE (decide (a0=(-1))) (
    AJ (Zt 0 a1) fun r1=>
    some (r1.1,r1.2)) (
    AE (decide (a1=(-1))) (
     AJ (Zt 0 a0) fun r2=>
     some (r2.1,r2.2)) (
     AE (decide (0<a0)) (
      AE (decide (0<a1)) (
       AY (a1≠0) (
        AE (decide ((AA .quo .i64 9223372036854775807 a1)<a0)) (
         some (0,false)) (
         AE (decide (a1<0)) (
          AY (a0≠0) (
           AE (decide (a1<(AA .quo .i64 (-9223372036854775808) a0))) (
            some (0,false)) (
            AE (decide (a0<0)) (
             AY (a1≠0) (
              AE (decide (a0<(AA .quo .i64 (-9223372036854775808) a1))) (
               some (0,false)) (
               AY (a1≠0) (
                AE (decide (a0<(AA .quo .i64 9223372036854775807 a1))) (
                 some (0,false)) (
                 some ((AA .mul .i64 a0 a1),true)))))) (
             some ((AA .mul .i64 a0 a1),true))))) (
          AE (decide (a0<0)) (
           AY (a1≠0) (
            AE (decide (a0<(AA .quo .i64 (-9223372036854775808) a1))) (
             some (0,false)) (
             some ((AA .mul .i64 a0 a1),true)))) (
           some ((AA .mul .i64 a0 a1),true)))))) (
       AE (decide (a1<0)) (
        AY (a0≠0) (
         AE (decide (a1<(AA .quo .i64 (-9223372036854775808) a0))) (
          some (0,false)) (
          AE (decide (a0<0)) (
           AY (a1≠0) (
            AE (decide (a0<(AA .quo .i64 9223372036854775807 a1))) (
             some (0,false)) (
             some ((AA .mul .i64 a0 a1),true)))) (
           some ((AA .mul .i64 a0 a1),true))))) (
        AE (decide (a0<0)) (
         some ((AA .mul .i64 a0 a1),true)) (
         some ((AA .mul .i64 a0 a1),true))))) (
      AE (decide (a0<0)) (
       AE (decide (0<a1)) (
        AY (a1≠0) (
         AE (decide (a0<(AA .quo .i64 (-9223372036854775808) a1))) (
          some (0,false)) (
          AE (decide (a1<0)) (
           AY (a1≠0) (
            AE (decide (a0<(AA .quo .i64 9223372036854775807 a1))) (
             some (0,false)) (
             some ((AA .mul .i64 a0 a1),true)))) (
           some ((AA .mul .i64 a0 a1),true))))) (
        AE (decide (a1<0)) (
         AY (a1≠0) (
          AE (decide (a0<(AA .quo .i64 9223372036854775807 a1))) (
           some (0,false)) (
           some ((AA .mul .i64 a0 a1),true)))) (
         some ((AA .mul .i64 a0 a1),true)))) (
       some ((AA .mul .i64 a0 a1),true)))))))
def Qo(a0 a1:Int):Option (Int×Int×Int):=
 AE (decide (a1=0)) (
  some (0,0,7)) (
  AE (decide (a1=(-1))) (
   AJ (Zt 0 a0) fun r1=>
   AE (!r1.2) (
    some (0,0,6)) (
    some (r1.1,0,0))) (
   AY (a1≠0) (
    AY (a1≠0) (
     some ((AA .quo .i64 a0 a1),(AA .rem .i64 a0 a1),0)))))
def Zu(a0 a1 a2:Int):Option (X0×Int):=
 AE (decide (a0=8)) (
  AJ (Qm a1 a2) fun r1=>
  AJ (Zx r1.1 r1.2) fun r2=>
  some (r2.1,r2.2)) (
  AE (decide (a0=9)) (
   AJ (Zt a1 a2) fun r3=>
   AJ (Zx r3.1 r3.2) fun r4=>
   some (r4.1,r4.2)) (
   AE (decide (a0=10)) (
    AJ (Qn a1 a2) fun r5=>
    AJ (Zx r5.1 r5.2) fun r6=>
    some (r6.1,r6.2)) (
    AJ (Qo a1 a2) fun r7=>
    AE (decide (r7.2.2=7)) (
     some (X0.mk 0 0 ([]:List UInt8) false,7)) (
     AE (decide (a0=12)) (
      some (X0.mk 1 r7.2.1 ([]:List UInt8) false,0)) (
      AJ (Zx r7.1 (decide (r7.2.2=0))) fun r8=>
      some (r8.1,r8.2))))))
def Gv(s0 s1:List UInt8)(s5:Int):Option ((Int)⊕(Unit⊕Bool)):=
 AE (decide (s5<(s0.length:Int))) (
  AE (decide (s5<(s1.length:Int))) (
   AW s0 s5 fun x1=>
   AW s1 s5 fun x2=>
   AE (!decide ((x1.toNat:Int)=(x2.toNat:Int))) (
    AW s0 s5 fun x3=>
    AW s1 s5 fun x4=>
    some (.inr (.inr (decide ((x3.toNat:Int)<(x4.toNat:Int)))))) (
    some (.inl (AA .add .i64 s5 1)))) (
   some (.inr (.inl ())))) (
  some (.inr (.inl ())))
def aH0(s0 s1:List UInt8)(s5:Int):Option (Unit⊕Bool):=AQ (fun s:Int=>Gv s0 s1 s) s5
def Yp(a0 a1:List UInt8):Option (Bool):=
 AJ (aH0 a0 a1 0) fun o5=>
 CH o5 (fun o6=>
  some (decide ((a0.length:Int)<(a1.length:Int)))) (fun o7=>
  some o7)
def Zp(a0 a1:X0):Option (Bool):=
 AE (!decide (a0.kind=a1.kind)) (
  some (decide (a0.kind<a1.kind))) (
  AE (decide (a0.kind=1)) (
   some (decide (a0.int<a1.int))) (
   AE (decide (a0.kind=2)) (
    AJ (Yp a0.str a1.str) fun r1=>
    some r1) (
    AE (!a0.bool) (
     some a1.bool) (
     some false))))
def Qd(a0:Int)(a1 a2:X0):Option (X0×Int):=
 AE (decide (a0<4)) (
  some (X0.mk 0 0 ([]:List UInt8) false,1)) (
  AE (decide (16<a0)) (
   some (X0.mk 0 0 ([]:List UInt8) false,1)) (
   AE (decide (a0=4)) (
    AE (!decide (a1.kind=3)) (
     some (X0.mk 0 0 ([]:List UInt8) false,8)) (
     AJ (Zm (!a1.bool)) fun r1=>
     some (r1.1,r1.2))) (
    AE (decide (a0=5)) (
     AE (!decide (a1.kind=1)) (
      some (X0.mk 0 0 ([]:List UInt8) false,8)) (
      AJ (Zu 9 0 a1.int) fun r2=>
      some (r2.1,r2.2))) (
     AE (!decide (a1.kind=a2.kind)) (
      some (X0.mk 0 0 ([]:List UInt8) false,8)) (
      AE (decide (a0=13)) (
       AJ (Zm (X0.eqb a1 a2)) fun r3=>
       some (r3.1,r3.2)) (
       AE (decide (a0=14)) (
        AJ (Zm (!(X0.eqb a1 a2))) fun r4=>
        some (r4.1,r4.2)) (
        AE (decide (a1.kind=3)) (
         AE (decide (a0=6)) (
          AE (a1.bool) (
           AJ (Zm a2.bool) fun r5=>
           some (r5.1,r5.2)) (
           AJ (Zm false) fun r6=>
           some (r6.1,r6.2))) (
          AE (decide (a0=7)) (
           AE (a1.bool) (
            AJ (Zm true) fun r7=>
            some (r7.1,r7.2)) (
            AJ (Zm a2.bool) fun r8=>
            some (r8.1,r8.2))) (
           some (X0.mk 0 0 ([]:List UInt8) false,8)))) (
         AE (decide (a0=15)) (
          AJ (Zp a1 a2) fun r9=>
          AJ (Zm r9) fun r10=>
          some (r10.1,r10.2)) (
          AE (decide (a0=16)) (
           AJ (Zp a2 a1) fun r11=>
           AJ (Zm (!r11)) fun r12=>
           some (r12.1,r12.2)) (
           AE (decide (a1.kind=1)) (
            AE (decide (8<=a0)) (
             AE (decide (a0<=12)) (
              AJ (Zu a0 a1.int a2.int) fun r13=>
              some (r13.1,r13.2)) (
              AE (decide (a1.kind=2)) (
               AE (decide (a0=8)) (
                AE (decide (4096<(AA .add .i64 (a1.str.length:Int) (a2.str.length:Int)))) (
                 some (X0.mk 0 0 ([]:List UInt8) false,3)) (
                 AY (a1.str.length+a2.str.length<=9223372036854775807) (
                  some (X0.mk 2 0 (a1.str++a2.str) false,0)))) (
                some (X0.mk 0 0 ([]:List UInt8) false,8))) (
               some (X0.mk 0 0 ([]:List UInt8) false,8)))) (
             AE (decide (a1.kind=2)) (
              AE (decide (a0=8)) (
               AE (decide (4096<(AA .add .i64 (a1.str.length:Int) (a2.str.length:Int)))) (
                some (X0.mk 0 0 ([]:List UInt8) false,3)) (
                AY (a1.str.length+a2.str.length<=9223372036854775807) (
                 some (X0.mk 2 0 (a1.str++a2.str) false,0)))) (
               some (X0.mk 0 0 ([]:List UInt8) false,8))) (
              some (X0.mk 0 0 ([]:List UInt8) false,8)))) (
            AE (decide (a1.kind=2)) (
             AE (decide (a0=8)) (
              AE (decide (4096<(AA .add .i64 (a1.str.length:Int) (a2.str.length:Int)))) (
               some (X0.mk 0 0 ([]:List UInt8) false,3)) (
               AY (a1.str.length+a2.str.length<=9223372036854775807) (
                some (X0.mk 2 0 (a1.str++a2.str) false,0)))) (
              some (X0.mk 0 0 ([]:List UInt8) false,8))) (
             some (X0.mk 0 0 ([]:List UInt8) false,8)))))))))))))
def Zy(a0 a1 a2:Int):Option (Int):=
 AE (decide (a1<1)) (
  some 0) (
  AE (!decide (a1=a2)) (
   some 0) (
   AJ (Qd a0 (X0.mk a1 0 ([]:List UInt8) false) (X0.mk a2 0 ([]:List UInt8) false)) fun r1=>
   AE (decide (r1.2=7)) (
    some 1) (
    AE (!decide (r1.2=0)) (
     some 0) (
     some r1.1.kind))))
def aN9(self:AD->Int->Option (Int×Int×Int))(a0:AD)(a1:Int):Option (Int×Int×Int):=
 AE (decide (a1<0)) (
  some (0,0,0)) (
  AE (decide ((a0.nodes.length:Int)<=a1)) (
   some (0,0,0)) (
   AW a0.nodes a1 fun x1=>
   AE (decide (x1.op=1)) (
    AE (!decide (x1.a=0)) (
     some (0,0,0)) (
     AE (!decide (x1.b=0)) (
      some (0,0,0)) (
      AJ (Zn x1.value) fun r2=>
      AE (!r2) (
       some (0,0,0)) (
       some (x1.value.kind,1,a1))))) (
    AE (!(X0.eqb x1.value (X0.mk 0 0 ([]:List UInt8) false))) (
     some (0,0,0)) (
     AE (decide (x1.op=2)) (
      AE (decide (x1.a<0)) (
       some (0,0,0)) (
       AE (decide ((a0.quants.length:Int)<=x1.a)) (
        some (0,0,0)) (
        AE (!decide (x1.b=0)) (
         some (0,0,0)) (
         AW a0.quants x1.a fun x3=>
         some (x3.type,1,a1))))) (
      AE (decide (x1.op=3)) (
       AE (decide (x1.a<0)) (
        some (0,0,0)) (
        AE (decide ((a0.frees.length:Int)<=x1.a)) (
         some (0,0,0)) (
         AE (!decide (x1.b=0)) (
          some (0,0,0)) (
          AW a0.frees x1.a fun x4=>
          some (x4.init_.kind,1,a1))))) (
       AE (decide (x1.op<4)) (
        some (0,0,0)) (
        AE (decide (16<x1.op)) (
         some (0,0,0)) (
         AJ (self a0 (AA .sub .i64 a1 1)) fun r5=>
         AE (decide (x1.op<=5)) (
          AE (decide (r5.1=0)) (
           some (0,0,0)) (
           AE (!decide (x1.a=(AA .sub .i64 a1 1))) (
            some (0,0,0)) (
            AE (!decide (x1.b=0)) (
             some (0,0,0)) (
             AJ (Zy x1.op r5.1 r5.1) fun r6=>
             some (r6,(AA .add .i64 r5.2.1 1),r5.2.2))))) (
          AE (decide (r5.1=0)) (
           some (0,0,0)) (
           AE (!decide (x1.b=(AA .sub .i64 a1 1))) (
            some (0,0,0)) (
            AE (!decide (x1.a=(AA .sub .i64 r5.2.2 1))) (
             some (0,0,0)) (
             AJ (self a0 (AA .sub .i64 r5.2.2 1)) fun r7=>
             AJ (Zy x1.op r7.1 r5.1) fun r8=>
             some (r8,(AA .add .i64 (aTw r5.2.1 r7.2.1) 1),r7.2.2)))))))))))))
def aLa:Nat->AD->Int->Option (Int×Int×Int)
 |0=>fun _ _=>none
 |n+1=>fun a0 a1=>aN9 (aLa n) a0 a1
def Yy(a0:AD)(a1:Int):Option (Int×Int×Int):=aLa 100000 a0 a1
def Q7(a0:AD)(a1 a2:Int):Option (Int×Int):=
 AJ (Yy a0 a2) fun r1=>
 AE (decide (r1.1=0)) (
  some (0,0)) (
  AE (!decide (r1.2.2=a1)) (
   some (0,0)) (
   some (r1.1,r1.2.1)))
def In(s1:Int)(w2:X3)(s5:Int):Option ((Int)⊕(Unit⊕Unit)):=
 AE (decide (s5<(w2.args.length:Int))) (
  AW w2.args s5 fun x1=>
  AE (decide (x1.kind=2)) (
   AW w2.args s5 fun x2=>
   AE (decide (x2.n=s1)) (
    some (.inr (.inr ()))) (
    some (.inl (AA .add .i64 s5 1)))) (
   some (.inl (AA .add .i64 s5 1)))) (
  some (.inr (.inl ())))
def aN7(s1:Int)(w2:X3)(s5:Int):Option (Unit⊕Unit):=AQ (fun s:Int=>In s1 w2 s) s5
def Yv(a0:X3)(a1:Int):Option (Bool):=
 AJ (aN7 a1 a0 0) fun o3=>
 CH o3 (fun o4=>
  some false) (fun o5=>
  some true)
def Iw(s3:Int)(w4:AD)(w5:X3)(s9:Int):Option ((Int)⊕(Unit⊕Unit)):=
 AE (decide (s9<s3)) (
  AW w4.nodes s9 fun x1=>
  AE (decide (x1.op=2)) (
   AW w4.nodes s9 fun x2=>
   AJ (Yv w5 x2.a) fun r3=>
   AE (!r3) (
    some (.inr (.inr ()))) (
    some (.inl (AA .add .i64 s9 1)))) (
   some (.inl (AA .add .i64 s9 1)))) (
  some (.inr (.inl ())))
def aOj(s3:Int)(w4:AD)(w5:X3)(s9:Int):Option (Unit⊕Unit):=AQ (fun s:Int=>Iw s3 w4 w5 s) s9
def Za(a0:AD)(a1:X3)(a2 a3:Int):Option (Bool):=
 AJ (aOj a3 a0 a1 a2) fun o4=>
 CH o4 (fun o5=>
  some true) (fun o6=>
  some false)
def Uy(s2 s8:Int)(s56:Bool)(w3:AD)(w4:Xd):Option (Int⊕Unit):=
 AE (s56) (
  AJ (Q7 w3 s8 w4.guard) fun r1=>
  AE (!decide (r1.1=3)) (
   some (.inr ())) (
   AE (decide (64<r1.2)) (
    some (.inr ())) (
    some (.inl (AA .add .i64 w4.guard 1))))) (
  some (.inl s8))
def IS(s2 s11:Int)(w3:AD)(w4:Xd)(w12:Fi)(s15:Int):Option ((Int)⊕(Unit⊕Unit)):=
 AE (decide (s15<s11)) (
  AW w4.sets s15 fun x8=>
  AE (decide (x8.free=w12.free)) (
   some (.inr (.inr ()))) (
   some (.inl (AA .add .i64 s15 1)))) (
  some (.inr (.inl ())))
def aNp(s2 s11:Int)(w3:AD)(w4:Xd)(w12:Fi)(s15:Int):Option (Unit⊕Unit):=AQ (fun s:Int=>IS s2 s11 w3 w4 w12 s) s15
def IR(s2:Int)(w3:AD)(w4:Xd)(s8 s11:Int):Option ((Int×Int)⊕(Int⊕Unit)):=
 AE (decide (s11<(w4.sets.length:Int))) (
  AW w4.sets s11 fun x5=>
  AJ (Q7 w3 s8 x5.expr) fun r6=>
  AE (decide (x5.free<0)) (
   some (.inr (.inr ()))) (
   AE (decide ((w3.frees.length:Int)<=x5.free)) (
    some (.inr (.inr ()))) (
    AE (decide (r6.1=0)) (
     some (.inr (.inr ()))) (
     AE (decide (64<r6.2)) (
      some (.inr (.inr ()))) (
      AW w3.frees x5.free fun x7=>
      AE (!decide (r6.1=x7.init_.kind)) (
       some (.inr (.inr ()))) (
       AJ (aNp s2 s11 w3 w4 x5 0) fun o9=>
       CH o9 (fun o10=>
        some (.inl ((AA .add .i64 x5.expr 1),(AA .add .i64 s11 1)))) (fun o11=>
        some (.inr (.inr ()))))))))) (
  some (.inr (.inl s8)))
def aNo(s2:Int)(w3:AD)(w4:Xd)(s8 s11:Int):Option (Int⊕Unit):=AQ (fun s:Int×Int=>IR s2 w3 w4 s.1 s.2) (s8,s11)
def Y0(a0:AD)(a1:Xd)(a2:Int):Option (Int×Bool):=
 AE (decide (a1.from_<0)) (
  some (0,false)) (
  AE (decide ((a0.states.length:Int)<=a1.from_)) (
   some (0,false)) (
   AE (decide (a1.to<0)) (
    some (0,false)) (
    AE (decide ((a0.states.length:Int)<=a1.to)) (
     some (0,false)) (
     AE (decide (a1.symbol<0)) (
      some (0,false)) (
      AE (decide ((a0.symbols.length:Int)<=a1.symbol)) (
       some (0,false)) (
       AJ (Uy a2 a2 (!decide (a1.guard=(-1))) a0 a1) fun o2=>
       CH o2 (fun o3=>
        AJ (aNo a2 a0 a1 o3 0) fun o12=>
        CH o12 (fun o13=>
         AW a0.symbols a1.symbol fun x15=>
         AJ (Za a0 x15 a2 o13) fun r16=>
         some (o13,r16)) (fun o14=>
         some (0,false))) (fun o4=>
        some (0,false))))))))
def Qe(a0:AD)(a1:BW)(a2:Int):Option (Bool):=
 AE (decide (a1.kind=1)) (
  AE (decide (a1.n=0)) (
   AJ (Zn a1.value) fun r1=>
   AE (r1) (
    some (decide (a1.value.kind=a2))) (
    some false)) (
   some false)) (
  AE (!(X0.eqb a1.value (X0.mk 0 0 ([]:List UInt8) false))) (
   some false) (
   AE (decide (a1.kind=2)) (
    AE (decide (0<=a1.n)) (
     AE (decide (a1.n<(a0.quants.length:Int))) (
      AW a0.quants a1.n fun x2=>
      some (decide (x2.type=a2))) (
      some false)) (
     some false)) (
    AE (decide (a1.kind=3)) (
     AE (decide (0<=a1.n)) (
      AE (decide (a1.n<(a0.frees.length:Int))) (
       AW a0.frees a1.n fun x3=>
       some (decide (x3.init_.kind=a2))) (
       some false)) (
      some false)) (
     AE (decide (a1.kind=4)) (
      some (decide (a1.n=0))) (
      some false)))))
def Iu(w2:AD)(w3:X3)(s5:Int):Option ((Int)⊕(Unit⊕Unit)):=
 AE (decide (s5<(w3.args.length:Int))) (
  AW w3.args s5 fun x2=>
  AW w2.decls w3.event fun x3=>
  AW x3.types s5 fun x4=>
  AJ (Qe w2 x2 x4) fun r5=>
  AE (!r5) (
   some (.inr (.inr ()))) (
   some (.inl (AA .add .i64 s5 1)))) (
  some (.inr (.inl ())))
def aSb(w2:AD)(w3:X3)(s5:Int):Option (Unit⊕Unit):=AQ (fun s:Int=>Iu w2 w3 s) s5
def Z6(a0:AD)(a1:X3):Option (Bool):=
 AE (decide (a1.event<0)) (
  some false) (
  AE (decide ((a0.decls.length:Int)<=a1.event)) (
   some false) (
   AW a0.decls a1.event fun x1=>
   AE (!decide ((a1.args.length:Int)=(x1.types.length:Int))) (
    some false) (
    AJ (aSb a0 a1 0) fun o6=>
    CH o6 (fun o7=>
     some true) (fun o8=>
     some false))))
def I2(w2 w3:X3)(s5:Int):Option ((Int)⊕(Unit⊕Unit)):=
 AE (decide (s5<(w2.args.length:Int))) (
  AW w2.args s5 fun x1=>
  AW w3.args s5 fun x2=>
  AE (!(BW.eqb x1 x2)) (
   some (.inr (.inr ()))) (
   some (.inl (AA .add .i64 s5 1)))) (
  some (.inr (.inl ())))
def aSc(w2 w3:X3)(s5:Int):Option (Unit⊕Unit):=AQ (fun s:Int=>I2 w2 w3 s) s5
def Zg(a0 a1:X3):Option (Bool):=
 AE (!decide (a0.event=a1.event)) (
  some false) (
  AE (!decide ((a0.args.length:Int)=(a1.args.length:Int))) (
   some false) (
   AJ (aSc a0 a1 0) fun o3=>
   CH o3 (fun o4=>
    some true) (fun o5=>
    some false)))
def Sb(s5 s6:Int)(s34:Bool)(w1:AD)(w3:List Bool)(w4:List Int):Option ((List Int)):=
 AE (s34) (
  AY (fit w4.length [s6].length 8) (
   some (w4++[s6]))) (
  some w4)
def aCl(s5:Int)(w1:AD)(w3:List Bool)(w4:List Int):Option ((List Bool×List Int)):=
 AW w1.trans s5 fun x5=>
 AY (0<=x5.symbol/\x5.symbol+1<=(w3.length:Int)) (
  AW w3 x5.symbol fun x6=>
  AJ (Sb s5 x5.symbol (!x6) w1 w3 w4) fun o7=>
  AY (0<=x5.symbol/\x5.symbol+1<=(w3.length:Int)) (
   AY (0<=x5.symbol/\x5.symbol+1<=(w3.length:Int)) (
    some (w3.set x5.symbol.toNat true,o7))))
def Hn(w1:AD)(s5:Int)(w3:List Bool)(w4:List Int):Option ((Int×List Bool×List Int)⊕((List Int))):=
 AE (decide (s5<(w1.trans.length:Int))) (
  AJ (aCl s5 w1 w3 w4) fun o8=>
  some (.inl ((AA .add .i64 s5 1),o8.1,o8.2))) (
  some (.inr w4))
def aRm(w1:AD)(s5:Int)(w3:List Bool)(w4:List Int):Option ((List Int)):=AQ (fun s:Int×List Bool×List Int=>Hn w1 s.1 s.2.1 s.2.2) (s5,w3,w4)
def Ho(w1:AD)(w4:List Int)(s7:Int):Option ((Int)⊕(Unit⊕Unit)):=
 AE (decide (s7<(w4.length:Int))) (
  AW w4 s7 fun x10=>
  AE (!decide (x10=(AA .add .i64 (AA .sub .i64 (w1.symbols.length:Int) (w4.length:Int)) s7))) (
   some (.inr (.inr ()))) (
   some (.inl (AA .add .i64 s7 1)))) (
  some (.inr (.inl ())))
def aRn(w1:AD)(w4:List Int)(s7:Int):Option (Unit⊕Unit):=AQ (fun s:Int=>Ho w1 w4 s) s7
def Hr(s8:Int)(w1:AD)(s9:Int):Option ((Int)⊕(Unit⊕Unit)):=
 AE (decide (s9<s8)) (
  AW w1.symbols s8 fun x16=>
  AW w1.symbols s9 fun x17=>
  AJ (Zg x16 x17) fun r18=>
  AE (r18) (
   some (.inr (.inr ()))) (
   some (.inl (AA .add .i64 s9 1)))) (
  some (.inr (.inl ())))
def aMr(s8:Int)(w1:AD)(s9:Int):Option (Unit⊕Unit):=AQ (fun s:Int=>Hr s8 w1 s) s9
def Hq(w1:AD)(s8:Int):Option ((Int)⊕(Unit⊕Unit)):=
 AE (decide (s8<(w1.symbols.length:Int))) (
  AW w1.symbols s8 fun x14=>
  AJ (Z6 w1 x14) fun r15=>
  AE (!r15) (
   some (.inr (.inr ()))) (
   AJ (aMr s8 w1 0) fun o19=>
   CH o19 (fun o20=>
    some (.inl (AA .add .i64 s8 1))) (fun o21=>
    some (.inr (.inr ()))))) (
  some (.inr (.inl ())))
def aRo(w1:AD)(s8:Int):Option (Unit⊕Unit):=AQ (fun s:Int=>Hq w1 s) s8
def FE(s10:Int)(w1:AD)(s11:Bool)(s12:Int):Option ((Bool×Int)⊕(Bool)):=
 AE (decide (s12<(w1.symbols.length:Int))) (
  AE (s11) (
   some (.inl (true,(AA .add .i64 s12 1)))) (
   AW w1.symbols s12 fun x25=>
   AJ (Yv x25 s10) fun r26=>
   some (.inl (r26,(AA .add .i64 s12 1))))) (
  some (.inr s11))
def Sc(s10:Int)(w1:AD)(s11:Bool)(s12:Int):Option (Bool):=AQ (fun s:Bool×Int=>FE s10 w1 s.1 s.2) (s11,s12)
def Hs(w1:AD)(s10:Int):Option ((Int)⊕(Unit⊕Unit)):=
 AE (decide (s10<(w1.quants.length:Int))) (
  AJ (Sc s10 w1 false 0) fun o27=>
  AE (!o27) (
   some (.inr (.inr ()))) (
   some (.inl (AA .add .i64 s10 1)))) (
  some (.inr (.inl ())))
def aRp(w1:AD)(s10:Int):Option (Unit⊕Unit):=AQ (fun s:Int=>Hs w1 s) s10
def X7(a0:AD):Option (Bool):=
 AY (0<=(a0.symbols.length:Int)/\fit 0 (a0.symbols.length:Int).toNat 1) (
  AJ (aRm a0 0 (List.replicate (a0.symbols.length:Int).toNat false) ([]:List Int)) fun o9=>
  AJ (aRn a0 o9 0) fun o11=>
  CH o11 (fun o12=>
   AJ (aRo a0 0) fun o22=>
   CH o22 (fun o23=>
    AJ (aRp a0 0) fun o28=>
    CH o28 (fun o29=>
     some true) (fun o30=>
     some false)) (fun o24=>
    some false)) (fun o13=>
   some false))
def Ik(w1:AD)(s5 s6:Int):Option ((Int×Int)⊕(Int⊕Unit)):=
 AE (decide (s6<(w1.trans.length:Int))) (
  AW w1.trans s6 fun x3=>
  AJ (Y0 w1 x3 s5) fun r4=>
  AE (!r4.2) (
   some (.inr (.inr ()))) (
   some (.inl (r4.1,(AA .add .i64 s6 1))))) (
  some (.inr (.inl s5)))
def aR5(w1:AD)(s5 s6:Int):Option (Int⊕Unit):=AQ (fun s:Int×Int=>Ik w1 s.1 s.2) (s5,s6)
def Yq(a0:AD):Option (Bool):=
 AJ (Xz a0.decls) fun r1=>
 AE (!decide (r1.1=0)) (
  some false) (
  AE (decide (8<(a0.quants.length:Int))) (
   some false) (
   AE (decide (16<(a0.frees.length:Int))) (
    some false) (
    AE (decide (32<(a0.states.length:Int))) (
     some false) (
     AE (decide (64<(a0.symbols.length:Int))) (
      some false) (
      AE (decide (2048<(a0.nodes.length:Int))) (
       some false) (
       AE (decide (256<(a0.trans.length:Int))) (
        some false) (
        AE (decide (a0.start<0)) (
         some false) (
         AE (decide ((a0.states.length:Int)<=a0.start)) (
          some false) (
          AJ (Xi a0) fun r2=>
          AE (!r2) (
           some false) (
           AJ (aR5 a0 0 0) fun o5=>
           CH o5 (fun o6=>
            AE (decide (o6=(a0.nodes.length:Int))) (
             AJ (X7 a0) fun r8=>
             some r8) (
             some false)) (fun o7=>
            some false)))))))))))
def Ix(w1:AD)(s3:Int):Option ((Int)⊕(Unit⊕Unit)):=
 AE (decide (s3<(w1.decls.length:Int))) (
  AW w1.decls s3 fun x3=>
  AE (decide (3<(x3.types.length:Int))) (
   some (.inr (.inr ()))) (
   some (.inl (AA .add .i64 s3 1)))) (
  some (.inr (.inl ())))
def aOk(w1:AD)(s3:Int):Option (Unit⊕Unit):=AQ (fun s:Int=>Ix w1 s) s3
def Zb(a0:AD):Option (Bool):=
 AJ (Xa a0) fun r1=>
 AE (decide (r1=0)) (
  some false) (
  AJ (Yq a0) fun r2=>
  AE (!r2) (
   some false) (
   AJ (aOk a0 0) fun o4=>
   CH o4 (fun o5=>
    some true) (fun o6=>
    some false)))
def Ip(w1:AD)(s3:Int):Option ((Int)⊕(Unit⊕Unit)):=
 AE (decide (s3<(w1.trans.length:Int))) (
  AW w1.trans s3 fun x1=>
  AE (!decide (x1.guard=(-1))) (
   some (.inr (.inr ()))) (
   some (.inl (AA .add .i64 s3 1)))) (
  some (.inr (.inl ())))
def aOb(w1:AD)(s3:Int):Option (Unit⊕Unit):=AQ (fun s:Int=>Ip w1 s) s3
def Yz(a0:AD):Option (Bool):=
 AE (decide (0<(a0.frees.length:Int))) (
  some false) (
  AE (decide (1<(a0.quants.length:Int))) (
   some false) (
   AE (decide (8<(a0.states.length:Int))) (
    some false) (
    AE (decide (8<(a0.symbols.length:Int))) (
     some false) (
     AJ (aOb a0 0) fun o2=>
     CH o2 (fun o3=>
      some true) (fun o4=>
      some false)))))
def Iy(s0:List X2)(s3:Int):Option ((Int)⊕(Unit⊕Unit)):=
 AE (decide (s3<(s0.length:Int))) (
  AW s0 s3 fun x1=>
  AE (decide (x1.var<0)) (
   some (.inr (.inr ()))) (
   AW s0 s3 fun x2=>
   AE (decide (7<x2.var)) (
    some (.inr (.inr ()))) (
    AW s0 s3 fun x3=>
    AJ (Zn x3.value) fun r4=>
    AE (!r4) (
     some (.inr (.inr ()))) (
     AE (decide (0<s3)) (
      AW s0 s3 fun x5=>
      AW s0 (AA .sub .i64 s3 1) fun x6=>
      AE (decide (x5.var<=x6.var)) (
       some (.inr (.inr ()))) (
       some (.inl (AA .add .i64 s3 1)))) (
      some (.inl (AA .add .i64 s3 1))))))) (
  some (.inr (.inl ())))
def aOl(s0:List X2)(s3:Int):Option (Unit⊕Unit):=AQ (fun s:Int=>Iy s0 s) s3
def Zc(a0:List X2):Option (Bool):=
 AJ (aOl a0 0) fun o7=>
 CH o7 (fun o8=>
  some true) (fun o9=>
  some false)
def Qf(a0:AD)(a1:List X2):Option (Bool):=
 AE (decide ((a1.length:Int)=0)) (
  some true) (
  AE (decide ((a1.length:Int)=1)) (
   AE (decide ((a0.quants.length:Int)=1)) (
    AW a1 0 fun x1=>
    AE (decide (x1.var=0)) (
     AW a1 0 fun x2=>
     AW a0.quants 0 fun x3=>
     AE (decide (x2.value.kind=x3.type)) (
      AJ (Zc a1) fun r4=>
      some r4) (
      some false)) (
     some false)) (
    some false)) (
   some false))
def Qp(a0:AD)(a1:List X2):Option (Bool):=
 AJ (Zb a0) fun r1=>
 AE (!r1) (
  some false) (
  AJ (Yz a0) fun r2=>
  AE (!r2) (
   some false) (
   AJ (Qf a0 a1) fun r3=>
   AE (!r3) (
    some false) (
    AE (!decide ((a1.length:Int)=(a0.quants.length:Int))) (
     some false) (
     AE (decide ((a1.length:Int)=0)) (
      some true) (
      AW a1 0 fun x4=>
      some (decide ((x4.value.str.length:Int)<=100)))))))
def Gw(s0:List Int)(s1 s7 s8:Int):Option ((Int)⊕(Unit⊕Int)):=
 AE (decide (s8<s7)) (
  AW s0 s8 fun x1=>
  AE (decide (s1=x1)) (
   some (.inr (.inr s8))) (
   some (.inl (AA .add .i64 s8 1)))) (
  some (.inr (.inl ())))
def aH7(s0:List Int)(s1 s7 s8:Int):Option (Unit⊕Int):=AQ (fun s:Int=>Gw s0 s1 s7 s) s8
def Yt(a0:List Int)(a1:Int):Option (Int):=
 AJ (aH7 a0 a1 (a0.length:Int) 0) fun o2=>
 CH o2 (fun o3=>
  some (-1)) (fun o4=>
  some o4)
def Q8(a0:List Int)(a1:Int):Option (Bool):=
 AJ (Yt a0 a1) fun r1=>
 some (decide (0<=r1))
def UT(s6:Int)(s18:List Xd)(s19 s20:Int)(s37:Bool)(w2:AD)(w5:List Int)(w8:Xd):Option ((List Int)):=
 AE (s37) (
  AY (fit w5.length [w8.to].length 8) (
   some (w5++[w8.to]))) (
  some w5)
def aEz(s6:Int)(s18:List Xd)(s19 s20:Int)(w2:AD)(w5:List Int):Option ((List Int)):=
 AW s18 s20 fun x1=>
 AW w5 s6 fun x2=>
 AE (decide (x1.from_=x2)) (
  AJ (Q8 w5 x1.to) fun r3=>
  AJ (UT s6 s18 s19 s20 (!r3) w2 w5 x1) fun o4=>
  some o4) (
  AJ (UT s6 s18 s19 s20 false w2 w5 x1) fun o5=>
  some o5)
def IM(s6:Int)(s18:List Xd)(s19:Int)(w2:AD)(s20:Int)(w5:List Int):Option ((Int×List Int)⊕((List Int))):=
 AE (decide (s20<s19)) (
  AJ (aEz s6 s18 s19 s20 w2 w5) fun o6=>
  some (.inl ((AA .add .i64 s20 1),o6))) (
  some (.inr w5))
def aNi(s6:Int)(s18:List Xd)(s19:Int)(w2:AD)(s20:Int)(w5:List Int):Option ((List Int)):=AQ (fun s:Int×List Int=>IM s6 s18 s19 w2 s.1 s.2) (s20,w5)
def IL(w2:AD)(s6:Int)(w5:List Int):Option ((Int×List Int)⊕((List Int))):=
 AE (decide (s6<(w5.length:Int))) (
  AJ (aNi s6 w2.trans (w2.trans.length:Int) w2 0 w5) fun o7=>
  some (.inl ((AA .add .i64 s6 1),o7))) (
  some (.inr w5))
def aNh(w2:AD)(s6:Int)(w5:List Int):Option ((List Int)):=AQ (fun s:Int×List Int=>IL w2 s.1 s.2) (s6,w5)
def Xt(a0:AD)(a1:Int):Option (List Int):=
 AJ (aNh a0 0 [a1]) fun o8=>
 some o8
def Qq(a0:Int)(a1:AD):Option (Bool):=
 AW a1.states a0 fun x1=>
 AE (!x1.accept) (
  some true) (
  AW a1.states a0 fun x2=>
  some x2.next)
def I3(s0:List Int)(s1:AD)(s7 s8:Int):Option ((Int)⊕(Unit⊕Int)):=
 AE (decide (s8<s7)) (
  AW s0 s8 fun x1=>
  AJ (Qq x1 s1) fun r2=>
  AE (r2) (
   some (.inr (.inr s8))) (
   some (.inl (AA .add .i64 s8 1)))) (
  some (.inr (.inl ())))
def aOo(s0:List Int)(s1:AD)(s7 s8:Int):Option (Unit⊕Int):=AQ (fun s:Int=>I3 s0 s1 s7 s) s8
def Zh(a0:List Int)(a1:AD):Option (Int):=
 AJ (aOo a0 a1 (a0.length:Int) 0) fun o3=>
 CH o3 (fun o4=>
  some (-1)) (fun o5=>
  some o5)
def Qr(a0:List Int)(a1:AD):Option (Bool):=
 AJ (Zh a0 a1) fun r1=>
 some (decide (0<=r1))
def Qs(a0:Int)(a1:AD):Option (Bool):=
 AW a1.states a0 fun x1=>
 some x1.accept
def I4(s0:List Int)(s1:AD)(s7 s8:Int):Option ((Int)⊕(Unit⊕Int)):=
 AE (decide (s8<s7)) (
  AW s0 s8 fun x1=>
  AJ (Qs x1 s1) fun r2=>
  AE (r2) (
   some (.inr (.inr s8))) (
   some (.inl (AA .add .i64 s8 1)))) (
  some (.inr (.inl ())))
def aOp(s0:List Int)(s1:AD)(s7 s8:Int):Option (Unit⊕Int):=AQ (fun s:Int=>I4 s0 s1 s7 s) s8
def Zi(a0:List Int)(a1:AD):Option (Int):=
 AJ (aOp a0 a1 (a0.length:Int) 0) fun o3=>
 CH o3 (fun o4=>
  some (-1)) (fun o5=>
  some o5)
def Qt(a0:List Int)(a1:AD):Option (Bool):=
 AJ (Zi a0 a1) fun r1=>
 some (decide (0<=r1))
def Zo(a0:AD)(a1:Int):Option (Int):=
 AE (decide (a1<0)) (
  some 0) (
  AE (decide ((a0.states.length:Int)<=a1)) (
   some 0) (
   AJ (Xt a0 a1) fun r1=>
   AJ (Qr r1 a0) fun r2=>
   AE (!r2) (
    some 1) (
    AJ (Qt r1 a0) fun r3=>
    AE (!r3) (
     some 2) (
     some 0))))
def aE6(s5:Int)(s8:List Yn)(s9 s10:Int)(s20:Bool)(w2:AD):Option (Int):=
 AE (s20) (
  some 0) (
  some s5)
def Ub(s5:Int)(s8:List Yn)(s9 s10 s17:Int)(s18:Bool)(w2:AD):Option (Int⊕Unit):=
 AE (s18) (
  some (.inr ())) (
  AJ (aE6 s5 s8 s9 s10 (decide (s17=0)) w2) fun o3=>
  some (.inl o3))
def UZ(s5:Int)(s8:List Yn)(s9 s10 s17:Int)(w2:AD):Option (Int⊕Unit):=
 AJ (Ub s5 s8 s9 s10 s17 (decide (s17=1)) w2) fun o4=>
 CH o4 (fun o5=>
  some (.inl o5)) (fun o6=>
  some (.inr ()))
def UY(s5:Int)(s8:List Yn)(s9 s10:Int)(w2:AD):Option (Int⊕Unit):=
 AW s8 s10 fun x1=>
 AJ (Zo w2 x1.state) fun r2=>
 AJ (UZ s5 s8 s9 s10 r2 w2) fun o7=>
 CH o7 (fun o8=>
  some (.inl o8)) (fun o9=>
  some (.inr ()))
def Gq(s8:List Yn)(s9:Int)(w2:AD)(s5 s10:Int):Option ((Int×Int)⊕(Int⊕Unit)):=
 AE (decide (s10<s9)) (
  AJ (UY s5 s8 s9 s10 w2) fun o10=>
  CH o10 (fun o11=>
   some (.inl (o11,(AA .add .i64 s10 1)))) (fun o12=>
   some (.inr (.inr ())))) (
  some (.inr (.inl s5)))
def aNj(s8:List Yn)(s9:Int)(w2:AD)(s5 s10:Int):Option (Int⊕Unit):=AQ (fun s:Int×Int=>Gq s8 s9 w2 s.1 s.2) (s5,s10)
def Xu(a0:AD)(a1:List Yn):Option (Int):=
 AJ (aNj a1 (a1.length:Int) a0 2 0) fun o13=>
 CH o13 (fun o14=>
  some o14) (fun o15=>
  some 1)
def aHh(s1 s5 s6:Int)(s9:List X3)(s10 s11:Int)(s19:Bool):Option (Int):=
 AE (s19) (
  AY (0<=(IntKind.wrap .u64 s6)) (
   some (AA .or .u64 s5 (AA .shl .u64 1 (IntKind.wrap .u64 s6))))) (
  some s5)
def aHf(s1 s5:Int)(s9:List X3)(s10 s11:Int):Option (Int):=
 AW s9 s11 fun x1=>
 AJ (aHh s1 s5 s11 s9 s10 s11 (decide (x1.event=s1))) fun o2=>
 some o2
def Ig(s1:Int)(s9:List X3)(s10 s5 s11:Int):Option ((Int×Int)⊕(Int)):=
 AE (decide (s11<s10)) (
  AJ (aHf s1 s5 s9 s10 s11) fun o3=>
  some (.inl (o3,(AA .add .i64 s11 1)))) (
  some (.inr s5))
def aNz(s1:Int)(s9:List X3)(s10 s5 s11:Int):Option (Int):=AQ (fun s:Int×Int=>Ig s1 s9 s10 s.1 s.2) (s5,s11)
def Yh(a0:AD)(a1:Int):Option (Int):=
 AJ (aNz a1 a0.symbols (a0.symbols.length:Int) 0 0) fun o4=>
 some o4
def U0:Option (Unit):=
 some ()
def Qh(a0:Bool):Option (X0):=
 some (X0.mk 3 0 ([]:List UInt8) a0)
def Zz(a0 a1:X0):Option (Bool):=
 AE (!decide (a0.kind=a1.kind)) (
  some (decide (a0.kind<a1.kind))) (
  AE (decide (a0.kind=1)) (
   some (decide (a0.int<a1.int))) (
   AE (decide (a0.kind=2)) (
    some (Op.bytesLess a0.str a1.str)) (
    AE (!a0.bool) (
     some a1.bool) (
     some false))))
def Q9(a0 a1:X0)(a2:List X0):Option (Int):=
 AJ (Zz a0 a1) fun r1=>
 AE (r1) (
  some (-1)) (
  AJ (Zz a1 a0) fun r2=>
  AE (r2) (
   some 1) (
   some 0))
def VV(s0 s2:List X0)(s8 s9:Int)(s10 s11:Int)(s31:Bool)(w4:X0):Option ((Int×Int)):=
 AE (s31) (
  some ((AA .add .i64 s11 1),s10)) (
  some (s9,s11))
def aGk(s0 s2:List X0)(s8 s9 s10:Int)(w4:X0):Option ((Int×Int)):=
 AW s0 (IntKind.wrap .i64 (AA .shr .u64 (IntKind.wrap .u64 (AA .add .i64 s9 s10)) 1)) fun x1=>
 AJ (Q9 x1 w4 s2) fun r2=>
 AJ (VV s0 s2 s8 s9 s10 (IntKind.wrap .i64 (AA .shr .u64 (IntKind.wrap .u64 (AA .add .i64 s9 s10)) 1)) (decide (r2<0)) w4) fun o3=>
 some (o3.1,o3.2)
def Gu(s0 s2:List X0)(s8:Int)(w4:X0)(s9 s10:Int):Option ((Int×Int)⊕(Int)):=
 AE (decide (s9<s10)) (
  AJ (aGk s0 s2 s8 s9 s10 w4) fun o4=>
  some (.inl (o4.1,o4.2))) (
  some (.inr s9))
def aGn(s0 s2:List X0)(s8:Int)(w4:X0)(s9 s10:Int):Option (Int):=AQ (fun s:Int×Int=>Gu s0 s2 s8 w4 s.1 s.2) (s9,s10)
def Y6(a0:List X0)(a1:X0)(a2:List X0):Option (Int×Bool):=
 AJ (aGn a0 a2 (a0.length:Int) a1 0 (a0.length:Int)) fun o5=>
 AE (decide (o5<(a0.length:Int))) (
  AW a0 o5 fun x6=>
  AJ (Q9 x6 a1 a2) fun r7=>
  some (o5,decide (r7=0))) (
  some (o5,false))
def U8(i:Int)(ys:List X0):Option (List X0):=aTu 40 i ys
def aI7(s5:Int)(s6 s20:Bool)(w3:X0):Option ((List X0)):=
 AE (s20) (
  AJ (U8 s5 [w3]) fun r2=>
  some r2) (
  some ([]:List X0))
def Zs(a1:X0):Option (Bool×List X0):=
 AJ (Y6 ([]:List X0) a1 ([]:List X0)) fun r1=>
 AJ (aI7 r1.1 r1.2 (!r1.2) a1) fun o3=>
 some (!r1.2,o3)
def U1(i:Int)(xs ys:List X0):Option (List X0):=aTt 40 i xs ys
def aI5(s5:Int)(s6 s20:Bool)(w3:X0)(w501:List X0):Option ((List X0)):=
 AE (s20) (
  AJ (U1 s5 w501 [w3]) fun r2=>
  some r2) (
  some w501)
def Zq(a1:X0)(w1:List X0):Option (Bool×List X0):=
 AJ (Y6 w1 a1 w1) fun r1=>
 AJ (aI5 r1.1 r1.2 (!r1.2) a1 w1) fun o3=>
 some (!r1.2,o3)
def U9(l:List X0):Option (List X0):=PY 40 l
def Qi(w1:List X0):Option (List X0×List X0):=
 AJ (U9 w1) fun r1=>
 some (r1,w1)
def T6(s1:Int)(s12:Bool)(w2:AD):Option ((List X0)):=
 AE (s12) (
  AJ (Qh false) fun r2=>
  AJ (Zs r2) fun r3=>
  AJ (Qh true) fun r4=>
  AJ (Zq r4 r3.2) fun r5=>
  some r5.2) (
  some ([]:List X0))
def T7(s1:Int)(s20:List X3)(s21 s22:Int)(s27:List BW)(s28 s29:Int)(s42:Bool)(w9:BW)(w518:List X0):Option ((List X0)):=
 AE (s42) (
  AJ (Zq w9.value w518) fun r9=>
  some r9.2) (
  some w518)
def aEc(s1:Int)(s20:List X3)(s21 s22:Int)(s27:List BW)(s28 s29:Int)(w518:List X0):Option ((List X0)):=
 AW s27 s29 fun x8=>
 AE (decide (x8.kind=1)) (
  AJ (T7 s1 s20 s21 s22 s27 s28 s29 (decide (x8.value.kind=s1)) x8 w518) fun o10=>
  some o10) (
  AJ (T7 s1 s20 s21 s22 s27 s28 s29 false x8 w518) fun o11=>
  some o11)
def IH(s1:Int)(s20:List X3)(s21 s22:Int)(s27:List BW)(s28 s29:Int)(w518:List X0):Option ((Int×List X0)⊕((List X0))):=
 AE (decide (s29<s28)) (
  AJ (aEc s1 s20 s21 s22 s27 s28 s29 w518) fun o12=>
  some (.inl ((AA .add .i64 s29 1),o12))) (
  some (.inr w518))
def aEf(s1:Int)(s20:List X3)(s21 s22:Int)(s27:List BW)(s28 s29:Int)(w518:List X0):Option ((List X0)):=AQ (fun s:Int×List X0=>IH s1 s20 s21 s22 s27 s28 s.1 s.2) (s29,w518)
def IG(s1:Int)(s20:List X3)(s21 s22:Int)(w518:List X0):Option ((Int×List X0)⊕((List X0))):=
 AE (decide (s22<s21)) (
  AW s20 s22 fun x7=>
  AJ (aEf s1 s20 s21 s22 x7.args (x7.args.length:Int) 0 w518) fun o13=>
  some (.inl ((AA .add .i64 s22 1),o13))) (
  some (.inr w518))
def aNb(s1:Int)(s20:List X3)(s21 s22:Int)(w518:List X0):Option ((List X0)):=AQ (fun s:Int×List X0=>IG s1 s20 s21 s.1 s.2) (s22,w518)
def Xm(a0:AD)(a1:Int):Option (List X0):=
 AJ (U0) fun r1=>
 AJ (T6 a1 (decide (a1=3)) a0) fun o6=>
 AJ (aNb a1 a0.symbols (a0.symbols.length:Int) 0 o6) fun o14=>
 AJ (Qi o14) fun r15=>
 some r15.1
def Iz(s0:List X0)(s7:Int)(w3:X0)(s8:Int):Option ((Int)⊕(Unit⊕Int)):=
 AE (decide (s8<s7)) (
  AW s0 s8 fun x1=>
  AE ((X0.eqb w3 x1)) (
   some (.inr (.inr s8))) (
   some (.inl (AA .add .i64 s8 1)))) (
  some (.inr (.inl ())))
def aIu(s0:List X0)(s7:Int)(w3:X0)(s8:Int):Option (Unit⊕Int):=AQ (fun s:Int=>Iz s0 s7 w3 s) s8
def Zd(a0:List X0)(a1:X0):Option (Int):=
 AJ (aIu a0 (a0.length:Int) a1 0) fun o2=>
 CH o2 (fun o3=>
  some (-1)) (fun o4=>
  some o4)
def Qa(a0:List X0)(a1:X0):Option (Bool):=
 AJ (Zd a0 a1) fun r1=>
 some (decide (0<=r1))
def U2(n:Int):Option (List X0):=aJw 40 n
def Tk(s0:List (List X0))(s3:Int)(s9:List (List X0))(s10 s11:Int)(s20:Bool):Option (Unit):=
 AE (s20) (
  none) (
  some ())
def Tj(s0:List (List X0))(s3:Int)(s9:List (List X0))(s10 s11:Int):Option (Int):=
 AW s9 s11 fun x1=>
 AJ (Tk s0 (AA .add .i64 s3 (x1.length:Int)) s9 s10 s11 (decide ((AA .add .i64 s3 (x1.length:Int))<0))) fun o2=>
 some (AA .add .i64 s3 (x1.length:Int))
def Gf(s0 s9:List (List X0))(s10 s3 s11:Int):Option ((Int×Int)⊕(Int)):=
 AE (decide (s11<s10)) (
  AJ (Tj s0 s3 s9 s10 s11) fun o3=>
  some (.inl (o3,(AA .add .i64 s11 1)))) (
  some (.inr s3))
def Tl(s0 s9:List (List X0))(s10 s3 s11:Int):Option (Int):=AQ (fun s:Int×Int=>Gf s0 s9 s10 s.1 s.2) (s3,s11)
theorem Kr(s0 s9:List (List X0))(s10 s3 s11:Int):Tl s0 s9 s10 s3 s11=CY (Gf s0 s9 s10 s3 s11) (fun s:Int×Int=>Tl s0 s9 s10 s.1 s.2):=Al _ _
def Gg(s25:List (List X0))(s26 s27:Int)(w6:List X0):Option ((Int×List X0)⊕((List X0))):=
 AE (decide (s27<s26)) (
  AW s25 s27 fun x6=>
  AY (fit w6.length x6.length 40) (
   some (.inl ((AA .add .i64 s27 1),w6++x6)))) (
  some (.inr w6))
def To(s25:List (List X0))(s26 s27:Int)(w6:List X0):Option ((List X0)):=AQ (fun s:Int×List X0=>Gg s25 s26 s.1 s.2) (s27,w6)
theorem Ks(s25:List (List X0))(s26 s27:Int)(w6:List X0):To s25 s26 s27 w6=CY (Gg s25 s26 s27 w6) (fun s:Int×List X0=>To s25 s26 s.1 s.2):=Al _ _
def Xj(a0:List (List X0)):Option (List X0):=
 AJ (Tl a0 a0 (a0.length:Int) 0 0) fun o4=>
 AJ (U2 o4) fun r5=>
 AJ (To a0 (a0.length:Int) 0 r5) fun o7=>
 some o7
def aGb(s0:Int)(s1:List X0)(s20:Bool)(w4 w6:X0):Option (X0):=
 AE (s20) (
  some (X0.mk w6.kind (AA .add .i64 w6.int 1) w6.str w6.bool)) (
  AY (w6.str.length+([97]:List UInt8).length<=9223372036854775807) (
   some (X0.mk w6.kind w6.int (w6.str++([97]:List UInt8)) w6.bool)))
def VP(s0:Int)(s1:List X0)(w4 w6:X0):Option (X0):=
 AJ (aGb s0 s1 (decide (s0=1)) w4 w6) fun o2=>
 some o2
def IY(s0:Int)(s1:List X0)(w4 w6:X0):Option ((X0)⊕(X0)):=
 AJ (Qa s1 w6) fun r1=>
 AE (r1) (
  AJ (VP s0 s1 w4 w6) fun o3=>
  some (.inl o3)) (
  some (.inr w6))
def QV(s0:Int)(s1:List X0)(w4 w6:X0):Option (X0):=AQ (fun s:X0=>IY s0 s1 w4 s) w6
theorem PD(s0:Int)(s1:List X0)(w4 w6:X0):QV s0 s1 w4 w6=CY (IY s0 s1 w4 w6) (fun s:X0=>QV s0 s1 w4 s):=Al _ _
def Y4(a0:Int)(a1:List X0):Option (X0×Bool):=
 AE (!decide (a0=1)) (
  AE (!decide (a0=2)) (
   some (X0.mk 0 0 ([]:List UInt8) false,false)) (
   AJ (QV a0 a1 (X0.mk 0 0 ([]:List UInt8) false) (X0.mk a0 0 ([]:List UInt8) false)) fun o4=>
   some (o4,true))) (
  AJ (QV a0 a1 (X0.mk 0 0 ([]:List UInt8) false) (X0.mk a0 0 ([]:List UInt8) false)) fun o5=>
  some (o5,true))
def VI(s1:List X0)(s5:Int)(s28:List X2)(s29 s30:Int)(s45:Bool)(w6:List X0)(w8:X2):Option ((List X0)):=
 AE (s45) (
  AY (fit w6.length [w8.value].length 40) (
   some (w6++[w8.value]))) (
  some w6)
def aF0(s1:List X0)(s5:Int)(s28:List X2)(s29 s30:Int)(w6:List X0):Option ((List X0)):=
 AW s28 s30 fun x4=>
 AE (decide (x4.value.kind=s5)) (
  AJ (Qa w6 x4.value) fun r5=>
  AJ (VI s1 s5 s28 s29 s30 (!r5) w6 x4) fun o6=>
  some o6) (
  AJ (VI s1 s5 s28 s29 s30 false w6 x4) fun o7=>
  some o7)
def IV(s1:List X0)(s5:Int)(s28:List X2)(s29 s30:Int)(w6:List X0):Option ((Int×List X0)⊕((List X0))):=
 AE (decide (s30<s29)) (
  AJ (aF0 s1 s5 s28 s29 s30 w6) fun o8=>
  some (.inl ((AA .add .i64 s30 1),o8))) (
  some (.inr w6))
def aF3(s1:List X0)(s5:Int)(s28:List X2)(s29 s30:Int)(w6:List X0):Option ((List X0)):=AQ (fun s:Int×List X0=>IV s1 s5 s28 s29 s.1 s.2) (s30,w6)
def QU(s61:Bool)(w6:List X0)(w9:X0):Option ((List X0)):=
 AE (s61) (
  AY (fit w6.length [w9].length 40) (
   some (w6++[w9]))) (
  some w6)
def Y2(a0:Xr)(a1:List X0):Option (List X0):=
 AW a0.q.decls a0.d_ fun x1=>
 AW x1.types a0.at_ fun x2=>
 AJ (Xm a0.q x2) fun r3=>
 AJ (aF3 a1 x2 a0.b (a0.b.length:Int) 0 r3) fun o9=>
 AJ (Xj [o9,a1]) fun r10=>
 AJ (Y4 x2 r10) fun r11=>
 AJ (QU r11.2 o9 r11.1) fun o12=>
 some o12
def I0(s1:Int)(s8:List X2)(s9:Int)(w4:X0)(s10:Int):Option ((Int)⊕(Unit⊕X0)):=
 AE (decide (s10<s9)) (
  AW s8 s10 fun x1=>
  AE (decide (x1.var=s1)) (
   some (.inr (.inr x1.value))) (
   some (.inl (AA .add .i64 s10 1)))) (
  some (.inr (.inl ())))
def aOm(s1:Int)(s8:List X2)(s9:Int)(w4:X0)(s10:Int):Option (Unit⊕X0):=AQ (fun s:Int=>I0 s1 s8 s9 w4 s) s10
def Ze(a0:List X2)(a1:Int):Option (X0×Bool):=
 AJ (aOm a1 a0 (a0.length:Int) (X0.mk 0 0 ([]:List UInt8) false) 0) fun o2=>
 CH o2 (fun o3=>
  some (X0.mk 0 0 ([]:List UInt8) false,false)) (fun o4=>
  some (o4,true))
def Qu(a0:Xr)(a1:BW)(a2:X0):Option (Bool):=
 AE (decide (a1.kind=1)) (
  some (X0.eqb a1.value a2)) (
  AE (decide (a1.kind=2)) (
   AJ (Ze a0.b a1.n) fun r1=>
   AE (r1.2) (
    some (X0.eqb r1.1 a2)) (
    some false)) (
   some true))
def Vj(s6 s7:Int)(s11:List X3)(s12 s13:Int)(s34:Bool)(w2:Xr)(w3:X0):Option (Int):=
 AE (s34) (
  AY (0<=(IntKind.wrap .u64 s7)) (
   some (AA .or .u64 s6 (AA .shl .u64 1 (IntKind.wrap .u64 s7))))) (
  some s6)
def aG5(s6:Int)(s11:List X3)(s12 s13:Int)(w2:Xr)(w3:X0):Option (Int):=
 AW s11 s13 fun x1=>
 AE (decide (x1.event=w2.d_)) (
  AW x1.args w2.at_ fun x2=>
  AJ (Qu w2 x2 w3) fun r3=>
  AJ (Vj s6 s13 s11 s12 s13 r3 w2 w3) fun o4=>
  some o4) (
  AJ (Vj s6 s13 s11 s12 s13 false w2 w3) fun o5=>
  some o5)
def Ie(s11:List X3)(s12:Int)(w2:Xr)(w3:X0)(s6 s13:Int):Option ((Int×Int)⊕(Int)):=
 AE (decide (s13<s12)) (
  AJ (aG5 s6 s11 s12 s13 w2 w3) fun o6=>
  some (.inl (o6,(AA .add .i64 s13 1)))) (
  some (.inr s6))
def aNw(s11:List X3)(s12:Int)(w2:Xr)(w3:X0)(s6 s13:Int):Option (Int):=AQ (fun s:Int×Int=>Ie s11 s12 w2 w3 s.1 s.2) (s6,s13)
def Yc(a0:Xr)(a1:X0):Option (Int):=
 AJ (aNw a0.q.symbols (a0.q.symbols.length:Int) a0 a1 0 0) fun o7=>
 some o7
def Gm(s8:Int)(s12:List X0)(s13 s14:Int)(w0:List (Int×Bool))(w3:Xr)(k:Int)(v:Bool)(w5:List (Int×Bool)):Option ((List (Int×Bool))):=
 some (GH (AA .and .u64 k s8) true w5)
def Kt(s8:Int)(s12:List X0)(s13 s14:Int)(w0:List (Int×Bool))(w3:Xr)(s:(List (Int×Bool))):(List (Int×Bool)):=(fun s:(List (Int×Bool))=>(aJ5 s:(List (Int×Bool)))) s
def aNd(s8:Int)(s12:List X0)(s13 s14:Int)(w0:List (Int×Bool))(w3:Xr)(w5:List (Int×Bool)):Option ((List (Int×Bool))):=F5 (Kt s8 s12 s13 s14 w0 w3) w0 (fun(x:Int×Bool) (s:(List (Int×Bool)))=>Gm s8 s12 s13 s14 w0 w3 x.1 x.2 s) w5
def aEh(s8:Int)(s12:List X0)(s13 s14:Int)(w0:List (Int×Bool))(w3:Xr)(w5:List (Int×Bool)):Option ((List (Int×Bool))):=
 AJ (aNd s8 s12 s13 s14 w0 w3 w5) fun o4=>
 some o4
def II(s12:List X0)(s13:Int)(w0:List (Int×Bool))(w3:Xr)(s14:Int)(w5:List (Int×Bool)):Option ((Int×(List (Int×Bool)))⊕((List (Int×Bool)))):=
 AE (decide (s14<s13)) (
  AW s12 s14 fun x2=>
  AJ (Yc w3 x2) fun r3=>
  AJ (aEh r3 s12 s13 s14 w0 w3 w5) fun o5=>
  some (.inl ((AA .add .i64 s14 1),o5))) (
  some (.inr w5))
def aNc(s12:List X0)(s13:Int)(w0:List (Int×Bool))(w3:Xr)(s14:Int)(w5:List (Int×Bool)):Option ((List (Int×Bool))):=AQ (fun s:Int×(List (Int×Bool))=>II s12 s13 w0 w3 s.1 s.2) (s14,w5)
def Xn(a1:Xr)(w0:List (Int×Bool)):Option ((List (Int×Bool))):=
 AJ (Y2 a1 ([]:List X0)) fun r1=>
 AJ (aNc r1 (r1.length:Int) w0 a1 0 ([]:List (Int×Bool))) fun o6=>
 some o6
def V8(s0 s2:Int)(s4:Bool):Option ((Int×Int)):=
 AE (s4) (
  some ((AA .shr .u64 s0 32),32)) (
  some (s0,s2))
def V9(s0 s2:Int)(s8:Bool):Option ((Int×Int)):=
 AE (s8) (
  some ((AA .shr .u64 s0 16),(AA .add .i64 s2 16))) (
  some (s0,s2))
def WA(s0 s2:Int)(s14:Bool):Option ((Int×Int)):=
 AE (s14) (
  some ((AA .shr .u64 s0 8),(AA .add .i64 s2 8))) (
  some (s0,s2))
def Yr(a0:Int):Option (Int):=
 AJ (V8 a0 0 (decide (4294967296<=a0))) fun o1=>
 AJ (V9 o1.1 o1.2 (decide (65536<=o1.1))) fun o2=>
 AJ (WA o2.1 o2.2 (decide (256<=o2.1))) fun o3=>
 AW ([0,1,2,2,3,3,3,3,4,4,4,4,4,4,4,4,5,5,5,5,5,5,5,5,5,5,5,5,5,5,5,5,6,6,6,6,6,6,6,6,6,6,6,6,6,6,6,6,6,6,6,6,6,6,6,6,6,6,6,6,6,6,6,6,7,7,7,7,7,7,7,7,7,7,7,7,7,7,7,7,7,7,7,7,7,7,7,7,7,7,7,7,7,7,7,7,7,7,7,7,7,7,7,7,7,7,7,7,7,7,7,7,7,7,7,7,7,7,7,7,7,7,7,7,7,7,7,7,8,8,8,8,8,8,8,8,8,8,8,8,8,8,8,8,8,8,8,8,8,8,8,8,8,8,8,8,8,8,8,8,8,8,8,8,8,8,8,8,8,8,8,8,8,8,8,8,8,8,8,8,8,8,8,8,8,8,8,8,8,8,8,8,8,8,8,8,8,8,8,8,8,8,8,8,8,8,8,8,8,8,8,8,8,8,8,8,8,8,8,8,8,8,8,8,8,8,8,8,8,8,8,8,8,8,8,8,8,8,8,8,8,8,8,8,8,8,8,8,8,8,8,8,8,8,8,8]:List UInt8) ((u8w o3.1).toNat:Int) fun x4=>
 some (AA .add .i64 o3.2 (x4.toNat:Int))
def Qb(a0:Int):Option (Int):=
 AJ (Yr a0) fun r1=>
 some r1
def Qc(a0:Int):Option (Bool):=
 some (!decide (a0=a0))
def Y9(a0 a1:Int):Option (Bool):=
 AJ (Qc a0) fun r1=>
 AE (r1) (
  AJ (Qc a1) fun r2=>
  AE (!r2) (
   some true) (
   some (decide (a0<a1)))) (
  some (decide (a0<a1)))
def E1(s1 s2:Int)(s6 s7:Int)(w0:List Int):Option ((Int×List Int)⊕((List Int))):=
 AE (decide (s1<s7)) (
  AY (0<=s7/\s7+1<=(w0.length:Int)) (
   AW w0 s7 fun x1=>
   AY (0<=(AA .sub .i64 s7 1)/\(AA .sub .i64 s7 1)+1<=(w0.length:Int)) (
    AW w0 (AA .sub .i64 s7 1) fun x2=>
    AJ (Y9 x1 x2) fun r3=>
    AE (r3) (
     AY (0<=(AA .sub .i64 s7 1)/\(AA .sub .i64 s7 1)+1<=(w0.length:Int)) (
      AW w0 (AA .sub .i64 s7 1) fun x4=>
      AY (0<=s7/\s7+1<=(w0.length:Int)) (
       AW w0 s7 fun x5=>
       AY (0<=s7/\s7+1<=(w0.length:Int)) (
        AY (0<=s7/\s7+1<=(w0.length:Int)) (
         AY (0<=(AA .sub .i64 s7 1)/\(AA .sub .i64 s7 1)+1<=((w0.set s7.toNat x4).length:Int)) (
          AY (0<=(AA .sub .i64 s7 1)/\(AA .sub .i64 s7 1)+1<=((w0.set s7.toNat x4).length:Int)) (
           some (.inl ((AA .sub .i64 s7 1),(w0.set s7.toNat x4).set (AA .sub .i64 s7 1).toNat x5))))))))) (
     some (.inr w0))))) (
  some (.inr w0))
def QR(s1 s2:Int)(s6 s7:Int)(w0:List Int):Option ((List Int)):=AQ (fun s:Int×List Int=>E1 s1 s2 s6 s.1 s.2) (s7,w0)
theorem O9(s1 s2:Int)(s6 s7:Int)(w0:List Int):QR s1 s2 s6 s7 w0=CY (E1 s1 s2 s6 s7 w0) (fun s:Int×List Int=>QR s1 s2 s6 s.1 s.2):=Al _ _
def Gr(s1 s2 s6:Int)(w0:List Int):Option ((Int×List Int)⊕((List Int))):=
 AE (decide (s6<s2)) (
  AJ (QR s1 s2 s6 s6 w0) fun o6=>
  some (.inl ((AA .add .i64 s6 1),o6))) (
  some (.inr w0))
def QQ(s1 s2 s6:Int)(w0:List Int):Option ((List Int)):=AQ (fun s:Int×List Int=>Gr s1 s2 s.1 s.2) (s6,w0)
theorem O8(s1 s2 s6:Int)(w0:List Int):QQ s1 s2 s6 w0=CY (Gr s1 s2 s6 w0) (fun s:Int×List Int=>QQ s1 s2 s.1 s.2):=Al _ _
def Xv(a1 a2:Int)(w0:List Int):Option (List Int):=
 AJ (QQ a1 a2 (AA .add .i64 a1 1) w0) fun o7=>
 some o7
def Ku(s2 s3:Int)(s8 s9:Int)(s36:Bool)(w0:List Int):Option (Int):=
 AE (s36) (
  some (AA .add .i64 s9 1)) (
  some s9)
def Jw(s2 s3 s8:Int)(w0:List Int):Option ((Int×List Int)⊕(Unit⊕Unit)):=
 AE (decide (s2<=(AA .add .i64 (AA .mul .i64 2 s8) 1))) (
  some (.inr (.inl ()))) (
  AE (decide ((AA .add .i64 (AA .add .i64 (AA .mul .i64 2 s8) 1) 1)<s2)) (
   AY (0<=(AA .add .i64 s3 (AA .add .i64 (AA .mul .i64 2 s8) 1))/\(AA .add .i64 s3 (AA .add .i64 (AA .mul .i64 2 s8) 1))+1<=(w0.length:Int)) (
    AW w0 (AA .add .i64 s3 (AA .add .i64 (AA .mul .i64 2 s8) 1)) fun x1=>
    AY (0<=(AA .add .i64 (AA .add .i64 s3 (AA .add .i64 (AA .mul .i64 2 s8) 1)) 1)/\(AA .add .i64 (AA .add .i64 s3 (AA .add .i64 (AA .mul .i64 2 s8) 1)) 1)+1<=(w0.length:Int)) (
     AW w0 (AA .add .i64 (AA .add .i64 s3 (AA .add .i64 (AA .mul .i64 2 s8) 1)) 1) fun x2=>
     AJ (Y9 x1 x2) fun r3=>
     AJ (Ku s2 s3 s8 (AA .add .i64 (AA .mul .i64 2 s8) 1) r3 w0) fun o4=>
     AY (0<=(AA .add .i64 s3 s8)/\(AA .add .i64 s3 s8)+1<=(w0.length:Int)) (
      AW w0 (AA .add .i64 s3 s8) fun x5=>
      AY (0<=(AA .add .i64 s3 o4)/\(AA .add .i64 s3 o4)+1<=(w0.length:Int)) (
       AW w0 (AA .add .i64 s3 o4) fun x6=>
       AJ (Y9 x5 x6) fun r7=>
       AE (!r7) (
        some (.inr (.inr ()))) (
        AY (0<=(AA .add .i64 s3 o4)/\(AA .add .i64 s3 o4)+1<=(w0.length:Int)) (
         AW w0 (AA .add .i64 s3 o4) fun x8=>
         AY (0<=(AA .add .i64 s3 s8)/\(AA .add .i64 s3 s8)+1<=(w0.length:Int)) (
          AW w0 (AA .add .i64 s3 s8) fun x9=>
          AY (0<=(AA .add .i64 s3 s8)/\(AA .add .i64 s3 s8)+1<=(w0.length:Int)) (
           AY (0<=(AA .add .i64 s3 s8)/\(AA .add .i64 s3 s8)+1<=(w0.length:Int)) (
            AY (0<=(AA .add .i64 s3 o4)/\(AA .add .i64 s3 o4)+1<=((w0.set (AA .add .i64 s3 s8).toNat x8).length:Int)) (
             AY (0<=(AA .add .i64 s3 o4)/\(AA .add .i64 s3 o4)+1<=((w0.set (AA .add .i64 s3 s8).toNat x8).length:Int)) (
              some (.inl (o4,(w0.set (AA .add .i64 s3 s8).toNat x8).set (AA .add .i64 s3 o4).toNat x9)))))))))))))) (
   AJ (Ku s2 s3 s8 (AA .add .i64 (AA .mul .i64 2 s8) 1) false w0) fun o10=>
   AY (0<=(AA .add .i64 s3 s8)/\(AA .add .i64 s3 s8)+1<=(w0.length:Int)) (
    AW w0 (AA .add .i64 s3 s8) fun x11=>
    AY (0<=(AA .add .i64 s3 o10)/\(AA .add .i64 s3 o10)+1<=(w0.length:Int)) (
     AW w0 (AA .add .i64 s3 o10) fun x12=>
     AJ (Y9 x11 x12) fun r13=>
     AE (!r13) (
      some (.inr (.inr ()))) (
      AY (0<=(AA .add .i64 s3 o10)/\(AA .add .i64 s3 o10)+1<=(w0.length:Int)) (
       AW w0 (AA .add .i64 s3 o10) fun x14=>
       AY (0<=(AA .add .i64 s3 s8)/\(AA .add .i64 s3 s8)+1<=(w0.length:Int)) (
        AW w0 (AA .add .i64 s3 s8) fun x15=>
        AY (0<=(AA .add .i64 s3 s8)/\(AA .add .i64 s3 s8)+1<=(w0.length:Int)) (
         AY (0<=(AA .add .i64 s3 s8)/\(AA .add .i64 s3 s8)+1<=(w0.length:Int)) (
          AY (0<=(AA .add .i64 s3 o10)/\(AA .add .i64 s3 o10)+1<=((w0.set (AA .add .i64 s3 s8).toNat x14).length:Int)) (
           AY (0<=(AA .add .i64 s3 o10)/\(AA .add .i64 s3 o10)+1<=((w0.set (AA .add .i64 s3 s8).toNat x14).length:Int)) (
            some (.inl (o10,(w0.set (AA .add .i64 s3 s8).toNat x14).set (AA .add .i64 s3 o10).toNat x15)))))))))))))
def EZ(s2 s3 s8:Int)(w0:List Int):Option ((Int×List Int)⊕((List Int)⊕(List Int))):=
 AJ (Jw s2 s3 s8 w0) fun o16=>
 CH o16 (fun o17=>
  some (.inl (o17.1,o17.2))) (fun o18=>
  CH o18 (fun o19=>
   some (.inr (.inl w0))) (fun o20=>
   some (.inr (.inr w0))))
def QL(s2 s3 s8:Int)(w0:List Int):Option ((List Int)⊕(List Int)):=AQ (fun s:Int×List Int=>EZ s2 s3 s.1 s.2) (s8,w0)
theorem O1(s2 s3 s8:Int)(w0:List Int):QL s2 s3 s8 w0=CY (EZ s2 s3 s8 w0) (fun s:Int×List Int=>QL s2 s3 s.1 s.2):=Al _ _
def Xp(a1 a2 a3:Int)(w0:List Int):Option (List Int):=
 AJ (QL a2 a3 a1 w0) fun o21=>
 CH o21 (fun o22=>
  some o22) (fun o23=>
  some o23)
def Gs(s6 s7:Int)(s8 s9:Int)(w0:List Int):Option ((Int×List Int)⊕((List Int))):=
 AE (decide (0<=s9)) (
  AJ (Xp s9 s8 s6 w0) fun r1=>
  some (.inl ((AA .sub .i64 s9 1),r1))) (
  some (.inr w0))
def QS(s6 s7:Int)(s8 s9:Int)(w0:List Int):Option ((List Int)):=AQ (fun s:Int×List Int=>Gs s6 s7 s8 s.1 s.2) (s9,w0)
theorem PA(s6 s7:Int)(s8 s9:Int)(w0:List Int):QS s6 s7 s8 s9 w0=CY (Gs s6 s7 s8 s9 w0) (fun s:Int×List Int=>QS s6 s7 s8 s.1 s.2):=Al _ _
def Gt(s6 s7 s10:Int)(w0:List Int):Option ((Int×List Int)⊕((List Int))):=
 AE (decide (0<=s10)) (
  AY (0<=(AA .add .i64 s6 s10)/\(AA .add .i64 s6 s10)+1<=(w0.length:Int)) (
   AW w0 (AA .add .i64 s6 s10) fun x3=>
   AY (0<=s6/\s6+1<=(w0.length:Int)) (
    AW w0 s6 fun x4=>
    AY (0<=s6/\s6+1<=(w0.length:Int)) (
     AY (0<=s6/\s6+1<=(w0.length:Int)) (
      AY (0<=(AA .add .i64 s6 s10)/\(AA .add .i64 s6 s10)+1<=((w0.set s6.toNat x3).length:Int)) (
       AY (0<=(AA .add .i64 s6 s10)/\(AA .add .i64 s6 s10)+1<=((w0.set s6.toNat x3).length:Int)) (
        AJ (Xp s7 s10 s6 ((w0.set s6.toNat x3).set (AA .add .i64 s6 s10).toNat x4)) fun r5=>
        some (.inl ((AA .sub .i64 s10 1),r5))))))))) (
  some (.inr w0))
def QT(s6 s7 s10:Int)(w0:List Int):Option ((List Int)):=AQ (fun s:Int×List Int=>Gt s6 s7 s.1 s.2) (s10,w0)
theorem PB(s6 s7 s10:Int)(w0:List Int):QT s6 s7 s10 w0=CY (Gt s6 s7 s10 w0) (fun s:Int×List Int=>QT s6 s7 s.1 s.2):=Al _ _
def Xw(a1 a2:Int)(w0:List Int):Option (List Int):=
 AJ (QS a1 0 (AA .sub .i64 a2 a1) (AA .quo .i64 (AA .sub .i64 (AA .sub .i64 a2 a1) 1) 2) w0) fun o2=>
 AJ (QT a1 0 (AA .sub .i64 (AA .sub .i64 a2 a1) 1) o2) fun o6=>
 some o6
def Qj(a0:Int):Option (Int):=
 AJ (Qb (IntKind.wrap .u64 a0)) fun r1=>
 AY (0<=r1) (
  some (AA .shl .u64 1 r1))
def Qk(w0:Int):Option (Int×Int):=
 some ((AA .xor .u64 (AA .xor .u64 (AA .xor .u64 w0 (AA .shl .u64 w0 13)) (AA .shr .u64 (AA .xor .u64 w0 (AA .shl .u64 w0 13)) 7)) (AA .shl .u64 (AA .xor .u64 (AA .xor .u64 w0 (AA .shl .u64 w0 13)) (AA .shr .u64 (AA .xor .u64 w0 (AA .shl .u64 w0 13)) 7)) 17)),(AA .xor .u64 (AA .xor .u64 (AA .xor .u64 w0 (AA .shl .u64 w0 13)) (AA .shr .u64 (AA .xor .u64 w0 (AA .shl .u64 w0 13)) 7)) (AA .shl .u64 (AA .xor .u64 (AA .xor .u64 w0 (AA .shl .u64 w0 13)) (AA .shr .u64 (AA .xor .u64 w0 (AA .shl .u64 w0 13)) 7)) 17)))
def Nc(s1 s6:Int)(s8 s9 s10:Int)(s43:Bool)(w0:List Int)(w7:Int):Option (Int):=
 AE (s43) (
  some (AA .sub .i64 s10 s6)) (
  some s10)
def QO(s1 s6:Int)(s8 s9:Int)(w0:List Int)(w7:Int):Option ((List Int×Int)):=
 AJ (Qk w7) fun r2=>
 AJ (Nc s1 s6 s8 s9 (IntKind.wrap .i64 (AA .and .u64 r2.1 (AA .sub .u64 s8 1))) (decide (s6<=(IntKind.wrap .i64 (AA .and .u64 r2.1 (AA .sub .u64 s8 1))))) w0 r2.2) fun o3=>
 AY (0<=(AA .add .i64 s1 o3)/\(AA .add .i64 s1 o3)+1<=(w0.length:Int)) (
  AW w0 (AA .add .i64 s1 o3) fun x4=>
  AY (0<=s9/\s9+1<=(w0.length:Int)) (
   AW w0 s9 fun x5=>
   AY (0<=s9/\s9+1<=(w0.length:Int)) (
    AY (0<=s9/\s9+1<=(w0.length:Int)) (
     AY (0<=(AA .add .i64 s1 o3)/\(AA .add .i64 s1 o3)+1<=((w0.set s9.toNat x4).length:Int)) (
      AY (0<=(AA .add .i64 s1 o3)/\(AA .add .i64 s1 o3)+1<=((w0.set s9.toNat x4).length:Int)) (
       some ((w0.set s9.toNat x4).set (AA .add .i64 s1 o3).toNat x5,r2.2)))))))
def Gp(s1 s6:Int)(s8 s9:Int)(w0:List Int)(w7:Int):Option ((Int×List Int×Int)⊕((List Int))):=
 AE (decide (s9<=(AA .add .i64 (AA .add .i64 s1 (AA .mul .i64 (AA .quo .i64 s6 4) 2)) 1))) (
  AJ (QO s1 s6 s8 s9 w0 w7) fun o6=>
  some (.inl ((AA .add .i64 s9 1),o6.1,o6.2))) (
  some (.inr w0))
def QP(s1 s6:Int)(s8 s9:Int)(w0:List Int)(w7:Int):Option ((List Int)):=AQ (fun s:Int×List Int×Int=>Gp s1 s6 s8 s.1 s.2.1 s.2.2) (s9,w0,w7)
theorem O6(s1 s6:Int)(s8 s9:Int)(w0:List Int)(w7:Int):QP s1 s6 s8 s9 w0 w7=CY (Gp s1 s6 s8 s9 w0 w7) (fun s:Int×List Int×Int=>QP s1 s6 s8 s.1 s.2.1 s.2.2):=Al _ _
def QN(s1 s6:Int)(s15:Bool)(w0:List Int):Option ((List Int)):=
 AE (s15) (
  AJ (Qj s6) fun r1=>
  AJ (QP s1 s6 r1 (AA .sub .i64 (AA .add .i64 s1 (AA .mul .i64 (AA .quo .i64 s6 4) 2)) 1) w0 (IntKind.wrap .u64 s6)) fun o7=>
  some o7) (
  some w0)
def Xs(a1 a2:Int)(w0:List Int):Option (List Int):=
 AJ (QN a1 (AA .sub .i64 a2 a1) (decide (8<=(AA .sub .i64 a2 a1))) w0) fun o8=>
 some o8
def Zv(a0:List Int)(a1 a2 w0:Int):Option (Int×Int×Int):=
 AW a0 a2 fun x1=>
 AW a0 a1 fun x2=>
 AJ (Y9 x1 x2) fun r3=>
 AE (r3) (
  some (a2,a1,(AA .add .i64 w0 1))) (
  some (a1,a2,w0))
def Q3(a0:List Int)(a1 a2:Int)(a3 w0:Int):Option (Int×Int):=
 AJ (Zv a0 a1 a2 w0) fun r1=>
 AJ (Zv a0 r1.2.1 a3 r1.2.2) fun r2=>
 AJ (Zv a0 r1.1 r2.1 r2.2.2) fun r3=>
 some (r3.2.1,r3.2.2)
def Zw(a0:List Int)(a1 w0:Int):Option (Int×Int):=
 AJ (Q3 a0 (AA .sub .i64 a1 1) a1 (AA .add .i64 a1 1) w0) fun r1=>
 some (r1.1,r1.2)
def Nf(s0:List Int)(s10 s11 s12:Int)(s34:Bool)(w9:Int):Option ((Int×Int×Int×Int)):=
 AE (s34) (
  AJ (Zw s0 s10 w9) fun r1=>
  AJ (Zw s0 s11 r1.2) fun r2=>
  AJ (Zw s0 s12 r2.2) fun r3=>
  some (r1.1,r2.1,r3.1,r3.2)) (
  some (s10,s11,s12,w9))
def QY(s0:List Int)(s8 s10:Int)(s11 s12:Int)(s32:Bool)(w9:Int):Option ((Int×Int)):=
 AE (s32) (
  AJ (Nf s0 s10 s11 s12 (decide (50<=s8)) w9) fun o4=>
  AJ (Q3 s0 o4.1 o4.2.1 o4.2.2.1 o4.2.2.2) fun r5=>
  some (r5.1,r5.2)) (
  some (s11,w9))
def Yw(a0:List Int)(a1 a2:Int):Option (Int×Int):=
 AJ (QY a0 (AA .sub .i64 a2 a1) (AA .add .i64 a1 (AA .mul .i64 (AA .quo .i64 (AA .sub .i64 a2 a1) 4) 1)) (AA .add .i64 a1 (AA .mul .i64 (AA .quo .i64 (AA .sub .i64 a2 a1) 4) 2)) (AA .add .i64 a1 (AA .mul .i64 (AA .quo .i64 (AA .sub .i64 a2 a1) 4) 3)) (decide (8<=(AA .sub .i64 a2 a1))) 0) fun o6=>
 AE (decide (o6.2=0)) (
  some (o6.1,1)) (
  AE (decide (o6.2=12)) (
   some (o6.1,2)) (
   some (o6.1,0)))
def Ij(s6 s7:Int)(w0:List Int):Option ((Int×Int×List Int)⊕((List Int))):=
 AE (decide (s6<s7)) (
  AY (0<=s7/\s7+1<=(w0.length:Int)) (
   AW w0 s7 fun x1=>
   AY (0<=s6/\s6+1<=(w0.length:Int)) (
    AW w0 s6 fun x2=>
    AY (0<=s6/\s6+1<=(w0.length:Int)) (
     AY (0<=s6/\s6+1<=(w0.length:Int)) (
      AY (0<=s7/\s7+1<=((w0.set s6.toNat x1).length:Int)) (
       AY (0<=s7/\s7+1<=((w0.set s6.toNat x1).length:Int)) (
        some (.inl ((AA .add .i64 s6 1),(AA .sub .i64 s7 1),(w0.set s6.toNat x1).set s7.toNat x2))))))))) (
  some (.inr w0))
def QX(s6 s7:Int)(w0:List Int):Option ((List Int)):=AQ (fun s:Int×Int×List Int=>Ij s.1 s.2.1 s.2.2) (s6,s7,w0)
theorem aHy(s6 s7:Int)(w0:List Int):QX s6 s7 w0=CY (Ij s6 s7 w0) (fun s:Int×Int×List Int=>QX s.1 s.2.1 s.2.2):=Al _ _
def Yo(a1 a2:Int)(w0:List Int):Option (List Int):=
 AJ (QX a1 (AA .sub .i64 a2 1) w0) fun o3=>
 some o3
def GW(s1 s2 s8:Int)(w0:List Int)(s7:Int):Option ((Int)⊕(Int)):=
 AE (decide (s7<s2)) (
  AY (0<=s7/\s7+1<=(w0.length:Int)) (
   AW w0 s7 fun x1=>
   AY (0<=(AA .sub .i64 s7 1)/\(AA .sub .i64 s7 1)+1<=(w0.length:Int)) (
    AW w0 (AA .sub .i64 s7 1) fun x2=>
    AJ (Y9 x1 x2) fun r3=>
    AE (!r3) (
     some (.inl (AA .add .i64 s7 1))) (
     some (.inr s7))))) (
  some (.inr s7))
def QB(s1 s2 s8:Int)(w0:List Int)(s7:Int):Option (Int):=AQ (fun s:Int=>GW s1 s2 s8 w0 s) s7
theorem Of(s1 s2 s8:Int)(w0:List Int)(s7:Int):QB s1 s2 s8 w0 s7=CY (GW s1 s2 s8 w0 s7) (fun s:Int=>QB s1 s2 s8 w0 s):=Al _ _
def GX(s1 s2:Int)(s7 s8 s9:Int)(w0:List Int):Option ((Int×List Int)⊕((List Int))):=
 AE (decide (1<=s9)) (
  AY (0<=s9/\s9+1<=(w0.length:Int)) (
   AW w0 s9 fun x7=>
   AY (0<=(AA .sub .i64 s9 1)/\(AA .sub .i64 s9 1)+1<=(w0.length:Int)) (
    AW w0 (AA .sub .i64 s9 1) fun x8=>
    AJ (Y9 x7 x8) fun r9=>
    AE (!r9) (
     some (.inr w0)) (
     AY (0<=(AA .sub .i64 s9 1)/\(AA .sub .i64 s9 1)+1<=(w0.length:Int)) (
      AW w0 (AA .sub .i64 s9 1) fun x10=>
      AY (0<=s9/\s9+1<=(w0.length:Int)) (
       AW w0 s9 fun x11=>
       AY (0<=s9/\s9+1<=(w0.length:Int)) (
        AY (0<=s9/\s9+1<=(w0.length:Int)) (
         AY (0<=(AA .sub .i64 s9 1)/\(AA .sub .i64 s9 1)+1<=((w0.set s9.toNat x10).length:Int)) (
          AY (0<=(AA .sub .i64 s9 1)/\(AA .sub .i64 s9 1)+1<=((w0.set s9.toNat x10).length:Int)) (
           some (.inl ((AA .sub .i64 s9 1),(w0.set s9.toNat x10).set (AA .sub .i64 s9 1).toNat x11)))))))))))) (
  some (.inr w0))
def QC(s1 s2:Int)(s7 s8 s9:Int)(w0:List Int):Option ((List Int)):=AQ (fun s:Int×List Int=>GX s1 s2 s7 s8 s.1 s.2) (s9,w0)
theorem Og(s1 s2:Int)(s7 s8 s9:Int)(w0:List Int):QC s1 s2 s7 s8 s9 w0=CY (GX s1 s2 s7 s8 s9 w0) (fun s:Int×List Int=>QC s1 s2 s7 s8 s.1 s.2):=Al _ _
def NQ(s1 s2:Int)(s7 s8:Int)(s61:Bool)(w0:List Int):Option ((List Int)):=
 AE (s61) (
  AJ (QC s1 s2 s7 s8 (AA .sub .i64 s7 1) w0) fun o12=>
  some o12) (
  some w0)
def GY(s1 s2:Int)(s7 s8 s10:Int)(w0:List Int):Option ((Int×List Int)⊕((List Int))):=
 AE (decide (s10<s2)) (
  AY (0<=s10/\s10+1<=(w0.length:Int)) (
   AW w0 s10 fun x14=>
   AY (0<=(AA .sub .i64 s10 1)/\(AA .sub .i64 s10 1)+1<=(w0.length:Int)) (
    AW w0 (AA .sub .i64 s10 1) fun x15=>
    AJ (Y9 x14 x15) fun r16=>
    AE (!r16) (
     some (.inr w0)) (
     AY (0<=(AA .sub .i64 s10 1)/\(AA .sub .i64 s10 1)+1<=(w0.length:Int)) (
      AW w0 (AA .sub .i64 s10 1) fun x17=>
      AY (0<=s10/\s10+1<=(w0.length:Int)) (
       AW w0 s10 fun x18=>
       AY (0<=s10/\s10+1<=(w0.length:Int)) (
        AY (0<=s10/\s10+1<=(w0.length:Int)) (
         AY (0<=(AA .sub .i64 s10 1)/\(AA .sub .i64 s10 1)+1<=((w0.set s10.toNat x17).length:Int)) (
          AY (0<=(AA .sub .i64 s10 1)/\(AA .sub .i64 s10 1)+1<=((w0.set s10.toNat x17).length:Int)) (
           some (.inl ((AA .add .i64 s10 1),(w0.set s10.toNat x17).set (AA .sub .i64 s10 1).toNat x18)))))))))))) (
  some (.inr w0))
def QD(s1 s2:Int)(s7 s8 s10:Int)(w0:List Int):Option ((List Int)):=AQ (fun s:Int×List Int=>GY s1 s2 s7 s8 s.1 s.2) (s10,w0)
theorem Oh(s1 s2:Int)(s7 s8 s10:Int)(w0:List Int):QD s1 s2 s7 s8 s10 w0=CY (GY s1 s2 s7 s8 s10 w0) (fun s:Int×List Int=>QD s1 s2 s7 s8 s.1 s.2):=Al _ _
def NR(s1 s2:Int)(s7 s8:Int)(s98:Bool)(w0:List Int):Option ((List Int)):=
 AE (s98) (
  AJ (QD s1 s2 s7 s8 (AA .add .i64 s7 1) w0) fun o19=>
  some o19) (
  some w0)
def QA(s1 s2:Int)(s7 s8:Int)(w0:List Int):Option ((Int×List Int)⊕Bool):=
 AJ (QB s1 s2 s8 w0 s7) fun o4=>
 AE (decide (o4=s2)) (
  some (.inr true)) (
  AE (decide ((AA .sub .i64 s2 s1)<50)) (
   some (.inr false)) (
   AY (0<=(AA .sub .i64 o4 1)/\(AA .sub .i64 o4 1)+1<=(w0.length:Int)) (
    AW w0 (AA .sub .i64 o4 1) fun x5=>
    AY (0<=o4/\o4+1<=(w0.length:Int)) (
     AW w0 o4 fun x6=>
     AY (0<=o4/\o4+1<=(w0.length:Int)) (
      AY (0<=o4/\o4+1<=(w0.length:Int)) (
       AY (0<=(AA .sub .i64 o4 1)/\(AA .sub .i64 o4 1)+1<=((w0.set o4.toNat x5).length:Int)) (
        AY (0<=(AA .sub .i64 o4 1)/\(AA .sub .i64 o4 1)+1<=((w0.set o4.toNat x5).length:Int)) (
         AJ (NQ s1 s2 o4 s8 (decide (2<=(AA .sub .i64 o4 s1))) ((w0.set o4.toNat x5).set (AA .sub .i64 o4 1).toNat x6)) fun o13=>
         AJ (NR s1 s2 o4 s8 (decide (2<=(AA .sub .i64 s2 o4))) o13) fun o20=>
         some (.inl (o4,o20))))))))))
def GV(s1 s2:Int)(s7 s8:Int)(w0:List Int):Option ((Int×Int×List Int)⊕((List Int)⊕(Bool×List Int))):=
 AE (decide (s8<5)) (
  AJ (QA s1 s2 s7 s8 w0) fun o21=>
  CH o21 (fun o22=>
   some (.inl (o22.1,(AA .add .i64 s8 1),o22.2))) (fun o23=>
   some (.inr (.inr (o23,w0))))) (
  some (.inr (.inl w0)))
def NS(s1 s2:Int)(s7 s8:Int)(w0:List Int):Option ((List Int)⊕(Bool×List Int)):=AQ (fun s:Int×Int×List Int=>GV s1 s2 s.1 s.2.1 s.2.2) (s7,s8,w0)
theorem Oe(s1 s2:Int)(s7 s8:Int)(w0:List Int):NS s1 s2 s7 s8 w0=CY (GV s1 s2 s7 s8 w0) (fun s:Int×Int×List Int=>NS s1 s2 s.1 s.2.1 s.2.2):=Al _ _
def X5(a1 a2:Int)(w0:List Int):Option (Bool×List Int):=
 AJ (NS a1 a2 (AA .add .i64 a1 1) 0 w0) fun o24=>
 CH o24 (fun o25=>
  some (false,o25)) (fun o26=>
  some (o26.1,o26.2))
def Gb(s1 s10:Int)(w0:List Int)(s9:Int):Option ((Int)⊕(Int)):=
 AE (decide (s9<=s10)) (
  AY (0<=s1/\s1+1<=(w0.length:Int)) (
   AW w0 s1 fun x3=>
   AY (0<=s9/\s9+1<=(w0.length:Int)) (
    AW w0 s9 fun x4=>
    AJ (Y9 x3 x4) fun r5=>
    AE (!r5) (
     some (.inl (AA .add .i64 s9 1))) (
     some (.inr s9))))) (
  some (.inr s9))
def QI(s1 s10:Int)(w0:List Int)(s9:Int):Option (Int):=AQ (fun s:Int=>Gb s1 s10 w0 s) s9
theorem Oq(s1 s10:Int)(w0:List Int)(s9:Int):QI s1 s10 w0 s9=CY (Gb s1 s10 w0 s9) (fun s:Int=>QI s1 s10 w0 s):=Al _ _
def Gc(s1 s9:Int)(w0:List Int)(s10:Int):Option ((Int)⊕(Int)):=
 AE (decide (s9<=s10)) (
  AY (0<=s1/\s1+1<=(w0.length:Int)) (
   AW w0 s1 fun x7=>
   AY (0<=s10/\s10+1<=(w0.length:Int)) (
    AW w0 s10 fun x8=>
    AJ (Y9 x7 x8) fun r9=>
    AE (r9) (
     some (.inl (AA .sub .i64 s10 1))) (
     some (.inr s10))))) (
  some (.inr s10))
def QJ(s1 s9:Int)(w0:List Int)(s10:Int):Option (Int):=AQ (fun s:Int=>Gc s1 s9 w0 s) s10
theorem Ot(s1 s9:Int)(w0:List Int)(s10:Int):QJ s1 s9 w0 s10=CY (Gc s1 s9 w0 s10) (fun s:Int=>QJ s1 s9 w0 s):=Al _ _
def H7(s1 s9 s10:Int)(w0:List Int):Option ((Int×Int×List Int)⊕((Int×List Int))):=
 AJ (QI s1 s10 w0 s9) fun o6=>
 AJ (QJ s1 o6 w0 s10) fun o10=>
 AE (decide (o10<o6)) (
  some (.inr (o6,w0))) (
  AY (0<=o10/\o10+1<=(w0.length:Int)) (
   AW w0 o10 fun x11=>
   AY (0<=o6/\o6+1<=(w0.length:Int)) (
    AW w0 o6 fun x12=>
    AY (0<=o6/\o6+1<=(w0.length:Int)) (
     AY (0<=o6/\o6+1<=(w0.length:Int)) (
      AY (0<=o10/\o10+1<=((w0.set o6.toNat x11).length:Int)) (
       AY (0<=o10/\o10+1<=((w0.set o6.toNat x11).length:Int)) (
        some (.inl ((AA .add .i64 o6 1),(AA .sub .i64 o10 1),(w0.set o6.toNat x11).set o10.toNat x12)))))))))
def QH(s1 s9 s10:Int)(w0:List Int):Option ((Int×List Int)):=AQ (fun s:Int×Int×List Int=>H7 s1 s.1 s.2.1 s.2.2) (s9,s10,w0)
theorem aDa(s1 s9 s10:Int)(w0:List Int):QH s1 s9 s10 w0=CY (H7 s1 s9 s10 w0) (fun s:Int×Int×List Int=>QH s1 s.1 s.2.1 s.2.2):=Al _ _
def Xf(a1 a2 a3:Int)(w0:List Int):Option (Int×List Int):=
 AY (0<=a3/\a3+1<=(w0.length:Int)) (
  AW w0 a3 fun x1=>
  AY (0<=a1/\a1+1<=(w0.length:Int)) (
   AW w0 a1 fun x2=>
   AY (0<=a1/\a1+1<=(w0.length:Int)) (
    AY (0<=a1/\a1+1<=(w0.length:Int)) (
     AY (0<=a3/\a3+1<=((w0.set a1.toNat x1).length:Int)) (
      AY (0<=a3/\a3+1<=((w0.set a1.toNat x1).length:Int)) (
       AJ (QH a1 (AA .add .i64 a1 1) (AA .sub .i64 a2 1) ((w0.set a1.toNat x1).set a3.toNat x2)) fun o13=>
       some (o13.1,o13.2)))))))
def GZ(s1 s11:Int)(w0:List Int)(s10:Int):Option ((Int)⊕(Int)):=
 AE (decide (s10<=s11)) (
  AY (0<=s10/\s10+1<=(w0.length:Int)) (
   AW w0 s10 fun x3=>
   AY (0<=s1/\s1+1<=(w0.length:Int)) (
    AW w0 s1 fun x4=>
    AJ (Y9 x3 x4) fun r5=>
    AE (r5) (
     some (.inl (AA .add .i64 s10 1))) (
     some (.inr s10))))) (
  some (.inr s10))
def NT(s1 s11:Int)(w0:List Int)(s10:Int):Option (Int):=AQ (fun s:Int=>GZ s1 s11 w0 s) s10
theorem Oi(s1 s11:Int)(w0:List Int)(s10:Int):NT s1 s11 w0 s10=CY (GZ s1 s11 w0 s10) (fun s:Int=>NT s1 s11 w0 s):=Al _ _
def Ga(s1 s10:Int)(w0:List Int)(s11:Int):Option ((Int)⊕(Int)):=
 AE (decide (s10<=s11)) (
  AY (0<=s11/\s11+1<=(w0.length:Int)) (
   AW w0 s11 fun x7=>
   AY (0<=s1/\s1+1<=(w0.length:Int)) (
    AW w0 s1 fun x8=>
    AJ (Y9 x7 x8) fun r9=>
    AE (!r9) (
     some (.inl (AA .sub .i64 s11 1))) (
     some (.inr s11))))) (
  some (.inr s11))
def NU(s1 s10:Int)(w0:List Int)(s11:Int):Option (Int):=AQ (fun s:Int=>Ga s1 s10 w0 s) s11
theorem Oj(s1 s10:Int)(w0:List Int)(s11:Int):NU s1 s10 w0 s11=CY (Ga s1 s10 w0 s11) (fun s:Int=>NU s1 s10 w0 s):=Al _ _
def NV(s1 s11:Int)(w0:List Int)(s10:Int):Option ((Int)⊕(Int)):=
 AE (decide (s10<=s11)) (
  AY (0<=s10/\s10+1<=(w0.length:Int)) (
   AW w0 s10 fun x15=>
   AY (0<=s1/\s1+1<=(w0.length:Int)) (
    AW w0 s1 fun x16=>
    AJ (Y9 x15 x16) fun r17=>
    AE (r17) (
     some (.inl (AA .add .i64 s10 1))) (
     some (.inr s10))))) (
  some (.inr s10))
def aCh(s1 s11:Int)(w0:List Int)(s10:Int):Option (Int):=AQ (fun s:Int=>NV s1 s11 w0 s) s10
def NW(s1 s10:Int)(w0:List Int)(s11:Int):Option ((Int)⊕(Int)):=
 AE (decide (s10<=s11)) (
  AY (0<=s11/\s11+1<=(w0.length:Int)) (
   AW w0 s11 fun x19=>
   AY (0<=s1/\s1+1<=(w0.length:Int)) (
    AW w0 s1 fun x20=>
    AJ (Y9 x19 x20) fun r21=>
    AE (!r21) (
     some (.inl (AA .sub .i64 s11 1))) (
     some (.inr s11))))) (
  some (.inr s11))
def aCj(s1 s10:Int)(w0:List Int)(s11:Int):Option (Int):=AQ (fun s:Int=>NW s1 s10 w0 s) s11
def Hm(s1 s10 s11:Int)(w0:List Int):Option ((Int×Int×List Int)⊕((Int×List Int))):=
 AJ (aCh s1 s11 w0 s10) fun o18=>
 AJ (aCj s1 o18 w0 s11) fun o22=>
 AE (decide (o22<o18)) (
  some (.inr (o22,w0))) (
  AY (0<=o22/\o22+1<=(w0.length:Int)) (
   AW w0 o22 fun x23=>
   AY (0<=o18/\o18+1<=(w0.length:Int)) (
    AW w0 o18 fun x24=>
    AY (0<=o18/\o18+1<=(w0.length:Int)) (
     AY (0<=o18/\o18+1<=(w0.length:Int)) (
      AY (0<=o22/\o22+1<=((w0.set o18.toNat x23).length:Int)) (
       AY (0<=o22/\o22+1<=((w0.set o18.toNat x23).length:Int)) (
        some (.inl ((AA .add .i64 o18 1),(AA .sub .i64 o22 1),(w0.set o18.toNat x23).set o22.toNat x24)))))))))
def QE(s1 s10 s11:Int)(w0:List Int):Option ((Int×List Int)):=AQ (fun s:Int×Int×List Int=>Hm s1 s.1 s.2.1 s.2.2) (s10,s11,w0)
theorem aCf(s1 s10 s11:Int)(w0:List Int):QE s1 s10 s11 w0=CY (Hm s1 s10 s11 w0) (fun s:Int×Int×List Int=>QE s1 s.1 s.2.1 s.2.2):=Al _ _
def X6(a1 a2 a3:Int)(w0:List Int):Option (Int×Bool×List Int):=
 AY (0<=a3/\a3+1<=(w0.length:Int)) (
  AW w0 a3 fun x1=>
  AY (0<=a1/\a1+1<=(w0.length:Int)) (
   AW w0 a1 fun x2=>
   AY (0<=a1/\a1+1<=(w0.length:Int)) (
    AY (0<=a1/\a1+1<=(w0.length:Int)) (
     AY (0<=a3/\a3+1<=((w0.set a1.toNat x1).length:Int)) (
      AY (0<=a3/\a3+1<=((w0.set a1.toNat x1).length:Int)) (
       AJ (NT a1 (AA .sub .i64 a2 1) ((w0.set a1.toNat x1).set a3.toNat x2) (AA .add .i64 a1 1)) fun o6=>
       AJ (NU a1 o6 ((w0.set a1.toNat x1).set a3.toNat x2) (AA .sub .i64 a2 1)) fun o10=>
       AE (decide (o10<o6)) (
        AY (0<=a1/\a1+1<=(((w0.set a1.toNat x1).set a3.toNat x2).length:Int)) (
         AW ((w0.set a1.toNat x1).set a3.toNat x2) a1 fun x11=>
         AY (0<=o10/\o10+1<=(((w0.set a1.toNat x1).set a3.toNat x2).length:Int)) (
          AW ((w0.set a1.toNat x1).set a3.toNat x2) o10 fun x12=>
          AY (0<=o10/\o10+1<=(((w0.set a1.toNat x1).set a3.toNat x2).length:Int)) (
           AY (0<=o10/\o10+1<=(((w0.set a1.toNat x1).set a3.toNat x2).length:Int)) (
            AY (0<=a1/\a1+1<=((((w0.set a1.toNat x1).set a3.toNat x2).set o10.toNat x11).length:Int)) (
             AY (0<=a1/\a1+1<=((((w0.set a1.toNat x1).set a3.toNat x2).set o10.toNat x11).length:Int)) (
              some (o10,true,(((w0.set a1.toNat x1).set a3.toNat x2).set o10.toNat x11).set a1.toNat x12)))))))) (
        AY (0<=o10/\o10+1<=(((w0.set a1.toNat x1).set a3.toNat x2).length:Int)) (
         AW ((w0.set a1.toNat x1).set a3.toNat x2) o10 fun x13=>
         AY (0<=o6/\o6+1<=(((w0.set a1.toNat x1).set a3.toNat x2).length:Int)) (
          AW ((w0.set a1.toNat x1).set a3.toNat x2) o6 fun x14=>
          AY (0<=o6/\o6+1<=(((w0.set a1.toNat x1).set a3.toNat x2).length:Int)) (
           AY (0<=o6/\o6+1<=(((w0.set a1.toNat x1).set a3.toNat x2).length:Int)) (
            AY (0<=o10/\o10+1<=((((w0.set a1.toNat x1).set a3.toNat x2).set o6.toNat x13).length:Int)) (
             AY (0<=o10/\o10+1<=((((w0.set a1.toNat x1).set a3.toNat x2).set o6.toNat x13).length:Int)) (
              AJ (QE a1 (AA .add .i64 o6 1) (AA .sub .i64 o10 1) ((((w0.set a1.toNat x1).set a3.toNat x2).set o6.toNat x13).set o10.toNat x14)) fun o25=>
              AY (0<=a1/\a1+1<=(o25.2.length:Int)) (
               AW o25.2 a1 fun x26=>
               AY (0<=o25.1/\o25.1+1<=(o25.2.length:Int)) (
                AW o25.2 o25.1 fun x27=>
                AY (0<=o25.1/\o25.1+1<=(o25.2.length:Int)) (
                 AY (0<=o25.1/\o25.1+1<=(o25.2.length:Int)) (
                  AY (0<=a1/\a1+1<=((o25.2.set o25.1.toNat x26).length:Int)) (
                   AY (0<=a1/\a1+1<=((o25.2.set o25.1.toNat x26).length:Int)) (
                    some (o25.1,false,(o25.2.set o25.1.toNat x26).set a1.toNat x27))))))))))))))))))))
def NY(self:Int->Int->Int->(List Int)->Option (List Int))(s1 s2 s3:Int)(s8 s9:Bool)(s10:Int)(s35:Bool)(w0:List Int):Option ((Int×List Int)):=
 AE (s35) (
  AJ (Xs s1 s2 w0) fun r3=>
  some ((AA .sub .i64 s3 1),r3)) (
  some (s3,w0))
def NZ(self:Int->Int->Int->(List Int)->Option (List Int))(s1 s2 s3:Int)(s8 s9:Bool)(s10 s11 s12:Int)(s50:Bool)(w0:List Int):Option ((Int×Int×List Int)):=
 AE (s50) (
  AJ (Yo s1 s2 w0) fun r6=>
  some ((AA .sub .i64 (AA .sub .i64 s2 1) (AA .sub .i64 s11 s1)),1,r6)) (
  some (s11,s12,w0))
def Jv(self:Int->Int->Int->(List Int)->Option (List Int))(s1 s2 s3:Int)(s8 s9:Bool)(s10 s11:Int)(s68:Bool)(w0:List Int):Option ((List Int)⊕(List Int)):=
 AE (s68) (
  AJ (X5 s1 s2 w0) fun r8=>
  AE (r8.1) (
   some (.inr r8.2)) (
   some (.inl r8.2))) (
  some (.inl w0))
def Fk(self:Int->Int->Int->(List Int)->Option (List Int))(s1 s2 s3:Int)(s9:Bool)(s14 s16:Int)(s17 s18:Int)(s113:Bool)(w0:List Int):Option ((Int×Int×Bool×List Int)):=
 AE (s113) (
  AJ (self s1 s14 s3 w0) fun r17=>
  some ((AA .add .i64 s14 1),s2,decide (s18<=s16),r17)) (
  AJ (self (AA .add .i64 s14 1) s2 s3 w0) fun r18=>
  some (s1,s14,decide (s18<=s17),r18))
def NX(self:Int->Int->Int->(List Int)->Option (List Int))(s1 s2 s3:Int)(s8 s9:Bool)(w0:List Int):Option ((Int×Int×Int×Bool×Bool×List Int)⊕(List Int)):=
 AE (decide ((AA .sub .i64 s2 s1)<=12)) (
  AJ (Xv s1 s2 w0) fun r1=>
  some (.inr r1)) (
  AE (decide (s3=0)) (
   AJ (Xw s1 s2 w0) fun r2=>
   some (.inr r2)) (
   AJ (NY self s1 s2 s3 s8 s9 (AA .sub .i64 s2 s1) (!s8) w0) fun o4=>
   AJ (Yw o4.2 s1 s2) fun r5=>
   AJ (NZ self s1 s2 o4.1 s8 s9 (AA .sub .i64 s2 s1) r5.1 r5.2 (decide (r5.2=2)) o4.2) fun o7=>
   AE (s8) (
    AE (s9) (
     AJ (Jv self s1 s2 o4.1 s8 s9 (AA .sub .i64 s2 s1) o7.1 (decide (o7.2.1=1)) o7.2.2) fun o9=>
     CH o9 (fun o10=>
      AE (decide (0<s1)) (
       AY (0<=(AA .sub .i64 s1 1)/\(AA .sub .i64 s1 1)+1<=(o10.length:Int)) (
        AW o10 (AA .sub .i64 s1 1) fun x12=>
        AY (0<=o7.1/\o7.1+1<=(o10.length:Int)) (
         AW o10 o7.1 fun x13=>
         AJ (Y9 x12 x13) fun r14=>
         AE (!r14) (
          AJ (Xf s1 s2 o7.1 o10) fun r15=>
          some (.inl (r15.1,s2,o4.1,s8,s9,r15.2))) (
          AJ (X6 s1 s2 o7.1 o10) fun r16=>
          AJ (Fk self s1 s2 o4.1 r16.2.1 r16.1 (AA .sub .i64 r16.1 s1) (AA .sub .i64 s2 r16.1) (AA .quo .i64 (AA .sub .i64 s2 s1) 8) (decide ((AA .sub .i64 r16.1 s1)<(AA .sub .i64 s2 r16.1))) r16.2.2) fun o19=>
          some (.inl (o19.1,o19.2.1,o4.1,o19.2.2.1,r16.2.1,o19.2.2.2)))))) (
       AJ (X6 s1 s2 o7.1 o10) fun r20=>
       AJ (Fk self s1 s2 o4.1 r20.2.1 r20.1 (AA .sub .i64 r20.1 s1) (AA .sub .i64 s2 r20.1) (AA .quo .i64 (AA .sub .i64 s2 s1) 8) (decide ((AA .sub .i64 r20.1 s1)<(AA .sub .i64 s2 r20.1))) r20.2.2) fun o21=>
       some (.inl (o21.1,o21.2.1,o4.1,o21.2.2.1,r20.2.1,o21.2.2.2)))) (fun o11=>
      some (.inr o11))) (
     AJ (Jv self s1 s2 o4.1 s8 s9 (AA .sub .i64 s2 s1) o7.1 false o7.2.2) fun o22=>
     CH o22 (fun o23=>
      AE (decide (0<s1)) (
       AY (0<=(AA .sub .i64 s1 1)/\(AA .sub .i64 s1 1)+1<=(o23.length:Int)) (
        AW o23 (AA .sub .i64 s1 1) fun x25=>
        AY (0<=o7.1/\o7.1+1<=(o23.length:Int)) (
         AW o23 o7.1 fun x26=>
         AJ (Y9 x25 x26) fun r27=>
         AE (!r27) (
          AJ (Xf s1 s2 o7.1 o23) fun r28=>
          some (.inl (r28.1,s2,o4.1,s8,s9,r28.2))) (
          AJ (X6 s1 s2 o7.1 o23) fun r29=>
          AJ (Fk self s1 s2 o4.1 r29.2.1 r29.1 (AA .sub .i64 r29.1 s1) (AA .sub .i64 s2 r29.1) (AA .quo .i64 (AA .sub .i64 s2 s1) 8) (decide ((AA .sub .i64 r29.1 s1)<(AA .sub .i64 s2 r29.1))) r29.2.2) fun o30=>
          some (.inl (o30.1,o30.2.1,o4.1,o30.2.2.1,r29.2.1,o30.2.2.2)))))) (
       AJ (X6 s1 s2 o7.1 o23) fun r31=>
       AJ (Fk self s1 s2 o4.1 r31.2.1 r31.1 (AA .sub .i64 r31.1 s1) (AA .sub .i64 s2 r31.1) (AA .quo .i64 (AA .sub .i64 s2 s1) 8) (decide ((AA .sub .i64 r31.1 s1)<(AA .sub .i64 s2 r31.1))) r31.2.2) fun o32=>
       some (.inl (o32.1,o32.2.1,o4.1,o32.2.2.1,r31.2.1,o32.2.2.2)))) (fun o24=>
      some (.inr o24)))) (
    AJ (Jv self s1 s2 o4.1 s8 s9 (AA .sub .i64 s2 s1) o7.1 false o7.2.2) fun o33=>
    CH o33 (fun o34=>
     AE (decide (0<s1)) (
      AY (0<=(AA .sub .i64 s1 1)/\(AA .sub .i64 s1 1)+1<=(o34.length:Int)) (
       AW o34 (AA .sub .i64 s1 1) fun x36=>
       AY (0<=o7.1/\o7.1+1<=(o34.length:Int)) (
        AW o34 o7.1 fun x37=>
        AJ (Y9 x36 x37) fun r38=>
        AE (!r38) (
         AJ (Xf s1 s2 o7.1 o34) fun r39=>
         some (.inl (r39.1,s2,o4.1,s8,s9,r39.2))) (
         AJ (X6 s1 s2 o7.1 o34) fun r40=>
         AJ (Fk self s1 s2 o4.1 r40.2.1 r40.1 (AA .sub .i64 r40.1 s1) (AA .sub .i64 s2 r40.1) (AA .quo .i64 (AA .sub .i64 s2 s1) 8) (decide ((AA .sub .i64 r40.1 s1)<(AA .sub .i64 s2 r40.1))) r40.2.2) fun o41=>
         some (.inl (o41.1,o41.2.1,o4.1,o41.2.2.1,r40.2.1,o41.2.2.2)))))) (
      AJ (X6 s1 s2 o7.1 o34) fun r42=>
      AJ (Fk self s1 s2 o4.1 r42.2.1 r42.1 (AA .sub .i64 r42.1 s1) (AA .sub .i64 s2 r42.1) (AA .quo .i64 (AA .sub .i64 s2 s1) 8) (decide ((AA .sub .i64 r42.1 s1)<(AA .sub .i64 s2 r42.1))) r42.2.2) fun o43=>
      some (.inl (o43.1,o43.2.1,o4.1,o43.2.2.1,r42.2.1,o43.2.2.2)))) (fun o35=>
     some (.inr o35)))))
def Ht(self:Int->Int->Int->(List Int)->Option (List Int))(s1 s2 s3:Int)(s8 s9:Bool)(w0:List Int):Option ((Int×Int×Int×Bool×Bool×List Int)⊕((List Int))):=
 AJ (NX self s1 s2 s3 s8 s9 w0) fun o44=>
 CH o44 (fun o45=>
  some (.inl (o45.1,o45.2.1,o45.2.2.1,o45.2.2.2.1,o45.2.2.2.2.1,o45.2.2.2.2.2))) (fun o46=>
  some (.inr o46))
def QG(self:Int->Int->Int->(List Int)->Option (List Int))(s1 s2 s3:Int)(s8 s9:Bool)(w0:List Int):Option ((List Int)):=AQ (fun s:Int×Int×Int×Bool×Bool×List Int=>Ht self s.1 s.2.1 s.2.2.1 s.2.2.2.1 s.2.2.2.2.1 s.2.2.2.2.2) (s1,s2,s3,s8,s9,w0)
theorem aCw(self:Int->Int->Int->(List Int)->Option (List Int))(s1 s2 s3:Int)(s8 s9:Bool)(w0:List Int):QG self s1 s2 s3 s8 s9 w0=CY (Ht self s1 s2 s3 s8 s9 w0) (fun s:Int×Int×Int×Bool×Bool×List Int=>QG self s.1 s.2.1 s.2.2.1 s.2.2.2.1 s.2.2.2.2.1 s.2.2.2.2.2):=Al _ _
def aMs(self:Int->Int->Int->(List Int)->Option (List Int))(a1 a2 a3:Int)(w0:List Int):Option (List Int):=
 AJ (QG self a1 a2 a3 true true w0) fun o47=>
 some o47
def aK8:Nat->Int->Int->Int->(List Int)->Option (List Int)
 |0=>fun _ _ _ _=>none
 |n+1=>fun a1 a2 a3 w0=>aMs (aK8 n) a1 a2 a3 w0
def X9(a1 a2 a3:Int)(w0:List Int):Option (List Int):=aK8 100000 a1 a2 a3 w0
def Q4(w0:List Int):Option (List Int):=
 AJ (Qb (IntKind.wrap .u64 (w0.length:Int))) fun r1=>
 AJ (X9 0 (w0.length:Int) r1 w0) fun r2=>
 some r2
def U3(xs:List Int):Option (List Int):=bagE Q4 xs
def Hk(s1:List X2)(s6 s15:Int)(s16 s30:Int)(w2:AD)(w5:List (Int×Bool))(s31:Int)(w7:List (Int×Bool)):Option ((Int×(List (Int×Bool)))⊕((List (Int×Bool)))):=
 AE (decide (s31<s30)) (
  AJ (Xn (Xr.mk w2 s1 s6 s31) w7) fun r3=>
  some (.inl ((AA .add .i64 s31 1),r3))) (
  some (.inr w7))
def aMm(s1:List X2)(s6 s15:Int)(s16 s30:Int)(w2:AD)(w5:List (Int×Bool))(s31:Int)(w7:List (Int×Bool)):Option ((List (Int×Bool))):=AQ (fun s:Int×(List (Int×Bool))=>Hk s1 s6 s15 s16 s30 w2 w5 s.1 s.2) (s31,w7)
def Hl(s1:List X2)(s15 s16:Int)(w2:AD)(w7:List (Int×Bool))(k:Int)(v:Bool)(w5:List (Int×Bool)):Option ((List (Int×Bool))):=
 some (GH k true w5)
def Kp(s1:List X2)(s15 s16:Int)(w2:AD)(w7:List (Int×Bool))(s:(List (Int×Bool))):(List (Int×Bool)):=(fun s:(List (Int×Bool))=>(aJ5 s:(List (Int×Bool)))) s
def aMn(s1:List X2)(s15 s16:Int)(w2:AD)(w7 w5:List (Int×Bool)):Option ((List (Int×Bool))):=F5 (Kp s1 s15 s16 w2 w7) w7 (fun(x:Int×Bool) (s:(List (Int×Bool)))=>Hl s1 s15 s16 w2 w7 x.1 x.2 s) w5
def aBy(s1:List X2)(s15 s16:Int)(w2:AD)(w5 w7:List (Int×Bool)):Option ((List (Int×Bool))):=
 AJ (aMn s1 s15 s16 w2 w7 w5) fun o5=>
 some o5
def Hj(s1:List X2)(s15:Int)(w2:AD)(s16:Int)(w5:List (Int×Bool)):Option ((Int×(List (Int×Bool)))⊕((List (Int×Bool)))):=
 AE (decide (s16<s15)) (
  AJ (Yh w2 s16) fun r1=>
  AW w2.decls s16 fun x2=>
  AJ (aMm s1 s16 s15 s16 (x2.types.length:Int) w2 w5 0 (GH r1 true ([]:List (Int×Bool)))) fun o4=>
  AJ (aBy s1 s15 s16 w2 w5 o4) fun o6=>
  some (.inl ((AA .add .i64 s16 1),o6))) (
  some (.inr w5))
def aMl(s1:List X2)(s15:Int)(w2:AD)(s16:Int)(w5:List (Int×Bool)):Option ((List (Int×Bool))):=AQ (fun s:Int×(List (Int×Bool))=>Hj s1 s15 w2 s.1 s.2) (s16,w5)
def Fj(w5:List (Int×Bool))(k:Int)(v:Bool)(w10:List Int):Option (List Int):=
 AY (fit w10.length [k].length 8) (
  some (w10++[k]))
def NP(w5:List (Int×Bool))(s:List Int):List Int:=(fun s:List Int=>(aKo s:List Int)) s
def aMp(w5:List (Int×Bool))(w10:List Int):Option (List Int):=F5 (NP w5) w5 (fun(x:Int×Bool) (s:List Int)=>Fj w5 x.1 x.2 s) w10
def aB0(w5:List (Int×Bool)):Option ((List Int)):=
 AJ (aMp w5 ([]:List Int)) fun o8=>
 some o8
def X4(a0:AD)(a1:List X2):Option (List Int):=
 AJ (aMl a1 (a0.decls.length:Int) a0 0 ([]:List (Int×Bool))) fun o7=>
 AJ (aB0 (Nz 0 o7)) fun o9=>
 AJ (U3 o9) fun r10=>
 some r10
def U4(a0:Int):Option (Bool):=
 some false
def TW(s1 s2:Int)(s7 s8 s10:Int)(s14:List Xc)(s15 s16:Int)(s28:List Xd)(s29 s30:Int)(s46:Bool)(w3:AD)(w9:Xc)(w12:Xd):Option (Int):=
 AE (s46) (
  AY (0<=(IntKind.wrap .u64 w12.to)) (
   some (AA .or .u32 s10 (AA .shl .u32 1 (IntKind.wrap .u64 w12.to))))) (
  some s10)
def aDn(s1 s2:Int)(s7 s8 s10:Int)(s14:List Xc)(s15 s16:Int)(s28:List Xd)(s29 s30:Int)(w3:AD)(w9:Xc):Option (Int):=
 AW s28 s30 fun x2=>
 AE (decide (x2.from_=s8)) (
  AY (0<=(IntKind.wrap .u64 x2.symbol)) (
   AJ (TW s1 s2 s7 s8 s10 s14 s15 s16 s28 s29 s30 (!decide ((AA .and .u64 s2 (AA .shl .u64 1 (IntKind.wrap .u64 x2.symbol)))=0)) w3 w9 x2) fun o3=>
   some o3)) (
  AJ (TW s1 s2 s7 s8 s10 s14 s15 s16 s28 s29 s30 false w3 w9 x2) fun o4=>
  some o4)
def H9(s1 s2:Int)(s7 s8:Int)(s14:List Xc)(s15 s16:Int)(s28:List Xd)(s29:Int)(w3:AD)(w9:Xc)(s10 s30:Int):Option ((Int×Int)⊕(Int)):=
 AE (decide (s30<s29)) (
  AJ (aDn s1 s2 s7 s8 s10 s14 s15 s16 s28 s29 s30 w3 w9) fun o5=>
  some (.inl (o5,(AA .add .i64 s30 1)))) (
  some (.inr s10))
def aDq(s1 s2:Int)(s7 s8:Int)(s14:List Xc)(s15 s16:Int)(s28:List Xd)(s29:Int)(w3:AD)(w9:Xc)(s10 s30:Int):Option (Int):=AQ (fun s:Int×Int=>H9 s1 s2 s7 s8 s14 s15 s16 s28 s29 w3 w9 s.1 s.2) (s10,s30)
def Nb(s1 s2:Int)(s7 s8 s10:Int)(s14:List Xc)(s15 s16:Int)(s60:Bool)(w3:AD):Option (Int):=
 AE (s60) (
  AY (0<=(IntKind.wrap .u64 s8)) (
   some (AA .shl .u32 1 (IntKind.wrap .u64 s8)))) (
  some s10)
def aDl(s1 s2 s7:Int)(s14:List Xc)(s15 s16:Int)(w3:AD):Option (Int):=
 AW s14 s16 fun x1=>
 AY (0<=(IntKind.wrap .u64 s16)) (
  AE (decide ((AA .and .u32 s1 (AA .shl .u32 1 (IntKind.wrap .u64 s16)))=0)) (
   some s7) (
   AJ (aDq s1 s2 s7 s16 s14 s15 s16 w3.trans (w3.trans.length:Int) w3 x1 0 0) fun o6=>
   AE (decide (o6=0)) (
    AJ (Nb s1 s2 s7 s16 o6 s14 s15 s16 (!x1.next) w3) fun o7=>
    some (AA .or .u32 s7 o7)) (
    AJ (Nb s1 s2 s7 s16 o6 s14 s15 s16 false w3) fun o8=>
    some (AA .or .u32 s7 o8))))
def Ge(s1 s2:Int)(s14:List Xc)(s15:Int)(w3:AD)(s7 s16:Int):Option ((Int×Int)⊕(Int)):=
 AE (decide (s16<s15)) (
  AJ (aDl s1 s2 s7 s14 s15 s16 w3) fun o9=>
  some (.inl (o9,(AA .add .i64 s16 1)))) (
  some (.inr s7))
def aM7(s1 s2:Int)(s14:List Xc)(s15:Int)(w3:AD)(s7 s16:Int):Option (Int):=AQ (fun s:Int×Int=>Ge s1 s2 s14 s15 w3 s.1 s.2) (s7,s16)
def Xh(a0:AD)(a1 a2:Int):Option (Int):=
 AJ (aM7 a1 a2 a0.states (a0.states.length:Int) a0 0 0) fun o10=>
 some o10
def aFf(s11:List Int)(s12 s14 s15:Int)(s44:List Int)(s45 s46:Int)(s64:Bool)(w4:AD)(w8:List Int)(w9 w10:MP Int Int):Option ((List Int×MP Int Int×MP Int Int)):=
 AE (s64) (
  AY (0<=s12/\s12+1<=(w8.length:Int)) (
   AW w8 s12 fun x7=>
   AY (OM 0 w9 s15<=4611686018427387904) (
    AY (aKd (G7 0 w9 s15) ((OM 0 w9 s15:Nat):Int)=true) (
     AY (fit w8.length [s15].length 4) (
      some (w8++[s15],Ri (G7 0 w9 s15) ((OM 0 w9 s15:Nat):Int) x7,Eg w10 s15 s14)))))) (
  some (w8,w9,w10))
def aFd(s11:List Int)(s12:Int)(s44:List Int)(s45 s46:Int)(w4:AD)(w8:List Int)(w9 w10:MP Int Int):Option ((List Int×MP Int Int×MP Int Int)):=
 AW s44 s46 fun x4=>
 AY (0<=s12/\s12+1<=(w8.length:Int)) (
  AW w8 s12 fun x5=>
  AJ (Xh w4 x5 x4) fun r6=>
  AJ (aFf s11 s12 x4 r6 s44 s45 s46 (!((J4 0 w9 r6).2)) w4 w8 w9 w10) fun o8=>
  some (o8.1,o8.2.1,o8.2.2))
def IO(s11:List Int)(s12:Int)(s44:List Int)(s45:Int)(w4:AD)(s46:Int)(w8:List Int)(w9 w10:MP Int Int):Option ((Int×List Int×MP Int Int×MP Int Int)⊕((List Int×MP Int Int×MP Int Int))):=
 AE (decide (s46<s45)) (
  AJ (aFd s11 s12 s44 s45 s46 w4 w8 w9 w10) fun o9=>
  some (.inl ((AA .add .i64 s46 1),o9.1,o9.2.1,o9.2.2))) (
  some (.inr (w8,w9,w10)))
def aNl(s11:List Int)(s12:Int)(s44:List Int)(s45:Int)(w4:AD)(s46:Int)(w8:List Int)(w9 w10:MP Int Int):Option ((List Int×MP Int Int×MP Int Int)):=AQ (fun s:Int×List Int×MP Int Int×MP Int Int=>IO s11 s12 s44 s45 w4 s.1 s.2.1 s.2.2.1 s.2.2.2) (s46,w8,w9,w10)
def IN(s11:List Int)(w4:AD)(s12:Int)(w8:List Int)(w9 w10:MP Int Int):Option ((Int×List Int×MP Int Int×MP Int Int)⊕((List Int×MP Int Int×MP Int Int))):=
 AE (decide (s12<(w8.length:Int))) (
  AY (0<=s12/\s12+1<=(w8.length:Int)) (
   AW w8 s12 fun x2=>
   AJ (U4 x2) fun r3=>
   AE (r3) (
    AY (0<=(AA .add .i64 s12 1)/\(AA .add .i64 s12 1)<=(w8.length:Int)) (
     some (.inr (w8.take ((AA .add .i64 s12 1)).toNat,w9,w10)))) (
    AJ (aNl s11 s12 s11 (s11.length:Int) w4 0 w8 w9 w10) fun o10=>
    some (.inl ((AA .add .i64 s12 1),o10.1,o10.2.1,o10.2.2))))) (
  some (.inr (w8,w9,w10)))
def aNk(s11:List Int)(w4:AD)(s12:Int)(w8:List Int)(w9 w10:MP Int Int):Option ((List Int×MP Int Int×MP Int Int)):=AQ (fun s:Int×List Int×MP Int Int×MP Int Int=>IN s11 w4 s.1 s.2.1 s.2.2.1 s.2.2.2) (s12,w8,w9,w10)
def Xx(a0:AD)(a1:List X2)(a2:Int):Option (List Int×MP Int Int×MP Int Int):=
 AJ (X4 a0 a1) fun r1=>
 AJ (aNk r1 a0 0 [a2] (Eg (G8:MP Int Int) a2 a2) (G8:MP Int Int)) fun o11=>
 some (o11.1,o11.2.1,o11.2.2)
def Zr(a0:AD)(a1:List X2)(a2:Int):Option (List Int):=
 AJ (Xx a0 a1 a2) fun r1=>
 AJ (Q4 r1.1) fun r2=>
 some r2
def Iq(s1:Int)(s8:List Xc)(s9 s10:Int):Option ((Int)⊕(Unit⊕Unit)):=
 AE (decide (s10<s9)) (
  AW s8 s10 fun x1=>
  AE (x1.accept) (
   AY (0<=(IntKind.wrap .u64 s10)) (
    AE (!decide ((AA .and .u32 s1 (AA .shl .u32 1 (IntKind.wrap .u64 s10)))=0)) (
     some (.inr (.inr ()))) (
     some (.inl (AA .add .i64 s10 1))))) (
   some (.inl (AA .add .i64 s10 1)))) (
  some (.inr (.inl ())))
def aOc(s1:Int)(s8:List Xc)(s9 s10:Int):Option (Unit⊕Unit):=AQ (fun s:Int=>Iq s1 s8 s9 s) s10
def Z0(a0:AD)(a1:Int):Option (Bool):=
 AJ (aOc a1 a0.states (a0.states.length:Int) 0) fun o2=>
 CH o2 (fun o3=>
  some false) (fun o4=>
  some true)
def U5(a0:Int)(a1:AD):Option (Bool):=
 AJ (Z0 a1 a0) fun r1=>
 some (!r1)
def I5(s0:List Int)(s1:AD)(s7 s8:Int):Option ((Int)⊕(Unit⊕Int)):=
 AE (decide (s8<s7)) (
  AW s0 s8 fun x1=>
  AJ (U5 x1 s1) fun r2=>
  AE (r2) (
   some (.inr (.inr s8))) (
   some (.inl (AA .add .i64 s8 1)))) (
  some (.inr (.inl ())))
def aOq(s0:List Int)(s1:AD)(s7 s8:Int):Option (Unit⊕Int):=AQ (fun s:Int=>I5 s0 s1 s7 s) s8
def Zj(a0:List Int)(a1:AD):Option (Int):=
 AJ (aOq a0 a1 (a0.length:Int) 0) fun o3=>
 CH o3 (fun o4=>
  some (-1)) (fun o5=>
  some o5)
def Qv(a0:List Int)(a1:AD):Option (Bool):=
 AJ (Zj a0 a1) fun r1=>
 some (decide (0<=r1))
def U6(a0:Int)(a1:AD):Option (Bool):=
 AJ (Z0 a1 a0) fun r1=>
 some r1
def I6(s0:List Int)(s1:AD)(s7 s8:Int):Option ((Int)⊕(Unit⊕Int)):=
 AE (decide (s8<s7)) (
  AW s0 s8 fun x1=>
  AJ (U6 x1 s1) fun r2=>
  AE (r2) (
   some (.inr (.inr s8))) (
   some (.inl (AA .add .i64 s8 1)))) (
  some (.inr (.inl ())))
def aOr(s0:List Int)(s1:AD)(s7 s8:Int):Option (Unit⊕Int):=AQ (fun s:Int=>I6 s0 s1 s7 s) s8
def Zk(a0:List Int)(a1:AD):Option (Int):=
 AJ (aOr a0 a1 (a0.length:Int) 0) fun o3=>
 CH o3 (fun o4=>
  some (-1)) (fun o5=>
  some o5)
def Qw(a0:List Int)(a1:AD):Option (Bool):=
 AJ (Zk a0 a1) fun r1=>
 some (decide (0<=r1))
def Qg(a0:AD)(a1:List Int):Option (Int):=
 AJ (Qv a1 a0) fun r1=>
 AE (!r1) (
  some 1) (
  AJ (Qw a1 a0) fun r2=>
  AE (!r2) (
   some 2) (
   some 0))
def Q5(a0:AD)(a1:List X2)(a2:Int):Option (Int):=
 AJ (Zr a0 a1 a2) fun r1=>
 AJ (Qg a0 r1) fun r2=>
 some r2
def Q0:Option (Bool):=
 AJ (Zo (AD.mk ([113]:List UInt8) ([]:List Xe) ([]:List Ye) ([]:List Yg) ([Xc.mk ([115]:List UInt8) false true,Xc.mk ([116]:List UInt8) true false]) 0 ([]:List X3) ([]:List Ym) ([]:List Xd)) 0) fun r1=>
 AE (decide (r1=1)) (
  AJ (Zo (AD.mk ([113]:List UInt8) ([]:List Xe) ([]:List Ye) ([]:List Yg) ([Xc.mk ([115]:List UInt8) false true,Xc.mk ([116]:List UInt8) true false]) 0 ([]:List X3) ([]:List Ym) ([]:List Xd)) 1) fun r2=>
  AE (decide (r2=2)) (
   AJ (Xu (AD.mk ([113]:List UInt8) ([]:List Xe) ([]:List Ye) ([]:List Yg) ([Xc.mk ([115]:List UInt8) false true,Xc.mk ([116]:List UInt8) true false]) 0 ([]:List X3) ([]:List Ym) ([]:List Xd)) ([]:List Yn)) fun r3=>
   AE (decide (r3=2)) (
    AJ (Q5 (AD.mk ([113]:List UInt8) ([]:List Xe) ([]:List Ye) ([]:List Yg) ([Xc.mk ([115]:List UInt8) false true,Xc.mk ([116]:List UInt8) true false]) 0 ([]:List X3) ([]:List Ym) ([]:List Xd)) ([]:List X2) 1) fun r4=>
    some (decide (r4=1))) (
    some false)) (
   some false)) (
  some false)
def If(s0:List X0)(w3:X0)(s5:Int):Option ((Int)⊕(Int)):=
 AE (decide (0<s5)) (
  AW s0 (AA .sub .i64 s5 1) fun x1=>
  AJ (Zp w3 x1) fun r2=>
  AE (r2) (
   some (.inl (AA .sub .i64 s5 1))) (
   some (.inr s5))) (
  some (.inr s5))
def aNy(s0:List X0)(w3:X0)(s5:Int):Option (Int):=AQ (fun s:Int=>If s0 w3 s) s5
def Yf(a0:List X0)(a1:X0):Option (List X0):=
 AJ (aNy a0 a1 (a0.length:Int)) fun o3=>
 AE (decide (0<o3)) (
  AW a0 (AA .sub .i64 o3 1) fun x4=>
  AE ((X0.eqb x4 a1)) (
   some a0) (
   AY ((0:Int)<=0/\(0:Int)<=o3/\o3<=(a0.length:Int)) (
    AY (fit ([]:List X0).length (sub a0 0 o3).length 40) (
     AY (fit (([]:List X0)++(sub a0 0 o3)).length [a1].length 40) (
      AY ((0:Int)<=o3/\(o3:Int)<=(a0.length:Int)/\(a0.length:Int)<=(a0.length:Int)) (
       AY (fit ((([]:List X0)++(sub a0 0 o3))++[a1]).length (sub a0 o3 (a0.length:Int)).length 40) (
        some (((([]:List X0)++(sub a0 0 o3))++[a1])++(sub a0 o3 (a0.length:Int)))))))))) (
  AY ((0:Int)<=0/\(0:Int)<=o3/\o3<=(a0.length:Int)) (
   AY (fit ([]:List X0).length (sub a0 0 o3).length 40) (
    AY (fit (([]:List X0)++(sub a0 0 o3)).length [a1].length 40) (
     AY ((0:Int)<=o3/\(o3:Int)<=(a0.length:Int)/\(a0.length:Int)<=(a0.length:Int)) (
      AY (fit ((([]:List X0)++(sub a0 0 o3))++[a1]).length (sub a0 o3 (a0.length:Int)).length 40) (
       some (((([]:List X0)++(sub a0 0 o3))++[a1])++(sub a0 o3 (a0.length:Int)))))))))
def Tr(s1:Int)(s10:Bool)(w2:AD):Option ((List X0)):=
 AE (s10) (
  some ([X0.mk 3 0 ([]:List UInt8) false,X0.mk 3 0 ([]:List UInt8) true])) (
  some ([]:List X0))
def Ts(s1:Int)(s5:List X0)(s6 s7:Int)(s50:Bool)(w2:AD)(w8:BW):Option ((List X0)):=
 AE (s50) (
  AJ (Yf s5 w8.value) fun r12=>
  some r12) (
  some s5)
def aD1(s1:Int)(s5:List X0)(s6 s7:Int)(w2:AD):Option ((List X0)):=
 AW w2.symbols s6 fun x10=>
 AW x10.args s7 fun x11=>
 AE (decide (x11.kind=1)) (
  AJ (Ts s1 s5 s6 s7 (decide (x11.value.kind=s1)) w2 x11) fun o13=>
  some o13) (
  AJ (Ts s1 s5 s6 s7 false w2 x11) fun o14=>
  some o14)
def IF(s1 s6:Int)(w2:AD)(s5:List X0)(s7:Int):Option ((List X0×Int)⊕((List X0))):=
 AW w2.symbols s6 fun x17=>
 AE (decide (s7<(x17.args.length:Int))) (
  AJ (aD1 s1 s5 s6 s7 w2) fun o18=>
  some (.inl (o18,(AA .add .i64 s7 1)))) (
  some (.inr s5))
def aD4(s1 s6:Int)(w2:AD)(s5:List X0)(s7:Int):Option ((List X0)):=AQ (fun s:List X0×Int=>IF s1 s6 w2 s.1 s.2) (s5,s7)
def IE(s1:Int)(w2:AD)(s5:List X0)(s6:Int):Option ((List X0×Int)⊕((List X0))):=
 AE (decide (s6<(w2.symbols.length:Int))) (
  AJ (aD4 s1 s6 w2 s5 0) fun o19=>
  some (.inl (o19,(AA .add .i64 s6 1)))) (
  some (.inr s5))
def aM8(s1:Int)(w2:AD)(s5:List X0)(s6:Int):Option ((List X0)):=AQ (fun s:List X0×Int=>IE s1 w2 s.1 s.2) (s5,s6)
def Xk(a0:AD)(a1:Int):Option (List X0):=
 AJ (Tr a1 (decide (a1=3)) a0) fun o1=>
 AJ (aM8 a1 a0 o1 0) fun o20=>
 some o20
def aN1(s0:List X0)(s1:Int)(s5:List X0)(s6:Int)(s19:Bool):Option ((List X0)):=
 AE (s19) (
  AW s0 s6 fun x7=>
  AJ (Yf s5 x7) fun r8=>
  some r8) (
  some s5)
def aN0(s0:List X0)(s1:Int)(s5:List X0)(s6:Int):Option ((List X0)):=
 AW s0 s6 fun x6=>
 AJ (aN1 s0 s1 s5 s6 (decide (x6.kind=s1))) fun o9=>
 some o9
def Kw(s0:List X0)(s1:Int)(s5:List X0)(s6:Int):Option ((List X0×Int)⊕((List X0))):=
 AE (decide (s6<(s0.length:Int))) (
  AJ (aN0 s0 s1 s5 s6) fun o10=>
  some (.inl (o10,(AA .add .i64 s6 1)))) (
  some (.inr s5))
def aHm(s0:List X0)(s1:Int)(s5:List X0)(s6:Int):Option ((List X0)):=AQ (fun s:List X0×Int=>Kw s0 s1 s.1 s.2) (s5,s6)
theorem aHn(s0:List X0)(s1:Int)(s5:List X0)(s6:Int):aHm s0 s1 s5 s6=CY (Kw s0 s1 s5 s6) (fun s:List X0×Int=>aHm s0 s1 s.1 s.2):=Al _ _
def Yi(a0:List X0)(a1:Int):Option (List X0):=
 AJ (aHm a0 a1 ([]:List X0) 0) fun o11=>
 some o11
def Ky(s1 s5:List X0)(s6:Int):Option ((List X0×Int)⊕((List X0))):=
 AE (decide (s6<(s1.length:Int))) (
  AW s1 s6 fun x1=>
  AJ (Yf s5 x1) fun r2=>
  some (.inl (r2,(AA .add .i64 s6 1)))) (
  some (.inr s5))
def aIg(s1 s5:List X0)(s6:Int):Option ((List X0)):=AQ (fun s:List X0×Int=>Ky s1 s.1 s.2) (s5,s6)
theorem aIh(s1 s5:List X0)(s6:Int):aIg s1 s5 s6=CY (Ky s1 s5 s6) (fun s:List X0×Int=>aIg s1 s.1 s.2):=Al _ _
def Z1(a0 a1:List X0):Option (List X0):=
 AJ (aIg a1 a0 0) fun o3=>
 some o3
def Ql(a0:List X0)(a1:X0):Option (Bool):=
 AJ (Yf a0 a1) fun r1=>
 some (decide ((r1.length:Int)=(a0.length:Int)))
def aGq(s0:Int)(s1:List X0)(s12:Bool)(w4 w5:X0):Option (X0):=
 AE (s12) (
  some (X0.mk w5.kind (AA .add .i64 w5.int 1) w5.str w5.bool)) (
  AY (w5.str.length+([97]:List UInt8).length<=9223372036854775807) (
   some (X0.mk w5.kind w5.int (w5.str++([97]:List UInt8)) w5.bool)))
def VY(s0:Int)(s1:List X0)(w4 w5:X0):Option (X0):=
 AJ (aGq s0 s1 (decide (s0=1)) w4 w5) fun o2=>
 some o2
def Ia(s0:Int)(s1:List X0)(w4 w5:X0):Option ((X0)⊕(X0)):=
 AJ (Ql s1 w5) fun r1=>
 AE (r1) (
  AJ (VY s0 s1 w4 w5) fun o3=>
  some (.inl o3)) (
  some (.inr w5))
def VZ(s0:Int)(s1:List X0)(w4 w5:X0):Option (X0):=AQ (fun s:X0=>Ia s0 s1 w4 s) w5
theorem PF(s0:Int)(s1:List X0)(w4 w5:X0):VZ s0 s1 w4 w5=CY (Ia s0 s1 w4 w5) (fun s:X0=>VZ s0 s1 w4 s):=Al _ _
def Y7(a0:Int)(a1:List X0):Option (X0):=
 AJ (VZ a0 a1 (X0.mk 0 0 ([]:List UInt8) false) (X0.mk a0 0 ([]:List UInt8) false)) fun o4=>
 some o4
def aGw(s1:Int)(s2:List X2)(s3 s9:List X0)(s10:Int)(s27:Bool):Option ((List X0)):=
 AE (s27) (
  AW s2 s10 fun x3=>
  AJ (Yf s9 x3.value) fun r4=>
  some r4) (
  some s9)
def aGu(s1:Int)(s2:List X2)(s3 s9:List X0)(s10:Int):Option ((List X0)):=
 AW s2 s10 fun x2=>
 AJ (aGw s1 s2 s3 s9 s10 (decide (x2.value.kind=s1))) fun o5=>
 some o5
def Ic(s1:Int)(s2:List X2)(s3 s9:List X0)(s10:Int):Option ((List X0×Int)⊕((List X0))):=
 AE (decide (s10<(s2.length:Int))) (
  AJ (aGu s1 s2 s3 s9 s10) fun o6=>
  some (.inl (o6,(AA .add .i64 s10 1)))) (
  some (.inr s9))
def aGy(s1:Int)(s2:List X2)(s3 s9:List X0)(s10:Int):Option ((List X0)):=AQ (fun s:List X0×Int=>Ic s1 s2 s3 s.1 s.2) (s9,s10)
def Ya(a0:AD)(a1:Int)(a2:List X2)(a3:List X0):Option (List X0):=
 AJ (Xk a0 a1) fun r1=>
 AJ (aGy a1 a2 a3 r1 0) fun o7=>
 AE (decide (a1=3)) (
  some o7) (
  AJ (Yi a3 a1) fun r8=>
  AJ (Z1 o7 r8) fun r9=>
  AJ (Y7 a1 r9) fun r10=>
  AJ (Yf o7 r10) fun r11=>
  some r11)
def Ib(self:AD->Int->(List X2)->(List X0)->(List X0)->Option (List X8))(s1:Int)(s2:List X2)(s3 s4 s12:List X0)(w5:AD)(s13:Int)(w11:List X8):Option ((Int×List X8)⊕((List X8))):=
 AE (decide (s13<(s12.length:Int))) (
  AY (fit ([]:List X0).length s4.length 40) (
   AW s12 s13 fun x8=>
   AY (fit (([]:List X0)++s4).length [x8].length 40) (
    AJ (self w5 s1 s2 s3 ((([]:List X0)++s4)++[x8])) fun r9=>
    AY (fit w11.length r9.length 40) (
     some (.inl ((AA .add .i64 s13 1),w11++r9)))))) (
  some (.inr w11))
def aNu(self:AD->Int->(List X2)->(List X0)->(List X0)->Option (List X8))(s1:Int)(s2:List X2)(s3 s4 s12:List X0)(w5:AD)(s13:Int)(w11:List X8):Option ((List X8)):=AQ (fun s:Int×List X8=>Ib self s1 s2 s3 s4 s12 w5 s.1 s.2) (s13,w11)
def aR4(self:AD->Int->(List X2)->(List X0)->(List X0)->Option (List X8))(a0:AD)(a1:Int)(a2:List X2)(a3 a4:List X0):Option (List X8):=
 AW a0.decls a1 fun x1=>
 AE (decide ((a4.length:Int)=(x1.types.length:Int))) (
  AW a0.decls a1 fun x2=>
  some [X8.mk x2.name a4]) (
  AW a0.decls a1 fun x3=>
  AW x3.types (a4.length:Int) fun x4=>
  AJ (Ya a0 x4 a2 a3) fun r5=>
  AJ (aNu self a1 a2 a3 a4 r5 a0 0 ([]:List X8)) fun o10=>
  some o10)
def aK9:Nat->AD->Int->(List X2)->(List X0)->(List X0)->Option (List X8)
 |0=>fun _ _ _ _ _=>none
 |n+1=>fun a0 a1 a2 a3 a4=>aR4 (aK9 n) a0 a1 a2 a3 a4
def Y8(a0:AD)(a1:Int)(a2:List X2)(a3 a4:List X0):Option (List X8):=aK9 100000 a0 a1 a2 a3 a4
def Kx(s0:List X2)(s1:Int)(w4:X0)(s6:Int):Option ((Int)⊕(Unit⊕X0)):=
 AE (decide (s6<(s0.length:Int))) (
  AW s0 s6 fun x1=>
  AE (decide (x1.var=s1)) (
   AW s0 s6 fun x2=>
   some (.inr (.inr x2.value))) (
   some (.inl (AA .add .i64 s6 1)))) (
  some (.inr (.inl ())))
def aN3(s0:List X2)(s1:Int)(w4:X0)(s6:Int):Option (Unit⊕X0):=AQ (fun s:Int=>Kx s0 s1 w4 s) s6
def Yk(a0:List X2)(a1:Int):Option (X0×Bool):=
 AJ (aN3 a0 a1 (X0.mk 0 0 ([]:List UInt8) false) 0) fun o3=>
 CH o3 (fun o4=>
  some (X0.mk 0 0 ([]:List UInt8) false,false)) (fun o5=>
  some (o5,true))
def K0(s0 s1:List X2)(s5:Int):Option ((Int)⊕(Unit⊕Unit)):=
 AE (decide (s5<(s0.length:Int))) (
  AW s0 s5 fun x1=>
  AJ (Yk s1 x1.var) fun r2=>
  AE (r2.2) (
   AW s0 s5 fun x3=>
   AE (!(X0.eqb r2.1 x3.value)) (
    some (.inr (.inr ()))) (
    some (.inl (AA .add .i64 s5 1)))) (
   some (.inl (AA .add .i64 s5 1)))) (
  some (.inr (.inl ())))
def aOg(s0 s1:List X2)(s5:Int):Option (Unit⊕Unit):=AQ (fun s:Int=>K0 s0 s1 s) s5
def Z7(a0 a1:List X2):Option (Bool):=
 AJ (aOg a0 a1 0) fun o4=>
 CH o4 (fun o5=>
  some true) (fun o6=>
  some false)
def aGh(s0 s1:List X2)(s6:Int)(s34:Bool)(w5:List X2)(w9:X0):Option ((List X2)):=
 AE (s34) (
  AY (fit w5.length [X2.mk s6 w9].length 48) (
   some (w5++[X2.mk s6 w9]))) (
  some w5)
def aGf(s0 s1:List X2)(s6:Int)(s10 s27:Bool)(w5:List X2)(w7 w9:X0):Option ((List X2)):=
 AE (s27) (
  AY (fit w5.length [X2.mk s6 w7].length 48) (
   some (w5++[X2.mk s6 w7]))) (
  AJ (aGh s0 s1 s6 s10 w5 w9) fun o8=>
  some o8)
def aGd(s0 s1:List X2)(s6:Int)(w5:List X2):Option ((List X2)):=
 AJ (Yk s0 s6) fun r6=>
 AJ (Yk s1 s6) fun r7=>
 AJ (aGf s0 s1 s6 r7.2 r6.2 w5 r6.1 r7.1) fun o9=>
 some o9
def IZ(s0 s1:List X2)(s6:Int)(w5:List X2):Option ((Int×List X2)⊕((List X2))):=
 AE (decide (s6<8)) (
  AJ (aGd s0 s1 s6 w5) fun o10=>
  some (.inl ((AA .add .i64 s6 1),o10))) (
  some (.inr w5))
def aNs(s0 s1:List X2)(s6:Int)(w5:List X2):Option ((List X2)):=AQ (fun s:Int×List X2=>IZ s0 s1 s.1 s.2) (s6,w5)
def Y5(a0 a1:List X2):Option (List X2):=
 AJ (aNs a0 a1 0 ([]:List X2)) fun o11=>
 some o11
def Ir(s0:List X2)(w3:X2)(s5:Int):Option ((Int)⊕(Int)):=
 AE (decide (0<s5)) (
  AW s0 (AA .sub .i64 s5 1) fun x1=>
  AE (decide (w3.var<x1.var)) (
   some (.inl (AA .sub .i64 s5 1))) (
   some (.inr s5))) (
  some (.inr s5))
def aOd(s0:List X2)(w3:X2)(s5:Int):Option (Int):=AQ (fun s:Int=>Ir s0 w3 s) s5
def Z2(a0:List X2)(a1:X2):Option (List X2):=
 AJ (aOd a0 a1 (a0.length:Int)) fun o2=>
 AY ((0:Int)<=0/\(0:Int)<=o2/\o2<=(a0.length:Int)) (
  AY (fit ([]:List X2).length (sub a0 0 o2).length 48) (
   AY (fit (([]:List X2)++(sub a0 0 o2)).length [a1].length 48) (
    AY ((0:Int)<=o2/\(o2:Int)<=(a0.length:Int)/\(a0.length:Int)<=(a0.length:Int)) (
     AY (fit ((([]:List X2)++(sub a0 0 o2))++[a1]).length (sub a0 o2 (a0.length:Int)).length 48) (
      some (((([]:List X2)++(sub a0 0 o2))++[a1])++(sub a0 o2 (a0.length:Int))))))))
def UM(s1:Int)(s10 s11:List X2)(s12:Int)(s80:Bool)(w5:X8)(w6:Int)(w8:X3)(w9:Ar)(w13:BW)(w14:List X2):Option ((List X2)⊕Unit):=
 AE (s80) (
  AJ (Z7 s10 w14) fun r32=>
  AE (!r32) (
   some (.inr ())) (
   AJ (Y5 s10 w14) fun r33=>
   some (.inl r33))) (
  some (.inl s10))
def UO(s1:Int)(s10 s11:List X2)(s12:Int)(s111:Bool)(w5:X8)(w6:Int)(w8:X3)(w9:Ar)(w14:List X2):Option ((List X2)):=
 AE (s111) (
  AW w14 0 fun x39=>
  AJ (Z2 s11 x39) fun r40=>
  some r40) (
  some s11)
def UN(s1:Int)(s10 s11:List X2)(s12:Int)(s91:Bool)(w5:X8)(w6:Int)(w8:X3)(w9:Ar)(w13:BW)(w14:List X2):Option ((List X2)⊕Unit):=
 AE (s91) (
  AJ (Yk s11 w13.n) fun r37=>
  AE (r37.2) (
   AW w5.args s12 fun x38=>
   AE (!(X0.eqb r37.1 x38)) (
    some (.inr ())) (
    AJ (UO s1 s10 s11 s12 (!r37.2) w5 w6 w8 w9 w14) fun o41=>
    some (.inl o41))) (
   AJ (UO s1 s10 s11 s12 (!r37.2) w5 w6 w8 w9 w14) fun o42=>
   some (.inl o42))) (
  some (.inl s11))
def aEs(s1:Int)(s10 s11:List X2)(s12:Int)(w5:X8)(w6:Int)(w8:X3)(w9:Ar):Option ((List X2×List X2)⊕Unit):=
 AW w8.args s12 fun x29=>
 AW w5.args s12 fun x30=>
 AE (decide (x29.kind=1)) (
  AW w5.args s12 fun x31=>
  AE (!(X0.eqb x29.value x31)) (
   some (.inr ())) (
   AJ (UM s1 s10 s11 s12 (decide (x29.kind=2)) w5 w6 w8 w9 x29 [X2.mk x29.n x30]) fun o34=>
   CH o34 (fun o35=>
    AJ (UN s1 o35 s11 s12 (decide (x29.kind=3)) w5 w6 w8 w9 x29 [X2.mk x29.n x30]) fun o43=>
    CH o43 (fun o44=>
     some (.inl (o35,o44))) (fun o45=>
     some (.inr ()))) (fun o36=>
    some (.inr ())))) (
  AJ (UM s1 s10 s11 s12 (decide (x29.kind=2)) w5 w6 w8 w9 x29 [X2.mk x29.n x30]) fun o46=>
  CH o46 (fun o47=>
   AJ (UN s1 o47 s11 s12 (decide (x29.kind=3)) w5 w6 w8 w9 x29 [X2.mk x29.n x30]) fun o49=>
   CH o49 (fun o50=>
    some (.inl (o47,o50))) (fun o51=>
    some (.inr ()))) (fun o48=>
   some (.inr ())))
def IK(s1:Int)(w5:X8)(w6:Int)(w8:X3)(w9:Ar)(s10 s11:List X2)(s12:Int):Option ((List X2×List X2×Int)⊕((List X2×List X2)⊕Unit)):=
 AE (decide (s12<(w8.args.length:Int))) (
  AJ (aEs s1 s10 s11 s12 w5 w6 w8 w9) fun o52=>
  CH o52 (fun o53=>
   some (.inl (o53.1,o53.2,(AA .add .i64 s12 1)))) (fun o54=>
   some (.inr (.inr ())))) (
  some (.inr (.inl (s10,s11))))
def QM(s1:Int)(w5:X8)(w6:Int)(w8:X3)(w9:Ar)(s10 s11:List X2)(s12:Int):Option ((List X2×List X2)⊕Unit):=AQ (fun s:List X2×List X2×Int=>IK s1 w5 w6 w8 w9 s.1 s.2.1 s.2.2) (s10,s11,s12)
theorem O5(s1:Int)(w5:X8)(w6:Int)(w8:X3)(w9:Ar)(s10 s11:List X2)(s12:Int):QM s1 w5 w6 w8 w9 s10 s11 s12=CY (IK s1 w5 w6 w8 w9 s10 s11 s12) (fun s:List X2×List X2×Int=>QM s1 w5 w6 w8 w9 s.1 s.2.1 s.2.2):=Al _ _
def Xq(a0:AD)(a1:Int)(a2:X8):Option (Ar×Bool):=
 AW a0.symbols a1 fun x1=>
 AW a0.decls x1.event fun x2=>
 AE (!decide (x2.name=a2.name)) (
  some (Ar.mk 0 ([]:List X2) ([]:List X2),false)) (
  AE (!decide ((x1.args.length:Int)=(a2.args.length:Int))) (
   some (Ar.mk 0 ([]:List X2) ([]:List X2),false)) (
   AJ (QM a1 a2 0 x1 (Ar.mk 0 ([]:List X2) ([]:List X2)) ([]:List X2) ([]:List X2) 0) fun o55=>
   CH o55 (fun o56=>
    some (Ar.mk a1 o56.1 o56.2,true)) (fun o57=>
    some ((Ar.mk 0 ([]:List X2) ([]:List X2)),false))))
def aG2(s6:Int)(s23:Bool)(w2:AD)(w3:X8)(w5:List Ar)(w7:Ar):Option ((List Ar)):=
 AE (s23) (
  AY (fit w5.length [w7].length 56) (
   some (w5++[w7]))) (
  some w5)
def aG0(s6:Int)(w2:AD)(w3:X8)(w5:List Ar):Option ((List Ar)):=
 AJ (Xq w2 s6 w3) fun r4=>
 AJ (aG2 s6 r4.2 w2 w3 w5 r4.1) fun o5=>
 some o5
def Id(w2:AD)(w3:X8)(s6:Int)(w5:List Ar):Option ((Int×List Ar)⊕((List Ar))):=
 AE (decide (s6<(w2.symbols.length:Int))) (
  AJ (aG0 s6 w2 w3 w5) fun o6=>
  some (.inl ((AA .add .i64 s6 1),o6))) (
  some (.inr w5))
def aNv(w2:AD)(w3:X8)(s6:Int)(w5:List Ar):Option ((List Ar)):=AQ (fun s:Int×List Ar=>Id w2 w3 s.1 s.2) (s6,w5)
def Yb(a0:AD)(a1:X8):Option (List Ar):=
 AJ (aNv a0 a1 0 ([]:List Ar)) fun o7=>
 some o7
def K1(s0 s1:List X2)(s5:Int):Option ((Int)⊕(Unit⊕Unit)):=
 AE (decide (s5<(s0.length:Int))) (
  AW s0 s5 fun x1=>
  AJ (Yk s1 x1.var) fun r2=>
  AE (!r2.2) (
   some (.inr (.inr ()))) (
   AW s0 s5 fun x3=>
   AE (!(X0.eqb r2.1 x3.value)) (
    some (.inr (.inr ()))) (
    some (.inl (AA .add .i64 s5 1))))) (
  some (.inr (.inl ())))
def aOh(s0 s1:List X2)(s5:Int):Option (Unit⊕Unit):=AQ (fun s:Int=>K1 s0 s1 s) s5
def Z8(a0 a1:List X2):Option (Bool):=
 AJ (aOh a0 a1 0) fun o4=>
 CH o4 (fun o5=>
  some true) (fun o6=>
  some false)
def aHa(s0:List Ar)(s1:List X2)(s6:Int)(s19:Bool)(w5:List Ar):Option ((List Ar)):=
 AE (s19) (
  AW s0 s6 fun x8=>
  AY (fit w5.length [x8].length 56) (
   some (w5++[x8]))) (
  some w5)
def aG8(s0:List Ar)(s1:List X2)(s6:Int)(w5:List Ar):Option ((List Ar)):=
 AW s0 s6 fun x6=>
 AJ (Z8 x6.bind s1) fun r7=>
 AJ (aHa s0 s1 s6 r7 w5) fun o9=>
 some o9
def Kv(s0:List Ar)(s1:List X2)(s6:Int)(w5:List Ar):Option ((Int×List Ar)⊕((List Ar))):=
 AE (decide (s6<(s0.length:Int))) (
  AJ (aG8 s0 s1 s6 w5) fun o10=>
  some (.inl ((AA .add .i64 s6 1),o10))) (
  some (.inr w5))
def aNx(s0:List Ar)(s1:List X2)(s6:Int)(w5:List Ar):Option ((List Ar)):=AQ (fun s:Int×List Ar=>Kv s0 s1 s.1 s.2) (s6,w5)
def Yd(a0:List Ar)(a1:List X2):Option (List Ar):=
 AJ (aNx a0 a1 0 ([]:List Ar)) fun o11=>
 some o11
def Is(s0:List Ar)(s3 s4:Int):Option ((Int×Int)⊕(Int)):=
 AE (decide (s4<(s0.length:Int))) (
  AW s0 s4 fun x1=>
  AY (0<=(IntKind.wrap .u64 x1.symbol)) (
   some (.inl ((AA .add .u64 s3 (AA .shl .u64 1 (IntKind.wrap .u64 x1.symbol))),(AA .add .i64 s4 1))))) (
  some (.inr s3))
def aOe(s0:List Ar)(s3 s4:Int):Option (Int):=AQ (fun s:Int×Int=>Is s0 s.1 s.2) (s3,s4)
def Z3(a0:List Ar):Option (Int):=
 AJ (aOe a0 0 0) fun o2=>
 some o2
def Il(s0:List Int)(s1 s5:Int):Option ((Int)⊕(Int)):=
 AE (decide (0<s5)) (
  AW s0 (AA .sub .i64 s5 1) fun x1=>
  AE (decide (s1<x1)) (
   some (.inl (AA .sub .i64 s5 1))) (
   some (.inr s5))) (
  some (.inr s5))
def WB(s0:List Int)(s1 s5:Int):Option (Int):=AQ (fun s:Int=>Il s0 s1 s) s5
theorem PI(s0:List Int)(s1 s5:Int):WB s0 s1 s5=CY (Il s0 s1 s5) (fun s:Int=>WB s0 s1 s):=Al _ _
def Ys(a0:List Int)(a1:Int):Option (List Int):=
 AJ (WB a0 a1 (a0.length:Int)) fun o2=>
 AE (decide (0<o2)) (
  AW a0 (AA .sub .i64 o2 1) fun x3=>
  AE (decide (x3=a1)) (
   some a0) (
   AY ((0:Int)<=0/\(0:Int)<=o2/\o2<=(a0.length:Int)) (
    AY (fit ([]:List Int).length (sub a0 0 o2).length 8) (
     AY (fit (([]:List Int)++(sub a0 0 o2)).length [a1].length 8) (
      AY ((0:Int)<=o2/\(o2:Int)<=(a0.length:Int)/\(a0.length:Int)<=(a0.length:Int)) (
       AY (fit ((([]:List Int)++(sub a0 0 o2))++[a1]).length (sub a0 o2 (a0.length:Int)).length 8) (
        some (((([]:List Int)++(sub a0 0 o2))++[a1])++(sub a0 o2 (a0.length:Int)))))))))) (
  AY ((0:Int)<=0/\(0:Int)<=o2/\o2<=(a0.length:Int)) (
   AY (fit ([]:List Int).length (sub a0 0 o2).length 8) (
    AY (fit (([]:List Int)++(sub a0 0 o2)).length [a1].length 8) (
     AY ((0:Int)<=o2/\(o2:Int)<=(a0.length:Int)/\(a0.length:Int)<=(a0.length:Int)) (
      AY (fit ((([]:List Int)++(sub a0 0 o2))++[a1]).length (sub a0 o2 (a0.length:Int)).length 8) (
       some (((([]:List Int)++(sub a0 0 o2))++[a1])++(sub a0 o2 (a0.length:Int)))))))))
def QK(s1:List X2)(s5:List Int)(s6:Int)(s7:List X8)(s8 s9:Int)(s37:Bool)(w2:AD):Option ((List Int)):=
 AE (s37) (
  AJ (Ys s5 s9) fun r13=>
  some r13) (
  some s5)
def aEl(s1:List X2)(s5:List Int)(s6:Int)(s7:List X8)(s8:Int)(w2:AD):Option ((List Int)):=
 AW s7 s8 fun x9=>
 AJ (Yb w2 x9) fun r10=>
 AJ (Yd r10 s1) fun r11=>
 AJ (Z3 r11) fun r12=>
 AJ (QK s1 s5 s6 s7 s8 r12 (!decide (r12=0)) w2) fun o14=>
 some o14
def Gn(s1:List X2)(s6:Int)(s7:List X8)(w2:AD)(s5:List Int)(s8:Int):Option ((List Int×Int)⊕((List Int))):=
 AE (decide (s8<(s7.length:Int))) (
  AJ (aEl s1 s5 s6 s7 s8 w2) fun o18=>
  some (.inl (o18,(AA .add .i64 s8 1)))) (
  some (.inr s5))
def aNg(s1:List X2)(s6:Int)(s7:List X8)(w2:AD)(s5:List Int)(s8:Int):Option ((List Int)):=AQ (fun s:List Int×Int=>Gn s1 s6 s7 w2 s.1 s.2) (s5,s8)
def IJ(s1:List X2)(w2:AD)(s5:List Int)(s6:Int):Option ((List Int×Int)⊕((List Int))):=
 AE (decide (s6<(w2.decls.length:Int))) (
  AJ (Y8 w2 s6 s1 ([]:List X0) ([]:List X0)) fun r17=>
  AJ (aNg s1 s6 r17 w2 s5 0) fun o19=>
  some (.inl (o19,(AA .add .i64 s6 1)))) (
  some (.inr s5))
def aNf(s1:List X2)(w2:AD)(s5:List Int)(s6:Int):Option ((List Int)):=AQ (fun s:List Int×Int=>IJ s1 w2 s.1 s.2) (s5,s6)
def Xo(a0:AD)(a1:List X2):Option (List Int):=
 AJ (aNf a1 a0 ([]:List Int) 0) fun o20=>
 some o20
def TQ(s1 s2:Int)(s7 s8:Int)(s9 s10:Int)(s49:Bool)(w3:AD)(w11:Xd):Option (Int):=
 AE (s49) (
  AY (0<=(IntKind.wrap .u64 w11.to)) (
   some (AA .or .u32 s9 (AA .shl .u32 1 (IntKind.wrap .u64 w11.to))))) (
  some s9)
def aDg(s1 s2:Int)(s7 s8:Int)(s9 s10:Int)(w3:AD):Option (Int):=
 AW w3.trans s10 fun x1=>
 AE (decide (x1.from_=s8)) (
  AY (0<=(IntKind.wrap .u64 x1.symbol)) (
   AJ (TQ s1 s2 s7 s8 s9 s10 (decide ((AA .rem .u64 (AA .shr .u64 s2 (IntKind.wrap .u64 x1.symbol)) 2)=1)) w3 x1) fun o2=>
   some o2)) (
  AJ (TQ s1 s2 s7 s8 s9 s10 false w3 x1) fun o3=>
  some o3)
def H8(s1 s2:Int)(s7 s8:Int)(w3:AD)(s9 s10:Int):Option ((Int×Int)⊕(Int)):=
 AE (decide (s10<(w3.trans.length:Int))) (
  AJ (aDg s1 s2 s7 s8 s9 s10 w3) fun o4=>
  some (.inl (o4,(AA .add .i64 s10 1)))) (
  some (.inr s9))
def aDj(s1 s2:Int)(s7 s8:Int)(w3:AD)(s9 s10:Int):Option (Int):=AQ (fun s:Int×Int=>H8 s1 s2 s7 s8 w3 s.1 s.2) (s9,s10)
def Na(s1 s2:Int)(s7 s8 s9:Int)(s66:Bool)(w3:AD):Option (Int):=
 AE (s66) (
  AY (0<=(IntKind.wrap .u64 s8)) (
   some (AA .shl .u32 1 (IntKind.wrap .u64 s8)))) (
  some s9)
def aDe(s1 s2:Int)(s7 s8:Int)(w3:AD):Option (Int):=
 AY (0<=(IntKind.wrap .u64 s8)) (
  AE (decide ((AA .rem .u32 (AA .shr .u32 s1 (IntKind.wrap .u64 s8)) 2)=0)) (
   some s7) (
   AJ (aDj s1 s2 s7 s8 w3 0 0) fun o5=>
   AE (decide (o5=0)) (
    AW w3.states s8 fun x6=>
    AJ (Na s1 s2 s7 s8 o5 (!x6.next) w3) fun o7=>
    some (AA .or .u32 s7 o7)) (
    AJ (Na s1 s2 s7 s8 o5 false w3) fun o8=>
    some (AA .or .u32 s7 o8))))
def Gd(s1 s2:Int)(w3:AD)(s7 s8:Int):Option ((Int×Int)⊕(Int)):=
 AE (decide (s8<(w3.states.length:Int))) (
  AJ (aDe s1 s2 s7 s8 w3) fun o9=>
  some (.inl (o9,(AA .add .i64 s8 1)))) (
  some (.inr s7))
def aM5(s1 s2:Int)(w3:AD)(s7 s8:Int):Option (Int):=AQ (fun s:Int×Int=>Gd s1 s2 w3 s.1 s.2) (s7,s8)
def Xg(a0:AD)(a1 a2:Int):Option (Int):=
 AJ (aM5 a1 a2 a0 0 0) fun o10=>
 some o10
def Im(s0:List Int)(s1 s5:Int):Option ((Int)⊕(Unit⊕Unit)):=
 AE (decide (s5<(s0.length:Int))) (
  AW s0 s5 fun x1=>
  AE (decide (x1=s1)) (
   some (.inr (.inr ()))) (
   some (.inl (AA .add .i64 s5 1)))) (
  some (.inr (.inl ())))
def aN5(s0:List Int)(s1 s5:Int):Option (Unit⊕Unit):=AQ (fun s:Int=>Im s0 s1 s) s5
def Yu(a0:List Int)(a1:Int):Option (Bool):=
 AJ (aN5 a0 a1 0) fun o2=>
 CH o2 (fun o3=>
  some false) (fun o4=>
  some true)
def aFl(s7:List Int)(s9 s10 s11:Int)(s42:Bool)(w3:AD)(w8:List Int):Option ((List Int)):=
 AE (s42) (
  AY (fit w8.length [s11].length 4) (
   some (w8++[s11]))) (
  some w8)
def aFj(s7:List Int)(s9 s10:Int)(w3:AD)(w8:List Int):Option ((List Int)):=
 AW w8 s9 fun x2=>
 AW s7 s10 fun x3=>
 AJ (Xg w3 x2 x3) fun r4=>
 AJ (Yu w8 r4) fun r5=>
 AJ (aFl s7 s9 s10 r4 (!r5) w3 w8) fun o6=>
 some o6
def IQ(s7:List Int)(s9:Int)(w3:AD)(s10:Int)(w8:List Int):Option ((Int×List Int)⊕((List Int))):=
 AE (decide (s10<(s7.length:Int))) (
  AJ (aFj s7 s9 s10 w3 w8) fun o7=>
  some (.inl ((AA .add .i64 s10 1),o7))) (
  some (.inr w8))
def aNn(s7:List Int)(s9:Int)(w3:AD)(s10:Int)(w8:List Int):Option ((List Int)):=AQ (fun s:Int×List Int=>IQ s7 s9 w3 s.1 s.2) (s10,w8)
def IP(s7:List Int)(w3:AD)(s9:Int)(w8:List Int):Option ((Int×List Int)⊕((List Int))):=
 AE (decide (s9<(w8.length:Int))) (
  AJ (aNn s7 s9 w3 0 w8) fun o8=>
  some (.inl ((AA .add .i64 s9 1),o8))) (
  some (.inr w8))
def aNm(s7:List Int)(w3:AD)(s9:Int)(w8:List Int):Option ((List Int)):=AQ (fun s:Int×List Int=>IP s7 w3 s.1 s.2) (s9,w8)
def Xy(a0:AD)(a1:List X2)(a2:Int):Option (List Int):=
 AJ (Xo a0 a1) fun r1=>
 AJ (aNm r1 a0 0 [a2]) fun o9=>
 some o9
def IX(s1 s5:Int)(w2:AD)(s6:Int):Option ((Int)⊕(Unit⊕Unit)):=
 AW w2.symbols s5 fun x1=>
 AE (decide (s6<(x1.args.length:Int))) (
  AW w2.symbols s5 fun x2=>
  AW x2.args s6 fun x3=>
  AE (decide (x3.kind=2)) (
   some (.inr (.inr ()))) (
   some (.inl (AA .add .i64 s6 1)))) (
  some (.inr (.inl ())))
def aF8(s1 s5:Int)(w2:AD)(s6:Int):Option (Unit⊕Unit):=AQ (fun s:Int=>IX s1 s5 w2 s) s6
def aF5(s1 s5:Int)(w2:AD):Option (Unit⊕Unit):=
 AY (0<=(IntKind.wrap .u64 s5)) (
  AE (decide ((AA .rem .u64 (AA .shr .u64 s1 (IntKind.wrap .u64 s5)) 2)=0)) (
   some (.inl ())) (
   AJ (aF8 s1 s5 w2 0) fun o4=>
   CH o4 (fun o5=>
    some (.inl ())) (fun o6=>
    some (.inr ()))))
def IW(s1:Int)(w2:AD)(s5:Int):Option ((Int)⊕(Unit⊕Unit)):=
 AE (decide (s5<(w2.symbols.length:Int))) (
  AJ (aF5 s1 s5 w2) fun o7=>
  CH o7 (fun o8=>
   some (.inl (AA .add .i64 s5 1))) (fun o9=>
   some (.inr (.inr ())))) (
  some (.inr (.inl ())))
def aNr(s1:Int)(w2:AD)(s5:Int):Option (Unit⊕Unit):=AQ (fun s:Int=>IW s1 w2 s) s5
def Y3(a0:AD)(a1:Int):Option (Bool):=
 AJ (aNr a1 a0 0) fun o10=>
 CH o10 (fun o11=>
  some false) (fun o12=>
  some true)
def TA(s7 s8:List Int)(s10 s11 s12:Int)(s56:Bool)(w3:AD)(w9:List Int):Option ((List Int)):=
 AE (s56) (
  AY (fit w9.length [s12].length 4) (
   some (w9++[s12]))) (
  some w9)
def aC4(s7 s8:List Int)(s10 s11:Int)(w3:AD)(w9:List Int):Option ((List Int)):=
 AW s8 s10 fun x12=>
 AW s7 s11 fun x13=>
 AJ (Xg w3 x12 x13) fun r14=>
 AW s7 s11 fun x15=>
 AJ (Y3 w3 x15) fun r16=>
 AE (r16) (
  AJ (Yu w9 r14) fun r17=>
  AJ (TA s7 s8 s10 s11 r14 (!r17) w3 w9) fun o18=>
  some o18) (
  AJ (TA s7 s8 s10 s11 r14 false w3 w9) fun o19=>
  some o19)
def H4(s7 s8:List Int)(s10:Int)(w3:AD)(s11:Int)(w9:List Int):Option ((Int×List Int)⊕((List Int))):=
 AE (decide (s11<(s7.length:Int))) (
  AJ (aC4 s7 s8 s10 s11 w3 w9) fun o22=>
  some (.inl ((AA .add .i64 s11 1),o22))) (
  some (.inr w9))
def aM1(s7 s8:List Int)(s10:Int)(w3:AD)(s11:Int)(w9:List Int):Option ((List Int)):=AQ (fun s:Int×List Int=>H4 s7 s8 s10 w3 s.1 s.2) (s11,w9)
def H3(s7 s8:List Int)(w3:AD)(s10:Int)(w9:List Int):Option ((Int×List Int)⊕((List Int))):=
 AE (decide (s10<(s8.length:Int))) (
  AJ (aM1 s7 s8 s10 w3 0 w9) fun o23=>
  some (.inl ((AA .add .i64 s10 1),o23))) (
  some (.inr w9))
def aM0(s7 s8:List Int)(w3:AD)(s10:Int)(w9:List Int):Option ((List Int)):=AQ (fun s:Int×List Int=>H3 s7 s8 w3 s.1 s.2) (s10,w9)
def On(s7:List Int)(s13 s14 s15:Int)(s86:Bool)(w3:AD)(w9:List Int):Option ((List Int)):=
 AE (s86) (
  AY (fit w9.length [s15].length 4) (
   some (w9++[s15]))) (
  some w9)
def Om(s7:List Int)(s13 s14:Int)(w3:AD)(w9:List Int):Option ((List Int)):=
 AW w9 s13 fun x25=>
 AW s7 s14 fun x26=>
 AJ (Xg w3 x25 x26) fun r27=>
 AJ (Yu w9 r27) fun r28=>
 AJ (On s7 s13 s14 r27 (!r28) w3 w9) fun o29=>
 some o29
def H6(s7:List Int)(s13:Int)(w3:AD)(s14:Int)(w9:List Int):Option ((Int×List Int)⊕((List Int))):=
 AE (decide (s14<(s7.length:Int))) (
  AJ (Om s7 s13 s14 w3 w9) fun o30=>
  some (.inl ((AA .add .i64 s14 1),o30))) (
  some (.inr w9))
def aM3(s7:List Int)(s13:Int)(w3:AD)(s14:Int)(w9:List Int):Option ((List Int)):=AQ (fun s:Int×List Int=>H6 s7 s13 w3 s.1 s.2) (s14,w9)
def H5(s7:List Int)(w3:AD)(s13:Int)(w9:List Int):Option ((Int×List Int)⊕((List Int))):=
 AE (decide (s13<(w9.length:Int))) (
  AJ (aM3 s7 s13 w3 0 w9) fun o31=>
  some (.inl ((AA .add .i64 s13 1),o31))) (
  some (.inr w9))
def aM2(s7:List Int)(w3:AD)(s13:Int)(w9:List Int):Option ((List Int)):=AQ (fun s:Int×List Int=>H5 s7 w3 s.1 s.2) (s13,w9)
def Xb(a0:AD)(a1:List X2)(a2:Int):Option (List Int):=
 AJ (Xo a0 a1) fun r1=>
 AJ (Xy a0 a1 a2) fun r2=>
 AJ (aM0 r1 r2 a0 0 ([]:List Int)) fun o24=>
 AJ (aM2 r1 a0 0 o24) fun o32=>
 some o32
def U7(a0:BW):Option (Bool):=
 some (decide (a0.kind=2))
def I7(s0:List BW)(s7 s8:Int):Option ((Int)⊕(Unit⊕Int)):=
 AE (decide (s8<s7)) (
  AW s0 s8 fun x1=>
  AJ (U7 x1) fun r2=>
  AE (r2) (
   some (.inr (.inr s8))) (
   some (.inl (AA .add .i64 s8 1)))) (
  some (.inr (.inl ())))
def aOs(s0:List BW)(s7 s8:Int):Option (Unit⊕Int):=AQ (fun s:Int=>I7 s0 s7 s) s8
def Zl(a0:List BW):Option (Int):=
 AJ (aOs a0 (a0.length:Int) 0) fun o3=>
 CH o3 (fun o4=>
  some (-1)) (fun o5=>
  some o5)
def Qx(a0:List BW):Option (Bool):=
 AJ (Zl a0) fun r1=>
 some (decide (0<=r1))
def Iv(s1:Int)(s8:List X3)(s9 s10:Int):Option ((Int)⊕(Unit⊕Unit)):=
 AE (decide (s10<s9)) (
  AW s8 s10 fun x1=>
  AY (0<=(IntKind.wrap .u64 s10)) (
   AE (!decide ((AA .and .u64 s1 (AA .shl .u64 1 (IntKind.wrap .u64 s10)))=0)) (
    AJ (Qx x1.args) fun r2=>
    AE (r2) (
     some (.inr (.inr ()))) (
     some (.inl (AA .add .i64 s10 1)))) (
    some (.inl (AA .add .i64 s10 1))))) (
  some (.inr (.inl ())))
def aOi(s1:Int)(s8:List X3)(s9 s10:Int):Option (Unit⊕Unit):=AQ (fun s:Int=>Iv s1 s8 s9 s) s10
def Z9(a0:AD)(a1:Int):Option (Bool):=
 AJ (aOi a1 a0.symbols (a0.symbols.length:Int) 0) fun o3=>
 CH o3 (fun o4=>
  some false) (fun o5=>
  some true)
def Ua(l:List Int):Option (List Int):=LO l
def Tz(s1:List X2)(s2 s9 s12:Int)(s15:List Int)(s16 s17:Int)(s28:List Int)(s29 s30:Int)(s41:Bool)(w3:AD)(w7:List Int):Option ((List Int)):=
 AE (s41) (
  AJ (Zr w3 s1 s12) fun r8=>
  AY (fit w7.length r8.length 4) (
   some (w7++r8))) (
  some w7)
def Ty(s1:List X2)(s2 s9:Int)(s15:List Int)(s16 s17:Int)(s28:List Int)(s29 s30:Int)(w3:AD)(w7:List Int):Option ((List Int)):=
 AW s28 s30 fun x5=>
 AJ (Xh w3 x5 s9) fun r6=>
 AJ (Q8 w7 r6) fun r7=>
 AJ (Tz s1 s2 s9 r6 s15 s16 s17 s28 s29 s30 (!r7) w3 w7) fun o9=>
 some o9
def Gi(s1:List X2)(s2 s9:Int)(s15:List Int)(s16 s17:Int)(s28:List Int)(s29:Int)(w3:AD)(s30:Int)(w7:List Int):Option ((Int×List Int)⊕((List Int))):=
 AE (decide (s30<s29)) (
  AJ (Ty s1 s2 s9 s15 s16 s17 s28 s29 s30 w3 w7) fun o10=>
  some (.inl ((AA .add .i64 s30 1),o10))) (
  some (.inr w7))
def aNa(s1:List X2)(s2 s9:Int)(s15:List Int)(s16 s17:Int)(s28:List Int)(s29:Int)(w3:AD)(s30:Int)(w7:List Int):Option ((List Int)):=AQ (fun s:Int×List Int=>Gi s1 s2 s9 s15 s16 s17 s28 s29 w3 s.1 s.2) (s30,w7)
def Tx(s1:List X2)(s2:Int)(s15:List Int)(s16 s17:Int)(w3:AD)(w7:List Int):Option ((List Int)):=
 AW s15 s17 fun x2=>
 AJ (Z9 w3 x2) fun r3=>
 AE (!r3) (
  some w7) (
  AJ (Zr w3 s1 s2) fun r4=>
  AJ (aNa s1 s2 x2 s15 s16 s17 r4 (r4.length:Int) w3 0 w7) fun o11=>
  some o11)
def Gh(s1:List X2)(s2:Int)(s15:List Int)(s16:Int)(w3:AD)(s17:Int)(w7:List Int):Option ((Int×List Int)⊕((List Int))):=
 AE (decide (s17<s16)) (
  AJ (Tx s1 s2 s15 s16 s17 w3 w7) fun o12=>
  some (.inl ((AA .add .i64 s17 1),o12))) (
  some (.inr w7))
def aM9(s1:List X2)(s2:Int)(s15:List Int)(s16:Int)(w3:AD)(s17:Int)(w7:List Int):Option ((List Int)):=AQ (fun s:Int×List Int=>Gh s1 s2 s15 s16 w3 s.1 s.2) (s17,w7)
def Xl(a0:AD)(a1:List X2)(a2:Int):Option (List Int):=
 AJ (X4 a0 a1) fun r1=>
 AJ (aM9 a1 a2 r1 (r1.length:Int) a0 0 ([]:List Int)) fun o13=>
 AJ (Q4 o13) fun r14=>
 AJ (Ua r14) fun r15=>
 some r15
def Qy(a0:AD)(a1:List X2)(a2:Int):Option (Int):=
 AJ (Xl a0 a1 a2) fun r1=>
 AJ (Qg a0 r1) fun r2=>
 some r2
def I1(s1:Int)(w2:AD)(s5:Int):Option ((Int)⊕(Unit⊕Unit)):=
 AE (decide (s5<(w2.states.length:Int))) (
  AY (0<=(IntKind.wrap .u64 s5)) (
   AE (decide ((AA .rem .u32 (AA .shr .u32 s1 (IntKind.wrap .u64 s5)) 2)=1)) (
    AW w2.states s5 fun x1=>
    AE (x1.accept) (
     some (.inr (.inr ()))) (
     some (.inl (AA .add .i64 s5 1)))) (
    some (.inl (AA .add .i64 s5 1))))) (
  some (.inr (.inl ())))
def aOn(s1:Int)(w2:AD)(s5:Int):Option (Unit⊕Unit):=AQ (fun s:Int=>I1 s1 w2 s) s5
def Zf(a0:AD)(a1:Int):Option (Bool):=
 AJ (aOn a1 a0 0) fun o2=>
 CH o2 (fun o3=>
  some false) (fun o4=>
  some true)
def aHr(s7:List Int)(s8 s9:Int)(s25:Bool)(w3:AD):Option (Int):=
 AE (s25) (
  some (AA .add .i64 s8 1)) (
  some s8)
def aHp(s7:List Int)(s8 s9:Int)(w3:AD):Option (Int):=
 AW s7 s9 fun x2=>
 AJ (Zf w3 x2) fun r3=>
 AJ (aHr s7 s8 s9 r3 w3) fun o4=>
 some o4
def Ih(s7:List Int)(w3:AD)(s8 s9:Int):Option ((Int×Int)⊕(Int)):=
 AE (decide (s9<(s7.length:Int))) (
  AJ (aHp s7 s8 s9 w3) fun o5=>
  some (.inl (o5,(AA .add .i64 s9 1)))) (
  some (.inr s8))
def aN2(s7:List Int)(w3:AD)(s8 s9:Int):Option (Int):=AQ (fun s:Int×Int=>Ih s7 w3 s.1 s.2) (s8,s9)
def Yj(a0:AD)(a1:List X2)(a2:Int):Option (Int):=
 AJ (Xb a0 a1 a2) fun r1=>
 AJ (aN2 r1 a0 0 0) fun o6=>
 AE (decide (o6=(r1.length:Int))) (
  some 1) (
  AE (decide (o6=0)) (
   some 2) (
   some 0))
def IU(s7 s8:List Int)(s9:Int)(s10:Bool)(s11:Int):Option ((Bool×Int)⊕(Bool)):=
 AE (decide (s11<(s7.length:Int))) (
  AE (s10) (
   some (.inl (true,(AA .add .i64 s11 1)))) (
   AW s7 s11 fun x8=>
   AW s8 s9 fun x9=>
   some (.inl (decide (x8=x9),(AA .add .i64 s11 1))))) (
  some (.inr s10))
def aNq(s7 s8:List Int)(s9:Int)(s10:Bool)(s11:Int):Option (Bool):=AQ (fun s:Bool×Int=>IU s7 s8 s9 s.1 s.2) (s10,s11)
def IT(s7 s8:List Int)(s9:Int):Option ((Int)⊕(Unit⊕Unit)):=
 AE (decide (s9<(s8.length:Int))) (
  AJ (aNq s7 s8 s9 false 0) fun o10=>
  AE (!o10) (
   some (.inr (.inr ()))) (
   AE (decide (0<s9)) (
    AW s8 s9 fun x11=>
    AW s8 (AA .sub .i64 s9 1) fun x12=>
    AE (decide (x11<=x12)) (
     some (.inr (.inr ()))) (
     some (.inl (AA .add .i64 s9 1)))) (
    some (.inl (AA .add .i64 s9 1))))) (
  some (.inr (.inl ())))
def aFw(s7 s8:List Int)(s9:Int):Option (Unit⊕Unit):=AQ (fun s:Int=>IT s7 s8 s) s9
def Y1(a0:AD)(a1:List X2)(a2:Int):Option (Bool):=
 AJ (Qp a0 a1) fun r1=>
 AE (!r1) (
  AJ (Q0) fun r2=>
  some r2) (
  AY (0<=(IntKind.wrap .u64 (a0.states.length:Int))) (
   AE (decide ((AA .shl .u32 1 (IntKind.wrap .u64 (a0.states.length:Int)))<=a2)) (
    AJ (Q0) fun r3=>
    some r3) (
    AJ (Xb a0 a1 a2) fun r4=>
    AJ (Xl a0 a1 a2) fun r5=>
    AE (!decide ((r5.length:Int)=(r4.length:Int))) (
     some false) (
     AJ (Qy a0 a1 a2) fun r6=>
     AJ (Yj a0 a1 a2) fun r7=>
     AE (!decide (r6=r7)) (
      some false) (
      AJ (aFw r4 r5 0) fun o13=>
      CH o13 (fun o14=>
       AJ (Q0) fun r16=>
       some r16) (fun o15=>
       some false))))))
end
end Go.Ac
