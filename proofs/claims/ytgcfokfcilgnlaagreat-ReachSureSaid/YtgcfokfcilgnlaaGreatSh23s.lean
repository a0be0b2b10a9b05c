/- Own work, printed: the functions as Lean functions. -/
import Derived.Test.YtgcfokfcilgnlaaGreatAcC
set_option linter.unusedVariables false
set_option linter.unusedSimpArgs false
namespace Go.Ac
noncomputable section
abbrev bEu(P:Program)(rd:Option Nat)(root:Code)(p:List Nat)(s:St)(x:Ex×St):Prop:=F5 P rd root p s x.1 x.2
abbrev dI(x:Int):A:=.d (D.i .i64 x)
abbrev sI(n:Nat)(x:Int):Nat×A:=(n,dI x)
abbrev sD{α:Type}(n:Nat)(f:α->D)(x:α):Nat×A:=(n,.d (f x))
abbrev bx(n:Nat):Nat×A:=(n,.box n 0)
abbrev rx(n:Nat):Nat×A:=(n,.row n)
abbrev cL{α:Type}(n:Nat)(f:α->D)(x:α):Nat×Bk:=(n,.cells (aYk (f x)))
abbrev rW{α:Type}(n e k:Nat)(f:α->D)(x:List α):Nat×Bk:=(n,.rw e k (x.map f))
abbrev eP{α:Type}(n:Nat)(f:α->D)(x:α):Nat×A:=(n,.eptr (D.cells (f x)))
abbrev dU:Int->D:=D.i .u64
abbrev dW:Int->D:=D.i .u32
abbrev dZ:Int->D:=D.i .i64
abbrev bT(n:Nat):Nat×W:=(n,.bit true)
abbrev bF(n:Nat):Nat×W:=(n,.bit false)
structure Xf where
 name:List UInt8
 types:List Int
 deriving DecidableEq
def Xf.D(v:Xf):D:=.agg ([D.s v.name]++[(D.l (D.i .i64)) v.types])
instance :Dy Xf.D 2:=⟨fun _=>rfl⟩
structure Yg where
 all:Bool
 name:List UInt8
 type:Int
def Yg.D(v:Yg):D:=.agg ([D.b v.all]++[D.s v.name]++[(D.i .i64) v.type])
instance :Dy Yg.D 3:=⟨fun _=>rfl⟩
def Yg.eqb(a b:Yg):Bool:=((a.all==b.all)&&(decide (a.name=b.name)&&(decide (a.type=b.type)&&true)))
theorem Yg.eqb_iff(a b:Yg):Yg.eqb a b=true↔a=b:=by cases a;cases b;simp[Yg.eqb]
instance :DecidableEq Yg:=fun a b=>decidable_of_iff (Yg.eqb a b=true) (Yg.eqb_iff a b)
structure X0 where
 kind:Int
 int:Int
 str:List UInt8
 bool:Bool
def X0.D(v:X0):D:=.agg ([(D.i .i64) v.kind]++[(D.i .i64) v.int]++[D.s v.str]++[D.b v.bool])
instance :Dy X0.D 4:=⟨fun _=>rfl⟩
def X0.eqb(a b:X0):Bool:=(decide (a.kind=b.kind)&&(decide (a.int=b.int)&&(decide (a.str=b.str)&&((a.bool==b.bool)&&true))))
theorem X0.eqb_iff(a b:X0):X0.eqb a b=true↔a=b:=by cases a;cases b;simp[X0.eqb]
instance :DecidableEq X0:=fun a b=>decidable_of_iff (X0.eqb a b=true) (X0.eqb_iff a b)
structure Yh where
 name:List UInt8
 init_:X0
def Yh.D(v:Yh):D:=.agg ([D.s v.name]++(X0.D v.init_).cells)
instance :Dy Yh.D 5:=⟨fun _=>rfl⟩
def Yh.eqb(a b:Yh):Bool:=(decide (a.name=b.name)&&(X0.eqb a.init_ b.init_&&true))
theorem Yh.eqb_iff(a b:Yh):Yh.eqb a b=true↔a=b:=by cases a;cases b;simp[Yh.eqb,X0.eqb_iff]
instance :DecidableEq Yh:=fun a b=>decidable_of_iff (Yh.eqb a b=true) (Yh.eqb_iff a b)
structure Xc where
 name:List UInt8
 next:Bool
 accept:Bool
def Xc.D(v:Xc):D:=.agg ([D.s v.name]++[D.b v.next]++[D.b v.accept])
instance :Dy Xc.D 3:=⟨fun _=>rfl⟩
def Xc.eqb(a b:Xc):Bool:=(decide (a.name=b.name)&&((a.next==b.next)&&((a.accept==b.accept)&&true)))
theorem Xc.eqb_iff(a b:Xc):Xc.eqb a b=true↔a=b:=by cases a;cases b;simp[Xc.eqb]
instance :DecidableEq Xc:=fun a b=>decidable_of_iff (Xc.eqb a b=true) (Xc.eqb_iff a b)
structure CN where
 kind:Int
 n:Int
 value:X0
def CN.D(v:CN):D:=.agg ([(D.i .i64) v.kind]++[(D.i .i64) v.n]++(X0.D v.value).cells)
instance :Dy CN.D 6:=⟨fun _=>rfl⟩
def CN.eqb(a b:CN):Bool:=(decide (a.kind=b.kind)&&(decide (a.n=b.n)&&(X0.eqb a.value b.value&&true)))
theorem CN.eqb_iff(a b:CN):CN.eqb a b=true↔a=b:=by cases a;cases b;simp[CN.eqb,X0.eqb_iff]
instance :DecidableEq CN:=fun a b=>decidable_of_iff (CN.eqb a b=true) (CN.eqb_iff a b)
structure X5 where
 event:Int
 args:List CN
 deriving DecidableEq
def X5.D(v:X5):D:=.agg ([(D.i .i64) v.event]++[(D.l CN.D) v.args])
instance :Dy X5.D 2:=⟨fun _=>rfl⟩
structure Yp where
 op:Int
 a:Int
 b:Int
 value:X0
def Yp.D(v:Yp):D:=.agg ([(D.i .i64) v.op]++[(D.i .i64) v.a]++[(D.i .i64) v.b]++(X0.D v.value).cells)
instance :Dy Yp.D 7:=⟨fun _=>rfl⟩
def Yp.eqb(a b:Yp):Bool:=(decide (a.op=b.op)&&(decide (a.a=b.a)&&(decide (a.b=b.b)&&(X0.eqb a.value b.value&&true))))
theorem Yp.eqb_iff(a b:Yp):Yp.eqb a b=true↔a=b:=by cases a;cases b;simp[Yp.eqb,X0.eqb_iff]
instance :DecidableEq Yp:=fun a b=>decidable_of_iff (Yp.eqb a b=true) (Yp.eqb_iff a b)
structure Es where
 free:Int
 expr:Int
def Es.D(v:Es):D:=.agg ([(D.i .i64) v.free]++[(D.i .i64) v.expr])
instance :Dy Es.D 2:=⟨fun _=>rfl⟩
def Es.eqb(a b:Es):Bool:=(decide (a.free=b.free)&&(decide (a.expr=b.expr)&&true))
theorem Es.eqb_iff(a b:Es):Es.eqb a b=true↔a=b:=by cases a;cases b;simp[Es.eqb]
instance :DecidableEq Es:=fun a b=>decidable_of_iff (Es.eqb a b=true) (Es.eqb_iff a b)
structure X6 where
 from_:Int
 symbol:Int
 to:Int
 guard:Int
 sets:List Es
 deriving DecidableEq
def X6.D(v:X6):D:=.agg ([(D.i .i64) v.from_]++[(D.i .i64) v.symbol]++[(D.i .i64) v.to]++[(D.i .i64) v.guard]++[(D.l Es.D) v.sets])
instance :Dy X6.D 5:=⟨fun _=>rfl⟩
structure AD where
 name:List UInt8
 decls:List Xf
 quants:List Yg
 frees:List Yh
 states:List Xc
 start:Int
 symbols:List X5
 nodes:List Yp
 trans:List X6
 deriving DecidableEq
def AD.D(v:AD):D:=.agg ([D.s v.name]++[(D.l Xf.D) v.decls]++[(D.l Yg.D) v.quants]++[(D.l Yh.D) v.frees]++[(D.l Xc.D) v.states]++[(D.i .i64) v.start]++[(D.l X5.D) v.symbols]++[(D.l Yp.D) v.nodes]++[(D.l X6.D) v.trans])
instance :Dy AD.D 9:=⟨fun _=>rfl⟩
structure X3 where
 state:Int
 vals:List X0
 deriving DecidableEq
def X3.D(v:X3):D:=.agg ([(D.i .i64) v.state]++[(D.l X0.D) v.vals])
instance :Dy X3.D 2:=⟨fun _=>rfl⟩
structure X2 where
 var:Int
 value:X0
def X2.D(v:X2):D:=.agg ([(D.i .i64) v.var]++(X0.D v.value).cells)
instance :Dy X2.D 5:=⟨fun _=>rfl⟩
def X2.eqb(a b:X2):Bool:=(decide (a.var=b.var)&&(X0.eqb a.value b.value&&true))
theorem X2.eqb_iff(a b:X2):X2.eqb a b=true↔a=b:=by cases a;cases b;simp[X2.eqb,X0.eqb_iff]
instance :DecidableEq X2:=fun a b=>decidable_of_iff (X2.eqb a b=true) (X2.eqb_iff a b)
structure Xx where
 q:AD
 b:List X2
 d_:Int
 at_:Int
 deriving DecidableEq
def Xx.D(v:Xx):D:=.agg ((AD.D v.q).cells++[(D.l X2.D) v.b]++[(D.i .i64) v.d_]++[(D.i .i64) v.at_])
instance :Dy Xx.D 12:=⟨fun _=>rfl⟩
structure X4 where
 name:List UInt8
 args:List X0
 deriving DecidableEq
def X4.D(v:X4):D:=.agg ([D.s v.name]++[(D.l X0.D) v.args])
instance :Dy X4.D 2:=⟨fun _=>rfl⟩
structure Ad where
 symbol:Int
 bind:List X2
 frees:List X2
 deriving DecidableEq
def Ad.D(v:Ad):D:=.agg ([(D.i .i64) v.symbol]++[(D.l X2.D) v.bind]++[(D.l X2.D) v.frees])
instance :Dy Ad.D 3:=⟨fun _=>rfl⟩
def IZ(w1:AD)(s3:Int):Option ((Int)⊕(Unit⊕Unit)):=
 AE (decide (s3<(w1.decls.length:Int))) (
  AS w1.decls s3 fun x1=>
  AE (decide (12<(x1.types.length:Int))) (
   some (.inr (.inr ()))) (
   AS w1.decls s3 fun x2=>
   AE (decide (100<(x2.name.length:Int))) (
    some (.inr (.inr ()))) (
    some (.inl (AA .add .i64 s3 1))))) (
  some (.inr (.inl ())))
def aSf(w1:AD)(s3:Int):Option (Unit⊕Unit):=AR (fun s:Int=>IZ w1 s) s3
def Ib(s4:Int)(w1:AD)(s5:Int):Option ((Int)⊕(Unit⊕Unit)):=
 AS w1.symbols s4 fun x7=>
 AE (decide (s5<(x7.args.length:Int))) (
  AS w1.symbols s4 fun x8=>
  AS x8.args s5 fun x9=>
  AE (decide (100<(x9.value.str.length:Int))) (
   some (.inr (.inr ()))) (
   some (.inl (AA .add .i64 s5 1)))) (
  some (.inr (.inl ())))
def aSh(s4:Int)(w1:AD)(s5:Int):Option (Unit⊕Unit):=AR (fun s:Int=>Ib s4 w1 s) s5
def Ia(w1:AD)(s4:Int):Option ((Int)⊕(Unit⊕Unit)):=
 AE (decide (s4<(w1.symbols.length:Int))) (
  AS w1.symbols s4 fun x6=>
  AE (decide (12<(x6.args.length:Int))) (
   some (.inr (.inr ()))) (
   AH (aSh s4 w1 0) fun o10=>
   Ba o10 (fun o11=>
    some (.inl (AA .add .i64 s4 1))) (fun o12=>
    some (.inr (.inr ()))))) (
  some (.inr (.inl ())))
def aSg(w1:AD)(s4:Int):Option (Unit⊕Unit):=AR (fun s:Int=>Ia w1 s) s4
def Ic(w1:AD)(s6:Int):Option ((Int)⊕(Unit⊕Unit)):=
 AE (decide (s6<(w1.frees.length:Int))) (
  AS w1.frees s6 fun x16=>
  AE (decide (100<(x16.init_.str.length:Int))) (
   some (.inr (.inr ()))) (
   some (.inl (AA .add .i64 s6 1)))) (
  some (.inr (.inl ())))
def aSi(w1:AD)(s6:Int):Option (Unit⊕Unit):=AR (fun s:Int=>Ic w1 s) s6
def Id(w1:AD)(s7:Int):Option ((Int)⊕(Unit⊕Unit)):=
 AE (decide (s7<(w1.nodes.length:Int))) (
  AS w1.nodes s7 fun x20=>
  AE (decide (100<(x20.value.str.length:Int))) (
   some (.inr (.inr ()))) (
   some (.inl (AA .add .i64 s7 1)))) (
  some (.inr (.inl ())))
def aSj(w1:AD)(s7:Int):Option (Unit⊕Unit):=AR (fun s:Int=>Id w1 s) s7
def Ie(w1:AD)(s8:Int):Option ((Int)⊕(Unit⊕Unit)):=
 AE (decide (s8<(w1.trans.length:Int))) (
  AS w1.trans s8 fun x24=>
  AE (decide (12<(x24.sets.length:Int))) (
   some (.inr (.inr ()))) (
   some (.inl (AA .add .i64 s8 1)))) (
  some (.inr (.inl ())))
def aSk(w1:AD)(s8:Int):Option (Unit⊕Unit):=AR (fun s:Int=>Ie w1 s) s8
def Xe(a0:AD):Option (Int):=
 AE (decide (12<(a0.decls.length:Int))) (
  some 0) (
  AE (decide (9<(a0.quants.length:Int))) (
   some 0) (
   AE (decide (12<(a0.frees.length:Int))) (
    some 0) (
    AE (decide (12<(a0.states.length:Int))) (
     some 0) (
     AE (decide (12<(a0.symbols.length:Int))) (
      some 0) (
      AE (decide (12<(a0.trans.length:Int))) (
       some 0) (
       AE (decide (40<(a0.nodes.length:Int))) (
        some 0) (
        AE (decide (100<(a0.name.length:Int))) (
         some 0) (
         AH (aSf a0 0) fun o3=>
         Ba o3 (fun o4=>
          AH (aSg a0 0) fun o13=>
          Ba o13 (fun o14=>
           AH (aSi a0 0) fun o17=>
           Ba o17 (fun o18=>
            AH (aSj a0 0) fun o21=>
            Ba o21 (fun o22=>
             AH (aSk a0 0) fun o25=>
             Ba o25 (fun o26=>
              some 1) (fun o27=>
              some 0)) (fun o23=>
             some 0)) (fun o19=>
            some 0)) (fun o15=>
           some 0)) (fun o5=>
          some 0)))))))))
def Uj:Option (List (List UInt8)):=
 some ([([97,99,99,101,112,116]:List UInt8),([97,108,115,111]:List UInt8),([97,110,100]:List UInt8),([98,111,111,108]:List UInt8),([100,111]:List UInt8),([101,118,101,110,116]:List UInt8),([101,120,105,115,116,115]:List UInt8),([102,97,108,115,101]:List UInt8),([102,111,114,97,108,108]:List UInt8),([102,114,101,101]:List UInt8),([105,102]:List UInt8),([105,110,116]:List UInt8),([110,101,120,116]:List UInt8),([110,111,116]:List UInt8),([111,110]:List UInt8),([111,114]:List UInt8),([113,101,97]:List UInt8),([115,107,105,112]:List UInt8),([115,116,97,114,116]:List UInt8),([115,116,114,105,110,103]:List UInt8),([116,111]:List UInt8),([116,114,117,101]:List UInt8)])
def JM(s0:List UInt8)(s3:Int):Option ((Int)⊕(Unit⊕Unit)):=
 AE (decide (s3<(s0.length:Int))) (
  AS s0 s3 fun x1=>
  AE (decide (((65:UInt8).toNat:Int)<=(x1.toNat:Int))) (
   AE (decide ((x1.toNat:Int)<=((90:UInt8).toNat:Int))) (
    some (.inl (AA .add .i64 s3 1))) (
    AE (decide (((97:UInt8).toNat:Int)<=(x1.toNat:Int))) (
     AE (decide ((x1.toNat:Int)<=((122:UInt8).toNat:Int))) (
      some (.inl (AA .add .i64 s3 1))) (
      AE (!(decide ((x1.toNat:Int)=((95:UInt8).toNat:Int)))) (
       AE (decide (s3=0)) (
        some (.inr (.inr ()))) (
        AE (decide ((x1.toNat:Int)<((48:UInt8).toNat:Int))) (
         some (.inr (.inr ()))) (
         AE (decide (((57:UInt8).toNat:Int)<(x1.toNat:Int))) (
          some (.inr (.inr ()))) (
          some (.inl (AA .add .i64 s3 1)))))) (
       some (.inl (AA .add .i64 s3 1))))) (
     AE (!(decide ((x1.toNat:Int)=((95:UInt8).toNat:Int)))) (
      AE (decide (s3=0)) (
       some (.inr (.inr ()))) (
       AE (decide ((x1.toNat:Int)<((48:UInt8).toNat:Int))) (
        some (.inr (.inr ()))) (
        AE (decide (((57:UInt8).toNat:Int)<(x1.toNat:Int))) (
         some (.inr (.inr ()))) (
         some (.inl (AA .add .i64 s3 1)))))) (
      some (.inl (AA .add .i64 s3 1)))))) (
   AE (decide (((97:UInt8).toNat:Int)<=(x1.toNat:Int))) (
    AE (decide ((x1.toNat:Int)<=((122:UInt8).toNat:Int))) (
     some (.inl (AA .add .i64 s3 1))) (
     AE (!(decide ((x1.toNat:Int)=((95:UInt8).toNat:Int)))) (
      AE (decide (s3=0)) (
       some (.inr (.inr ()))) (
       AE (decide ((x1.toNat:Int)<((48:UInt8).toNat:Int))) (
        some (.inr (.inr ()))) (
        AE (decide (((57:UInt8).toNat:Int)<(x1.toNat:Int))) (
         some (.inr (.inr ()))) (
         some (.inl (AA .add .i64 s3 1)))))) (
      some (.inl (AA .add .i64 s3 1))))) (
    AE (!(decide ((x1.toNat:Int)=((95:UInt8).toNat:Int)))) (
     AE (decide (s3=0)) (
      some (.inr (.inr ()))) (
      AE (decide ((x1.toNat:Int)<((48:UInt8).toNat:Int))) (
       some (.inr (.inr ()))) (
       AE (decide (((57:UInt8).toNat:Int)<(x1.toNat:Int))) (
        some (.inr (.inr ()))) (
        some (.inl (AA .add .i64 s3 1)))))) (
     some (.inl (AA .add .i64 s3 1)))))) (
  some (.inr (.inl ())))
def aTu(s0:List UInt8)(s3:Int):Option (Unit⊕Unit):=AR (fun s:Int=>JM s0 s) s3
def Za(a0:List UInt8):Option (Bool):=
 AE (decide ((a0.length:Int)<1)) (
  some false) (
  AE (decide (32<(a0.length:Int))) (
   some false) (
   AH (aTu a0 0) fun o2=>
   Ba o2 (fun o3=>
    some true) (fun o4=>
    some false)))
def JF(s0:List UInt8)(s3:List (List UInt8))(s4:Int):Option ((Int)⊕(Unit⊕Unit)):=
 AE (decide (s4<(s3.length:Int))) (
  AS s3 s4 fun x2=>
  AE (decide (x2=s0)) (
   some (.inr (.inr ()))) (
   some (.inl (AA .add .i64 s4 1)))) (
  some (.inr (.inl ())))
def aTn(s0:List UInt8)(s3:List (List UInt8))(s4:Int):Option (Unit⊕Unit):=AR (fun s:Int=>JF s0 s3 s) s4
def Yt(a0:List UInt8):Option (Bool):=
 AH (Uj) fun r1=>
 AH (aTn a0 r1 0) fun o3=>
 Ba o3 (fun o4=>
  AH (Za a0) fun r6=>
  AE (r6) (
   some (!decide (a0=([95]:List UInt8)))) (
   some false)) (fun o5=>
  some false)
def Lj(s0:List Xf)(s1:List UInt8)(s5:Int):Option ((Int)⊕(Unit⊕Int)):=
 AE (decide (s5<(s0.length:Int))) (
  AS s0 s5 fun x1=>
  AE (decide (x1.name=s1)) (
   some (.inr (.inr s5))) (
   some (.inl (AA .add .i64 s5 1)))) (
  some (.inr (.inl ())))
def aTr(s0:List Xf)(s1:List UInt8)(s5:Int):Option (Unit⊕Int):=AR (fun s:Int=>Lj s0 s1 s) s5
def Z3(a0:List Xf)(a1:List UInt8):Option (Int):=
 AH (aTr a0 a1 0) fun o2=>
 Ba o2 (fun o3=>
  some (-1)) (fun o4=>
  some o4)
def FC(s0:List Xf)(s4 s5:Int):Option ((Int)⊕(Unit⊕Unit)):=
 AS s0 s4 fun x6=>
 AE (decide (s5<(x6.types.length:Int))) (
  AS s0 s4 fun x7=>
  AS x7.types s5 fun x8=>
  AE (decide (x8<1)) (
   some (.inr (.inr ()))) (
   AS s0 s4 fun x9=>
   AS x9.types s5 fun x10=>
   AE (decide (3<x10)) (
    some (.inr (.inr ()))) (
    some (.inl (AA .add .i64 s5 1))))) (
  some (.inr (.inl ())))
def aK3(s0:List Xf)(s4 s5:Int):Option (Unit⊕Unit):=AR (fun s:Int=>FC s0 s4 s) s5
def FA(s0:List Xf)(s4:Int):Option ((Int)⊕(Unit⊕(Int×Int))):=
 AE (decide (s4<(s0.length:Int))) (
  AS s0 s4 fun x1=>
  AH (Yt x1.name) fun r2=>
  AE (!r2) (
   some (.inr (.inr (11,s4)))) (
   AS s0 s4 fun x3=>
   AH (Z3 s0 x3.name) fun r4=>
   AE (decide (r4<s4)) (
    some (.inr (.inr (10,s4)))) (
    AS s0 s4 fun x5=>
    AE (decide (8<(x5.types.length:Int))) (
     some (.inr (.inr (14,s4)))) (
     AH (aK3 s0 s4 0) fun o11=>
     Ba o11 (fun o12=>
      some (.inl (AA .add .i64 s4 1))) (fun o13=>
      some (.inr (.inr (8,s4)))))))) (
  some (.inr (.inl ())))
def aK1(s0:List Xf)(s4:Int):Option (Unit⊕(Int×Int)):=AR (fun s:Int=>FA s0 s) s4
def Y5(a0:List Xf):Option (Int×Int):=
 AE (decide (32<(a0.length:Int))) (
  some (14,32)) (
  AH (aK1 a0 0) fun o14=>
  Ba o14 (fun o15=>
   some (0,(-1))) (fun o16=>
   some (o16.1,o16.2)))
def Z6(a0:X0):Option (Bool):=
 AE (decide (a0.kind=1)) (
  AE (decide (a0.str=([]:List UInt8))) (
   some (!a0.bool)) (
   some false)) (
  AE (decide (a0.kind=2)) (
   AE (decide (a0.int=0)) (
    AE (!a0.bool) (
     some (decide ((a0.str.length:Int)<=4096))) (
     some false)) (
    some false)) (
   AE (decide (a0.kind=3)) (
    AE (decide (a0.int=0)) (
     some (decide (a0.str=([]:List UInt8)))) (
     some false)) (
    some false)))
def JS(s0:List (List UInt8))(s1 s5:Int):Option ((Int)⊕(Unit⊕Unit)):=
 AE (decide (s5<s1)) (
  AS s0 s5 fun x1=>
  AS s0 s1 fun x2=>
  AE (decide (x1=x2)) (
   some (.inr (.inr ()))) (
   some (.inl (AA .add .i64 s5 1)))) (
  some (.inr (.inl ())))
def aYb(s0:List (List UInt8))(s1 s5:Int):Option (Unit⊕Unit):=AR (fun s:Int=>JS s0 s1 s) s5
def Zh(a0:List (List UInt8))(a1:Int):Option (Bool):=
 AH (aYb a0 a1 0) fun o3=>
 Ba o3 (fun o4=>
  some false) (fun o5=>
  some true)
def Ii(w1:AD)(s4:Int)(w3:List (List UInt8)):Option ((Int×List (List UInt8))⊕((List (List UInt8))⊕Unit)):=
 AE (decide (s4<(w1.quants.length:Int))) (
  AS w1.quants s4 fun x4=>
  AU (fit w3.length [x4.name].length 16) (
   AS w1.quants s4 fun x5=>
   AE (decide (x5.type<1)) (
    some (.inr (.inr ()))) (
    AS w1.quants s4 fun x6=>
    AE (decide (3<x6.type)) (
     some (.inr (.inr ()))) (
     some (.inl ((AA .add .i64 s4 1),w3++[x4.name])))))) (
  some (.inr (.inl w3)))
def aXg(w1:AD)(s4:Int)(w3:List (List UInt8)):Option ((List (List UInt8))⊕Unit):=AR (fun s:Int×List (List UInt8)=>Ii w1 s.1 s.2) (s4,w3)
def Ij(w1:AD)(s5:Int)(w3:List (List UInt8)):Option ((Int×List (List UInt8))⊕((List (List UInt8))⊕Unit)):=
 AE (decide (s5<(w1.frees.length:Int))) (
  AS w1.frees s5 fun x10=>
  AU (fit w3.length [x10.name].length 16) (
   AS w1.frees s5 fun x11=>
   AH (Z6 x11.init_) fun r12=>
   AE (!r12) (
    some (.inr (.inr ()))) (
    some (.inl ((AA .add .i64 s5 1),w3++[x10.name]))))) (
  some (.inr (.inl w3)))
def aXh(w1:AD)(s5:Int)(w3:List (List UInt8)):Option ((List (List UInt8))⊕Unit):=AR (fun s:Int×List (List UInt8)=>Ij w1 s.1 s.2) (s5,w3)
def Ik(w1:AD)(w3:List (List UInt8))(s6:Int):Option ((Int)⊕(Unit⊕Unit)):=
 AE (decide (s6<(w3.length:Int))) (
  AS w3 s6 fun x16=>
  AH (Yt x16) fun r17=>
  AE (!r17) (
   some (.inr (.inr ()))) (
   AH (Zh w3 s6) fun r18=>
   AE (r18) (
    some (.inr (.inr ()))) (
    some (.inl (AA .add .i64 s6 1))))) (
  some (.inr (.inl ())))
def aXi(w1:AD)(w3:List (List UInt8))(s6:Int):Option (Unit⊕Unit):=AR (fun s:Int=>Ik w1 w3 s) s6
def Il(w1:AD)(s8:Int)(w7:List (List UInt8)):Option ((Int×List (List UInt8))⊕(Unit⊕Unit)):=
 AE (decide (s8<(w1.states.length:Int))) (
  AS w1.states s8 fun x26=>
  AU (fit w7.length [x26.name].length 16) (
   AS (w7++[x26.name]) s8 fun x27=>
   AH (Yt x27) fun r28=>
   AE (!r28) (
    some (.inr (.inr ()))) (
    AH (Zh (w7++[x26.name]) s8) fun r29=>
    AE (r29) (
     some (.inr (.inr ()))) (
     some (.inl ((AA .add .i64 s8 1),w7++[x26.name])))))) (
  some (.inr (.inl ())))
def aXj(w1:AD)(s8:Int)(w7:List (List UInt8)):Option (Unit⊕Unit):=AR (fun s:Int×List (List UInt8)=>Il w1 s.1 s.2) (s8,w7)
def Xk(a0:AD):Option (Bool):=
 AH (aXg a0 0 ([]:List (List UInt8))) fun o7=>
 Ba o7 (fun o8=>
  AH (aXh a0 0 o8) fun o13=>
  Ba o13 (fun o14=>
   AH (aXi a0 o14 0) fun o19=>
   Ba o19 (fun o20=>
    AH (aXj a0 0 ([]:List (List UInt8))) fun o30=>
    Ba o30 (fun o31=>
     AH (Yt a0.name) fun r33=>
     some r33) (fun o32=>
     some false)) (fun o21=>
    some false)) (fun o15=>
   some false)) (fun o9=>
  some false)
def Q4(a0:Bool):Option (X0×Int):=
 some (X0.mk 3 0 ([]:List UInt8) a0,0)
def Qu(a0 a1:Int):Option (Int×Bool):=
 AE (decide (0<a1)) (
  AE (decide ((AA .sub .i64 9223372036854775807 a1)<a0)) (
   some (0,false)) (
   AE (decide (a1<0)) (
    AE (decide (a0<(AA .sub .i64 (-9223372036854775808) a1))) (
     some (0,false)) (
     some ((AA .add .i64 a0 a1),true))) (
    some ((AA .add .i64 a0 a1),true)))) (
  AE (decide (a1<0)) (
   AE (decide (a0<(AA .sub .i64 (-9223372036854775808) a1))) (
    some (0,false)) (
    some ((AA .add .i64 a0 a1),true))) (
   some ((AA .add .i64 a0 a1),true)))
def Qd(a0:Int)(a1:Bool):Option (X0×Int):=
 AE (!a1) (
  some (X0.mk 0 0 ([]:List UInt8) false,6)) (
  some (X0.mk 1 a0 ([]:List UInt8) false,0))
def Qa(a0 a1:Int):Option (Int×Bool):=
 AE (decide (a1<0)) (
  AE (decide ((AA .add .i64 9223372036854775807 a1)<a0)) (
   some (0,false)) (
   AE (decide (0<a1)) (
    AE (decide (a0<(AA .add .i64 (-9223372036854775808) a1))) (
     some (0,false)) (
     some ((AA .sub .i64 a0 a1),true))) (
    some ((AA .sub .i64 a0 a1),true)))) (
  AE (decide (0<a1)) (
   AE (decide (a0<(AA .add .i64 (-9223372036854775808) a1))) (
    some (0,false)) (
    some ((AA .sub .i64 a0 a1),true))) (
   some ((AA .sub .i64 a0 a1),true)))
def Qv(a0 a1:Int):Option (Int×Bool):=
 AE (decide (a0=0)) (
  some (0,true)) (
  AE (decide (a1=0)) (
   some (0,true)) (
   AE (decide (a0=(-1))) (
    AH (Qa 0 a1) fun r1=>
    some (r1.1,r1.2)) (
    AE (decide (a1=(-1))) (
     AH (Qa 0 a0) fun r2=>
     some (r2.1,r2.2)) (
     AE (decide (0<a0)) (
      AE (decide (0<a1)) (
       AU (a1≠0) (
        AE (decide ((AA .quo .i64 9223372036854775807 a1)<a0)) (
         some (0,false)) (
         AE (decide (a1<0)) (
          AU (a0≠0) (
           AE (decide (a1<(AA .quo .i64 (-9223372036854775808) a0))) (
            some (0,false)) (
            AE (decide (a0<0)) (
             AU (a1≠0) (
              AE (decide (a0<(AA .quo .i64 (-9223372036854775808) a1))) (
               some (0,false)) (
               AU (a1≠0) (
                AE (decide (a0<(AA .quo .i64 9223372036854775807 a1))) (
                 some (0,false)) (
                 some ((AA .mul .i64 a0 a1),true)))))) (
             some ((AA .mul .i64 a0 a1),true))))) (
          AE (decide (a0<0)) (
           AU (a1≠0) (
            AE (decide (a0<(AA .quo .i64 (-9223372036854775808) a1))) (
             some (0,false)) (
             some ((AA .mul .i64 a0 a1),true)))) (
           some ((AA .mul .i64 a0 a1),true)))))) (
       AE (decide (a1<0)) (
        AU (a0≠0) (
         AE (decide (a1<(AA .quo .i64 (-9223372036854775808) a0))) (
          some (0,false)) (
          AE (decide (a0<0)) (
           AU (a1≠0) (
            AE (decide (a0<(AA .quo .i64 9223372036854775807 a1))) (
             some (0,false)) (
             some ((AA .mul .i64 a0 a1),true)))) (
           some ((AA .mul .i64 a0 a1),true))))) (
        AE (decide (a0<0)) (
         some ((AA .mul .i64 a0 a1),true)) (
         some ((AA .mul .i64 a0 a1),true))))) (
      AE (decide (a0<0)) (
       AE (decide (0<a1)) (
        AU (a1≠0) (
         AE (decide (a0<(AA .quo .i64 (-9223372036854775808) a1))) (
          some (0,false)) (
          AE (decide (a1<0)) (
           AU (a1≠0) (
            AE (decide (a0<(AA .quo .i64 9223372036854775807 a1))) (
             some (0,false)) (
             some ((AA .mul .i64 a0 a1),true)))) (
           some ((AA .mul .i64 a0 a1),true))))) (
        AE (decide (a1<0)) (
         AU (a1≠0) (
          AE (decide (a0<(AA .quo .i64 9223372036854775807 a1))) (
           some (0,false)) (
           some ((AA .mul .i64 a0 a1),true)))) (
         some ((AA .mul .i64 a0 a1),true)))) (
       some ((AA .mul .i64 a0 a1),true)))))))
def Qw(a0 a1:Int):Option (Int×Int×Int):=
 AE (decide (a1=0)) (
  some (0,0,7)) (
  AE (decide (a1=(-1))) (
   AH (Qa 0 a0) fun r1=>
   AE (!r1.2) (
    some (0,0,6)) (
    some (r1.1,0,0))) (
   AU (a1≠0) (
    AU (a1≠0) (
     some ((AA .quo .i64 a0 a1),(AA .rem .i64 a0 a1),0)))))
def Qb(a0 a1 a2:Int):Option (X0×Int):=
 AE (decide (a0=8)) (
  AH (Qu a1 a2) fun r1=>
  AH (Qd r1.1 r1.2) fun r2=>
  some (r2.1,r2.2)) (
  AE (decide (a0=9)) (
   AH (Qa a1 a2) fun r3=>
   AH (Qd r3.1 r3.2) fun r4=>
   some (r4.1,r4.2)) (
   AE (decide (a0=10)) (
    AH (Qv a1 a2) fun r5=>
    AH (Qd r5.1 r5.2) fun r6=>
    some (r6.1,r6.2)) (
    AH (Qw a1 a2) fun r7=>
    AE (decide (r7.2.2=7)) (
     some (X0.mk 0 0 ([]:List UInt8) false,7)) (
     AE (decide (a0=12)) (
      some (X0.mk 1 r7.2.1 ([]:List UInt8) false,0)) (
      AH (Qd r7.1 (decide (r7.2.2=0))) fun r8=>
      some (r8.1,r8.2))))))
def HL(s0 s1:List UInt8)(s5:Int):Option ((Int)⊕(Unit⊕Bool)):=
 AE (decide (s5<(s0.length:Int))) (
  AE (decide (s5<(s1.length:Int))) (
   AS s0 s5 fun x1=>
   AS s1 s5 fun x2=>
   AE (!decide ((x1.toNat:Int)=(x2.toNat:Int))) (
    AS s0 s5 fun x3=>
    AS s1 s5 fun x4=>
    some (.inr (.inr (decide ((x3.toNat:Int)<(x4.toNat:Int)))))) (
    some (.inl (AA .add .i64 s5 1)))) (
   some (.inr (.inl ())))) (
  some (.inr (.inl ())))
def aM7(s0 s1:List UInt8)(s5:Int):Option (Unit⊕Bool):=AR (fun s:Int=>HL s0 s1 s) s5
def Yz(a0 a1:List UInt8):Option (Bool):=
 AH (aM7 a0 a1 0) fun o5=>
 Ba o5 (fun o6=>
  some (decide ((a0.length:Int)<(a1.length:Int)))) (fun o7=>
  some o7)
def Q5(a0 a1:X0):Option (Bool):=
 AE (!decide (a0.kind=a1.kind)) (
  some (decide (a0.kind<a1.kind))) (
  AE (decide (a0.kind=1)) (
   some (decide (a0.int<a1.int))) (
   AE (decide (a0.kind=2)) (
    AH (Yz a0.str a1.str) fun r1=>
    some r1) (
    AE (!a0.bool) (
     some a1.bool) (
     some false))))
def Q7(a0:Int)(a1 a2:X0):Option (X0×Int):=
 AE (decide (a0<4)) (
  some (X0.mk 0 0 ([]:List UInt8) false,1)) (
  AE (decide (16<a0)) (
   some (X0.mk 0 0 ([]:List UInt8) false,1)) (
   AE (decide (a0=4)) (
    AE (!decide (a1.kind=3)) (
     some (X0.mk 0 0 ([]:List UInt8) false,8)) (
     AH (Q4 (!a1.bool)) fun r1=>
     some (r1.1,r1.2))) (
    AE (decide (a0=5)) (
     AE (!decide (a1.kind=1)) (
      some (X0.mk 0 0 ([]:List UInt8) false,8)) (
      AH (Qb 9 0 a1.int) fun r2=>
      some (r2.1,r2.2))) (
     AE (!decide (a1.kind=a2.kind)) (
      some (X0.mk 0 0 ([]:List UInt8) false,8)) (
      AE (decide (a0=13)) (
       AH (Q4 (X0.eqb a1 a2)) fun r3=>
       some (r3.1,r3.2)) (
       AE (decide (a0=14)) (
        AH (Q4 (!(X0.eqb a1 a2))) fun r4=>
        some (r4.1,r4.2)) (
        AE (decide (a1.kind=3)) (
         AE (decide (a0=6)) (
          AE (a1.bool) (
           AH (Q4 a2.bool) fun r5=>
           some (r5.1,r5.2)) (
           AH (Q4 false) fun r6=>
           some (r6.1,r6.2))) (
          AE (decide (a0=7)) (
           AE (a1.bool) (
            AH (Q4 true) fun r7=>
            some (r7.1,r7.2)) (
            AH (Q4 a2.bool) fun r8=>
            some (r8.1,r8.2))) (
           some (X0.mk 0 0 ([]:List UInt8) false,8)))) (
         AE (decide (a0=15)) (
          AH (Q5 a1 a2) fun r9=>
          AH (Q4 r9) fun r10=>
          some (r10.1,r10.2)) (
          AE (decide (a0=16)) (
           AH (Q5 a2 a1) fun r11=>
           AH (Q4 (!r11)) fun r12=>
           some (r12.1,r12.2)) (
           AE (decide (a1.kind=1)) (
            AE (decide (8<=a0)) (
             AE (decide (a0<=12)) (
              AH (Qb a0 a1.int a2.int) fun r13=>
              some (r13.1,r13.2)) (
              AE (decide (a1.kind=2)) (
               AE (decide (a0=8)) (
                AE (decide (4096<(AA .add .i64 (a1.str.length:Int) (a2.str.length:Int)))) (
                 some (X0.mk 0 0 ([]:List UInt8) false,3)) (
                 AU (a1.str.length+a2.str.length<=9223372036854775807) (
                  some (X0.mk 2 0 (a1.str++a2.str) false,0)))) (
                some (X0.mk 0 0 ([]:List UInt8) false,8))) (
               some (X0.mk 0 0 ([]:List UInt8) false,8)))) (
             AE (decide (a1.kind=2)) (
              AE (decide (a0=8)) (
               AE (decide (4096<(AA .add .i64 (a1.str.length:Int) (a2.str.length:Int)))) (
                some (X0.mk 0 0 ([]:List UInt8) false,3)) (
                AU (a1.str.length+a2.str.length<=9223372036854775807) (
                 some (X0.mk 2 0 (a1.str++a2.str) false,0)))) (
               some (X0.mk 0 0 ([]:List UInt8) false,8))) (
              some (X0.mk 0 0 ([]:List UInt8) false,8)))) (
            AE (decide (a1.kind=2)) (
             AE (decide (a0=8)) (
              AE (decide (4096<(AA .add .i64 (a1.str.length:Int) (a2.str.length:Int)))) (
               some (X0.mk 0 0 ([]:List UInt8) false,3)) (
               AU (a1.str.length+a2.str.length<=9223372036854775807) (
                some (X0.mk 2 0 (a1.str++a2.str) false,0)))) (
              some (X0.mk 0 0 ([]:List UInt8) false,8))) (
             some (X0.mk 0 0 ([]:List UInt8) false,8)))))))))))))
def Qh(a0 a1 a2:Int):Option (Int):=
 AE (decide (a1<1)) (
  some 0) (
  AE (!decide (a1=a2)) (
   some 0) (
   AH (Q7 a0 (X0.mk a1 0 ([]:List UInt8) false) (X0.mk a2 0 ([]:List UInt8) false)) fun r1=>
   AE (decide (r1.2=7)) (
    some 1) (
    AE (!decide (r1.2=0)) (
     some 0) (
     some r1.1.kind))))
def ZX(self:AD->Int->Option (Int×Int×Int))(a0:AD)(a1:Int):Option (Int×Int×Int):=
 AE (decide (a1<0)) (
  some (0,0,0)) (
  AE (decide ((a0.nodes.length:Int)<=a1)) (
   some (0,0,0)) (
   AS a0.nodes a1 fun x1=>
   AE (decide (x1.op=1)) (
    AE (!decide (x1.a=0)) (
     some (0,0,0)) (
     AE (!decide (x1.b=0)) (
      some (0,0,0)) (
      AH (Z6 x1.value) fun r2=>
      AE (!r2) (
       some (0,0,0)) (
       some (x1.value.kind,1,a1))))) (
    AE (!(X0.eqb x1.value (X0.mk 0 0 ([]:List UInt8) false))) (
     some (0,0,0)) (
     AE (decide (x1.op=2)) (
      AE (decide (x1.a<0)) (
       some (0,0,0)) (
       AE (decide ((a0.quants.length:Int)<=x1.a)) (
        some (0,0,0)) (
        AE (!decide (x1.b=0)) (
         some (0,0,0)) (
         AS a0.quants x1.a fun x3=>
         some (x3.type,1,a1))))) (
      AE (decide (x1.op=3)) (
       AE (decide (x1.a<0)) (
        some (0,0,0)) (
        AE (decide ((a0.frees.length:Int)<=x1.a)) (
         some (0,0,0)) (
         AE (!decide (x1.b=0)) (
          some (0,0,0)) (
          AS a0.frees x1.a fun x4=>
          some (x4.init_.kind,1,a1))))) (
       AE (decide (x1.op<4)) (
        some (0,0,0)) (
        AE (decide (16<x1.op)) (
         some (0,0,0)) (
         AH (self a0 (AA .sub .i64 a1 1)) fun r5=>
         AE (decide (x1.op<=5)) (
          AE (decide (r5.1=0)) (
           some (0,0,0)) (
           AE (!decide (x1.a=(AA .sub .i64 a1 1))) (
            some (0,0,0)) (
            AE (!decide (x1.b=0)) (
             some (0,0,0)) (
             AH (Qh x1.op r5.1 r5.1) fun r6=>
             some (r6,(AA .add .i64 r5.2.1 1),r5.2.2))))) (
          AE (decide (r5.1=0)) (
           some (0,0,0)) (
           AE (!decide (x1.b=(AA .sub .i64 a1 1))) (
            some (0,0,0)) (
            AE (!decide (x1.a=(AA .sub .i64 r5.2.2 1))) (
             some (0,0,0)) (
             AH (self a0 (AA .sub .i64 r5.2.2 1)) fun r7=>
             AH (Qh x1.op r7.1 r5.1) fun r8=>
             some (r8,(AA .add .i64 (aZk r5.2.1 r7.2.1) 1),r7.2.2)))))))))))))
def ZY:Nat->AD->Int->Option (Int×Int×Int)
 |0=>fun _ _=>none
 |n+1=>fun a0 a1=>ZX (ZY n) a0 a1
def Yu(a0:AD)(a1:Int):Option (Int×Int×Int):=ZY 100000 a0 a1
def Qi(a0:AD)(a1 a2:Int):Option (Int×Int):=
 AH (Yu a0 a2) fun r1=>
 AE (decide (r1.1=0)) (
  some (0,0)) (
  AE (!decide (r1.2.2=a1)) (
   some (0,0)) (
   some (r1.1,r1.2.1)))
def JK(s1:Int)(w2:X5)(s5:Int):Option ((Int)⊕(Unit⊕Unit)):=
 AE (decide (s5<(w2.args.length:Int))) (
  AS w2.args s5 fun x1=>
  AE (decide (x1.kind=2)) (
   AS w2.args s5 fun x2=>
   AE (decide (x2.n=s1)) (
    some (.inr (.inr ()))) (
    some (.inl (AA .add .i64 s5 1)))) (
   some (.inl (AA .add .i64 s5 1)))) (
  some (.inr (.inl ())))
def aTs(s1:Int)(w2:X5)(s5:Int):Option (Unit⊕Unit):=AR (fun s:Int=>JK s1 w2 s) s5
def Z7(a0:X5)(a1:Int):Option (Bool):=
 AH (aTs a1 a0 0) fun o3=>
 Ba o3 (fun o4=>
  some false) (fun o5=>
  some true)
def JV(s3:Int)(w4:AD)(w5:X5)(s9:Int):Option ((Int)⊕(Unit⊕Unit)):=
 AE (decide (s9<s3)) (
  AS w4.nodes s9 fun x1=>
  AE (decide (x1.op=2)) (
   AS w4.nodes s9 fun x2=>
   AH (Z7 w5 x2.a) fun r3=>
   AE (!r3) (
    some (.inr (.inr ()))) (
    some (.inl (AA .add .i64 s9 1)))) (
   some (.inl (AA .add .i64 s9 1)))) (
  some (.inr (.inl ())))
def aT4(s3:Int)(w4:AD)(w5:X5)(s9:Int):Option (Unit⊕Unit):=AR (fun s:Int=>JV s3 w4 w5 s) s9
def Zn(a0:AD)(a1:X5)(a2 a3:Int):Option (Bool):=
 AH (aT4 a3 a0 a1 a2) fun o4=>
 Ba o4 (fun o5=>
  some true) (fun o6=>
  some false)
def SC(s2 s8:Int)(s56:Bool)(w3:AD)(w4:X6):Option (Int⊕Unit):=
 AE (s56) (
  AH (Qi w3 s8 w4.guard) fun r1=>
  AE (!decide (r1.1=3)) (
   some (.inr ())) (
   AE (decide (64<r1.2)) (
    some (.inr ())) (
    some (.inl (AA .add .i64 w4.guard 1))))) (
  some (.inl s8))
def Io(s2 s11:Int)(w3:AD)(w4:X6)(w12:Es)(s15:Int):Option ((Int)⊕(Unit⊕Unit)):=
 AE (decide (s15<s11)) (
  AS w4.sets s15 fun x8=>
  AE (decide (x8.free=w12.free)) (
   some (.inr (.inr ()))) (
   some (.inl (AA .add .i64 s15 1)))) (
  some (.inr (.inl ())))
def aSp(s2 s11:Int)(w3:AD)(w4:X6)(w12:Es)(s15:Int):Option (Unit⊕Unit):=AR (fun s:Int=>Io s2 s11 w3 w4 w12 s) s15
def EH(s2:Int)(w3:AD)(w4:X6)(s8 s11:Int):Option ((Int×Int)⊕(Int⊕Unit)):=
 AE (decide (s11<(w4.sets.length:Int))) (
  AS w4.sets s11 fun x5=>
  AH (Qi w3 s8 x5.expr) fun r6=>
  AE (decide (x5.free<0)) (
   some (.inr (.inr ()))) (
   AE (decide ((w3.frees.length:Int)<=x5.free)) (
    some (.inr (.inr ()))) (
    AE (decide (r6.1=0)) (
     some (.inr (.inr ()))) (
     AE (decide (64<r6.2)) (
      some (.inr (.inr ()))) (
      AS w3.frees x5.free fun x7=>
      AE (!decide (r6.1=x7.init_.kind)) (
       some (.inr (.inr ()))) (
       AH (aSp s2 s11 w3 w4 x5 0) fun o9=>
       Ba o9 (fun o10=>
        some (.inl ((AA .add .i64 x5.expr 1),(AA .add .i64 s11 1)))) (fun o11=>
        some (.inr (.inr ()))))))))) (
  some (.inr (.inl s8)))
def SD(s2:Int)(w3:AD)(w4:X6)(s8 s11:Int):Option (Int⊕Unit):=AR (fun s:Int×Int=>EH s2 w3 w4 s.1 s.2) (s8,s11)
theorem aI0(s2:Int)(w3:AD)(w4:X6)(s8 s11:Int):SD s2 w3 w4 s8 s11=B1 (EH s2 w3 w4 s8 s11) (fun s:Int×Int=>SD s2 w3 w4 s.1 s.2):=An _ _
def Xn(a0:AD)(a1:X6)(a2:Int):Option (Int×Bool):=
 AE (decide (a1.from_<0)) (
  some (0,false)) (
  AE (decide ((a0.states.length:Int)<=a1.from_)) (
   some (0,false)) (
   AE (decide (a1.to<0)) (
    some (0,false)) (
    AE (decide ((a0.states.length:Int)<=a1.to)) (
     some (0,false)) (
     AE (decide (a1.symbol<0)) (
      some (0,false)) (
      AE (decide ((a0.symbols.length:Int)<=a1.symbol)) (
       some (0,false)) (
       AH (SC a2 a2 (!decide (a1.guard=(-1))) a0 a1) fun o2=>
       Ba o2 (fun o3=>
        AH (SD a2 a0 a1 o3 0) fun o12=>
        Ba o12 (fun o13=>
         AS a0.symbols a1.symbol fun x15=>
         AH (Zn a0 x15 a2 o13) fun r16=>
         some (o13,r16)) (fun o14=>
         some (0,false))) (fun o4=>
        some (0,false))))))))
def Qx(a0:AD)(a1:CN)(a2:Int):Option (Bool):=
 AE (decide (a1.kind=1)) (
  AE (decide (a1.n=0)) (
   AH (Z6 a1.value) fun r1=>
   AE (r1) (
    some (decide (a1.value.kind=a2))) (
    some false)) (
   some false)) (
  AE (!(X0.eqb a1.value (X0.mk 0 0 ([]:List UInt8) false))) (
   some false) (
   AE (decide (a1.kind=2)) (
    AE (decide (0<=a1.n)) (
     AE (decide (a1.n<(a0.quants.length:Int))) (
      AS a0.quants a1.n fun x2=>
      some (decide (x2.type=a2))) (
      some false)) (
     some false)) (
    AE (decide (a1.kind=3)) (
     AE (decide (0<=a1.n)) (
      AE (decide (a1.n<(a0.frees.length:Int))) (
       AS a0.frees a1.n fun x3=>
       some (decide (x3.init_.kind=a2))) (
       some false)) (
      some false)) (
     AE (decide (a1.kind=4)) (
      some (decide (a1.n=0))) (
      some false)))))
def JT(w2:AD)(w3:X5)(s5:Int):Option ((Int)⊕(Unit⊕Unit)):=
 AE (decide (s5<(w3.args.length:Int))) (
  AS w3.args s5 fun x2=>
  AS w2.decls w3.event fun x3=>
  AS x3.types s5 fun x4=>
  AH (Qx w2 x2 x4) fun r5=>
  AE (!r5) (
   some (.inr (.inr ()))) (
   some (.inl (AA .add .i64 s5 1)))) (
  some (.inr (.inl ())))
def aYd(w2:AD)(w3:X5)(s5:Int):Option (Unit⊕Unit):=AR (fun s:Int=>JT w2 w3 s) s5
def Zi(a0:AD)(a1:X5):Option (Bool):=
 AE (decide (a1.event<0)) (
  some false) (
  AE (decide ((a0.decls.length:Int)<=a1.event)) (
   some false) (
   AS a0.decls a1.event fun x1=>
   AE (!decide ((a1.args.length:Int)=(x1.types.length:Int))) (
    some false) (
    AH (aYd a0 a1 0) fun o6=>
    Ba o6 (fun o7=>
     some true) (fun o8=>
     some false))))
def Je(w2 w3:X5)(s5:Int):Option ((Int)⊕(Unit⊕Unit)):=
 AE (decide (s5<(w2.args.length:Int))) (
  AS w2.args s5 fun x1=>
  AS w3.args s5 fun x2=>
  AE (!(CN.eqb x1 x2)) (
   some (.inr (.inr ()))) (
   some (.inl (AA .add .i64 s5 1)))) (
  some (.inr (.inl ())))
def aYg(w2 w3:X5)(s5:Int):Option (Unit⊕Unit):=AR (fun s:Int=>Je w2 w3 s) s5
def Zx(a0 a1:X5):Option (Bool):=
 AE (!decide (a0.event=a1.event)) (
  some false) (
  AE (!decide ((a0.args.length:Int)=(a1.args.length:Int))) (
   some false) (
   AH (aYg a0 a1 0) fun o3=>
   Ba o3 (fun o4=>
    some true) (fun o5=>
    some false)))
def Uw(s5 s6:Int)(s34:Bool)(w1:AD)(w3:List Bool)(w4:List Int):Option ((List Int)):=
 AE (s34) (
  AU (fit w4.length [s6].length 8) (
   some (w4++[s6]))) (
  some w4)
def aHd(s5:Int)(w1:AD)(w3:List Bool)(w4:List Int):Option ((List Bool×List Int)):=
 AS w1.trans s5 fun x5=>
 AU (0<=x5.symbol/\x5.symbol+1<=(w3.length:Int)) (
  AS w3 x5.symbol fun x6=>
  AH (Uw s5 x5.symbol (!x6) w1 w3 w4) fun o7=>
  AU (0<=x5.symbol/\x5.symbol+1<=(w3.length:Int)) (
   AU (0<=x5.symbol/\x5.symbol+1<=(w3.length:Int)) (
    some (w3.set x5.symbol.toNat true,o7))))
def IT(w1:AD)(s5:Int)(w3:List Bool)(w4:List Int):Option ((Int×List Bool×List Int)⊕((List Int))):=
 AE (decide (s5<(w1.trans.length:Int))) (
  AH (aHd s5 w1 w3 w4) fun o8=>
  some (.inl ((AA .add .i64 s5 1),o8.1,o8.2))) (
  some (.inr w4))
def aXb(w1:AD)(s5:Int)(w3:List Bool)(w4:List Int):Option ((List Int)):=AR (fun s:Int×List Bool×List Int=>IT w1 s.1 s.2.1 s.2.2) (s5,w3,w4)
def IU(w1:AD)(w4:List Int)(s7:Int):Option ((Int)⊕(Unit⊕Unit)):=
 AE (decide (s7<(w4.length:Int))) (
  AS w4 s7 fun x10=>
  AE (!decide (x10=(AA .add .i64 (AA .sub .i64 (w1.symbols.length:Int) (w4.length:Int)) s7))) (
   some (.inr (.inr ()))) (
   some (.inl (AA .add .i64 s7 1)))) (
  some (.inr (.inl ())))
def aXc(w1:AD)(w4:List Int)(s7:Int):Option (Unit⊕Unit):=AR (fun s:Int=>IU w1 w4 s) s7
def IW(s8:Int)(w1:AD)(s9:Int):Option ((Int)⊕(Unit⊕Unit)):=
 AE (decide (s9<s8)) (
  AS w1.symbols s8 fun x16=>
  AS w1.symbols s9 fun x17=>
  AH (Zx x16 x17) fun r18=>
  AE (r18) (
   some (.inr (.inr ()))) (
   some (.inl (AA .add .i64 s9 1)))) (
  some (.inr (.inl ())))
def aSc(s8:Int)(w1:AD)(s9:Int):Option (Unit⊕Unit):=AR (fun s:Int=>IW s8 w1 s) s9
def IV(w1:AD)(s8:Int):Option ((Int)⊕(Unit⊕Unit)):=
 AE (decide (s8<(w1.symbols.length:Int))) (
  AS w1.symbols s8 fun x14=>
  AH (Zi w1 x14) fun r15=>
  AE (!r15) (
   some (.inr (.inr ()))) (
   AH (aSc s8 w1 0) fun o19=>
   Ba o19 (fun o20=>
    some (.inl (AA .add .i64 s8 1))) (fun o21=>
    some (.inr (.inr ()))))) (
  some (.inr (.inl ())))
def aXd(w1:AD)(s8:Int):Option (Unit⊕Unit):=AR (fun s:Int=>IV w1 s) s8
def FX(s10:Int)(w1:AD)(s11:Bool)(s12:Int):Option ((Bool×Int)⊕(Bool)):=
 AE (decide (s12<(w1.symbols.length:Int))) (
  AE (s11) (
   some (.inl (true,(AA .add .i64 s12 1)))) (
   AS w1.symbols s12 fun x25=>
   AH (Z7 x25 s10) fun r26=>
   some (.inl (r26,(AA .add .i64 s12 1))))) (
  some (.inr s11))
def Ux(s10:Int)(w1:AD)(s11:Bool)(s12:Int):Option (Bool):=AR (fun s:Bool×Int=>FX s10 w1 s.1 s.2) (s11,s12)
def IX(w1:AD)(s10:Int):Option ((Int)⊕(Unit⊕Unit)):=
 AE (decide (s10<(w1.quants.length:Int))) (
  AH (Ux s10 w1 false 0) fun o27=>
  AE (!o27) (
   some (.inr (.inr ()))) (
   some (.inl (AA .add .i64 s10 1)))) (
  some (.inr (.inl ())))
def aXe(w1:AD)(s10:Int):Option (Unit⊕Unit):=AR (fun s:Int=>IX w1 s) s10
def Xb(a0:AD):Option (Bool):=
 AU (0<=(a0.symbols.length:Int)/\fit 0 (a0.symbols.length:Int).toNat 1) (
  AH (aXb a0 0 (List.replicate (a0.symbols.length:Int).toNat false) ([]:List Int)) fun o9=>
  AH (aXc a0 o9 0) fun o11=>
  Ba o11 (fun o12=>
   AH (aXd a0 0) fun o22=>
   Ba o22 (fun o23=>
    AH (aXe a0 0) fun o28=>
    Ba o28 (fun o29=>
     some true) (fun o30=>
     some false)) (fun o24=>
    some false)) (fun o13=>
   some false))
def JH(w1:AD)(s5 s6:Int):Option ((Int×Int)⊕(Int⊕Unit)):=
 AE (decide (s6<(w1.trans.length:Int))) (
  AS w1.trans s6 fun x3=>
  AH (Xn w1 x3 s5) fun r4=>
  AE (!r4.2) (
   some (.inr (.inr ()))) (
   some (.inl (r4.1,(AA .add .i64 s6 1))))) (
  some (.inr (.inl s5)))
def aX0(w1:AD)(s5 s6:Int):Option (Int⊕Unit):=AR (fun s:Int×Int=>JH w1 s.1 s.2) (s5,s6)
def Yx(a0:AD):Option (Bool):=
 AH (Y5 a0.decls) fun r1=>
 AE (!decide (r1.1=0)) (
  some false) (
  AE (decide (8<(a0.quants.length:Int))) (
   some false) (
   AE (decide (16<(a0.frees.length:Int))) (
    some false) (
    AE (decide (32<(a0.states.length:Int))) (
     some false) (
     AE (decide (64<(a0.symbols.length:Int))) (
      some false) (
      AE (decide (2048<(a0.nodes.length:Int))) (
       some false) (
       AE (decide (256<(a0.trans.length:Int))) (
        some false) (
        AE (decide (a0.start<0)) (
         some false) (
         AE (decide ((a0.states.length:Int)<=a0.start)) (
          some false) (
          AH (Xk a0) fun r2=>
          AE (!r2) (
           some false) (
           AH (aX0 a0 0 0) fun o5=>
           Ba o5 (fun o6=>
            AE (decide (o6=(a0.nodes.length:Int))) (
             AH (Xb a0) fun r8=>
             some r8) (
             some false)) (fun o7=>
            some false)))))))))))
def JW(w1:AD)(s3:Int):Option ((Int)⊕(Unit⊕Unit)):=
 AE (decide (s3<(w1.decls.length:Int))) (
  AS w1.decls s3 fun x3=>
  AE (decide (3<(x3.types.length:Int))) (
   some (.inr (.inr ()))) (
   some (.inl (AA .add .i64 s3 1)))) (
  some (.inr (.inl ())))
def aT5(w1:AD)(s3:Int):Option (Unit⊕Unit):=AR (fun s:Int=>JW w1 s) s3
def Zo(a0:AD):Option (Bool):=
 AH (Xe a0) fun r1=>
 AE (decide (r1=0)) (
  some false) (
  AH (Yx a0) fun r2=>
  AE (!r2) (
   some false) (
   AH (aT5 a0 0) fun o4=>
   Ba o4 (fun o5=>
    some true) (fun o6=>
    some false)))
def JX(s0:List Int)(s1 s7 s8:Int):Option ((Int)⊕(Unit⊕Int)):=
 AE (decide (s8<s7)) (
  AS s0 s8 fun x1=>
  AE (decide (s1=x1)) (
   some (.inr (.inr s8))) (
   some (.inl (AA .add .i64 s8 1)))) (
  some (.inr (.inl ())))
def aT6(s0:List Int)(s1 s7 s8:Int):Option (Unit⊕Int):=AR (fun s:Int=>JX s0 s1 s7 s) s8
def Zp(a0:List Int)(a1:Int):Option (Int):=
 AH (aT6 a0 a1 (a0.length:Int) 0) fun o2=>
 Ba o2 (fun o3=>
  some (-1)) (fun o4=>
  some o4)
def U7(a0:List Int)(a1:Int):Option (Bool):=
 AH (Zp a0 a1) fun r1=>
 some (decide (0<=r1))
def W7(s6:Int)(s18:List X6)(s19 s20:Int)(s37:Bool)(w2:AD)(w5:List Int)(w8:X6):Option ((List Int)):=
 AE (s37) (
  AU (fit w5.length [w8.to].length 8) (
   some (w5++[w8.to]))) (
  some w5)
def aKb(s6:Int)(s18:List X6)(s19 s20:Int)(w2:AD)(w5:List Int):Option ((List Int)):=
 AS s18 s20 fun x1=>
 AS w5 s6 fun x2=>
 AE (decide (x1.from_=x2)) (
  AH (U7 w5 x1.to) fun r3=>
  AH (W7 s6 s18 s19 s20 (!r3) w2 w5 x1) fun o4=>
  some o4) (
  AH (W7 s6 s18 s19 s20 false w2 w5 x1) fun o5=>
  some o5)
def Ix(s6:Int)(s18:List X6)(s19:Int)(w2:AD)(s20:Int)(w5:List Int):Option ((Int×List Int)⊕((List Int))):=
 AE (decide (s20<s19)) (
  AH (aKb s6 s18 s19 s20 w2 w5) fun o6=>
  some (.inl ((AA .add .i64 s20 1),o6))) (
  some (.inr w5))
def aS3(s6:Int)(s18:List X6)(s19:Int)(w2:AD)(s20:Int)(w5:List Int):Option ((List Int)):=AR (fun s:Int×List Int=>Ix s6 s18 s19 w2 s.1 s.2) (s20,w5)
def Iw(w2:AD)(s6:Int)(w5:List Int):Option ((Int×List Int)⊕((List Int))):=
 AE (decide (s6<(w5.length:Int))) (
  AH (aS3 s6 w2.trans (w2.trans.length:Int) w2 0 w5) fun o7=>
  some (.inl ((AA .add .i64 s6 1),o7))) (
  some (.inr w5))
def aS2(w2:AD)(s6:Int)(w5:List Int):Option ((List Int)):=AR (fun s:Int×List Int=>Iw w2 s.1 s.2) (s6,w5)
def Xz(a0:AD)(a1:Int):Option (List Int):=
 AH (aS2 a0 0 [a1]) fun o8=>
 some o8
def U8(a0:Int)(a1:AD):Option (Bool):=
 AS a1.states a0 fun x1=>
 AE (!x1.accept) (
  some true) (
  AS a1.states a0 fun x2=>
  some x2.next)
def Jf(s0:List Int)(s1:AD)(s7 s8:Int):Option ((Int)⊕(Unit⊕Int)):=
 AE (decide (s8<s7)) (
  AS s0 s8 fun x1=>
  AH (U8 x1 s1) fun r2=>
  AE (r2) (
   some (.inr (.inr s8))) (
   some (.inl (AA .add .i64 s8 1)))) (
  some (.inr (.inl ())))
def aUc(s0:List Int)(s1:AD)(s7 s8:Int):Option (Unit⊕Int):=AR (fun s:Int=>Jf s0 s1 s7 s) s8
def Zy(a0:List Int)(a1:AD):Option (Int):=
 AH (aUc a0 a1 (a0.length:Int) 0) fun o3=>
 Ba o3 (fun o4=>
  some (-1)) (fun o5=>
  some o5)
def U9(a0:List Int)(a1:AD):Option (Bool):=
 AH (Zy a0 a1) fun r1=>
 some (decide (0<=r1))
def Ua(a0:Int)(a1:AD):Option (Bool):=
 AS a1.states a0 fun x1=>
 some x1.accept
def Jg(s0:List Int)(s1:AD)(s7 s8:Int):Option ((Int)⊕(Unit⊕Int)):=
 AE (decide (s8<s7)) (
  AS s0 s8 fun x1=>
  AH (Ua x1 s1) fun r2=>
  AE (r2) (
   some (.inr (.inr s8))) (
   some (.inl (AA .add .i64 s8 1)))) (
  some (.inr (.inl ())))
def aUd(s0:List Int)(s1:AD)(s7 s8:Int):Option (Unit⊕Int):=AR (fun s:Int=>Jg s0 s1 s7 s) s8
def Zz(a0:List Int)(a1:AD):Option (Int):=
 AH (aUd a0 a1 (a0.length:Int) 0) fun o3=>
 Ba o3 (fun o4=>
  some (-1)) (fun o5=>
  some o5)
def Ub(a0:List Int)(a1:AD):Option (Bool):=
 AH (Zz a0 a1) fun r1=>
 some (decide (0<=r1))
def Q8(a0:AD)(a1:Int):Option (Int):=
 AE (decide (a1<0)) (
  some 0) (
  AE (decide ((a0.states.length:Int)<=a1)) (
   some 0) (
   AH (Xz a0 a1) fun r1=>
   AH (U9 r1 a0) fun r2=>
   AE (!r2) (
    some 1) (
    AH (Ub r1 a0) fun r3=>
    AE (!r3) (
     some 2) (
     some 0))))
def aJ1(s5:Int)(s8:List X3)(s9 s10:Int)(s20:Bool)(w2:AD):Option (Int):=
 AE (s20) (
  some 0) (
  some s5)
def Wy(s5:Int)(s8:List X3)(s9 s10 s17:Int)(s18:Bool)(w2:AD):Option (Int⊕Unit):=
 AE (s18) (
  some (.inr ())) (
  AH (aJ1 s5 s8 s9 s10 (decide (s17=0)) w2) fun o3=>
  some (.inl o3))
def Wx(s5:Int)(s8:List X3)(s9 s10 s17:Int)(w2:AD):Option (Int⊕Unit):=
 AH (Wy s5 s8 s9 s10 s17 (decide (s17=1)) w2) fun o4=>
 Ba o4 (fun o5=>
  some (.inl o5)) (fun o6=>
  some (.inr ()))
def Ww(s5:Int)(s8:List X3)(s9 s10:Int)(w2:AD):Option (Int⊕Unit):=
 AS s8 s10 fun x1=>
 AH (Q8 w2 x1.state) fun r2=>
 AH (Wx s5 s8 s9 s10 r2 w2) fun o7=>
 Ba o7 (fun o8=>
  some (.inl o8)) (fun o9=>
  some (.inr ()))
def HF(s8:List X3)(s9:Int)(w2:AD)(s5 s10:Int):Option ((Int×Int)⊕(Int⊕Unit)):=
 AE (decide (s10<s9)) (
  AH (Ww s5 s8 s9 s10 w2) fun o10=>
  Ba o10 (fun o11=>
   some (.inl (o11,(AA .add .i64 s10 1)))) (fun o12=>
   some (.inr (.inr ())))) (
  some (.inr (.inl s5)))
def aSy(s8:List X3)(s9:Int)(w2:AD)(s5 s10:Int):Option (Int⊕Unit):=AR (fun s:Int×Int=>HF s8 s9 w2 s.1 s.2) (s5,s10)
def Xv(a0:AD)(a1:List X3):Option (Int):=
 AH (aSy a1 (a1.length:Int) a0 2 0) fun o13=>
 Ba o13 (fun o14=>
  some o14) (fun o15=>
  some 1)
def aMs(s1 s5 s6:Int)(s9:List X5)(s10 s11:Int)(s19:Bool):Option (Int):=
 AE (s19) (
  AU (0<=(IntKind.wrap .u64 s6)) (
   some (AA .or .u64 s5 (AA .shl .u64 1 (IntKind.wrap .u64 s6))))) (
  some s5)
def aMq(s1 s5:Int)(s9:List X5)(s10 s11:Int):Option (Int):=
 AS s9 s11 fun x1=>
 AH (aMs s1 s5 s11 s9 s10 s11 (decide (x1.event=s1))) fun o2=>
 some o2
def JE(s1:Int)(s9:List X5)(s10 s5 s11:Int):Option ((Int×Int)⊕(Int)):=
 AE (decide (s11<s10)) (
  AH (aMq s1 s5 s9 s10 s11) fun o3=>
  some (.inl (o3,(AA .add .i64 s11 1)))) (
  some (.inr s5))
def aTk(s1:Int)(s9:List X5)(s10 s5 s11:Int):Option (Int):=AR (fun s:Int×Int=>JE s1 s9 s10 s.1 s.2) (s5,s11)
def Yr(a0:AD)(a1:Int):Option (Int):=
 AH (aTk a1 a0.symbols (a0.symbols.length:Int) 0 0) fun o4=>
 some o4
def Uk:Option (Unit):=
 some ()
def U2(a0:Bool):Option (X0):=
 some (X0.mk 3 0 ([]:List UInt8) a0)
def Ql(a0 a1:X0):Option (Bool):=
 AE (!decide (a0.kind=a1.kind)) (
  some (decide (a0.kind<a1.kind))) (
  AE (decide (a0.kind=1)) (
   some (decide (a0.int<a1.int))) (
   AE (decide (a0.kind=2)) (
    some (Op.bytesLess a0.str a1.str)) (
    AE (!a0.bool) (
     some a1.bool) (
     some false))))
def Qo(a0 a1:X0)(a2:List X0):Option (Int):=
 AH (Ql a0 a1) fun r1=>
 AE (r1) (
  some (-1)) (
  AH (Ql a1 a0) fun r2=>
  AE (r2) (
   some 1) (
   some 0))
def YM(s0 s2:List X0)(s8 s9:Int)(s10 s11:Int)(s31:Bool)(w4:X0):Option ((Int×Int)):=
 AE (s31) (
  some ((AA .add .i64 s11 1),s10)) (
  some (s9,s11))
def aLl(s0 s2:List X0)(s8 s9 s10:Int)(w4:X0):Option ((Int×Int)):=
 AS s0 (IntKind.wrap .i64 (AA .shr .u64 (IntKind.wrap .u64 (AA .add .i64 s9 s10)) 1)) fun x1=>
 AH (Qo x1 w4 s2) fun r2=>
 AH (YM s0 s2 s8 s9 s10 (IntKind.wrap .i64 (AA .shr .u64 (IntKind.wrap .u64 (AA .add .i64 s9 s10)) 1)) (decide (r2<0)) w4) fun o3=>
 some (o3.1,o3.2)
def HK(s0 s2:List X0)(s8:Int)(w4:X0)(s9 s10:Int):Option ((Int×Int)⊕(Int)):=
 AE (decide (s9<s10)) (
  AH (aLl s0 s2 s8 s9 s10 w4) fun o4=>
  some (.inl (o4.1,o4.2))) (
  some (.inr s9))
def aLo(s0 s2:List X0)(s8:Int)(w4:X0)(s9 s10:Int):Option (Int):=AR (fun s:Int×Int=>HK s0 s2 s8 w4 s.1 s.2) (s9,s10)
def Yb(a0:List X0)(a1:X0)(a2:List X0):Option (Int×Bool):=
 AH (aLo a0 a2 (a0.length:Int) a1 0 (a0.length:Int)) fun o5=>
 AE (decide (o5<(a0.length:Int))) (
  AS a0 o5 fun x6=>
  AH (Qo x6 a1 a2) fun r7=>
  some (o5,decide (r7=0))) (
  some (o5,false))
def Ut(i:Int)(ys:List X0):Option (List X0):=aZi 40 i ys
def aGb(s5:Int)(s6 s20:Bool)(w3:X0):Option ((List X0)):=
 AE (s20) (
  AH (Ut s5 [w3]) fun r2=>
  some r2) (
  some ([]:List X0))
def Qe(a1:X0):Option (Bool×List X0):=
 AH (Yb ([]:List X0) a1 ([]:List X0)) fun r1=>
 AH (aGb r1.1 r1.2 (!r1.2) a1) fun o3=>
 some (!r1.2,o3)
def Ul(i:Int)(xs ys:List X0):Option (List X0):=aZh 40 i xs ys
def aF7(s5:Int)(s6 s20:Bool)(w3:X0)(w501:List X0):Option ((List X0)):=
 AE (s20) (
  AH (Ul s5 w501 [w3]) fun r2=>
  some r2) (
  some w501)
def Q9(a1:X0)(w1:List X0):Option (Bool×List X0):=
 AH (Yb w1 a1 w1) fun r1=>
 AH (aF7 r1.1 r1.2 (!r1.2) a1 w1) fun o3=>
 some (!r1.2,o3)
def Uu(l:List X0):Option (List X0):=RF 40 l
def U3(w1:List X0):Option (List X0×List X0):=
 AH (Uu w1) fun r1=>
 some (r1,w1)
def WQ(s1:Int)(s12:Bool)(w2:AD):Option ((List X0)):=
 AE (s12) (
  AH (U2 false) fun r2=>
  AH (Qe r2) fun r3=>
  AH (U2 true) fun r4=>
  AH (Q9 r4 r3.2) fun r5=>
  some r5.2) (
  some ([]:List X0))
def WR(s1:Int)(s20:List X5)(s21 s22:Int)(s27:List CN)(s28 s29:Int)(s42:Bool)(w9:CN)(w518:List X0):Option ((List X0)):=
 AE (s42) (
  AH (Q9 w9.value w518) fun r9=>
  some r9.2) (
  some w518)
def aI4(s1:Int)(s20:List X5)(s21 s22:Int)(s27:List CN)(s28 s29:Int)(w518:List X0):Option ((List X0)):=
 AS s27 s29 fun x8=>
 AE (decide (x8.kind=1)) (
  AH (WR s1 s20 s21 s22 s27 s28 s29 (decide (x8.value.kind=s1)) x8 w518) fun o10=>
  some o10) (
  AH (WR s1 s20 s21 s22 s27 s28 s29 false x8 w518) fun o11=>
  some o11)
def Iq(s1:Int)(s20:List X5)(s21 s22:Int)(s27:List CN)(s28 s29:Int)(w518:List X0):Option ((Int×List X0)⊕((List X0))):=
 AE (decide (s29<s28)) (
  AH (aI4 s1 s20 s21 s22 s27 s28 s29 w518) fun o12=>
  some (.inl ((AA .add .i64 s29 1),o12))) (
  some (.inr w518))
def aI7(s1:Int)(s20:List X5)(s21 s22:Int)(s27:List CN)(s28 s29:Int)(w518:List X0):Option ((List X0)):=AR (fun s:Int×List X0=>Iq s1 s20 s21 s22 s27 s28 s.1 s.2) (s29,w518)
def Ip(s1:Int)(s20:List X5)(s21 s22:Int)(w518:List X0):Option ((Int×List X0)⊕((List X0))):=
 AE (decide (s22<s21)) (
  AS s20 s22 fun x7=>
  AH (aI7 s1 s20 s21 s22 x7.args (x7.args.length:Int) 0 w518) fun o13=>
  some (.inl ((AA .add .i64 s22 1),o13))) (
  some (.inr w518))
def aSq(s1:Int)(s20:List X5)(s21 s22:Int)(w518:List X0):Option ((List X0)):=AR (fun s:Int×List X0=>Ip s1 s20 s21 s.1 s.2) (s22,w518)
def Xo(a0:AD)(a1:Int):Option (List X0):=
 AH (Uk) fun r1=>
 AH (WQ a1 (decide (a1=3)) a0) fun o6=>
 AH (aSq a1 a0.symbols (a0.symbols.length:Int) 0 o6) fun o14=>
 AH (U3 o14) fun r15=>
 some r15.1
def JY(s0:List X0)(s7:Int)(w3:X0)(s8:Int):Option ((Int)⊕(Unit⊕Int)):=
 AE (decide (s8<s7)) (
  AS s0 s8 fun x1=>
  AE ((X0.eqb w3 x1)) (
   some (.inr (.inr s8))) (
   some (.inl (AA .add .i64 s8 1)))) (
  some (.inr (.inl ())))
def aN5(s0:List X0)(s7:Int)(w3:X0)(s8:Int):Option (Unit⊕Int):=AR (fun s:Int=>JY s0 s7 w3 s) s8
def Zq(a0:List X0)(a1:X0):Option (Int):=
 AH (aN5 a0 (a0.length:Int) a1 0) fun o2=>
 Ba o2 (fun o3=>
  some (-1)) (fun o4=>
  some o4)
def Qp(a0:List X0)(a1:X0):Option (Bool):=
 AH (Zq a0 a1) fun r1=>
 some (decide (0<=r1))
def Um(n:Int):Option (List X0):=aO4 40 n
def V8(s0:List (List X0))(s3:Int)(s9:List (List X0))(s10 s11:Int)(s20:Bool):Option (Unit):=
 AE (s20) (
  none) (
  some ())
def V7(s0:List (List X0))(s3:Int)(s9:List (List X0))(s10 s11:Int):Option (Int):=
 AS s9 s11 fun x1=>
 AH (V8 s0 (AA .add .i64 s3 (x1.length:Int)) s9 s10 s11 (decide ((AA .add .i64 s3 (x1.length:Int))<0))) fun o2=>
 some (AA .add .i64 s3 (x1.length:Int))
def G8(s0 s9:List (List X0))(s10 s3 s11:Int):Option ((Int×Int)⊕(Int)):=
 AE (decide (s11<s10)) (
  AH (V7 s0 s3 s9 s10 s11) fun o3=>
  some (.inl (o3,(AA .add .i64 s11 1)))) (
  some (.inr s3))
def V9(s0 s9:List (List X0))(s10 s3 s11:Int):Option (Int):=AR (fun s:Int×Int=>G8 s0 s9 s10 s.1 s.2) (s3,s11)
theorem La(s0 s9:List (List X0))(s10 s3 s11:Int):V9 s0 s9 s10 s3 s11=B1 (G8 s0 s9 s10 s3 s11) (fun s:Int×Int=>V9 s0 s9 s10 s.1 s.2):=An _ _
def G9(s25:List (List X0))(s26 s27:Int)(w6:List X0):Option ((Int×List X0)⊕((List X0))):=
 AE (decide (s27<s26)) (
  AS s25 s27 fun x6=>
  AU (fit w6.length x6.length 40) (
   some (.inl ((AA .add .i64 s27 1),w6++x6)))) (
  some (.inr w6))
def WC(s25:List (List X0))(s26 s27:Int)(w6:List X0):Option ((List X0)):=AR (fun s:Int×List X0=>G9 s25 s26 s.1 s.2) (s27,w6)
theorem Lb(s25:List (List X0))(s26 s27:Int)(w6:List X0):WC s25 s26 s27 w6=B1 (G9 s25 s26 s27 w6) (fun s:Int×List X0=>WC s25 s26 s.1 s.2):=An _ _
def Xl(a0:List (List X0)):Option (List X0):=
 AH (V9 a0 a0 (a0.length:Int) 0 0) fun o4=>
 AH (Um o4) fun r5=>
 AH (WC a0 (a0.length:Int) 0 r5) fun o7=>
 some o7
def aLc(s0:Int)(s1:List X0)(s20:Bool)(w4 w6:X0):Option (X0):=
 AE (s20) (
  some (X0.mk w6.kind (AA .add .i64 w6.int 1) w6.str w6.bool)) (
  AU (w6.str.length+([97]:List UInt8).length<=9223372036854775807) (
   some (X0.mk w6.kind w6.int (w6.str++([97]:List UInt8)) w6.bool)))
def YG(s0:Int)(s1:List X0)(w4 w6:X0):Option (X0):=
 AH (aLc s0 s1 (decide (s0=1)) w4 w6) fun o2=>
 some o2
def I5(s0:Int)(s1:List X0)(w4 w6:X0):Option ((X0)⊕(X0)):=
 AH (Qp s1 w6) fun r1=>
 AE (r1) (
  AH (YG s0 s1 w4 w6) fun o3=>
  some (.inl o3)) (
  some (.inr w6))
def SQ(s0:Int)(s1:List X0)(w4 w6:X0):Option (X0):=AR (fun s:X0=>I5 s0 s1 w4 s) w6
theorem QG(s0:Int)(s1:List X0)(w4 w6:X0):SQ s0 s1 w4 w6=B1 (I5 s0 s1 w4 w6) (fun s:X0=>SQ s0 s1 w4 s):=An _ _
def Y8(a0:Int)(a1:List X0):Option (X0×Bool):=
 AE (!decide (a0=1)) (
  AE (!decide (a0=2)) (
   some (X0.mk 0 0 ([]:List UInt8) false,false)) (
   AH (SQ a0 a1 (X0.mk 0 0 ([]:List UInt8) false) (X0.mk a0 0 ([]:List UInt8) false)) fun o4=>
   some (o4,true))) (
  AH (SQ a0 a1 (X0.mk 0 0 ([]:List UInt8) false) (X0.mk a0 0 ([]:List UInt8) false)) fun o5=>
  some (o5,true))
def YD(s1:List X0)(s5:Int)(s28:List X2)(s29 s30:Int)(s45:Bool)(w6:List X0)(w8:X2):Option ((List X0)):=
 AE (s45) (
  AU (fit w6.length [w8.value].length 40) (
   some (w6++[w8.value]))) (
  some w6)
def aK6(s1:List X0)(s5:Int)(s28:List X2)(s29 s30:Int)(w6:List X0):Option ((List X0)):=
 AS s28 s30 fun x4=>
 AE (decide (x4.value.kind=s5)) (
  AH (Qp w6 x4.value) fun r5=>
  AH (YD s1 s5 s28 s29 s30 (!r5) w6 x4) fun o6=>
  some o6) (
  AH (YD s1 s5 s28 s29 s30 false w6 x4) fun o7=>
  some o7)
def I4(s1:List X0)(s5:Int)(s28:List X2)(s29 s30:Int)(w6:List X0):Option ((Int×List X0)⊕((List X0))):=
 AE (decide (s30<s29)) (
  AH (aK6 s1 s5 s28 s29 s30 w6) fun o8=>
  some (.inl ((AA .add .i64 s30 1),o8))) (
  some (.inr w6))
def aK9(s1:List X0)(s5:Int)(s28:List X2)(s29 s30:Int)(w6:List X0):Option ((List X0)):=AR (fun s:Int×List X0=>I4 s1 s5 s28 s29 s.1 s.2) (s30,w6)
def SP(s61:Bool)(w6:List X0)(w9:X0):Option ((List X0)):=
 AE (s61) (
  AU (fit w6.length [w9].length 40) (
   some (w6++[w9]))) (
  some w6)
def Y7(a0:Xx)(a1:List X0):Option (List X0):=
 AS a0.q.decls a0.d_ fun x1=>
 AS x1.types a0.at_ fun x2=>
 AH (Xo a0.q x2) fun r3=>
 AH (aK9 a1 x2 a0.b (a0.b.length:Int) 0 r3) fun o9=>
 AH (Xl [o9,a1]) fun r10=>
 AH (Y8 x2 r10) fun r11=>
 AH (SP r11.2 o9 r11.1) fun o12=>
 some o12
def JZ(s1:Int)(s8:List X2)(s9:Int)(w4:X0)(s10:Int):Option ((Int)⊕(Unit⊕X0)):=
 AE (decide (s10<s9)) (
  AS s8 s10 fun x1=>
  AE (decide (x1.var=s1)) (
   some (.inr (.inr x1.value))) (
   some (.inl (AA .add .i64 s10 1)))) (
  some (.inr (.inl ())))
def aT7(s1:Int)(s8:List X2)(s9:Int)(w4:X0)(s10:Int):Option (Unit⊕X0):=AR (fun s:Int=>JZ s1 s8 s9 w4 s) s10
def Zr(a0:List X2)(a1:Int):Option (X0×Bool):=
 AH (aT7 a1 a0 (a0.length:Int) (X0.mk 0 0 ([]:List UInt8) false) 0) fun o2=>
 Ba o2 (fun o3=>
  some (X0.mk 0 0 ([]:List UInt8) false,false)) (fun o4=>
  some (o4,true))
def Uc(a0:Xx)(a1:CN)(a2:X0):Option (Bool):=
 AE (decide (a1.kind=1)) (
  some (X0.eqb a1.value a2)) (
  AE (decide (a1.kind=2)) (
   AH (Zr a0.b a1.n) fun r1=>
   AE (r1.2) (
    some (X0.eqb r1.1 a2)) (
    some false)) (
   some true))
def ZF(s6 s7:Int)(s11:List X5)(s12 s13:Int)(s34:Bool)(w2:Xx)(w3:X0):Option (Int):=
 AE (s34) (
  AU (0<=(IntKind.wrap .u64 s7)) (
   some (AA .or .u64 s6 (AA .shl .u64 1 (IntKind.wrap .u64 s7))))) (
  some s6)
def aMe(s6:Int)(s11:List X5)(s12 s13:Int)(w2:Xx)(w3:X0):Option (Int):=
 AS s11 s13 fun x1=>
 AE (decide (x1.event=w2.d_)) (
  AS x1.args w2.at_ fun x2=>
  AH (Uc w2 x2 w3) fun r3=>
  AH (ZF s6 s13 s11 s12 s13 r3 w2 w3) fun o4=>
  some o4) (
  AH (ZF s6 s13 s11 s12 s13 false w2 w3) fun o5=>
  some o5)
def JB(s11:List X5)(s12:Int)(w2:Xx)(w3:X0)(s6 s13:Int):Option ((Int×Int)⊕(Int)):=
 AE (decide (s13<s12)) (
  AH (aMe s6 s11 s12 s13 w2 w3) fun o6=>
  some (.inl (o6,(AA .add .i64 s13 1)))) (
  some (.inr s6))
def aTg(s11:List X5)(s12:Int)(w2:Xx)(w3:X0)(s6 s13:Int):Option (Int):=AR (fun s:Int×Int=>JB s11 s12 w2 w3 s.1 s.2) (s6,s13)
def Yl(a0:Xx)(a1:X0):Option (Int):=
 AH (aTg a0.q.symbols (a0.q.symbols.length:Int) a0 a1 0 0) fun o7=>
 some o7
def HC(s8:Int)(s12:List X0)(s13 s14:Int)(w0:List (Int×Bool))(w3:Xx)(k:Int)(v:Bool)(w5:List (Int×Bool)):Option ((List (Int×Bool))):=
 some (Ge (AA .and .u64 k s8) true w5)
def Lc(s8:Int)(s12:List X0)(s13 s14:Int)(w0:List (Int×Bool))(w3:Xx)(s:(List (Int×Bool))):(List (Int×Bool)):=(fun s:(List (Int×Bool))=>(aPe s:(List (Int×Bool)))) s
def aSs(s8:Int)(s12:List X0)(s13 s14:Int)(w0:List (Int×Bool))(w3:Xx)(w5:List (Int×Bool)):Option ((List (Int×Bool))):=GR (Lc s8 s12 s13 s14 w0 w3) w0 (fun(x:Int×Bool) (s:(List (Int×Bool)))=>HC s8 s12 s13 s14 w0 w3 x.1 x.2 s) w5
def aI9(s8:Int)(s12:List X0)(s13 s14:Int)(w0:List (Int×Bool))(w3:Xx)(w5:List (Int×Bool)):Option ((List (Int×Bool))):=
 AH (aSs s8 s12 s13 s14 w0 w3 w5) fun o4=>
 some o4
def Ir(s12:List X0)(s13:Int)(w0:List (Int×Bool))(w3:Xx)(s14:Int)(w5:List (Int×Bool)):Option ((Int×(List (Int×Bool)))⊕((List (Int×Bool)))):=
 AE (decide (s14<s13)) (
  AS s12 s14 fun x2=>
  AH (Yl w3 x2) fun r3=>
  AH (aI9 r3 s12 s13 s14 w0 w3 w5) fun o5=>
  some (.inl ((AA .add .i64 s14 1),o5))) (
  some (.inr w5))
def aSr(s12:List X0)(s13:Int)(w0:List (Int×Bool))(w3:Xx)(s14:Int)(w5:List (Int×Bool)):Option ((List (Int×Bool))):=AR (fun s:Int×(List (Int×Bool))=>Ir s12 s13 w0 w3 s.1 s.2) (s14,w5)
def Xp(a1:Xx)(w0:List (Int×Bool)):Option ((List (Int×Bool))):=
 AH (Y7 a1 ([]:List X0)) fun r1=>
 AH (aSr r1 (r1.length:Int) w0 a1 0 ([]:List (Int×Bool))) fun o6=>
 some o6
def aAo(s0 s2:Int)(s4:Bool):Option ((Int×Int)):=
 AE (s4) (
  some ((AA .shr .u64 s0 32),32)) (
  some (s0,s2))
def aAp(s0 s2:Int)(s8:Bool):Option ((Int×Int)):=
 AE (s8) (
  some ((AA .shr .u64 s0 16),(AA .add .i64 s2 16))) (
  some (s0,s2))
def aAq(s0 s2:Int)(s14:Bool):Option ((Int×Int)):=
 AE (s14) (
  some ((AA .shr .u64 s0 8),(AA .add .i64 s2 8))) (
  some (s0,s2))
def Z1(a0:Int):Option (Int):=
 AH (aAo a0 0 (decide (4294967296<=a0))) fun o1=>
 AH (aAp o1.1 o1.2 (decide (65536<=o1.1))) fun o2=>
 AH (aAq o2.1 o2.2 (decide (256<=o2.1))) fun o3=>
 AS ([0,1,2,2,3,3,3,3,4,4,4,4,4,4,4,4,5,5,5,5,5,5,5,5,5,5,5,5,5,5,5,5,6,6,6,6,6,6,6,6,6,6,6,6,6,6,6,6,6,6,6,6,6,6,6,6,6,6,6,6,6,6,6,6,7,7,7,7,7,7,7,7,7,7,7,7,7,7,7,7,7,7,7,7,7,7,7,7,7,7,7,7,7,7,7,7,7,7,7,7,7,7,7,7,7,7,7,7,7,7,7,7,7,7,7,7,7,7,7,7,7,7,7,7,7,7,7,7,8,8,8,8,8,8,8,8,8,8,8,8,8,8,8,8,8,8,8,8,8,8,8,8,8,8,8,8,8,8,8,8,8,8,8,8,8,8,8,8,8,8,8,8,8,8,8,8,8,8,8,8,8,8,8,8,8,8,8,8,8,8,8,8,8,8,8,8,8,8,8,8,8,8,8,8,8,8,8,8,8,8,8,8,8,8,8,8,8,8,8,8,8,8,8,8,8,8,8,8,8,8,8,8,8,8,8,8,8,8,8,8,8,8,8,8,8,8,8,8,8,8,8,8,8,8,8,8]:List UInt8) ((u8w o3.1).toNat:Int) fun x4=>
 some (AA .add .i64 o3.2 (x4.toNat:Int))
def Qq(a0:Int):Option (Int):=
 AH (Z1 a0) fun r1=>
 some r1
def Qr(a0:Int):Option (Bool):=
 some (!decide (a0=a0))
def Yj(a0 a1:Int):Option (Bool):=
 AH (Qr a0) fun r1=>
 AE (r1) (
  AH (Qr a1) fun r2=>
  AE (!r2) (
   some true) (
   some (decide (a0<a1)))) (
  some (decide (a0<a1)))
def E9(s1 s2:Int)(s6 s7:Int)(w0:List Int):Option ((Int×List Int)⊕((List Int))):=
 AE (decide (s1<s7)) (
  AU (0<=s7/\s7+1<=(w0.length:Int)) (
   AS w0 s7 fun x1=>
   AU (0<=(AA .sub .i64 s7 1)/\(AA .sub .i64 s7 1)+1<=(w0.length:Int)) (
    AS w0 (AA .sub .i64 s7 1) fun x2=>
    AH (Yj x1 x2) fun r3=>
    AE (r3) (
     AU (0<=(AA .sub .i64 s7 1)/\(AA .sub .i64 s7 1)+1<=(w0.length:Int)) (
      AS w0 (AA .sub .i64 s7 1) fun x4=>
      AU (0<=s7/\s7+1<=(w0.length:Int)) (
       AS w0 s7 fun x5=>
       AU (0<=s7/\s7+1<=(w0.length:Int)) (
        AU (0<=s7/\s7+1<=(w0.length:Int)) (
         AU (0<=(AA .sub .i64 s7 1)/\(AA .sub .i64 s7 1)+1<=((w0.set s7.toNat x4).length:Int)) (
          AU (0<=(AA .sub .i64 s7 1)/\(AA .sub .i64 s7 1)+1<=((w0.set s7.toNat x4).length:Int)) (
           some (.inl ((AA .sub .i64 s7 1),(w0.set s7.toNat x4).set (AA .sub .i64 s7 1).toNat x5))))))))) (
     some (.inr w0))))) (
  some (.inr w0))
def SM(s1 s2:Int)(s6 s7:Int)(w0:List Int):Option ((List Int)):=AR (fun s:Int×List Int=>E9 s1 s2 s6 s.1 s.2) (s7,w0)
theorem QC(s1 s2:Int)(s6 s7:Int)(w0:List Int):SM s1 s2 s6 s7 w0=B1 (E9 s1 s2 s6 s7 w0) (fun s:Int×List Int=>SM s1 s2 s6 s.1 s.2):=An _ _
def HH(s1 s2 s6:Int)(w0:List Int):Option ((Int×List Int)⊕((List Int))):=
 AE (decide (s6<s2)) (
  AH (SM s1 s2 s6 s6 w0) fun o6=>
  some (.inl ((AA .add .i64 s6 1),o6))) (
  some (.inr w0))
def SK(s1 s2 s6:Int)(w0:List Int):Option ((List Int)):=AR (fun s:Int×List Int=>HH s1 s2 s.1 s.2) (s6,w0)
theorem QB(s1 s2 s6:Int)(w0:List Int):SK s1 s2 s6 w0=B1 (HH s1 s2 s6 w0) (fun s:Int×List Int=>SK s1 s2 s.1 s.2):=An _ _
def Y0(a1 a2:Int)(w0:List Int):Option (List Int):=
 AH (SK a1 a2 (AA .add .i64 a1 1) w0) fun o7=>
 some o7
def Ld(s2 s3:Int)(s8 s9:Int)(s36:Bool)(w0:List Int):Option (Int):=
 AE (s36) (
  some (AA .add .i64 s9 1)) (
  some s9)
def KY(s2 s3 s8:Int)(w0:List Int):Option ((Int×List Int)⊕(Unit⊕Unit)):=
 AE (decide (s2<=(AA .add .i64 (AA .mul .i64 2 s8) 1))) (
  some (.inr (.inl ()))) (
  AE (decide ((AA .add .i64 (AA .add .i64 (AA .mul .i64 2 s8) 1) 1)<s2)) (
   AU (0<=(AA .add .i64 s3 (AA .add .i64 (AA .mul .i64 2 s8) 1))/\(AA .add .i64 s3 (AA .add .i64 (AA .mul .i64 2 s8) 1))+1<=(w0.length:Int)) (
    AS w0 (AA .add .i64 s3 (AA .add .i64 (AA .mul .i64 2 s8) 1)) fun x1=>
    AU (0<=(AA .add .i64 (AA .add .i64 s3 (AA .add .i64 (AA .mul .i64 2 s8) 1)) 1)/\(AA .add .i64 (AA .add .i64 s3 (AA .add .i64 (AA .mul .i64 2 s8) 1)) 1)+1<=(w0.length:Int)) (
     AS w0 (AA .add .i64 (AA .add .i64 s3 (AA .add .i64 (AA .mul .i64 2 s8) 1)) 1) fun x2=>
     AH (Yj x1 x2) fun r3=>
     AH (Ld s2 s3 s8 (AA .add .i64 (AA .mul .i64 2 s8) 1) r3 w0) fun o4=>
     AU (0<=(AA .add .i64 s3 s8)/\(AA .add .i64 s3 s8)+1<=(w0.length:Int)) (
      AS w0 (AA .add .i64 s3 s8) fun x5=>
      AU (0<=(AA .add .i64 s3 o4)/\(AA .add .i64 s3 o4)+1<=(w0.length:Int)) (
       AS w0 (AA .add .i64 s3 o4) fun x6=>
       AH (Yj x5 x6) fun r7=>
       AE (!r7) (
        some (.inr (.inr ()))) (
        AU (0<=(AA .add .i64 s3 o4)/\(AA .add .i64 s3 o4)+1<=(w0.length:Int)) (
         AS w0 (AA .add .i64 s3 o4) fun x8=>
         AU (0<=(AA .add .i64 s3 s8)/\(AA .add .i64 s3 s8)+1<=(w0.length:Int)) (
          AS w0 (AA .add .i64 s3 s8) fun x9=>
          AU (0<=(AA .add .i64 s3 s8)/\(AA .add .i64 s3 s8)+1<=(w0.length:Int)) (
           AU (0<=(AA .add .i64 s3 s8)/\(AA .add .i64 s3 s8)+1<=(w0.length:Int)) (
            AU (0<=(AA .add .i64 s3 o4)/\(AA .add .i64 s3 o4)+1<=((w0.set (AA .add .i64 s3 s8).toNat x8).length:Int)) (
             AU (0<=(AA .add .i64 s3 o4)/\(AA .add .i64 s3 o4)+1<=((w0.set (AA .add .i64 s3 s8).toNat x8).length:Int)) (
              some (.inl (o4,(w0.set (AA .add .i64 s3 s8).toNat x8).set (AA .add .i64 s3 o4).toNat x9)))))))))))))) (
   AH (Ld s2 s3 s8 (AA .add .i64 (AA .mul .i64 2 s8) 1) false w0) fun o10=>
   AU (0<=(AA .add .i64 s3 s8)/\(AA .add .i64 s3 s8)+1<=(w0.length:Int)) (
    AS w0 (AA .add .i64 s3 s8) fun x11=>
    AU (0<=(AA .add .i64 s3 o10)/\(AA .add .i64 s3 o10)+1<=(w0.length:Int)) (
     AS w0 (AA .add .i64 s3 o10) fun x12=>
     AH (Yj x11 x12) fun r13=>
     AE (!r13) (
      some (.inr (.inr ()))) (
      AU (0<=(AA .add .i64 s3 o10)/\(AA .add .i64 s3 o10)+1<=(w0.length:Int)) (
       AS w0 (AA .add .i64 s3 o10) fun x14=>
       AU (0<=(AA .add .i64 s3 s8)/\(AA .add .i64 s3 s8)+1<=(w0.length:Int)) (
        AS w0 (AA .add .i64 s3 s8) fun x15=>
        AU (0<=(AA .add .i64 s3 s8)/\(AA .add .i64 s3 s8)+1<=(w0.length:Int)) (
         AU (0<=(AA .add .i64 s3 s8)/\(AA .add .i64 s3 s8)+1<=(w0.length:Int)) (
          AU (0<=(AA .add .i64 s3 o10)/\(AA .add .i64 s3 o10)+1<=((w0.set (AA .add .i64 s3 s8).toNat x14).length:Int)) (
           AU (0<=(AA .add .i64 s3 o10)/\(AA .add .i64 s3 o10)+1<=((w0.set (AA .add .i64 s3 s8).toNat x14).length:Int)) (
            some (.inl (o10,(w0.set (AA .add .i64 s3 s8).toNat x14).set (AA .add .i64 s3 o10).toNat x15)))))))))))))
def Ea(s2 s3 s8:Int)(w0:List Int):Option ((Int×List Int)⊕((List Int)⊕(List Int))):=
 AH (KY s2 s3 s8 w0) fun o16=>
 Ba o16 (fun o17=>
  some (.inl (o17.1,o17.2))) (fun o18=>
  Ba o18 (fun o19=>
   some (.inr (.inl w0))) (fun o20=>
   some (.inr (.inr w0))))
def SF(s2 s3 s8:Int)(w0:List Int):Option ((List Int)⊕(List Int)):=AR (fun s:Int×List Int=>Ea s2 s3 s.1 s.2) (s8,w0)
theorem P2(s2 s3 s8:Int)(w0:List Int):SF s2 s3 s8 w0=B1 (Ea s2 s3 s8 w0) (fun s:Int×List Int=>SF s2 s3 s.1 s.2):=An _ _
def Xr(a1 a2 a3:Int)(w0:List Int):Option (List Int):=
 AH (SF a2 a3 a1 w0) fun o21=>
 Ba o21 (fun o22=>
  some o22) (fun o23=>
  some o23)
def HI(s6 s7:Int)(s8 s9:Int)(w0:List Int):Option ((Int×List Int)⊕((List Int))):=
 AE (decide (0<=s9)) (
  AH (Xr s9 s8 s6 w0) fun r1=>
  some (.inl ((AA .sub .i64 s9 1),r1))) (
  some (.inr w0))
def SN(s6 s7:Int)(s8 s9:Int)(w0:List Int):Option ((List Int)):=AR (fun s:Int×List Int=>HI s6 s7 s8 s.1 s.2) (s9,w0)
theorem QD(s6 s7:Int)(s8 s9:Int)(w0:List Int):SN s6 s7 s8 s9 w0=B1 (HI s6 s7 s8 s9 w0) (fun s:Int×List Int=>SN s6 s7 s8 s.1 s.2):=An _ _
def HJ(s6 s7 s10:Int)(w0:List Int):Option ((Int×List Int)⊕((List Int))):=
 AE (decide (0<=s10)) (
  AU (0<=(AA .add .i64 s6 s10)/\(AA .add .i64 s6 s10)+1<=(w0.length:Int)) (
   AS w0 (AA .add .i64 s6 s10) fun x3=>
   AU (0<=s6/\s6+1<=(w0.length:Int)) (
    AS w0 s6 fun x4=>
    AU (0<=s6/\s6+1<=(w0.length:Int)) (
     AU (0<=s6/\s6+1<=(w0.length:Int)) (
      AU (0<=(AA .add .i64 s6 s10)/\(AA .add .i64 s6 s10)+1<=((w0.set s6.toNat x3).length:Int)) (
       AU (0<=(AA .add .i64 s6 s10)/\(AA .add .i64 s6 s10)+1<=((w0.set s6.toNat x3).length:Int)) (
        AH (Xr s7 s10 s6 ((w0.set s6.toNat x3).set (AA .add .i64 s6 s10).toNat x4)) fun r5=>
        some (.inl ((AA .sub .i64 s10 1),r5))))))))) (
  some (.inr w0))
def SO(s6 s7 s10:Int)(w0:List Int):Option ((List Int)):=AR (fun s:Int×List Int=>HJ s6 s7 s.1 s.2) (s10,w0)
theorem QE(s6 s7 s10:Int)(w0:List Int):SO s6 s7 s10 w0=B1 (HJ s6 s7 s10 w0) (fun s:Int×List Int=>SO s6 s7 s.1 s.2):=An _ _
def Y2(a1 a2:Int)(w0:List Int):Option (List Int):=
 AH (SN a1 0 (AA .sub .i64 a2 a1) (AA .quo .i64 (AA .sub .i64 (AA .sub .i64 a2 a1) 1) 2) w0) fun o2=>
 AH (SO a1 0 (AA .sub .i64 (AA .sub .i64 a2 a1) 1) o2) fun o6=>
 some o6
def U4(a0:Int):Option (Int):=
 AH (Qq (IntKind.wrap .u64 a0)) fun r1=>
 AU (0<=r1) (
  some (AA .shl .u64 1 r1))
def U5(w0:Int):Option (Int×Int):=
 some ((AA .xor .u64 (AA .xor .u64 (AA .xor .u64 w0 (AA .shl .u64 w0 13)) (AA .shr .u64 (AA .xor .u64 w0 (AA .shl .u64 w0 13)) 7)) (AA .shl .u64 (AA .xor .u64 (AA .xor .u64 w0 (AA .shl .u64 w0 13)) (AA .shr .u64 (AA .xor .u64 w0 (AA .shl .u64 w0 13)) 7)) 17)),(AA .xor .u64 (AA .xor .u64 (AA .xor .u64 w0 (AA .shl .u64 w0 13)) (AA .shr .u64 (AA .xor .u64 w0 (AA .shl .u64 w0 13)) 7)) (AA .shl .u64 (AA .xor .u64 (AA .xor .u64 w0 (AA .shl .u64 w0 13)) (AA .shr .u64 (AA .xor .u64 w0 (AA .shl .u64 w0 13)) 7)) 17)))
def OY(s1 s6:Int)(s8 s9 s10:Int)(s43:Bool)(w0:List Int)(w7:Int):Option (Int):=
 AE (s43) (
  some (AA .sub .i64 s10 s6)) (
  some s10)
def SI(s1 s6:Int)(s8 s9:Int)(w0:List Int)(w7:Int):Option ((List Int×Int)):=
 AH (U5 w7) fun r2=>
 AH (OY s1 s6 s8 s9 (IntKind.wrap .i64 (AA .and .u64 r2.1 (AA .sub .u64 s8 1))) (decide (s6<=(IntKind.wrap .i64 (AA .and .u64 r2.1 (AA .sub .u64 s8 1))))) w0 r2.2) fun o3=>
 AU (0<=(AA .add .i64 s1 o3)/\(AA .add .i64 s1 o3)+1<=(w0.length:Int)) (
  AS w0 (AA .add .i64 s1 o3) fun x4=>
  AU (0<=s9/\s9+1<=(w0.length:Int)) (
   AS w0 s9 fun x5=>
   AU (0<=s9/\s9+1<=(w0.length:Int)) (
    AU (0<=s9/\s9+1<=(w0.length:Int)) (
     AU (0<=(AA .add .i64 s1 o3)/\(AA .add .i64 s1 o3)+1<=((w0.set s9.toNat x4).length:Int)) (
      AU (0<=(AA .add .i64 s1 o3)/\(AA .add .i64 s1 o3)+1<=((w0.set s9.toNat x4).length:Int)) (
       some ((w0.set s9.toNat x4).set (AA .add .i64 s1 o3).toNat x5,r2.2)))))))
def HG(s1 s6:Int)(s8 s9:Int)(w0:List Int)(w7:Int):Option ((Int×List Int×Int)⊕((List Int))):=
 AE (decide (s9<=(AA .add .i64 (AA .add .i64 s1 (AA .mul .i64 (AA .quo .i64 s6 4) 2)) 1))) (
  AH (SI s1 s6 s8 s9 w0 w7) fun o6=>
  some (.inl ((AA .add .i64 s9 1),o6.1,o6.2))) (
  some (.inr w0))
def SJ(s1 s6:Int)(s8 s9:Int)(w0:List Int)(w7:Int):Option ((List Int)):=AR (fun s:Int×List Int×Int=>HG s1 s6 s8 s.1 s.2.1 s.2.2) (s9,w0,w7)
theorem P9(s1 s6:Int)(s8 s9:Int)(w0:List Int)(w7:Int):SJ s1 s6 s8 s9 w0 w7=B1 (HG s1 s6 s8 s9 w0 w7) (fun s:Int×List Int×Int=>SJ s1 s6 s8 s.1 s.2.1 s.2.2):=An _ _
def SH(s1 s6:Int)(s15:Bool)(w0:List Int):Option ((List Int)):=
 AE (s15) (
  AH (U4 s6) fun r1=>
  AH (SJ s1 s6 r1 (AA .sub .i64 (AA .add .i64 s1 (AA .mul .i64 (AA .quo .i64 s6 4) 2)) 1) w0 (IntKind.wrap .u64 s6)) fun o7=>
  some o7) (
  some w0)
def Xy(a1 a2:Int)(w0:List Int):Option (List Int):=
 AH (SH a1 (AA .sub .i64 a2 a1) (decide (8<=(AA .sub .i64 a2 a1))) w0) fun o8=>
 some o8
def Qj(a0:List Int)(a1 a2 w0:Int):Option (Int×Int×Int):=
 AS a0 a2 fun x1=>
 AS a0 a1 fun x2=>
 AH (Yj x1 x2) fun r3=>
 AE (r3) (
  some (a2,a1,(AA .add .i64 w0 1))) (
  some (a1,a2,w0))
def Qm(a0:List Int)(a1 a2:Int)(a3 w0:Int):Option (Int×Int):=
 AH (Qj a0 a1 a2 w0) fun r1=>
 AH (Qj a0 r1.2.1 a3 r1.2.2) fun r2=>
 AH (Qj a0 r1.1 r2.1 r2.2.2) fun r3=>
 some (r3.2.1,r3.2.2)
def Qk(a0:List Int)(a1 w0:Int):Option (Int×Int):=
 AH (Qm a0 (AA .sub .i64 a1 1) a1 (AA .add .i64 a1 1) w0) fun r1=>
 some (r1.1,r1.2)
def OZ(s0:List Int)(s10 s11 s12:Int)(s34:Bool)(w9:Int):Option ((Int×Int×Int×Int)):=
 AE (s34) (
  AH (Qk s0 s10 w9) fun r1=>
  AH (Qk s0 s11 r1.2) fun r2=>
  AH (Qk s0 s12 r2.2) fun r3=>
  some (r1.1,r2.1,r3.1,r3.2)) (
  some (s10,s11,s12,w9))
def SX(s0:List Int)(s8 s10:Int)(s11 s12:Int)(s32:Bool)(w9:Int):Option ((Int×Int)):=
 AE (s32) (
  AH (OZ s0 s10 s11 s12 (decide (50<=s8)) w9) fun o4=>
  AH (Qm s0 o4.1 o4.2.1 o4.2.2.1 o4.2.2.2) fun r5=>
  some (r5.1,r5.2)) (
  some (s11,w9))
def Z8(a0:List Int)(a1 a2:Int):Option (Int×Int):=
 AH (SX a0 (AA .sub .i64 a2 a1) (AA .add .i64 a1 (AA .mul .i64 (AA .quo .i64 (AA .sub .i64 a2 a1) 4) 1)) (AA .add .i64 a1 (AA .mul .i64 (AA .quo .i64 (AA .sub .i64 a2 a1) 4) 2)) (AA .add .i64 a1 (AA .mul .i64 (AA .quo .i64 (AA .sub .i64 a2 a1) 4) 3)) (decide (8<=(AA .sub .i64 a2 a1))) 0) fun o6=>
 AE (decide (o6.2=0)) (
  some (o6.1,1)) (
  AE (decide (o6.2=12)) (
   some (o6.1,2)) (
   some (o6.1,0)))
def JI(s6 s7:Int)(w0:List Int):Option ((Int×Int×List Int)⊕((List Int))):=
 AE (decide (s6<s7)) (
  AU (0<=s7/\s7+1<=(w0.length:Int)) (
   AS w0 s7 fun x1=>
   AU (0<=s6/\s6+1<=(w0.length:Int)) (
    AS w0 s6 fun x2=>
    AU (0<=s6/\s6+1<=(w0.length:Int)) (
     AU (0<=s6/\s6+1<=(w0.length:Int)) (
      AU (0<=s7/\s7+1<=((w0.set s6.toNat x1).length:Int)) (
       AU (0<=s7/\s7+1<=((w0.set s6.toNat x1).length:Int)) (
        some (.inl ((AA .add .i64 s6 1),(AA .sub .i64 s7 1),(w0.set s6.toNat x1).set s7.toNat x2))))))))) (
  some (.inr w0))
def ST(s6 s7:Int)(w0:List Int):Option ((List Int)):=AR (fun s:Int×Int×List Int=>JI s.1 s.2.1 s.2.2) (s6,s7,w0)
theorem aM5(s6 s7:Int)(w0:List Int):ST s6 s7 w0=B1 (JI s6 s7 w0) (fun s:Int×Int×List Int=>ST s.1 s.2.1 s.2.2):=An _ _
def Yy(a1 a2:Int)(w0:List Int):Option (List Int):=
 AH (ST a1 (AA .sub .i64 a2 1) w0) fun o3=>
 some o3
def Gz(s1 s2 s8:Int)(w0:List Int)(s7:Int):Option ((Int)⊕(Int)):=
 AE (decide (s7<s2)) (
  AU (0<=s7/\s7+1<=(w0.length:Int)) (
   AS w0 s7 fun x1=>
   AU (0<=(AA .sub .i64 s7 1)/\(AA .sub .i64 s7 1)+1<=(w0.length:Int)) (
    AS w0 (AA .sub .i64 s7 1) fun x2=>
    AH (Yj x1 x2) fun r3=>
    AE (!r3) (
     some (.inl (AA .add .i64 s7 1))) (
     some (.inr s7))))) (
  some (.inr s7))
def R1(s1 s2 s8:Int)(w0:List Int)(s7:Int):Option (Int):=AR (fun s:Int=>Gz s1 s2 s8 w0 s) s7
theorem Pg(s1 s2 s8:Int)(w0:List Int)(s7:Int):R1 s1 s2 s8 w0 s7=B1 (Gz s1 s2 s8 w0 s7) (fun s:Int=>R1 s1 s2 s8 w0 s):=An _ _
def G0(s1 s2:Int)(s7 s8 s9:Int)(w0:List Int):Option ((Int×List Int)⊕((List Int))):=
 AE (decide (1<=s9)) (
  AU (0<=s9/\s9+1<=(w0.length:Int)) (
   AS w0 s9 fun x7=>
   AU (0<=(AA .sub .i64 s9 1)/\(AA .sub .i64 s9 1)+1<=(w0.length:Int)) (
    AS w0 (AA .sub .i64 s9 1) fun x8=>
    AH (Yj x7 x8) fun r9=>
    AE (!r9) (
     some (.inr w0)) (
     AU (0<=(AA .sub .i64 s9 1)/\(AA .sub .i64 s9 1)+1<=(w0.length:Int)) (
      AS w0 (AA .sub .i64 s9 1) fun x10=>
      AU (0<=s9/\s9+1<=(w0.length:Int)) (
       AS w0 s9 fun x11=>
       AU (0<=s9/\s9+1<=(w0.length:Int)) (
        AU (0<=s9/\s9+1<=(w0.length:Int)) (
         AU (0<=(AA .sub .i64 s9 1)/\(AA .sub .i64 s9 1)+1<=((w0.set s9.toNat x10).length:Int)) (
          AU (0<=(AA .sub .i64 s9 1)/\(AA .sub .i64 s9 1)+1<=((w0.set s9.toNat x10).length:Int)) (
           some (.inl ((AA .sub .i64 s9 1),(w0.set s9.toNat x10).set (AA .sub .i64 s9 1).toNat x11)))))))))))) (
  some (.inr w0))
def R2(s1 s2:Int)(s7 s8 s9:Int)(w0:List Int):Option ((List Int)):=AR (fun s:Int×List Int=>G0 s1 s2 s7 s8 s.1 s.2) (s9,w0)
theorem Ph(s1 s2:Int)(s7 s8 s9:Int)(w0:List Int):R2 s1 s2 s7 s8 s9 w0=B1 (G0 s1 s2 s7 s8 s9 w0) (fun s:Int×List Int=>R2 s1 s2 s7 s8 s.1 s.2):=An _ _
def OK(s1 s2:Int)(s7 s8:Int)(s61:Bool)(w0:List Int):Option ((List Int)):=
 AE (s61) (
  AH (R2 s1 s2 s7 s8 (AA .sub .i64 s7 1) w0) fun o12=>
  some o12) (
  some w0)
def G1(s1 s2:Int)(s7 s8 s10:Int)(w0:List Int):Option ((Int×List Int)⊕((List Int))):=
 AE (decide (s10<s2)) (
  AU (0<=s10/\s10+1<=(w0.length:Int)) (
   AS w0 s10 fun x14=>
   AU (0<=(AA .sub .i64 s10 1)/\(AA .sub .i64 s10 1)+1<=(w0.length:Int)) (
    AS w0 (AA .sub .i64 s10 1) fun x15=>
    AH (Yj x14 x15) fun r16=>
    AE (!r16) (
     some (.inr w0)) (
     AU (0<=(AA .sub .i64 s10 1)/\(AA .sub .i64 s10 1)+1<=(w0.length:Int)) (
      AS w0 (AA .sub .i64 s10 1) fun x17=>
      AU (0<=s10/\s10+1<=(w0.length:Int)) (
       AS w0 s10 fun x18=>
       AU (0<=s10/\s10+1<=(w0.length:Int)) (
        AU (0<=s10/\s10+1<=(w0.length:Int)) (
         AU (0<=(AA .sub .i64 s10 1)/\(AA .sub .i64 s10 1)+1<=((w0.set s10.toNat x17).length:Int)) (
          AU (0<=(AA .sub .i64 s10 1)/\(AA .sub .i64 s10 1)+1<=((w0.set s10.toNat x17).length:Int)) (
           some (.inl ((AA .add .i64 s10 1),(w0.set s10.toNat x17).set (AA .sub .i64 s10 1).toNat x18)))))))))))) (
  some (.inr w0))
def R3(s1 s2:Int)(s7 s8 s10:Int)(w0:List Int):Option ((List Int)):=AR (fun s:Int×List Int=>G1 s1 s2 s7 s8 s.1 s.2) (s10,w0)
theorem Pi(s1 s2:Int)(s7 s8 s10:Int)(w0:List Int):R3 s1 s2 s7 s8 s10 w0=B1 (G1 s1 s2 s7 s8 s10 w0) (fun s:Int×List Int=>R3 s1 s2 s7 s8 s.1 s.2):=An _ _
def OL(s1 s2:Int)(s7 s8:Int)(s98:Bool)(w0:List Int):Option ((List Int)):=
 AE (s98) (
  AH (R3 s1 s2 s7 s8 (AA .add .i64 s7 1) w0) fun o19=>
  some o19) (
  some w0)
def R0(s1 s2:Int)(s7 s8:Int)(w0:List Int):Option ((Int×List Int)⊕Bool):=
 AH (R1 s1 s2 s8 w0 s7) fun o4=>
 AE (decide (o4=s2)) (
  some (.inr true)) (
  AE (decide ((AA .sub .i64 s2 s1)<50)) (
   some (.inr false)) (
   AU (0<=(AA .sub .i64 o4 1)/\(AA .sub .i64 o4 1)+1<=(w0.length:Int)) (
    AS w0 (AA .sub .i64 o4 1) fun x5=>
    AU (0<=o4/\o4+1<=(w0.length:Int)) (
     AS w0 o4 fun x6=>
     AU (0<=o4/\o4+1<=(w0.length:Int)) (
      AU (0<=o4/\o4+1<=(w0.length:Int)) (
       AU (0<=(AA .sub .i64 o4 1)/\(AA .sub .i64 o4 1)+1<=((w0.set o4.toNat x5).length:Int)) (
        AU (0<=(AA .sub .i64 o4 1)/\(AA .sub .i64 o4 1)+1<=((w0.set o4.toNat x5).length:Int)) (
         AH (OK s1 s2 o4 s8 (decide (2<=(AA .sub .i64 o4 s1))) ((w0.set o4.toNat x5).set (AA .sub .i64 o4 1).toNat x6)) fun o13=>
         AH (OL s1 s2 o4 s8 (decide (2<=(AA .sub .i64 s2 o4))) o13) fun o20=>
         some (.inl (o4,o20))))))))))
def Gy(s1 s2:Int)(s7 s8:Int)(w0:List Int):Option ((Int×Int×List Int)⊕((List Int)⊕(Bool×List Int))):=
 AE (decide (s8<5)) (
  AH (R0 s1 s2 s7 s8 w0) fun o21=>
  Ba o21 (fun o22=>
   some (.inl (o22.1,(AA .add .i64 s8 1),o22.2))) (fun o23=>
   some (.inr (.inr (o23,w0))))) (
  some (.inr (.inl w0)))
def OM(s1 s2:Int)(s7 s8:Int)(w0:List Int):Option ((List Int)⊕(Bool×List Int)):=AR (fun s:Int×Int×List Int=>Gy s1 s2 s.1 s.2.1 s.2.2) (s7,s8,w0)
theorem Pf(s1 s2:Int)(s7 s8:Int)(w0:List Int):OM s1 s2 s7 s8 w0=B1 (Gy s1 s2 s7 s8 w0) (fun s:Int×Int×List Int=>OM s1 s2 s.1 s.2.1 s.2.2):=An _ _
def X8(a1 a2:Int)(w0:List Int):Option (Bool×List Int):=
 AH (OM a1 a2 (AA .add .i64 a1 1) 0 w0) fun o24=>
 Ba o24 (fun o25=>
  some (false,o25)) (fun o26=>
  some (o26.1,o26.2))
def G4(s1 s10:Int)(w0:List Int)(s9:Int):Option ((Int)⊕(Int)):=
 AE (decide (s9<=s10)) (
  AU (0<=s1/\s1+1<=(w0.length:Int)) (
   AS w0 s1 fun x3=>
   AU (0<=s9/\s9+1<=(w0.length:Int)) (
    AS w0 s9 fun x4=>
    AH (Yj x3 x4) fun r5=>
    AE (!r5) (
     some (.inl (AA .add .i64 s9 1))) (
     some (.inr s9))))) (
  some (.inr s9))
def SA(s1 s10:Int)(w0:List Int)(s9:Int):Option (Int):=AR (fun s:Int=>G4 s1 s10 w0 s) s9
theorem Pt(s1 s10:Int)(w0:List Int)(s9:Int):SA s1 s10 w0 s9=B1 (G4 s1 s10 w0 s9) (fun s:Int=>SA s1 s10 w0 s):=An _ _
def G5(s1 s9:Int)(w0:List Int)(s10:Int):Option ((Int)⊕(Int)):=
 AE (decide (s9<=s10)) (
  AU (0<=s1/\s1+1<=(w0.length:Int)) (
   AS w0 s1 fun x7=>
   AU (0<=s10/\s10+1<=(w0.length:Int)) (
    AS w0 s10 fun x8=>
    AH (Yj x7 x8) fun r9=>
    AE (r9) (
     some (.inl (AA .sub .i64 s10 1))) (
     some (.inr s10))))) (
  some (.inr s10))
def SB(s1 s9:Int)(w0:List Int)(s10:Int):Option (Int):=AR (fun s:Int=>G5 s1 s9 w0 s) s10
theorem Pu(s1 s9:Int)(w0:List Int)(s10:Int):SB s1 s9 w0 s10=B1 (G5 s1 s9 w0 s10) (fun s:Int=>SB s1 s9 w0 s):=An _ _
def If(s1 s9 s10:Int)(w0:List Int):Option ((Int×Int×List Int)⊕((Int×List Int))):=
 AH (SA s1 s10 w0 s9) fun o6=>
 AH (SB s1 o6 w0 s10) fun o10=>
 AE (decide (o10<o6)) (
  some (.inr (o6,w0))) (
  AU (0<=o10/\o10+1<=(w0.length:Int)) (
   AS w0 o10 fun x11=>
   AU (0<=o6/\o6+1<=(w0.length:Int)) (
    AS w0 o6 fun x12=>
    AU (0<=o6/\o6+1<=(w0.length:Int)) (
     AU (0<=o6/\o6+1<=(w0.length:Int)) (
      AU (0<=o10/\o10+1<=((w0.set o6.toNat x11).length:Int)) (
       AU (0<=o10/\o10+1<=((w0.set o6.toNat x11).length:Int)) (
        some (.inl ((AA .add .i64 o6 1),(AA .sub .i64 o10 1),(w0.set o6.toNat x11).set o10.toNat x12)))))))))
def R9(s1 s9 s10:Int)(w0:List Int):Option ((Int×List Int)):=AR (fun s:Int×Int×List Int=>If s1 s.1 s.2.1 s.2.2) (s9,s10,w0)
theorem aH3(s1 s9 s10:Int)(w0:List Int):R9 s1 s9 s10 w0=B1 (If s1 s9 s10 w0) (fun s:Int×Int×List Int=>R9 s1 s.1 s.2.1 s.2.2):=An _ _
def Xh(a1 a2 a3:Int)(w0:List Int):Option (Int×List Int):=
 AU (0<=a3/\a3+1<=(w0.length:Int)) (
  AS w0 a3 fun x1=>
  AU (0<=a1/\a1+1<=(w0.length:Int)) (
   AS w0 a1 fun x2=>
   AU (0<=a1/\a1+1<=(w0.length:Int)) (
    AU (0<=a1/\a1+1<=(w0.length:Int)) (
     AU (0<=a3/\a3+1<=((w0.set a1.toNat x1).length:Int)) (
      AU (0<=a3/\a3+1<=((w0.set a1.toNat x1).length:Int)) (
       AH (R9 a1 (AA .add .i64 a1 1) (AA .sub .i64 a2 1) ((w0.set a1.toNat x1).set a3.toNat x2)) fun o13=>
       some (o13.1,o13.2)))))))
def G2(s1 s11:Int)(w0:List Int)(s10:Int):Option ((Int)⊕(Int)):=
 AE (decide (s10<=s11)) (
  AU (0<=s10/\s10+1<=(w0.length:Int)) (
   AS w0 s10 fun x3=>
   AU (0<=s1/\s1+1<=(w0.length:Int)) (
    AS w0 s1 fun x4=>
    AH (Yj x3 x4) fun r5=>
    AE (r5) (
     some (.inl (AA .add .i64 s10 1))) (
     some (.inr s10))))) (
  some (.inr s10))
def OO(s1 s11:Int)(w0:List Int)(s10:Int):Option (Int):=AR (fun s:Int=>G2 s1 s11 w0 s) s10
theorem Po(s1 s11:Int)(w0:List Int)(s10:Int):OO s1 s11 w0 s10=B1 (G2 s1 s11 w0 s10) (fun s:Int=>OO s1 s11 w0 s):=An _ _
def G3(s1 s10:Int)(w0:List Int)(s11:Int):Option ((Int)⊕(Int)):=
 AE (decide (s10<=s11)) (
  AU (0<=s11/\s11+1<=(w0.length:Int)) (
   AS w0 s11 fun x7=>
   AU (0<=s1/\s1+1<=(w0.length:Int)) (
    AS w0 s1 fun x8=>
    AH (Yj x7 x8) fun r9=>
    AE (!r9) (
     some (.inl (AA .sub .i64 s11 1))) (
     some (.inr s11))))) (
  some (.inr s11))
def OP(s1 s10:Int)(w0:List Int)(s11:Int):Option (Int):=AR (fun s:Int=>G3 s1 s10 w0 s) s11
theorem Pp(s1 s10:Int)(w0:List Int)(s11:Int):OP s1 s10 w0 s11=B1 (G3 s1 s10 w0 s11) (fun s:Int=>OP s1 s10 w0 s):=An _ _
def OQ(s1 s11:Int)(w0:List Int)(s10:Int):Option ((Int)⊕(Int)):=
 AE (decide (s10<=s11)) (
  AU (0<=s10/\s10+1<=(w0.length:Int)) (
   AS w0 s10 fun x15=>
   AU (0<=s1/\s1+1<=(w0.length:Int)) (
    AS w0 s1 fun x16=>
    AH (Yj x15 x16) fun r17=>
    AE (r17) (
     some (.inl (AA .add .i64 s10 1))) (
     some (.inr s10))))) (
  some (.inr s10))
def aG9(s1 s11:Int)(w0:List Int)(s10:Int):Option (Int):=AR (fun s:Int=>OQ s1 s11 w0 s) s10
def OR(s1 s10:Int)(w0:List Int)(s11:Int):Option ((Int)⊕(Int)):=
 AE (decide (s10<=s11)) (
  AU (0<=s11/\s11+1<=(w0.length:Int)) (
   AS w0 s11 fun x19=>
   AU (0<=s1/\s1+1<=(w0.length:Int)) (
    AS w0 s1 fun x20=>
    AH (Yj x19 x20) fun r21=>
    AE (!r21) (
     some (.inl (AA .sub .i64 s11 1))) (
     some (.inr s11))))) (
  some (.inr s11))
def aHb(s1 s10:Int)(w0:List Int)(s11:Int):Option (Int):=AR (fun s:Int=>OR s1 s10 w0 s) s11
def IS(s1 s10 s11:Int)(w0:List Int):Option ((Int×Int×List Int)⊕((Int×List Int))):=
 AH (aG9 s1 s11 w0 s10) fun o18=>
 AH (aHb s1 o18 w0 s11) fun o22=>
 AE (decide (o22<o18)) (
  some (.inr (o22,w0))) (
  AU (0<=o22/\o22+1<=(w0.length:Int)) (
   AS w0 o22 fun x23=>
   AU (0<=o18/\o18+1<=(w0.length:Int)) (
    AS w0 o18 fun x24=>
    AU (0<=o18/\o18+1<=(w0.length:Int)) (
     AU (0<=o18/\o18+1<=(w0.length:Int)) (
      AU (0<=o22/\o22+1<=((w0.set o18.toNat x23).length:Int)) (
       AU (0<=o22/\o22+1<=((w0.set o18.toNat x23).length:Int)) (
        some (.inl ((AA .add .i64 o18 1),(AA .sub .i64 o22 1),(w0.set o18.toNat x23).set o22.toNat x24)))))))))
def R5(s1 s10 s11:Int)(w0:List Int):Option ((Int×List Int)):=AR (fun s:Int×Int×List Int=>IS s1 s.1 s.2.1 s.2.2) (s10,s11,w0)
theorem aG7(s1 s10 s11:Int)(w0:List Int):R5 s1 s10 s11 w0=B1 (IS s1 s10 s11 w0) (fun s:Int×Int×List Int=>R5 s1 s.1 s.2.1 s.2.2):=An _ _
def Xa(a1 a2 a3:Int)(w0:List Int):Option (Int×Bool×List Int):=
 AU (0<=a3/\a3+1<=(w0.length:Int)) (
  AS w0 a3 fun x1=>
  AU (0<=a1/\a1+1<=(w0.length:Int)) (
   AS w0 a1 fun x2=>
   AU (0<=a1/\a1+1<=(w0.length:Int)) (
    AU (0<=a1/\a1+1<=(w0.length:Int)) (
     AU (0<=a3/\a3+1<=((w0.set a1.toNat x1).length:Int)) (
      AU (0<=a3/\a3+1<=((w0.set a1.toNat x1).length:Int)) (
       AH (OO a1 (AA .sub .i64 a2 1) ((w0.set a1.toNat x1).set a3.toNat x2) (AA .add .i64 a1 1)) fun o6=>
       AH (OP a1 o6 ((w0.set a1.toNat x1).set a3.toNat x2) (AA .sub .i64 a2 1)) fun o10=>
       AE (decide (o10<o6)) (
        AU (0<=a1/\a1+1<=(((w0.set a1.toNat x1).set a3.toNat x2).length:Int)) (
         AS ((w0.set a1.toNat x1).set a3.toNat x2) a1 fun x11=>
         AU (0<=o10/\o10+1<=(((w0.set a1.toNat x1).set a3.toNat x2).length:Int)) (
          AS ((w0.set a1.toNat x1).set a3.toNat x2) o10 fun x12=>
          AU (0<=o10/\o10+1<=(((w0.set a1.toNat x1).set a3.toNat x2).length:Int)) (
           AU (0<=o10/\o10+1<=(((w0.set a1.toNat x1).set a3.toNat x2).length:Int)) (
            AU (0<=a1/\a1+1<=((((w0.set a1.toNat x1).set a3.toNat x2).set o10.toNat x11).length:Int)) (
             AU (0<=a1/\a1+1<=((((w0.set a1.toNat x1).set a3.toNat x2).set o10.toNat x11).length:Int)) (
              some (o10,true,(((w0.set a1.toNat x1).set a3.toNat x2).set o10.toNat x11).set a1.toNat x12)))))))) (
        AU (0<=o10/\o10+1<=(((w0.set a1.toNat x1).set a3.toNat x2).length:Int)) (
         AS ((w0.set a1.toNat x1).set a3.toNat x2) o10 fun x13=>
         AU (0<=o6/\o6+1<=(((w0.set a1.toNat x1).set a3.toNat x2).length:Int)) (
          AS ((w0.set a1.toNat x1).set a3.toNat x2) o6 fun x14=>
          AU (0<=o6/\o6+1<=(((w0.set a1.toNat x1).set a3.toNat x2).length:Int)) (
           AU (0<=o6/\o6+1<=(((w0.set a1.toNat x1).set a3.toNat x2).length:Int)) (
            AU (0<=o10/\o10+1<=((((w0.set a1.toNat x1).set a3.toNat x2).set o6.toNat x13).length:Int)) (
             AU (0<=o10/\o10+1<=((((w0.set a1.toNat x1).set a3.toNat x2).set o6.toNat x13).length:Int)) (
              AH (R5 a1 (AA .add .i64 o6 1) (AA .sub .i64 o10 1) ((((w0.set a1.toNat x1).set a3.toNat x2).set o6.toNat x13).set o10.toNat x14)) fun o25=>
              AU (0<=a1/\a1+1<=(o25.2.length:Int)) (
               AS o25.2 a1 fun x26=>
               AU (0<=o25.1/\o25.1+1<=(o25.2.length:Int)) (
                AS o25.2 o25.1 fun x27=>
                AU (0<=o25.1/\o25.1+1<=(o25.2.length:Int)) (
                 AU (0<=o25.1/\o25.1+1<=(o25.2.length:Int)) (
                  AU (0<=a1/\a1+1<=((o25.2.set o25.1.toNat x26).length:Int)) (
                   AU (0<=a1/\a1+1<=((o25.2.set o25.1.toNat x26).length:Int)) (
                    some (o25.1,false,(o25.2.set o25.1.toNat x26).set a1.toNat x27))))))))))))))))))))
def OT(self:Int->Int->Int->(List Int)->Option (List Int))(s1 s2 s3:Int)(s8 s9:Bool)(s10:Int)(s35:Bool)(w0:List Int):Option ((Int×List Int)):=
 AE (s35) (
  AH (Xy s1 s2 w0) fun r3=>
  some ((AA .sub .i64 s3 1),r3)) (
  some (s3,w0))
def OU(self:Int->Int->Int->(List Int)->Option (List Int))(s1 s2 s3:Int)(s8 s9:Bool)(s10 s11 s12:Int)(s50:Bool)(w0:List Int):Option ((Int×Int×List Int)):=
 AE (s50) (
  AH (Yy s1 s2 w0) fun r6=>
  some ((AA .sub .i64 (AA .sub .i64 s2 1) (AA .sub .i64 s11 s1)),1,r6)) (
  some (s11,s12,w0))
def KX(self:Int->Int->Int->(List Int)->Option (List Int))(s1 s2 s3:Int)(s8 s9:Bool)(s10 s11:Int)(s68:Bool)(w0:List Int):Option ((List Int)⊕(List Int)):=
 AE (s68) (
  AH (X8 s1 s2 w0) fun r8=>
  AE (r8.1) (
   some (.inr r8.2)) (
   some (.inl r8.2))) (
  some (.inl w0))
def F8(self:Int->Int->Int->(List Int)->Option (List Int))(s1 s2 s3:Int)(s9:Bool)(s14 s16:Int)(s17 s18:Int)(s113:Bool)(w0:List Int):Option ((Int×Int×Bool×List Int)):=
 AE (s113) (
  AH (self s1 s14 s3 w0) fun r17=>
  some ((AA .add .i64 s14 1),s2,decide (s18<=s16),r17)) (
  AH (self (AA .add .i64 s14 1) s2 s3 w0) fun r18=>
  some (s1,s14,decide (s18<=s17),r18))
def OS(self:Int->Int->Int->(List Int)->Option (List Int))(s1 s2 s3:Int)(s8 s9:Bool)(w0:List Int):Option ((Int×Int×Int×Bool×Bool×List Int)⊕(List Int)):=
 AE (decide ((AA .sub .i64 s2 s1)<=12)) (
  AH (Y0 s1 s2 w0) fun r1=>
  some (.inr r1)) (
  AE (decide (s3=0)) (
   AH (Y2 s1 s2 w0) fun r2=>
   some (.inr r2)) (
   AH (OT self s1 s2 s3 s8 s9 (AA .sub .i64 s2 s1) (!s8) w0) fun o4=>
   AH (Z8 o4.2 s1 s2) fun r5=>
   AH (OU self s1 s2 o4.1 s8 s9 (AA .sub .i64 s2 s1) r5.1 r5.2 (decide (r5.2=2)) o4.2) fun o7=>
   AE (s8) (
    AE (s9) (
     AH (KX self s1 s2 o4.1 s8 s9 (AA .sub .i64 s2 s1) o7.1 (decide (o7.2.1=1)) o7.2.2) fun o9=>
     Ba o9 (fun o10=>
      AE (decide (0<s1)) (
       AU (0<=(AA .sub .i64 s1 1)/\(AA .sub .i64 s1 1)+1<=(o10.length:Int)) (
        AS o10 (AA .sub .i64 s1 1) fun x12=>
        AU (0<=o7.1/\o7.1+1<=(o10.length:Int)) (
         AS o10 o7.1 fun x13=>
         AH (Yj x12 x13) fun r14=>
         AE (!r14) (
          AH (Xh s1 s2 o7.1 o10) fun r15=>
          some (.inl (r15.1,s2,o4.1,s8,s9,r15.2))) (
          AH (Xa s1 s2 o7.1 o10) fun r16=>
          AH (F8 self s1 s2 o4.1 r16.2.1 r16.1 (AA .sub .i64 r16.1 s1) (AA .sub .i64 s2 r16.1) (AA .quo .i64 (AA .sub .i64 s2 s1) 8) (decide ((AA .sub .i64 r16.1 s1)<(AA .sub .i64 s2 r16.1))) r16.2.2) fun o19=>
          some (.inl (o19.1,o19.2.1,o4.1,o19.2.2.1,r16.2.1,o19.2.2.2)))))) (
       AH (Xa s1 s2 o7.1 o10) fun r20=>
       AH (F8 self s1 s2 o4.1 r20.2.1 r20.1 (AA .sub .i64 r20.1 s1) (AA .sub .i64 s2 r20.1) (AA .quo .i64 (AA .sub .i64 s2 s1) 8) (decide ((AA .sub .i64 r20.1 s1)<(AA .sub .i64 s2 r20.1))) r20.2.2) fun o21=>
       some (.inl (o21.1,o21.2.1,o4.1,o21.2.2.1,r20.2.1,o21.2.2.2)))) (fun o11=>
      some (.inr o11))) (
     AH (KX self s1 s2 o4.1 s8 s9 (AA .sub .i64 s2 s1) o7.1 false o7.2.2) fun o22=>
     Ba o22 (fun o23=>
      AE (decide (0<s1)) (
       AU (0<=(AA .sub .i64 s1 1)/\(AA .sub .i64 s1 1)+1<=(o23.length:Int)) (
        AS o23 (AA .sub .i64 s1 1) fun x25=>
        AU (0<=o7.1/\o7.1+1<=(o23.length:Int)) (
         AS o23 o7.1 fun x26=>
         AH (Yj x25 x26) fun r27=>
         AE (!r27) (
          AH (Xh s1 s2 o7.1 o23) fun r28=>
          some (.inl (r28.1,s2,o4.1,s8,s9,r28.2))) (
          AH (Xa s1 s2 o7.1 o23) fun r29=>
          AH (F8 self s1 s2 o4.1 r29.2.1 r29.1 (AA .sub .i64 r29.1 s1) (AA .sub .i64 s2 r29.1) (AA .quo .i64 (AA .sub .i64 s2 s1) 8) (decide ((AA .sub .i64 r29.1 s1)<(AA .sub .i64 s2 r29.1))) r29.2.2) fun o30=>
          some (.inl (o30.1,o30.2.1,o4.1,o30.2.2.1,r29.2.1,o30.2.2.2)))))) (
       AH (Xa s1 s2 o7.1 o23) fun r31=>
       AH (F8 self s1 s2 o4.1 r31.2.1 r31.1 (AA .sub .i64 r31.1 s1) (AA .sub .i64 s2 r31.1) (AA .quo .i64 (AA .sub .i64 s2 s1) 8) (decide ((AA .sub .i64 r31.1 s1)<(AA .sub .i64 s2 r31.1))) r31.2.2) fun o32=>
       some (.inl (o32.1,o32.2.1,o4.1,o32.2.2.1,r31.2.1,o32.2.2.2)))) (fun o24=>
      some (.inr o24)))) (
    AH (KX self s1 s2 o4.1 s8 s9 (AA .sub .i64 s2 s1) o7.1 false o7.2.2) fun o33=>
    Ba o33 (fun o34=>
     AE (decide (0<s1)) (
      AU (0<=(AA .sub .i64 s1 1)/\(AA .sub .i64 s1 1)+1<=(o34.length:Int)) (
       AS o34 (AA .sub .i64 s1 1) fun x36=>
       AU (0<=o7.1/\o7.1+1<=(o34.length:Int)) (
        AS o34 o7.1 fun x37=>
        AH (Yj x36 x37) fun r38=>
        AE (!r38) (
         AH (Xh s1 s2 o7.1 o34) fun r39=>
         some (.inl (r39.1,s2,o4.1,s8,s9,r39.2))) (
         AH (Xa s1 s2 o7.1 o34) fun r40=>
         AH (F8 self s1 s2 o4.1 r40.2.1 r40.1 (AA .sub .i64 r40.1 s1) (AA .sub .i64 s2 r40.1) (AA .quo .i64 (AA .sub .i64 s2 s1) 8) (decide ((AA .sub .i64 r40.1 s1)<(AA .sub .i64 s2 r40.1))) r40.2.2) fun o41=>
         some (.inl (o41.1,o41.2.1,o4.1,o41.2.2.1,r40.2.1,o41.2.2.2)))))) (
      AH (Xa s1 s2 o7.1 o34) fun r42=>
      AH (F8 self s1 s2 o4.1 r42.2.1 r42.1 (AA .sub .i64 r42.1 s1) (AA .sub .i64 s2 r42.1) (AA .quo .i64 (AA .sub .i64 s2 s1) 8) (decide ((AA .sub .i64 r42.1 s1)<(AA .sub .i64 s2 r42.1))) r42.2.2) fun o43=>
      some (.inl (o43.1,o43.2.1,o4.1,o43.2.2.1,r42.2.1,o43.2.2.2)))) (fun o35=>
     some (.inr o35)))))
def IY(self:Int->Int->Int->(List Int)->Option (List Int))(s1 s2 s3:Int)(s8 s9:Bool)(w0:List Int):Option ((Int×Int×Int×Bool×Bool×List Int)⊕((List Int))):=
 AH (OS self s1 s2 s3 s8 s9 w0) fun o44=>
 Ba o44 (fun o45=>
  some (.inl (o45.1,o45.2.1,o45.2.2.1,o45.2.2.2.1,o45.2.2.2.2.1,o45.2.2.2.2.2))) (fun o46=>
  some (.inr o46))
def R7(self:Int->Int->Int->(List Int)->Option (List Int))(s1 s2 s3:Int)(s8 s9:Bool)(w0:List Int):Option ((List Int)):=AR (fun s:Int×Int×Int×Bool×Bool×List Int=>IY self s.1 s.2.1 s.2.2.1 s.2.2.2.1 s.2.2.2.2.1 s.2.2.2.2.2) (s1,s2,s3,s8,s9,w0)
theorem aHo(self:Int->Int->Int->(List Int)->Option (List Int))(s1 s2 s3:Int)(s8 s9:Bool)(w0:List Int):R7 self s1 s2 s3 s8 s9 w0=B1 (IY self s1 s2 s3 s8 s9 w0) (fun s:Int×Int×Int×Bool×Bool×List Int=>R7 self s.1 s.2.1 s.2.2.1 s.2.2.2.1 s.2.2.2.2.1 s.2.2.2.2.2):=An _ _
def aSd(self:Int->Int->Int->(List Int)->Option (List Int))(a1 a2 a3:Int)(w0:List Int):Option (List Int):=
 AH (R7 self a1 a2 a3 true true w0) fun o47=>
 some o47
def aQj:Nat->Int->Int->Int->(List Int)->Option (List Int)
 |0=>fun _ _ _ _=>none
 |n+1=>fun a1 a2 a3 w0=>aSd (aQj n) a1 a2 a3 w0
def Xd(a1 a2 a3:Int)(w0:List Int):Option (List Int):=aQj 100000 a1 a2 a3 w0
def Qs(w0:List Int):Option (List Int):=
 AH (Qq (IntKind.wrap .u64 (w0.length:Int))) fun r1=>
 AH (Xd 0 (w0.length:Int) r1 w0) fun r2=>
 some r2
def Un(xs:List Int):Option (List Int):=bagE Qs xs
def IM(s1:List X2)(s6 s15:Int)(s16 s30:Int)(w2:AD)(w5:List (Int×Bool))(s31:Int)(w7:List (Int×Bool)):Option ((Int×(List (Int×Bool)))⊕((List (Int×Bool)))):=
 AE (decide (s31<s30)) (
  AH (Xp (Xx.mk w2 s1 s6 s31) w7) fun r3=>
  some (.inl ((AA .add .i64 s31 1),r3))) (
  some (.inr w7))
def aR6(s1:List X2)(s6 s15:Int)(s16 s30:Int)(w2:AD)(w5:List (Int×Bool))(s31:Int)(w7:List (Int×Bool)):Option ((List (Int×Bool))):=AR (fun s:Int×(List (Int×Bool))=>IM s1 s6 s15 s16 s30 w2 w5 s.1 s.2) (s31,w7)
def IN(s1:List X2)(s15 s16:Int)(w2:AD)(w7:List (Int×Bool))(k:Int)(v:Bool)(w5:List (Int×Bool)):Option ((List (Int×Bool))):=
 some (Ge k true w5)
def LW(s1:List X2)(s15 s16:Int)(w2:AD)(w7:List (Int×Bool))(s:(List (Int×Bool))):(List (Int×Bool)):=(fun s:(List (Int×Bool))=>(aPe s:(List (Int×Bool)))) s
def aR7(s1:List X2)(s15 s16:Int)(w2:AD)(w7 w5:List (Int×Bool)):Option ((List (Int×Bool))):=GR (LW s1 s15 s16 w2 w7) w7 (fun(x:Int×Bool) (s:(List (Int×Bool)))=>IN s1 s15 s16 w2 w7 x.1 x.2 s) w5
def aGl(s1:List X2)(s15 s16:Int)(w2:AD)(w5 w7:List (Int×Bool)):Option ((List (Int×Bool))):=
 AH (aR7 s1 s15 s16 w2 w7 w5) fun o5=>
 some o5
def IL(s1:List X2)(s15:Int)(w2:AD)(s16:Int)(w5:List (Int×Bool)):Option ((Int×(List (Int×Bool)))⊕((List (Int×Bool)))):=
 AE (decide (s16<s15)) (
  AH (Yr w2 s16) fun r1=>
  AS w2.decls s16 fun x2=>
  AH (aR6 s1 s16 s15 s16 (x2.types.length:Int) w2 w5 0 (Ge r1 true ([]:List (Int×Bool)))) fun o4=>
  AH (aGl s1 s15 s16 w2 w5 o4) fun o6=>
  some (.inl ((AA .add .i64 s16 1),o6))) (
  some (.inr w5))
def aR5(s1:List X2)(s15:Int)(w2:AD)(s16:Int)(w5:List (Int×Bool)):Option ((List (Int×Bool))):=AR (fun s:Int×(List (Int×Bool))=>IL s1 s15 w2 s.1 s.2) (s16,w5)
def F7(w5:List (Int×Bool))(k:Int)(v:Bool)(w10:List Int):Option (List Int):=
 AU (fit w10.length [k].length 8) (
  some (w10++[k]))
def OJ(w5:List (Int×Bool))(s:List Int):List Int:=(fun s:List Int=>(aPz s:List Int)) s
def aR9(w5:List (Int×Bool))(w10:List Int):Option (List Int):=GR (OJ w5) w5 (fun(x:Int×Bool) (s:List Int)=>F7 w5 x.1 x.2 s) w10
def aGn(w5:List (Int×Bool)):Option ((List Int)):=
 AH (aR9 w5 ([]:List Int)) fun o8=>
 some o8
def X7(a0:AD)(a1:List X2):Option (List Int):=
 AH (aR5 a1 (a0.decls.length:Int) a0 0 ([]:List (Int×Bool))) fun o7=>
 AH (aGn (Ox 0 o7)) fun o9=>
 AH (Un o9) fun r10=>
 some r10
def Uo(a0:Int):Option (Bool):=
 some false
def Vs(s1 s2:Int)(s7 s8 s10:Int)(s14:List Xc)(s15 s16:Int)(s28:List X6)(s29 s30:Int)(s46:Bool)(w3:AD)(w9:Xc)(w12:X6):Option (Int):=
 AE (s46) (
  AU (0<=(IntKind.wrap .u64 w12.to)) (
   some (AA .or .u32 s10 (AA .shl .u32 1 (IntKind.wrap .u64 w12.to))))) (
  some s10)
def aIg(s1 s2:Int)(s7 s8 s10:Int)(s14:List Xc)(s15 s16:Int)(s28:List X6)(s29 s30:Int)(w3:AD)(w9:Xc):Option (Int):=
 AS s28 s30 fun x2=>
 AE (decide (x2.from_=s8)) (
  AU (0<=(IntKind.wrap .u64 x2.symbol)) (
   AH (Vs s1 s2 s7 s8 s10 s14 s15 s16 s28 s29 s30 (!decide ((AA .and .u64 s2 (AA .shl .u64 1 (IntKind.wrap .u64 x2.symbol)))=0)) w3 w9 x2) fun o3=>
   some o3)) (
  AH (Vs s1 s2 s7 s8 s10 s14 s15 s16 s28 s29 s30 false w3 w9 x2) fun o4=>
  some o4)
def Ih(s1 s2:Int)(s7 s8:Int)(s14:List Xc)(s15 s16:Int)(s28:List X6)(s29:Int)(w3:AD)(w9:Xc)(s10 s30:Int):Option ((Int×Int)⊕(Int)):=
 AE (decide (s30<s29)) (
  AH (aIg s1 s2 s7 s8 s10 s14 s15 s16 s28 s29 s30 w3 w9) fun o5=>
  some (.inl (o5,(AA .add .i64 s30 1)))) (
  some (.inr s10))
def aIj(s1 s2:Int)(s7 s8:Int)(s14:List Xc)(s15 s16:Int)(s28:List X6)(s29:Int)(w3:AD)(w9:Xc)(s10 s30:Int):Option (Int):=AR (fun s:Int×Int=>Ih s1 s2 s7 s8 s14 s15 s16 s28 s29 w3 w9 s.1 s.2) (s10,s30)
def OW(s1 s2:Int)(s7 s8 s10:Int)(s14:List Xc)(s15 s16:Int)(s60:Bool)(w3:AD):Option (Int):=
 AE (s60) (
  AU (0<=(IntKind.wrap .u64 s8)) (
   some (AA .shl .u32 1 (IntKind.wrap .u64 s8)))) (
  some s10)
def aIe(s1 s2 s7:Int)(s14:List Xc)(s15 s16:Int)(w3:AD):Option (Int):=
 AS s14 s16 fun x1=>
 AU (0<=(IntKind.wrap .u64 s16)) (
  AE (decide ((AA .and .u32 s1 (AA .shl .u32 1 (IntKind.wrap .u64 s16)))=0)) (
   some s7) (
   AH (aIj s1 s2 s7 s16 s14 s15 s16 w3.trans (w3.trans.length:Int) w3 x1 0 0) fun o6=>
   AE (decide (o6=0)) (
    AH (OW s1 s2 s7 s16 o6 s14 s15 s16 (!x1.next) w3) fun o7=>
    some (AA .or .u32 s7 o7)) (
    AH (OW s1 s2 s7 s16 o6 s14 s15 s16 false w3) fun o8=>
    some (AA .or .u32 s7 o8))))
def G7(s1 s2:Int)(s14:List Xc)(s15:Int)(w3:AD)(s7 s16:Int):Option ((Int×Int)⊕(Int)):=
 AE (decide (s16<s15)) (
  AH (aIe s1 s2 s7 s14 s15 s16 w3) fun o9=>
  some (.inl (o9,(AA .add .i64 s16 1)))) (
  some (.inr s7))
def aSn(s1 s2:Int)(s14:List Xc)(s15:Int)(w3:AD)(s7 s16:Int):Option (Int):=AR (fun s:Int×Int=>G7 s1 s2 s14 s15 w3 s.1 s.2) (s7,s16)
def Xj(a0:AD)(a1 a2:Int):Option (Int):=
 AH (aSn a1 a2 a0.states (a0.states.length:Int) a0 0 0) fun o10=>
 some o10
def aKr(s11:List Int)(s12 s14 s15:Int)(s44:List Int)(s45 s46:Int)(s64:Bool)(w4:AD)(w8:List Int)(w9 w10:MP Int Int):Option ((List Int×MP Int Int×MP Int Int)):=
 AE (s64) (
  AU (0<=s12/\s12+1<=(w8.length:Int)) (
   AS w8 s12 fun x7=>
   AU (PG 0 w9 s15<=4611686018427387904) (
    AU (aPm (Hb 0 w9 s15) ((PG 0 w9 s15:Nat):Int)=true) (
     AU (fit w8.length [s15].length 4) (
      some (w8++[s15],S7 (Hb 0 w9 s15) ((PG 0 w9 s15:Nat):Int) x7,Ek w10 s15 s14)))))) (
  some (w8,w9,w10))
def aKp(s11:List Int)(s12:Int)(s44:List Int)(s45 s46:Int)(w4:AD)(w8:List Int)(w9 w10:MP Int Int):Option ((List Int×MP Int Int×MP Int Int)):=
 AS s44 s46 fun x4=>
 AU (0<=s12/\s12+1<=(w8.length:Int)) (
  AS w8 s12 fun x5=>
  AH (Xj w4 x5 x4) fun r6=>
  AH (aKr s11 s12 x4 r6 s44 s45 s46 (!((Kg 0 w9 r6).2)) w4 w8 w9 w10) fun o8=>
  some (o8.1,o8.2.1,o8.2.2))
def I1(s11:List Int)(s12:Int)(s44:List Int)(s45:Int)(w4:AD)(s46:Int)(w8:List Int)(w9 w10:MP Int Int):Option ((Int×List Int×MP Int Int×MP Int Int)⊕((List Int×MP Int Int×MP Int Int))):=
 AE (decide (s46<s45)) (
  AH (aKp s11 s12 s44 s45 s46 w4 w8 w9 w10) fun o9=>
  some (.inl ((AA .add .i64 s46 1),o9.1,o9.2.1,o9.2.2))) (
  some (.inr (w8,w9,w10)))
def aS7(s11:List Int)(s12:Int)(s44:List Int)(s45:Int)(w4:AD)(s46:Int)(w8:List Int)(w9 w10:MP Int Int):Option ((List Int×MP Int Int×MP Int Int)):=AR (fun s:Int×List Int×MP Int Int×MP Int Int=>I1 s11 s12 s44 s45 w4 s.1 s.2.1 s.2.2.1 s.2.2.2) (s46,w8,w9,w10)
def I0(s11:List Int)(w4:AD)(s12:Int)(w8:List Int)(w9 w10:MP Int Int):Option ((Int×List Int×MP Int Int×MP Int Int)⊕((List Int×MP Int Int×MP Int Int))):=
 AE (decide (s12<(w8.length:Int))) (
  AU (0<=s12/\s12+1<=(w8.length:Int)) (
   AS w8 s12 fun x2=>
   AH (Uo x2) fun r3=>
   AE (r3) (
    AU (0<=(AA .add .i64 s12 1)/\(AA .add .i64 s12 1)<=(w8.length:Int)) (
     some (.inr (w8.take ((AA .add .i64 s12 1)).toNat,w9,w10)))) (
    AH (aS7 s11 s12 s11 (s11.length:Int) w4 0 w8 w9 w10) fun o10=>
    some (.inl ((AA .add .i64 s12 1),o10.1,o10.2.1,o10.2.2))))) (
  some (.inr (w8,w9,w10)))
def aS6(s11:List Int)(w4:AD)(s12:Int)(w8:List Int)(w9 w10:MP Int Int):Option ((List Int×MP Int Int×MP Int Int)):=AR (fun s:Int×List Int×MP Int Int×MP Int Int=>I0 s11 w4 s.1 s.2.1 s.2.2.1 s.2.2.2) (s12,w8,w9,w10)
def Y3(a0:AD)(a1:List X2)(a2:Int):Option (List Int×MP Int Int×MP Int Int):=
 AH (X7 a0 a1) fun r1=>
 AH (aS6 r1 a0 0 [a2] (Ek (Hc:MP Int Int) a2 a2) (Hc:MP Int Int)) fun o11=>
 some (o11.1,o11.2.1,o11.2.2)
def Qy(a0:AD)(a1:List X2)(a2:Int):Option (List Int):=
 AH (Y3 a0 a1 a2) fun r1=>
 AH (Qs r1.1) fun r2=>
 some r2
def JN(s1:Int)(s8:List Xc)(s9 s10:Int):Option ((Int)⊕(Unit⊕Unit)):=
 AE (decide (s10<s9)) (
  AS s8 s10 fun x1=>
  AE (x1.accept) (
   AU (0<=(IntKind.wrap .u64 s10)) (
    AE (!decide ((AA .and .u32 s1 (AA .shl .u32 1 (IntKind.wrap .u64 s10)))=0)) (
     some (.inr (.inr ()))) (
     some (.inl (AA .add .i64 s10 1))))) (
   some (.inl (AA .add .i64 s10 1)))) (
  some (.inr (.inl ())))
def aTv(s1:Int)(s8:List Xc)(s9 s10:Int):Option (Unit⊕Unit):=AR (fun s:Int=>JN s1 s8 s9 s) s10
def Zb(a0:AD)(a1:Int):Option (Bool):=
 AH (aTv a1 a0.states (a0.states.length:Int) 0) fun o2=>
 Ba o2 (fun o3=>
  some false) (fun o4=>
  some true)
def Up(a0:Int)(a1:AD):Option (Bool):=
 AH (Zb a1 a0) fun r1=>
 some (!r1)
def IE(s0:List Int)(s1:AD)(s7 s8:Int):Option ((Int)⊕(Unit⊕Int)):=
 AE (decide (s8<s7)) (
  AS s0 s8 fun x1=>
  AH (Up x1 s1) fun r2=>
  AE (r2) (
   some (.inr (.inr s8))) (
   some (.inl (AA .add .i64 s8 1)))) (
  some (.inr (.inl ())))
def aRw(s0:List Int)(s1:AD)(s7 s8:Int):Option (Unit⊕Int):=AR (fun s:Int=>IE s0 s1 s7 s) s8
def Q0(a0:List Int)(a1:AD):Option (Int):=
 AH (aRw a0 a1 (a0.length:Int) 0) fun o3=>
 Ba o3 (fun o4=>
  some (-1)) (fun o5=>
  some o5)
def Ud(a0:List Int)(a1:AD):Option (Bool):=
 AH (Q0 a0 a1) fun r1=>
 some (decide (0<=r1))
def Uq(a0:Int)(a1:AD):Option (Bool):=
 AH (Zb a1 a0) fun r1=>
 some r1
def IF(s0:List Int)(s1:AD)(s7 s8:Int):Option ((Int)⊕(Unit⊕Int)):=
 AE (decide (s8<s7)) (
  AS s0 s8 fun x1=>
  AH (Uq x1 s1) fun r2=>
  AE (r2) (
   some (.inr (.inr s8))) (
   some (.inl (AA .add .i64 s8 1)))) (
  some (.inr (.inl ())))
def aRx(s0:List Int)(s1:AD)(s7 s8:Int):Option (Unit⊕Int):=AR (fun s:Int=>IF s0 s1 s7 s) s8
def Q3(a0:List Int)(a1:AD):Option (Int):=
 AH (aRx a0 a1 (a0.length:Int) 0) fun o3=>
 Ba o3 (fun o4=>
  some (-1)) (fun o5=>
  some o5)
def Ue(a0:List Int)(a1:AD):Option (Bool):=
 AH (Q3 a0 a1) fun r1=>
 some (decide (0<=r1))
def Uf(a0:AD)(a1:List Int):Option (Int):=
 AH (Ud a1 a0) fun r1=>
 AE (!r1) (
  some 1) (
  AH (Ue a1 a0) fun r2=>
  AE (!r2) (
   some 2) (
   some 0))
def Qf(a0:AD)(a1:List X2)(a2:Int):Option (Int):=
 AH (Qy a0 a1 a2) fun r1=>
 AH (Uf a0 r1) fun r2=>
 some r2
def Y9:Option (Bool):=
 AH (Q8 (AD.mk ([113]:List UInt8) ([]:List Xf) ([]:List Yg) ([]:List Yh) ([Xc.mk ([115]:List UInt8) false true,Xc.mk ([116]:List UInt8) true false]) 0 ([]:List X5) ([]:List Yp) ([]:List X6)) 0) fun r1=>
 AE (decide (r1=1)) (
  AH (Q8 (AD.mk ([113]:List UInt8) ([]:List Xf) ([]:List Yg) ([]:List Yh) ([Xc.mk ([115]:List UInt8) false true,Xc.mk ([116]:List UInt8) true false]) 0 ([]:List X5) ([]:List Yp) ([]:List X6)) 1) fun r2=>
  AE (decide (r2=2)) (
   AH (Xv (AD.mk ([113]:List UInt8) ([]:List Xf) ([]:List Yg) ([]:List Yh) ([Xc.mk ([115]:List UInt8) false true,Xc.mk ([116]:List UInt8) true false]) 0 ([]:List X5) ([]:List Yp) ([]:List X6)) ([]:List X3)) fun r3=>
   AE (decide (r3=2)) (
    AH (Qf (AD.mk ([113]:List UInt8) ([]:List Xf) ([]:List Yg) ([]:List Yh) ([Xc.mk ([115]:List UInt8) false true,Xc.mk ([116]:List UInt8) true false]) 0 ([]:List X5) ([]:List Yp) ([]:List X6)) ([]:List X2) 1) fun r4=>
    some (decide (r4=1))) (
    some false)) (
   some false)) (
  some false)
def FH(w1:AD)(s3:Int):Option ((Int)⊕(Unit⊕Unit)):=
 AE (decide (s3<(w1.trans.length:Int))) (
  AS w1.trans s3 fun x1=>
  AE (!decide (x1.guard=(-1))) (
   some (.inr (.inr ()))) (
   some (.inl (AA .add .i64 s3 1)))) (
  some (.inr (.inl ())))
def aAa(w1:AD)(s3:Int):Option (Unit⊕Unit):=AR (fun s:Int=>FH w1 s) s3
def Yv(a0:AD):Option (Bool):=
 AE (decide (0<(a0.frees.length:Int))) (
  some false) (
  AE (decide (1<(a0.quants.length:Int))) (
   some false) (
   AE (decide (8<(a0.states.length:Int))) (
    some false) (
    AE (decide (8<(a0.symbols.length:Int))) (
     some false) (
     AH (aAa a0 0) fun o2=>
     Ba o2 (fun o3=>
      some true) (fun o4=>
      some false)))))
def Ja(s0:List X2)(s3:Int):Option ((Int)⊕(Unit⊕Unit)):=
 AE (decide (s3<(s0.length:Int))) (
  AS s0 s3 fun x1=>
  AE (decide (x1.var<0)) (
   some (.inr (.inr ()))) (
   AS s0 s3 fun x2=>
   AE (decide (7<x2.var)) (
    some (.inr (.inr ()))) (
    AS s0 s3 fun x3=>
    AH (Z6 x3.value) fun r4=>
    AE (!r4) (
     some (.inr (.inr ()))) (
     AE (decide (0<s3)) (
      AS s0 s3 fun x5=>
      AS s0 (AA .sub .i64 s3 1) fun x6=>
      AE (decide (x5.var<=x6.var)) (
       some (.inr (.inr ()))) (
       some (.inl (AA .add .i64 s3 1)))) (
      some (.inl (AA .add .i64 s3 1))))))) (
  some (.inr (.inl ())))
def aT8(s0:List X2)(s3:Int):Option (Unit⊕Unit):=AR (fun s:Int=>Ja s0 s) s3
def Zs(a0:List X2):Option (Bool):=
 AH (aT8 a0 0) fun o7=>
 Ba o7 (fun o8=>
  some true) (fun o9=>
  some false)
def Qz(a0:AD)(a1:List X2):Option (Bool):=
 AE (decide ((a1.length:Int)=0)) (
  some true) (
  AE (decide ((a1.length:Int)=1)) (
   AE (decide ((a0.quants.length:Int)=1)) (
    AS a1 0 fun x1=>
    AE (decide (x1.var=0)) (
     AS a1 0 fun x2=>
     AS a0.quants 0 fun x3=>
     AE (decide (x2.value.kind=x3.type)) (
      AH (Zs a1) fun r4=>
      some r4) (
      some false)) (
     some false)) (
    some false)) (
   some false))
def Jb(s1:List X0)(w2:AD)(s5:Int):Option ((Int)⊕(Unit⊕Unit)):=
 AE (decide (s5<(s1.length:Int))) (
  AS s1 s5 fun x1=>
  AH (Z6 x1) fun r2=>
  AE (!r2) (
   some (.inr (.inr ()))) (
   AS s1 s5 fun x3=>
   AS w2.frees s5 fun x4=>
   AE (!decide (x3.kind=x4.init_.kind)) (
    some (.inr (.inr ()))) (
    some (.inl (AA .add .i64 s5 1))))) (
  some (.inr (.inl ())))
def aT9(s1:List X0)(w2:AD)(s5:Int):Option (Unit⊕Unit):=AR (fun s:Int=>Jb s1 w2 s) s5
def Zt(a0:AD)(a1:List X0):Option (Bool):=
 AE (!decide ((a1.length:Int)=(a0.frees.length:Int))) (
  some false) (
  AH (aT9 a1 a0 0) fun o5=>
  Ba o5 (fun o6=>
   some true) (fun o7=>
   some false))
def Ug(a0:AD)(a1:X3):Option (Bool):=
 AE (decide (0<=a1.state)) (
  AE (decide (a1.state<(a0.states.length:Int))) (
   AH (Zt a0 a1.vals) fun r1=>
   some r1) (
   some false)) (
  some false)
def Ll(s0:List Xf)(s5:Int)(w3:X4)(s6:Int):Option ((Int)⊕(Unit⊕Unit)):=
 AE (decide (s6<(w3.args.length:Int))) (
  AS w3.args s6 fun x3=>
  AS s0 s5 fun x4=>
  AS x4.types s6 fun x5=>
  AE (!decide (x3.kind=x5)) (
   some (.inr (.inr ()))) (
   AS w3.args s6 fun x6=>
   AH (Z6 x6) fun r7=>
   AE (!r7) (
    some (.inr (.inr ()))) (
    some (.inl (AA .add .i64 s6 1))))) (
  some (.inr (.inl ())))
def aT0(s0:List Xf)(s5:Int)(w3:X4)(s6:Int):Option (Unit⊕Unit):=AR (fun s:Int=>Ll s0 s5 w3 s) s6
def Zj(a0:List Xf)(a1:X4):Option (Bool):=
 AH (Z3 a0 a1.name) fun r1=>
 AE (decide (r1<0)) (
  some false) (
  AS a0 r1 fun x2=>
  AE (!decide ((x2.types.length:Int)=(a1.args.length:Int))) (
   some false) (
   AH (aT0 a0 r1 a1 0) fun o8=>
   Ba o8 (fun o9=>
    some true) (fun o10=>
    some false)))
def FD(w2 w3:X3)(s5:Int):Option ((Int)⊕(Unit⊕Bool)):=
 AE (decide (s5<(w2.vals.length:Int))) (
  AE (decide (s5<(w3.vals.length:Int))) (
   AS w2.vals s5 fun x1=>
   AS w3.vals s5 fun x2=>
   AE (!(X0.eqb x1 x2)) (
    AS w2.vals s5 fun x3=>
    AS w3.vals s5 fun x4=>
    AH (Q5 x3 x4) fun r5=>
    some (.inr (.inr r5))) (
    some (.inl (AA .add .i64 s5 1)))) (
   some (.inr (.inl ())))) (
  some (.inr (.inl ())))
def YR(w2 w3:X3)(s5:Int):Option (Unit⊕Bool):=AR (fun s:Int=>FD w2 w3 s) s5
theorem aLv(w2 w3:X3)(s5:Int):YR w2 w3 s5=B1 (FD w2 w3 s5) (fun s:Int=>YR w2 w3 s):=An _ _
def Yd(a0 a1:X3):Option (Bool):=
 AE (!decide (a0.state=a1.state)) (
  some (decide (a0.state<a1.state))) (
  AH (YR a0 a1 0) fun o6=>
  Ba o6 (fun o7=>
   some (decide ((a0.vals.length:Int)<(a1.vals.length:Int)))) (fun o8=>
   some o8))
def Qc(a0 a1:X3):Option (Bool):=
 AH (Yd a0 a1) fun r1=>
 AE (!r1) (
  AH (Yd a1 a0) fun r2=>
  some (!r2)) (
  some false)
def Eb(s0:List X3)(w3:X3)(s5:Int):Option ((Int)⊕(Int)):=
 AE (decide (0<s5)) (
  AS s0 (AA .sub .i64 s5 1) fun x1=>
  AH (Yd w3 x1) fun r2=>
  AE (r2) (
   some (.inl (AA .sub .i64 s5 1))) (
   some (.inr s5))) (
  some (.inr s5))
def Lf(s0:List X3)(w3:X3)(s5:Int):Option (Int):=AR (fun s:Int=>Eb s0 w3 s) s5
theorem Et(s0:List X3)(w3:X3)(s5:Int):Lf s0 w3 s5=B1 (Eb s0 w3 s5) (fun s:Int=>Lf s0 w3 s):=An _ _
def Y6(a0:List X3)(a1:X3):Option (List X3):=
 AH (Lf a0 a1 (a0.length:Int)) fun o3=>
 AE (decide (0<o3)) (
  AS a0 (AA .sub .i64 o3 1) fun x4=>
  AH (Qc x4 a1) fun r5=>
  AE (r5) (
   some a0) (
   AU ((0:Int)<=0/\(0:Int)<=o3/\o3<=(a0.length:Int)) (
    AU (fit ([]:List X3).length (sub a0 0 o3).length 32) (
     AU (fit (([]:List X3)++(sub a0 0 o3)).length [a1].length 32) (
      AU ((0:Int)<=o3/\(o3:Int)<=(a0.length:Int)/\(a0.length:Int)<=(a0.length:Int)) (
       AU (fit ((([]:List X3)++(sub a0 0 o3))++[a1]).length (sub a0 o3 (a0.length:Int)).length 32) (
        some (((([]:List X3)++(sub a0 0 o3))++[a1])++(sub a0 o3 (a0.length:Int)))))))))) (
  AU ((0:Int)<=0/\(0:Int)<=o3/\o3<=(a0.length:Int)) (
   AU (fit ([]:List X3).length (sub a0 0 o3).length 32) (
    AU (fit (([]:List X3)++(sub a0 0 o3)).length [a1].length 32) (
     AU ((0:Int)<=o3/\(o3:Int)<=(a0.length:Int)/\(a0.length:Int)<=(a0.length:Int)) (
      AU (fit ((([]:List X3)++(sub a0 0 o3))++[a1]).length (sub a0 o3 (a0.length:Int)).length 32) (
       some (((([]:List X3)++(sub a0 0 o3))++[a1])++(sub a0 o3 (a0.length:Int)))))))))
def JO(s0 s3:List X3)(s4:Int):Option ((List X3×Int)⊕((List X3))):=
 AE (decide (s4<(s0.length:Int))) (
  AS s0 s4 fun x3=>
  AH (Y6 s3 x3) fun r4=>
  some (.inl (r4,(AA .add .i64 s4 1)))) (
  some (.inr s3))
def aTw(s0 s3:List X3)(s4:Int):Option ((List X3)):=AR (fun s:List X3×Int=>JO s0 s.1 s.2) (s3,s4)
def Zc(a0:List X3):Option (List X3):=
 AH (aTw a0 ([]:List X3) 0) fun o5=>
 some o5
def Ur(a0:X6):Option (Bool):=
 some (decide (0<=a0.guard))
def Jc(s0:List X6)(s7 s8:Int):Option ((Int)⊕(Unit⊕Int)):=
 AE (decide (s8<s7)) (
  AS s0 s8 fun x1=>
  AH (Ur x1) fun r2=>
  AE (r2) (
   some (.inr (.inr s8))) (
   some (.inl (AA .add .i64 s8 1)))) (
  some (.inr (.inl ())))
def aOa(s0:List X6)(s7 s8:Int):Option (Unit⊕Int):=AR (fun s:Int=>Jc s0 s7 s) s8
def Zu(a0:List X6):Option (Int):=
 AH (aOa a0 (a0.length:Int) 0) fun o3=>
 Ba o3 (fun o4=>
  some (-1)) (fun o5=>
  some o5)
def Uh(a0:List X6):Option (Bool):=
 AH (Zu a0) fun r1=>
 some (decide (0<=r1))
def Us(a0:AD):Option (Bool):=
 AE (decide ((a0.frees.length:Int)=0)) (
  AH (Uh a0.trans) fun r1=>
  some (!r1)) (
  some false)
def Ui(a0:AD):Option (Bool):=
 AH (Us a0) fun r1=>
 AE (r1) (
  AE (decide ((a0.quants.length:Int)<=1)) (
   AE (decide ((a0.states.length:Int)<=8)) (
    some (decide ((a0.symbols.length:Int)<=8))) (
    some false)) (
   some false)) (
  some false)
def Jd(s6:List X3)(s7 s3 s8:Int):Option ((Int×Int)⊕(Int)):=
 AE (decide (s8<s7)) (
  AS s6 s8 fun x1=>
  AU (0<=(IntKind.wrap .u64 x1.state)) (
   some (.inl ((AA .or .u32 s3 (AA .shl .u32 1 (IntKind.wrap .u64 x1.state))),(AA .add .i64 s8 1))))) (
  some (.inr s3))
def aUa(s6:List X3)(s7 s3 s8:Int):Option (Int):=AR (fun s:Int×Int=>Jd s6 s7 s.1 s.2) (s3,s8)
def Zv(a0:List X3):Option (Int):=
 AH (aUa a0 (a0.length:Int) 0 0) fun o2=>
 some o2
def Qn(a0:AD)(a1:List X2)(a2:List X3):Option (Int):=
 AH (Ui a0) fun r1=>
 AE (r1) (
  AH (Zv a2) fun r2=>
  AH (Qf a0 a1 r2) fun r3=>
  some r3) (
  AH (Xv a0 a2) fun r4=>
  some r4)
def aKx(s6 s7:Int)(s37:Bool)(w2:AD)(w5:List Bool):Option ((List Bool)):=
 AE (s37) (
  AS w2.trans s7 fun x3=>
  AU (0<=x3.to/\x3.to+1<=(w5.length:Int)) (
   AU (0<=x3.to/\x3.to+1<=(w5.length:Int)) (
    some (w5.set x3.to.toNat true)))) (
  some w5)
def aKv(s6 s7:Int)(w2:AD)(w5:List Bool):Option ((List Bool)):=
 AS w2.trans s7 fun x1=>
 AU (0<=x1.from_/\x1.from_+1<=(w5.length:Int)) (
  AS w5 x1.from_ fun x2=>
  AH (aKx s6 s7 x2 w2 w5) fun o4=>
  some o4)
def I3(s6:Int)(w2:AD)(s7:Int)(w5:List Bool):Option ((Int×List Bool)⊕((List Bool))):=
 AE (decide (s7<(w2.trans.length:Int))) (
  AH (aKv s6 s7 w2 w5) fun o5=>
  some (.inl ((AA .add .i64 s7 1),o5))) (
  some (.inr w5))
def aS9(s6:Int)(w2:AD)(s7:Int)(w5:List Bool):Option ((List Bool)):=AR (fun s:Int×List Bool=>I3 s6 w2 s.1 s.2) (s7,w5)
def I2(w2:AD)(s6:Int)(w5:List Bool):Option ((Int×List Bool)⊕((List Bool))):=
 AE (decide (s6<(w2.states.length:Int))) (
  AH (aS9 s6 w2 0 w5) fun o6=>
  some (.inl ((AA .add .i64 s6 1),o6))) (
  some (.inr w5))
def aS8(w2:AD)(s6:Int)(w5:List Bool):Option ((List Bool)):=AR (fun s:Int×List Bool=>I2 w2 s.1 s.2) (s6,w5)
def Y4(a0:AD)(a1:Int):Option (List Bool):=
 AU (0<=(a0.states.length:Int)/\fit 0 (a0.states.length:Int).toNat 1) (
  AU (0<=a1/\a1+1<=((List.replicate (a0.states.length:Int).toNat false).length:Int)) (
   AU (0<=a1/\a1+1<=((List.replicate (a0.states.length:Int).toNat false).length:Int)) (
    AH (aS8 a0 0 ((List.replicate (a0.states.length:Int).toNat false).set a1.toNat true)) fun o7=>
    some o7)))
def W2(s5:List Bool)(s6 s7:Bool)(s8:Int)(s29:Bool)(w2:AD):Option (Bool):=
 AE (s29) (
  some false) (
  some s7)
def Le(s5:List Bool)(s6 s7:Bool)(s8:Int)(s50:Bool)(w2:AD):Option (Bool):=
 AE (s50) (
  some false) (
  some s6)
def aJ4(s5:List Bool)(s6 s7:Bool)(s8:Int)(w2:AD):Option ((Bool×Bool)):=
 AS s5 s8 fun x2=>
 AE (x2) (
  AS w2.states s8 fun x3=>
  AH (W2 s5 s6 s7 s8 x3.accept w2) fun o4=>
  AS s5 s8 fun x5=>
  AE (x5) (
   AS w2.states s8 fun x6=>
   AE (!x6.accept) (
    AH (Le s5 s6 o4 s8 true w2) fun o7=>
    some (o7,o4)) (
    AS w2.states s8 fun x8=>
    AH (Le s5 s6 o4 s8 x8.next w2) fun o9=>
    some (o9,o4))) (
   AH (Le s5 s6 o4 s8 false w2) fun o10=>
   some (o10,o4))) (
  AH (W2 s5 s6 s7 s8 false w2) fun o11=>
  AS s5 s8 fun x12=>
  AE (x12) (
   AS w2.states s8 fun x13=>
   AE (!x13.accept) (
    AH (Le s5 s6 o11 s8 true w2) fun o14=>
    some (o14,o11)) (
    AS w2.states s8 fun x15=>
    AH (Le s5 s6 o11 s8 x15.next w2) fun o16=>
    some (o16,o11))) (
   AH (Le s5 s6 o11 s8 false w2) fun o17=>
   some (o17,o11)))
def Iv(s5:List Bool)(w2:AD)(s6 s7:Bool)(s8:Int):Option ((Bool×Bool×Int)⊕((Bool×Bool))):=
 AE (decide (s8<(s5.length:Int))) (
  AH (aJ4 s5 s6 s7 s8 w2) fun o18=>
  some (.inl (o18.1,o18.2,(AA .add .i64 s8 1)))) (
  some (.inr (s6,s7)))
def aS1(s5:List Bool)(w2:AD)(s6 s7:Bool)(s8:Int):Option ((Bool×Bool)):=AR (fun s:Bool×Bool×Int=>Iv s5 w2 s.1 s.2.1 s.2.2) (s6,s7,s8)
def Xw(a0:AD)(a1:Int):Option (Int):=
 AH (Y4 a0 a1) fun r1=>
 AH (aS1 r1 a0 true true 0) fun o19=>
 AE (o19.1) (
  some 1) (
  AE (o19.2) (
   some 2) (
   some 0))
def HM(s1:List X3)(w2:AD)(s5:Bool)(s6:Int):Option ((Bool×Int)⊕(Bool⊕Unit)):=
 AE (decide (s6<(s1.length:Int))) (
  AS s1 s6 fun x1=>
  AH (Xw w2 x1.state) fun r2=>
  AE (decide (r2=1)) (
   some (.inr (.inr ()))) (
   AE (s5) (
    some (.inl (decide (r2=2),(AA .add .i64 s6 1)))) (
    some (.inl (false,(AA .add .i64 s6 1)))))) (
  some (.inr (.inl s5)))
def aTq(s1:List X3)(w2:AD)(s5:Bool)(s6:Int):Option (Bool⊕Unit):=AR (fun s:Bool×Int=>HM s1 w2 s.1 s.2) (s5,s6)
def Z0(a0:AD)(a1:List X3):Option (Int):=
 AH (aTq a1 a0 true 0) fun o3=>
 Ba o3 (fun o4=>
  AE (o4) (
   some 2) (
   some 0)) (fun o5=>
  some 1)
def JG(s0:List X3)(s3 s4:Int):Option ((Int×Int)⊕(Int)):=
 AE (decide (s4<(s0.length:Int))) (
  AS s0 s4 fun x1=>
  AU (0<=(IntKind.wrap .u64 x1.state)) (
   some (.inl ((AA .or .u32 s3 (AA .shl .u32 1 (IntKind.wrap .u64 x1.state))),(AA .add .i64 s4 1))))) (
  some (.inr s3))
def aTp(s0:List X3)(s3 s4:Int):Option (Int):=AR (fun s:Int×Int=>JG s0 s.1 s.2) (s3,s4)
def Yw(a0:List X3):Option (Int):=
 AH (aTp a0 0 0) fun o2=>
 some o2
def JD(s0:List X0)(w3:X0)(s5:Int):Option ((Int)⊕(Int)):=
 AE (decide (0<s5)) (
  AS s0 (AA .sub .i64 s5 1) fun x1=>
  AH (Q5 w3 x1) fun r2=>
  AE (r2) (
   some (.inl (AA .sub .i64 s5 1))) (
   some (.inr s5))) (
  some (.inr s5))
def aTj(s0:List X0)(w3:X0)(s5:Int):Option (Int):=AR (fun s:Int=>JD s0 w3 s) s5
def Yq(a0:List X0)(a1:X0):Option (List X0):=
 AH (aTj a0 a1 (a0.length:Int)) fun o3=>
 AE (decide (0<o3)) (
  AS a0 (AA .sub .i64 o3 1) fun x4=>
  AE ((X0.eqb x4 a1)) (
   some a0) (
   AU ((0:Int)<=0/\(0:Int)<=o3/\o3<=(a0.length:Int)) (
    AU (fit ([]:List X0).length (sub a0 0 o3).length 40) (
     AU (fit (([]:List X0)++(sub a0 0 o3)).length [a1].length 40) (
      AU ((0:Int)<=o3/\(o3:Int)<=(a0.length:Int)/\(a0.length:Int)<=(a0.length:Int)) (
       AU (fit ((([]:List X0)++(sub a0 0 o3))++[a1]).length (sub a0 o3 (a0.length:Int)).length 40) (
        some (((([]:List X0)++(sub a0 0 o3))++[a1])++(sub a0 o3 (a0.length:Int)))))))))) (
  AU ((0:Int)<=0/\(0:Int)<=o3/\o3<=(a0.length:Int)) (
   AU (fit ([]:List X0).length (sub a0 0 o3).length 40) (
    AU (fit (([]:List X0)++(sub a0 0 o3)).length [a1].length 40) (
     AU ((0:Int)<=o3/\(o3:Int)<=(a0.length:Int)/\(a0.length:Int)<=(a0.length:Int)) (
      AU (fit ((([]:List X0)++(sub a0 0 o3))++[a1]).length (sub a0 o3 (a0.length:Int)).length 40) (
       some (((([]:List X0)++(sub a0 0 o3))++[a1])++(sub a0 o3 (a0.length:Int)))))))))
def WF(s1:Int)(s10:Bool)(w2:AD):Option ((List X0)):=
 AE (s10) (
  some ([X0.mk 3 0 ([]:List UInt8) false,X0.mk 3 0 ([]:List UInt8) true])) (
  some ([]:List X0))
def WG(s1:Int)(s5:List X0)(s6 s7:Int)(s50:Bool)(w2:AD)(w8:CN):Option ((List X0)):=
 AE (s50) (
  AH (Yq s5 w8.value) fun r12=>
  some r12) (
  some s5)
def aIu(s1:Int)(s5:List X0)(s6 s7:Int)(w2:AD):Option ((List X0)):=
 AS w2.symbols s6 fun x10=>
 AS x10.args s7 fun x11=>
 AE (decide (x11.kind=1)) (
  AH (WG s1 s5 s6 s7 (decide (x11.value.kind=s1)) w2 x11) fun o13=>
  some o13) (
  AH (WG s1 s5 s6 s7 false w2 x11) fun o14=>
  some o14)
def In(s1 s6:Int)(w2:AD)(s5:List X0)(s7:Int):Option ((List X0×Int)⊕((List X0))):=
 AS w2.symbols s6 fun x17=>
 AE (decide (s7<(x17.args.length:Int))) (
  AH (aIu s1 s5 s6 s7 w2) fun o18=>
  some (.inl (o18,(AA .add .i64 s7 1)))) (
  some (.inr s5))
def aIx(s1 s6:Int)(w2:AD)(s5:List X0)(s7:Int):Option ((List X0)):=AR (fun s:List X0×Int=>In s1 s6 w2 s.1 s.2) (s5,s7)
def Im(s1:Int)(w2:AD)(s5:List X0)(s6:Int):Option ((List X0×Int)⊕((List X0))):=
 AE (decide (s6<(w2.symbols.length:Int))) (
  AH (aIx s1 s6 w2 s5 0) fun o19=>
  some (.inl (o19,(AA .add .i64 s6 1)))) (
  some (.inr s5))
def aSo(s1:Int)(w2:AD)(s5:List X0)(s6:Int):Option ((List X0)):=AR (fun s:List X0×Int=>Im s1 w2 s.1 s.2) (s5,s6)
def Xm(a0:AD)(a1:Int):Option (List X0):=
 AH (WF a1 (decide (a1=3)) a0) fun o1=>
 AH (aSo a1 a0 o1 0) fun o20=>
 some o20
def aTm(s0:List X0)(s1:Int)(s5:List X0)(s6:Int)(s19:Bool):Option ((List X0)):=
 AE (s19) (
  AS s0 s6 fun x7=>
  AH (Yq s5 x7) fun r8=>
  some r8) (
  some s5)
def aTl(s0:List X0)(s1:Int)(s5:List X0)(s6:Int):Option ((List X0)):=
 AS s0 s6 fun x6=>
 AH (aTm s0 s1 s5 s6 (decide (x6.kind=s1))) fun o9=>
 some o9
def Li(s0:List X0)(s1:Int)(s5:List X0)(s6:Int):Option ((List X0×Int)⊕((List X0))):=
 AE (decide (s6<(s0.length:Int))) (
  AH (aTl s0 s1 s5 s6) fun o10=>
  some (.inl (o10,(AA .add .i64 s6 1)))) (
  some (.inr s5))
def aMx(s0:List X0)(s1:Int)(s5:List X0)(s6:Int):Option ((List X0)):=AR (fun s:List X0×Int=>Li s0 s1 s.1 s.2) (s5,s6)
theorem aMy(s0:List X0)(s1:Int)(s5:List X0)(s6:Int):aMx s0 s1 s5 s6=B1 (Li s0 s1 s5 s6) (fun s:List X0×Int=>aMx s0 s1 s.1 s.2):=An _ _
def Ys(a0:List X0)(a1:Int):Option (List X0):=
 AH (aMx a0 a1 ([]:List X0) 0) fun o11=>
 some o11
def Lk(s1 s5:List X0)(s6:Int):Option ((List X0×Int)⊕((List X0))):=
 AE (decide (s6<(s1.length:Int))) (
  AS s1 s6 fun x1=>
  AH (Yq s5 x1) fun r2=>
  some (.inl (r2,(AA .add .i64 s6 1)))) (
  some (.inr s5))
def aNq(s1 s5:List X0)(s6:Int):Option ((List X0)):=AR (fun s:List X0×Int=>Lk s1 s.1 s.2) (s5,s6)
theorem aNr(s1 s5:List X0)(s6:Int):aNq s1 s5 s6=B1 (Lk s1 s5 s6) (fun s:List X0×Int=>aNq s1 s.1 s.2):=An _ _
def Zd(a0 a1:List X0):Option (List X0):=
 AH (aNq a1 a0 0) fun o3=>
 some o3
def U6(a0:List X0)(a1:X0):Option (Bool):=
 AH (Yq a0 a1) fun r1=>
 some (decide ((r1.length:Int)=(a0.length:Int)))
def aLz(s0:Int)(s1:List X0)(s12:Bool)(w4 w5:X0):Option (X0):=
 AE (s12) (
  some (X0.mk w5.kind (AA .add .i64 w5.int 1) w5.str w5.bool)) (
  AU (w5.str.length+([97]:List UInt8).length<=9223372036854775807) (
   some (X0.mk w5.kind w5.int (w5.str++([97]:List UInt8)) w5.bool)))
def YU(s0:Int)(s1:List X0)(w4 w5:X0):Option (X0):=
 AH (aLz s0 s1 (decide (s0=1)) w4 w5) fun o2=>
 some o2
def I8(s0:Int)(s1:List X0)(w4 w5:X0):Option ((X0)⊕(X0)):=
 AH (U6 s1 w5) fun r1=>
 AE (r1) (
  AH (YU s0 s1 w4 w5) fun o3=>
  some (.inl o3)) (
  some (.inr w5))
def YV(s0:Int)(s1:List X0)(w4 w5:X0):Option (X0):=AR (fun s:X0=>I8 s0 s1 w4 s) w5
theorem QI(s0:Int)(s1:List X0)(w4 w5:X0):YV s0 s1 w4 w5=B1 (I8 s0 s1 w4 w5) (fun s:X0=>YV s0 s1 w4 s):=An _ _
def Ye(a0:Int)(a1:List X0):Option (X0):=
 AH (YV a0 a1 (X0.mk 0 0 ([]:List UInt8) false) (X0.mk a0 0 ([]:List UInt8) false)) fun o4=>
 some o4
def aMa(s1:Int)(s2:List X2)(s3 s9:List X0)(s10:Int)(s27:Bool):Option ((List X0)):=
 AE (s27) (
  AS s2 s10 fun x3=>
  AH (Yq s9 x3.value) fun r4=>
  some r4) (
  some s9)
def aL8(s1:Int)(s2:List X2)(s3 s9:List X0)(s10:Int):Option ((List X0)):=
 AS s2 s10 fun x2=>
 AH (aMa s1 s2 s3 s9 s10 (decide (x2.value.kind=s1))) fun o5=>
 some o5
def JA(s1:Int)(s2:List X2)(s3 s9:List X0)(s10:Int):Option ((List X0×Int)⊕((List X0))):=
 AE (decide (s10<(s2.length:Int))) (
  AH (aL8 s1 s2 s3 s9 s10) fun o6=>
  some (.inl (o6,(AA .add .i64 s10 1)))) (
  some (.inr s9))
def aMc(s1:Int)(s2:List X2)(s3 s9:List X0)(s10:Int):Option ((List X0)):=AR (fun s:List X0×Int=>JA s1 s2 s3 s.1 s.2) (s9,s10)
def Yk(a0:AD)(a1:Int)(a2:List X2)(a3:List X0):Option (List X0):=
 AH (Xm a0 a1) fun r1=>
 AH (aMc a1 a2 a3 r1 0) fun o7=>
 AE (decide (a1=3)) (
  some o7) (
  AH (Ys a3 a1) fun r8=>
  AH (Zd o7 r8) fun r9=>
  AH (Ye a1 r9) fun r10=>
  AH (Yq o7 r10) fun r11=>
  some r11)
def I9(self:AD->Int->(List X2)->(List X0)->(List X0)->Option (List X4))(s1:Int)(s2:List X2)(s3 s4 s12:List X0)(w5:AD)(s13:Int)(w11:List X4):Option ((Int×List X4)⊕((List X4))):=
 AE (decide (s13<(s12.length:Int))) (
  AU (fit ([]:List X0).length s4.length 40) (
   AS s12 s13 fun x8=>
   AU (fit (([]:List X0)++s4).length [x8].length 40) (
    AH (self w5 s1 s2 s3 ((([]:List X0)++s4)++[x8])) fun r9=>
    AU (fit w11.length r9.length 40) (
     some (.inl ((AA .add .i64 s13 1),w11++r9)))))) (
  some (.inr w11))
def aTf(self:AD->Int->(List X2)->(List X0)->(List X0)->Option (List X4))(s1:Int)(s2:List X2)(s3 s4 s12:List X0)(w5:AD)(s13:Int)(w11:List X4):Option ((List X4)):=AR (fun s:Int×List X4=>I9 self s1 s2 s3 s4 s12 w5 s.1 s.2) (s13,w11)
def aXz(self:AD->Int->(List X2)->(List X0)->(List X0)->Option (List X4))(a0:AD)(a1:Int)(a2:List X2)(a3 a4:List X0):Option (List X4):=
 AS a0.decls a1 fun x1=>
 AE (decide ((a4.length:Int)=(x1.types.length:Int))) (
  AS a0.decls a1 fun x2=>
  some [X4.mk x2.name a4]) (
  AS a0.decls a1 fun x3=>
  AS x3.types (a4.length:Int) fun x4=>
  AH (Yk a0 x4 a2 a3) fun r5=>
  AH (aTf self a1 a2 a3 a4 r5 a0 0 ([]:List X4)) fun o10=>
  some o10)
def aQk:Nat->AD->Int->(List X2)->(List X0)->(List X0)->Option (List X4)
 |0=>fun _ _ _ _ _=>none
 |n+1=>fun a0 a1 a2 a3 a4=>aXz (aQk n) a0 a1 a2 a3 a4
def Yi(a0:AD)(a1:Int)(a2:List X2)(a3 a4:List X0):Option (List X4):=aQk 100000 a0 a1 a2 a3 a4
def Lh(s0:List X2)(s1:Int)(w4:X0)(s6:Int):Option ((Int)⊕(Unit⊕X0)):=
 AE (decide (s6<(s0.length:Int))) (
  AS s0 s6 fun x1=>
  AE (decide (x1.var=s1)) (
   AS s0 s6 fun x2=>
   some (.inr (.inr x2.value))) (
   some (.inl (AA .add .i64 s6 1)))) (
  some (.inr (.inl ())))
def aTh(s0:List X2)(s1:Int)(w4:X0)(s6:Int):Option (Unit⊕X0):=AR (fun s:Int=>Lh s0 s1 w4 s) s6
def Ym(a0:List X2)(a1:Int):Option (X0×Bool):=
 AH (aTh a0 a1 (X0.mk 0 0 ([]:List UInt8) false) 0) fun o3=>
 Ba o3 (fun o4=>
  some (X0.mk 0 0 ([]:List UInt8) false,false)) (fun o5=>
  some (o5,true))
def Lm(s0 s1:List X2)(s5:Int):Option ((Int)⊕(Unit⊕Unit)):=
 AE (decide (s5<(s0.length:Int))) (
  AS s0 s5 fun x1=>
  AH (Ym s1 x1.var) fun r2=>
  AE (r2.2) (
   AS s0 s5 fun x3=>
   AE (!(X0.eqb r2.1 x3.value)) (
    some (.inr (.inr ()))) (
    some (.inl (AA .add .i64 s5 1)))) (
   some (.inl (AA .add .i64 s5 1)))) (
  some (.inr (.inl ())))
def aT1(s0 s1:List X2)(s5:Int):Option (Unit⊕Unit):=AR (fun s:Int=>Lm s0 s1 s) s5
def Zk(a0 a1:List X2):Option (Bool):=
 AH (aT1 a0 a1 0) fun o4=>
 Ba o4 (fun o5=>
  some true) (fun o6=>
  some false)
def aLi(s0 s1:List X2)(s6:Int)(s34:Bool)(w5:List X2)(w9:X0):Option ((List X2)):=
 AE (s34) (
  AU (fit w5.length [X2.mk s6 w9].length 48) (
   some (w5++[X2.mk s6 w9]))) (
  some w5)
def aLg(s0 s1:List X2)(s6:Int)(s10 s27:Bool)(w5:List X2)(w7 w9:X0):Option ((List X2)):=
 AE (s27) (
  AU (fit w5.length [X2.mk s6 w7].length 48) (
   some (w5++[X2.mk s6 w7]))) (
  AH (aLi s0 s1 s6 s10 w5 w9) fun o8=>
  some o8)
def aLe(s0 s1:List X2)(s6:Int)(w5:List X2):Option ((List X2)):=
 AH (Ym s0 s6) fun r6=>
 AH (Ym s1 s6) fun r7=>
 AH (aLg s0 s1 s6 r7.2 r6.2 w5 r6.1 r7.1) fun o9=>
 some o9
def I6(s0 s1:List X2)(s6:Int)(w5:List X2):Option ((Int×List X2)⊕((List X2))):=
 AE (decide (s6<8)) (
  AH (aLe s0 s1 s6 w5) fun o10=>
  some (.inl ((AA .add .i64 s6 1),o10))) (
  some (.inr w5))
def aTa(s0 s1:List X2)(s6:Int)(w5:List X2):Option ((List X2)):=AR (fun s:Int×List X2=>I6 s0 s1 s.1 s.2) (s6,w5)
def Ya(a0 a1:List X2):Option (List X2):=
 AH (aTa a0 a1 0 ([]:List X2)) fun o11=>
 some o11
def JP(s0:List X2)(w3:X2)(s5:Int):Option ((Int)⊕(Int)):=
 AE (decide (0<s5)) (
  AS s0 (AA .sub .i64 s5 1) fun x1=>
  AE (decide (w3.var<x1.var)) (
   some (.inl (AA .sub .i64 s5 1))) (
   some (.inr s5))) (
  some (.inr s5))
def aTx(s0:List X2)(w3:X2)(s5:Int):Option (Int):=AR (fun s:Int=>JP s0 w3 s) s5
def Ze(a0:List X2)(a1:X2):Option (List X2):=
 AH (aTx a0 a1 (a0.length:Int)) fun o2=>
 AU ((0:Int)<=0/\(0:Int)<=o2/\o2<=(a0.length:Int)) (
  AU (fit ([]:List X2).length (sub a0 0 o2).length 48) (
   AU (fit (([]:List X2)++(sub a0 0 o2)).length [a1].length 48) (
    AU ((0:Int)<=o2/\(o2:Int)<=(a0.length:Int)/\(a0.length:Int)<=(a0.length:Int)) (
     AU (fit ((([]:List X2)++(sub a0 0 o2))++[a1]).length (sub a0 o2 (a0.length:Int)).length 48) (
      some (((([]:List X2)++(sub a0 0 o2))++[a1])++(sub a0 o2 (a0.length:Int))))))))
def Wh(s1:Int)(s10 s11:List X2)(s12:Int)(s80:Bool)(w5:X4)(w6:Int)(w8:X5)(w9:Ad)(w13:CN)(w14:List X2):Option ((List X2)⊕Unit):=
 AE (s80) (
  AH (Zk s10 w14) fun r32=>
  AE (!r32) (
   some (.inr ())) (
   AH (Ya s10 w14) fun r33=>
   some (.inl r33))) (
  some (.inl s10))
def Wj(s1:Int)(s10 s11:List X2)(s12:Int)(s111:Bool)(w5:X4)(w6:Int)(w8:X5)(w9:Ad)(w14:List X2):Option ((List X2)):=
 AE (s111) (
  AS w14 0 fun x39=>
  AH (Ze s11 x39) fun r40=>
  some r40) (
  some s11)
def Wi(s1:Int)(s10 s11:List X2)(s12:Int)(s91:Bool)(w5:X4)(w6:Int)(w8:X5)(w9:Ad)(w13:CN)(w14:List X2):Option ((List X2)⊕Unit):=
 AE (s91) (
  AH (Ym s11 w13.n) fun r37=>
  AE (r37.2) (
   AS w5.args s12 fun x38=>
   AE (!(X0.eqb r37.1 x38)) (
    some (.inr ())) (
    AH (Wj s1 s10 s11 s12 (!r37.2) w5 w6 w8 w9 w14) fun o41=>
    some (.inl o41))) (
   AH (Wj s1 s10 s11 s12 (!r37.2) w5 w6 w8 w9 w14) fun o42=>
   some (.inl o42))) (
  some (.inl s11))
def aJk(s1:Int)(s10 s11:List X2)(s12:Int)(w5:X4)(w6:Int)(w8:X5)(w9:Ad):Option ((List X2×List X2)⊕Unit):=
 AS w8.args s12 fun x29=>
 AS w5.args s12 fun x30=>
 AE (decide (x29.kind=1)) (
  AS w5.args s12 fun x31=>
  AE (!(X0.eqb x29.value x31)) (
   some (.inr ())) (
   AH (Wh s1 s10 s11 s12 (decide (x29.kind=2)) w5 w6 w8 w9 x29 [X2.mk x29.n x30]) fun o34=>
   Ba o34 (fun o35=>
    AH (Wi s1 o35 s11 s12 (decide (x29.kind=3)) w5 w6 w8 w9 x29 [X2.mk x29.n x30]) fun o43=>
    Ba o43 (fun o44=>
     some (.inl (o35,o44))) (fun o45=>
     some (.inr ()))) (fun o36=>
    some (.inr ())))) (
  AH (Wh s1 s10 s11 s12 (decide (x29.kind=2)) w5 w6 w8 w9 x29 [X2.mk x29.n x30]) fun o46=>
  Ba o46 (fun o47=>
   AH (Wi s1 o47 s11 s12 (decide (x29.kind=3)) w5 w6 w8 w9 x29 [X2.mk x29.n x30]) fun o49=>
   Ba o49 (fun o50=>
    some (.inl (o47,o50))) (fun o51=>
    some (.inr ()))) (fun o48=>
   some (.inr ())))
def It(s1:Int)(w5:X4)(w6:Int)(w8:X5)(w9:Ad)(s10 s11:List X2)(s12:Int):Option ((List X2×List X2×Int)⊕((List X2×List X2)⊕Unit)):=
 AE (decide (s12<(w8.args.length:Int))) (
  AH (aJk s1 s10 s11 s12 w5 w6 w8 w9) fun o52=>
  Ba o52 (fun o53=>
   some (.inl (o53.1,o53.2,(AA .add .i64 s12 1)))) (fun o54=>
   some (.inr (.inr ())))) (
  some (.inr (.inl (s10,s11))))
def SG(s1:Int)(w5:X4)(w6:Int)(w8:X5)(w9:Ad)(s10 s11:List X2)(s12:Int):Option ((List X2×List X2)⊕Unit):=AR (fun s:List X2×List X2×Int=>It s1 w5 w6 w8 w9 s.1 s.2.1 s.2.2) (s10,s11,s12)
theorem P6(s1:Int)(w5:X4)(w6:Int)(w8:X5)(w9:Ad)(s10 s11:List X2)(s12:Int):SG s1 w5 w6 w8 w9 s10 s11 s12=B1 (It s1 w5 w6 w8 w9 s10 s11 s12) (fun s:List X2×List X2×Int=>SG s1 w5 w6 w8 w9 s.1 s.2.1 s.2.2):=An _ _
def Xs(a0:AD)(a1:Int)(a2:X4):Option (Ad×Bool):=
 AS a0.symbols a1 fun x1=>
 AS a0.decls x1.event fun x2=>
 AE (!decide (x2.name=a2.name)) (
  some (Ad.mk 0 ([]:List X2) ([]:List X2),false)) (
  AE (!decide ((x1.args.length:Int)=(a2.args.length:Int))) (
   some (Ad.mk 0 ([]:List X2) ([]:List X2),false)) (
   AH (SG a1 a2 0 x1 (Ad.mk 0 ([]:List X2) ([]:List X2)) ([]:List X2) ([]:List X2) 0) fun o55=>
   Ba o55 (fun o56=>
    some (Ad.mk a1 o56.1 o56.2,true)) (fun o57=>
    some ((Ad.mk 0 ([]:List X2) ([]:List X2)),false))))
def aLs(s6:Int)(s23:Bool)(w2:AD)(w3:X4)(w5:List Ad)(w7:Ad):Option ((List Ad)):=
 AE (s23) (
  AU (fit w5.length [w7].length 56) (
   some (w5++[w7]))) (
  some w5)
def aLq(s6:Int)(w2:AD)(w3:X4)(w5:List Ad):Option ((List Ad)):=
 AH (Xs w2 s6 w3) fun r4=>
 AH (aLs s6 r4.2 w2 w3 w5 r4.1) fun o5=>
 some o5
def I7(w2:AD)(w3:X4)(s6:Int)(w5:List Ad):Option ((Int×List Ad)⊕((List Ad))):=
 AE (decide (s6<(w2.symbols.length:Int))) (
  AH (aLq s6 w2 w3 w5) fun o6=>
  some (.inl ((AA .add .i64 s6 1),o6))) (
  some (.inr w5))
def aTb(w2:AD)(w3:X4)(s6:Int)(w5:List Ad):Option ((List Ad)):=AR (fun s:Int×List Ad=>I7 w2 w3 s.1 s.2) (s6,w5)
def Yc(a0:AD)(a1:X4):Option (List Ad):=
 AH (aTb a0 a1 0 ([]:List Ad)) fun o7=>
 some o7
def Ln(s0 s1:List X2)(s5:Int):Option ((Int)⊕(Unit⊕Unit)):=
 AE (decide (s5<(s0.length:Int))) (
  AS s0 s5 fun x1=>
  AH (Ym s1 x1.var) fun r2=>
  AE (!r2.2) (
   some (.inr (.inr ()))) (
   AS s0 s5 fun x3=>
   AE (!(X0.eqb r2.1 x3.value)) (
    some (.inr (.inr ()))) (
    some (.inl (AA .add .i64 s5 1))))) (
  some (.inr (.inl ())))
def aT2(s0 s1:List X2)(s5:Int):Option (Unit⊕Unit):=AR (fun s:Int=>Ln s0 s1 s) s5
def Zl(a0 a1:List X2):Option (Bool):=
 AH (aT2 a0 a1 0) fun o4=>
 Ba o4 (fun o5=>
  some true) (fun o6=>
  some false)
def aL4(s0:List Ad)(s1:List X2)(s6:Int)(s19:Bool)(w5:List Ad):Option ((List Ad)):=
 AE (s19) (
  AS s0 s6 fun x8=>
  AU (fit w5.length [x8].length 56) (
   some (w5++[x8]))) (
  some w5)
def aL2(s0:List Ad)(s1:List X2)(s6:Int)(w5:List Ad):Option ((List Ad)):=
 AS s0 s6 fun x6=>
 AH (Zl x6.bind s1) fun r7=>
 AH (aL4 s0 s1 s6 r7 w5) fun o9=>
 some o9
def Lg(s0:List Ad)(s1:List X2)(s6:Int)(w5:List Ad):Option ((Int×List Ad)⊕((List Ad))):=
 AE (decide (s6<(s0.length:Int))) (
  AH (aL2 s0 s1 s6 w5) fun o10=>
  some (.inl ((AA .add .i64 s6 1),o10))) (
  some (.inr w5))
def aTd(s0:List Ad)(s1:List X2)(s6:Int)(w5:List Ad):Option ((List Ad)):=AR (fun s:Int×List Ad=>Lg s0 s1 s.1 s.2) (s6,w5)
def Yf(a0:List Ad)(a1:List X2):Option (List Ad):=
 AH (aTd a0 a1 0 ([]:List Ad)) fun o11=>
 some o11
def JQ(s0:List Ad)(s3 s4:Int):Option ((Int×Int)⊕(Int)):=
 AE (decide (s4<(s0.length:Int))) (
  AS s0 s4 fun x1=>
  AU (0<=(IntKind.wrap .u64 x1.symbol)) (
   some (.inl ((AA .add .u64 s3 (AA .shl .u64 1 (IntKind.wrap .u64 x1.symbol))),(AA .add .i64 s4 1))))) (
  some (.inr s3))
def aTy(s0:List Ad)(s3 s4:Int):Option (Int):=AR (fun s:Int×Int=>JQ s0 s.1 s.2) (s3,s4)
def Zf(a0:List Ad):Option (Int):=
 AH (aTy a0 0 0) fun o2=>
 some o2
def JJ(s0:List Int)(s1 s5:Int):Option ((Int)⊕(Int)):=
 AE (decide (0<s5)) (
  AS s0 (AA .sub .i64 s5 1) fun x1=>
  AE (decide (s1<x1)) (
   some (.inl (AA .sub .i64 s5 1))) (
   some (.inr s5))) (
  some (.inr s5))
def aAr(s0:List Int)(s1 s5:Int):Option (Int):=AR (fun s:Int=>JJ s0 s1 s) s5
theorem QL(s0:List Int)(s1 s5:Int):aAr s0 s1 s5=B1 (JJ s0 s1 s5) (fun s:Int=>aAr s0 s1 s):=An _ _
def Z2(a0:List Int)(a1:Int):Option (List Int):=
 AH (aAr a0 a1 (a0.length:Int)) fun o2=>
 AE (decide (0<o2)) (
  AS a0 (AA .sub .i64 o2 1) fun x3=>
  AE (decide (x3=a1)) (
   some a0) (
   AU ((0:Int)<=0/\(0:Int)<=o2/\o2<=(a0.length:Int)) (
    AU (fit ([]:List Int).length (sub a0 0 o2).length 8) (
     AU (fit (([]:List Int)++(sub a0 0 o2)).length [a1].length 8) (
      AU ((0:Int)<=o2/\(o2:Int)<=(a0.length:Int)/\(a0.length:Int)<=(a0.length:Int)) (
       AU (fit ((([]:List Int)++(sub a0 0 o2))++[a1]).length (sub a0 o2 (a0.length:Int)).length 8) (
        some (((([]:List Int)++(sub a0 0 o2))++[a1])++(sub a0 o2 (a0.length:Int)))))))))) (
  AU ((0:Int)<=0/\(0:Int)<=o2/\o2<=(a0.length:Int)) (
   AU (fit ([]:List Int).length (sub a0 0 o2).length 8) (
    AU (fit (([]:List Int)++(sub a0 0 o2)).length [a1].length 8) (
     AU ((0:Int)<=o2/\(o2:Int)<=(a0.length:Int)/\(a0.length:Int)<=(a0.length:Int)) (
      AU (fit ((([]:List Int)++(sub a0 0 o2))++[a1]).length (sub a0 o2 (a0.length:Int)).length 8) (
       some (((([]:List Int)++(sub a0 0 o2))++[a1])++(sub a0 o2 (a0.length:Int)))))))))
def SE(s1:List X2)(s5:List Int)(s6:Int)(s7:List X4)(s8 s9:Int)(s37:Bool)(w2:AD):Option ((List Int)):=
 AE (s37) (
  AH (Z2 s5 s9) fun r13=>
  some r13) (
  some s5)
def aJd(s1:List X2)(s5:List Int)(s6:Int)(s7:List X4)(s8:Int)(w2:AD):Option ((List Int)):=
 AS s7 s8 fun x9=>
 AH (Yc w2 x9) fun r10=>
 AH (Yf r10 s1) fun r11=>
 AH (Zf r11) fun r12=>
 AH (SE s1 s5 s6 s7 s8 r12 (!decide (r12=0)) w2) fun o14=>
 some o14
def HD(s1:List X2)(s6:Int)(s7:List X4)(w2:AD)(s5:List Int)(s8:Int):Option ((List Int×Int)⊕((List Int))):=
 AE (decide (s8<(s7.length:Int))) (
  AH (aJd s1 s5 s6 s7 s8 w2) fun o18=>
  some (.inl (o18,(AA .add .i64 s8 1)))) (
  some (.inr s5))
def aSv(s1:List X2)(s6:Int)(s7:List X4)(w2:AD)(s5:List Int)(s8:Int):Option ((List Int)):=AR (fun s:List Int×Int=>HD s1 s6 s7 w2 s.1 s.2) (s5,s8)
def Is(s1:List X2)(w2:AD)(s5:List Int)(s6:Int):Option ((List Int×Int)⊕((List Int))):=
 AE (decide (s6<(w2.decls.length:Int))) (
  AH (Yi w2 s6 s1 ([]:List X0) ([]:List X0)) fun r17=>
  AH (aSv s1 s6 r17 w2 s5 0) fun o19=>
  some (.inl (o19,(AA .add .i64 s6 1)))) (
  some (.inr s5))
def aSu(s1:List X2)(w2:AD)(s5:List Int)(s6:Int):Option ((List Int)):=AR (fun s:List Int×Int=>Is s1 w2 s.1 s.2) (s5,s6)
def Xq(a0:AD)(a1:List X2):Option (List Int):=
 AH (aSu a1 a0 ([]:List Int) 0) fun o20=>
 some o20
def Vn(s1 s2:Int)(s7 s8:Int)(s9 s10:Int)(s49:Bool)(w3:AD)(w11:X6):Option (Int):=
 AE (s49) (
  AU (0<=(IntKind.wrap .u64 w11.to)) (
   some (AA .or .u32 s9 (AA .shl .u32 1 (IntKind.wrap .u64 w11.to))))) (
  some s9)
def aH9(s1 s2:Int)(s7 s8:Int)(s9 s10:Int)(w3:AD):Option (Int):=
 AS w3.trans s10 fun x1=>
 AE (decide (x1.from_=s8)) (
  AU (0<=(IntKind.wrap .u64 x1.symbol)) (
   AH (Vn s1 s2 s7 s8 s9 s10 (decide ((AA .rem .u64 (AA .shr .u64 s2 (IntKind.wrap .u64 x1.symbol)) 2)=1)) w3 x1) fun o2=>
   some o2)) (
  AH (Vn s1 s2 s7 s8 s9 s10 false w3 x1) fun o3=>
  some o3)
def Ig(s1 s2:Int)(s7 s8:Int)(w3:AD)(s9 s10:Int):Option ((Int×Int)⊕(Int)):=
 AE (decide (s10<(w3.trans.length:Int))) (
  AH (aH9 s1 s2 s7 s8 s9 s10 w3) fun o4=>
  some (.inl (o4,(AA .add .i64 s10 1)))) (
  some (.inr s9))
def aIc(s1 s2:Int)(s7 s8:Int)(w3:AD)(s9 s10:Int):Option (Int):=AR (fun s:Int×Int=>Ig s1 s2 s7 s8 w3 s.1 s.2) (s9,s10)
def OV(s1 s2:Int)(s7 s8 s9:Int)(s66:Bool)(w3:AD):Option (Int):=
 AE (s66) (
  AU (0<=(IntKind.wrap .u64 s8)) (
   some (AA .shl .u32 1 (IntKind.wrap .u64 s8)))) (
  some s9)
def aH7(s1 s2:Int)(s7 s8:Int)(w3:AD):Option (Int):=
 AU (0<=(IntKind.wrap .u64 s8)) (
  AE (decide ((AA .rem .u32 (AA .shr .u32 s1 (IntKind.wrap .u64 s8)) 2)=0)) (
   some s7) (
   AH (aIc s1 s2 s7 s8 w3 0 0) fun o5=>
   AE (decide (o5=0)) (
    AS w3.states s8 fun x6=>
    AH (OV s1 s2 s7 s8 o5 (!x6.next) w3) fun o7=>
    some (AA .or .u32 s7 o7)) (
    AH (OV s1 s2 s7 s8 o5 false w3) fun o8=>
    some (AA .or .u32 s7 o8))))
def G6(s1 s2:Int)(w3:AD)(s7 s8:Int):Option ((Int×Int)⊕(Int)):=
 AE (decide (s8<(w3.states.length:Int))) (
  AH (aH7 s1 s2 s7 s8 w3) fun o9=>
  some (.inl (o9,(AA .add .i64 s8 1)))) (
  some (.inr s7))
def aSm(s1 s2:Int)(w3:AD)(s7 s8:Int):Option (Int):=AR (fun s:Int×Int=>G6 s1 s2 w3 s.1 s.2) (s7,s8)
def Xi(a0:AD)(a1 a2:Int):Option (Int):=
 AH (aSm a1 a2 a0 0 0) fun o10=>
 some o10
def JR(s0:List Int)(s1 s5:Int):Option ((Int)⊕(Unit⊕Unit)):=
 AE (decide (s5<(s0.length:Int))) (
  AS s0 s5 fun x1=>
  AE (decide (x1=s1)) (
   some (.inr (.inr ()))) (
   some (.inl (AA .add .i64 s5 1)))) (
  some (.inr (.inl ())))
def aTz(s0:List Int)(s1 s5:Int):Option (Unit⊕Unit):=AR (fun s:Int=>JR s0 s1 s) s5
def Zg(a0:List Int)(a1:Int):Option (Bool):=
 AH (aTz a0 a1 0) fun o2=>
 Ba o2 (fun o3=>
  some false) (fun o4=>
  some true)
def aKj(s7:List Int)(s9 s10 s11:Int)(s42:Bool)(w3:AD)(w8:List Int):Option ((List Int)):=
 AE (s42) (
  AU (fit w8.length [s11].length 4) (
   some (w8++[s11]))) (
  some w8)
def aKh(s7:List Int)(s9 s10:Int)(w3:AD)(w8:List Int):Option ((List Int)):=
 AS w8 s9 fun x2=>
 AS s7 s10 fun x3=>
 AH (Xi w3 x2 x3) fun r4=>
 AH (Zg w8 r4) fun r5=>
 AH (aKj s7 s9 s10 r4 (!r5) w3 w8) fun o6=>
 some o6
def Iz(s7:List Int)(s9:Int)(w3:AD)(s10:Int)(w8:List Int):Option ((Int×List Int)⊕((List Int))):=
 AE (decide (s10<(s7.length:Int))) (
  AH (aKh s7 s9 s10 w3 w8) fun o7=>
  some (.inl ((AA .add .i64 s10 1),o7))) (
  some (.inr w8))
def aS5(s7:List Int)(s9:Int)(w3:AD)(s10:Int)(w8:List Int):Option ((List Int)):=AR (fun s:Int×List Int=>Iz s7 s9 w3 s.1 s.2) (s10,w8)
def Iy(s7:List Int)(w3:AD)(s9:Int)(w8:List Int):Option ((Int×List Int)⊕((List Int))):=
 AE (decide (s9<(w8.length:Int))) (
  AH (aS5 s7 s9 w3 0 w8) fun o8=>
  some (.inl ((AA .add .i64 s9 1),o8))) (
  some (.inr w8))
def aS4(s7:List Int)(w3:AD)(s9:Int)(w8:List Int):Option ((List Int)):=AR (fun s:Int×List Int=>Iy s7 w3 s.1 s.2) (s9,w8)
def Y1(a0:AD)(a1:List X2)(a2:Int):Option (List Int):=
 AH (Xq a0 a1) fun r1=>
 AH (aS4 r1 a0 0 [a2]) fun o9=>
 some o9
def JL(s1:Int)(w2:AD)(s5:Int):Option ((Int)⊕(Unit⊕Unit)):=
 AE (decide (s5<(w2.states.length:Int))) (
  AU (0<=(IntKind.wrap .u64 s5)) (
   AE (decide ((AA .rem .u32 (AA .shr .u32 s1 (IntKind.wrap .u64 s5)) 2)=1)) (
    AS w2.states s5 fun x1=>
    AE (x1.accept) (
     some (.inr (.inr ()))) (
     some (.inl (AA .add .i64 s5 1)))) (
    some (.inl (AA .add .i64 s5 1))))) (
  some (.inr (.inl ())))
def aTt(s1:Int)(w2:AD)(s5:Int):Option (Unit⊕Unit):=AR (fun s:Int=>JL s1 w2 s) s5
def Z9(a0:AD)(a1:Int):Option (Bool):=
 AH (aTt a1 a0 0) fun o2=>
 Ba o2 (fun o3=>
  some false) (fun o4=>
  some true)
def aMk(s7:List Int)(s8 s9:Int)(s25:Bool)(w3:AD):Option (Int):=
 AE (s25) (
  some (AA .add .i64 s8 1)) (
  some s8)
def aMi(s7:List Int)(s8 s9:Int)(w3:AD):Option (Int):=
 AS s7 s9 fun x2=>
 AH (Z9 w3 x2) fun r3=>
 AH (aMk s7 s8 s9 r3 w3) fun o4=>
 some o4
def JC(s7:List Int)(w3:AD)(s8 s9:Int):Option ((Int×Int)⊕(Int)):=
 AE (decide (s9<(s7.length:Int))) (
  AH (aMi s7 s8 s9 w3) fun o5=>
  some (.inl (o5,(AA .add .i64 s9 1)))) (
  some (.inr s8))
def aTi(s7:List Int)(w3:AD)(s8 s9:Int):Option (Int):=AR (fun s:Int×Int=>JC s7 w3 s.1 s.2) (s8,s9)
def Yn(a0:AD)(a1:List X2)(a2:Int):Option (Int):=
 AH (Y1 a0 a1 a2) fun r1=>
 AH (aTi r1 a0 0 0) fun o6=>
 AE (decide (o6=(r1.length:Int))) (
  some 1) (
  AE (decide (o6=0)) (
   some 2) (
   some 0))
def aJt(s3:Bool)(s9:List Int)(s12 s13 s14:Int)(s58:Bool)(w4:AD)(w10 w11:List Int):Option ((List Int×List Int)):=
 AE (s58) (
  AU (fit w10.length [s14].length 4) (
   AS w11 s12 fun x9=>
   AU (fit w11.length [(AA .add .i64 x9 1)].length 8) (
    some (w10++[s14],w11++[(AA .add .i64 x9 1)])))) (
  some (w10,w11))
def aJr(s3:Bool)(s9:List Int)(s12 s13:Int)(w4:AD)(w10 w11:List Int):Option ((List Int×List Int)):=
 AS w10 s12 fun x5=>
 AS s9 s13 fun x6=>
 AH (Xi w4 x5 x6) fun r7=>
 AH (Zg w10 r7) fun r8=>
 AH (aJt s3 s9 s12 s13 r7 (!r8) w4 w10 w11) fun o10=>
 some (o10.1,o10.2)
def Iu(s3:Bool)(s9:List Int)(s12:Int)(w4:AD)(s13:Int)(w10 w11:List Int):Option ((Int×List Int×List Int)⊕((List Int×List Int))):=
 AE (decide (s13<(s9.length:Int))) (
  AH (aJr s3 s9 s12 s13 w4 w10 w11) fun o11=>
  some (.inl ((AA .add .i64 s13 1),o11.1,o11.2))) (
  some (.inr (w10,w11)))
def aSx(s3:Bool)(s9:List Int)(s12:Int)(w4:AD)(s13:Int)(w10 w11:List Int):Option ((List Int×List Int)):=AR (fun s:Int×List Int×List Int=>Iu s3 s9 s12 w4 s.1 s.2.1 s.2.2) (s13,w10,w11)
def HE(s3:Bool)(s9:List Int)(w4:AD)(s12:Int)(w10 w11:List Int):Option ((Int×List Int×List Int)⊕(Unit⊕Int)):=
 AE (decide (s12<(w10.length:Int))) (
  AS w10 s12 fun x2=>
  AH (Z9 w4 x2) fun r3=>
  AE ((r3==s3)) (
   AS w11 s12 fun x4=>
   some (.inr (.inr x4))) (
   AH (aSx s3 s9 s12 w4 0 w10 w11) fun o12=>
   some (.inl ((AA .add .i64 s12 1),o12.1,o12.2)))) (
  some (.inr (.inl ())))
def aSw(s3:Bool)(s9:List Int)(w4:AD)(s12:Int)(w10 w11:List Int):Option (Unit⊕Int):=AR (fun s:Int×List Int×List Int=>HE s3 s9 w4 s.1 s.2.1 s.2.2) (s12,w10,w11)
def Xu(a0:AD)(a1:List X2)(a2:Int)(a3:Bool):Option (Int):=
 AH (Xq a0 a1) fun r1=>
 AH (aSw a3 r1 a0 0 [a2] [0]) fun o13=>
 Ba o13 (fun o14=>
  some (-1)) (fun o15=>
  some o15)
def JU(s1:List X3)(w2:AD)(s5:Int):Option ((Int)⊕(Unit⊕Unit)):=
 AE (decide (s5<(s1.length:Int))) (
  AS s1 s5 fun x1=>
  AS w2.states x1.state fun x2=>
  AE (x2.accept) (
   some (.inr (.inr ()))) (
   some (.inl (AA .add .i64 s5 1)))) (
  some (.inr (.inl ())))
def aT3(s1:List X3)(w2:AD)(s5:Int):Option (Unit⊕Unit):=AR (fun s:Int=>JU s1 w2 s) s5
def Zm(a0:AD)(a1:List X3):Option (Bool):=
 AH (aT3 a1 a0 0) fun o3=>
 Ba o3 (fun o4=>
  some false) (fun o5=>
  some true)
def HN(s1:List X2)(s6:Int)(w5:List X0):Option ((Int×List X0)⊕((List X0))):=
 AE (decide (s6<(s1.length:Int))) (
  AS s1 s6 fun x1=>
  AS s1 s6 fun x2=>
  AU (0<=x1.var/\x1.var+1<=(w5.length:Int)) (
   AU (0<=x1.var/\x1.var+1<=(w5.length:Int)) (
    some (.inl ((AA .add .i64 s6 1),w5.set x1.var.toNat x2.value))))) (
  some (.inr w5))
def aNf(s1:List X2)(s6:Int)(w5:List X0):Option ((List X0)):=AR (fun s:Int×List X0=>HN s1 s.1 s.2) (s6,w5)
def Z4(a0:List X0)(a1:List X2):Option (List X0):=
 AU (fit ([]:List X0).length a0.length 40) (
  AH (aNf a1 0 a0) fun o3=>
  some o3)
def aYe(self:AD->Int->(List X2)->(List X0)->Option (X0×Int))(a0:AD)(a1:Int)(a2:List X2)(a3:List X0):Option (X0×Int):=
 AS a0.nodes a1 fun x1=>
 AE (decide (x1.op=1)) (
  some (x1.value,0)) (
  AE (decide (x1.op=2)) (
   AH (Ym a2 x1.a) fun r2=>
   AE (!r2.2) (
    some (X0.mk 0 0 ([]:List UInt8) false,9)) (
    AS a0.quants x1.a fun x3=>
    AE (!decide (r2.1.kind=x3.type)) (
     some (X0.mk 0 0 ([]:List UInt8) false,9)) (
     some (r2.1,0)))) (
   AE (decide (x1.op=3)) (
    AS a3 x1.a fun x4=>
    some (x4,0)) (
    AH (self a0 x1.a a2 a3) fun r5=>
    AE (!decide (r5.2=0)) (
     some (X0.mk 0 0 ([]:List UInt8) false,r5.2)) (
     AE (decide (x1.op<=5)) (
      AH (Q7 x1.op r5.1 (X0.mk 0 0 ([]:List UInt8) false)) fun r6=>
      some (r6.1,r6.2)) (
      AE (decide (x1.op=6)) (
       AE (!r5.1.bool) (
        some (r5.1,0)) (
        AE (decide (x1.op=7)) (
         AE (r5.1.bool) (
          some (r5.1,0)) (
          AH (self a0 x1.b a2 a3) fun r7=>
          AE (!decide (r7.2=0)) (
           some (X0.mk 0 0 ([]:List UInt8) false,r7.2)) (
           AH (Q7 x1.op r5.1 r7.1) fun r8=>
           some (r8.1,r8.2)))) (
         AH (self a0 x1.b a2 a3) fun r9=>
         AE (!decide (r9.2=0)) (
          some (X0.mk 0 0 ([]:List UInt8) false,r9.2)) (
          AH (Q7 x1.op r5.1 r9.1) fun r10=>
          some (r10.1,r10.2))))) (
       AE (decide (x1.op=7)) (
        AE (r5.1.bool) (
         some (r5.1,0)) (
         AH (self a0 x1.b a2 a3) fun r11=>
         AE (!decide (r11.2=0)) (
          some (X0.mk 0 0 ([]:List UInt8) false,r11.2)) (
          AH (Q7 x1.op r5.1 r11.1) fun r12=>
          some (r12.1,r12.2)))) (
        AH (self a0 x1.b a2 a3) fun r13=>
        AE (!decide (r13.2=0)) (
         some (X0.mk 0 0 ([]:List UInt8) false,r13.2)) (
         AH (Q7 x1.op r5.1 r13.1) fun r14=>
         some (r14.1,r14.2)))))))))
def aWb:Nat->AD->Int->(List X2)->(List X0)->Option (X0×Int)
 |0=>fun _ _ _ _=>none
 |n+1=>fun a0 a1 a2 a3=>aYe (aWb n) a0 a1 a2 a3
def Zw(a0:AD)(a1:Int)(a2:List X2)(a3:List X0):Option (X0×Int):=aWb 100000 a0 a1 a2 a3
def U0(a0:AD)(a1:Int)(a2:List X2)(a3:List X0):Option (Bool×Int):=
 AS a0.trans a1 fun x1=>
 AE (decide (x1.guard<0)) (
  some (true,0)) (
  AH (Zw a0 x1.guard a2 a3) fun r2=>
  some (r2.1.bool,r2.2))
def HO(s2:List X2)(s11:List Es)(w3:List X0)(w4:AD)(s12:Int)(w10:List X0):Option ((Int×List X0)⊕((List X0)⊕Int)):=
 AE (decide (s12<(s11.length:Int))) (
  AS s11 s12 fun x2=>
  AH (Zw w4 x2.expr s2 w3) fun r3=>
  AE (!decide (r3.2=0)) (
   some (.inr (.inr r3.2))) (
   AS s11 s12 fun x4=>
   AU (0<=x4.free/\x4.free+1<=(w10.length:Int)) (
    AU (0<=x4.free/\x4.free+1<=(w10.length:Int)) (
     some (.inl ((AA .add .i64 s12 1),w10.set x4.free.toNat r3.1)))))) (
  some (.inr (.inl w10)))
def aNh(s2:List X2)(s11:List Es)(w3:List X0)(w4:AD)(s12:Int)(w10:List X0):Option ((List X0)⊕Int):=AR (fun s:Int×List X0=>HO s2 s11 w3 w4 s.1 s.2) (s12,w10)
def Z5(a0:AD)(a1:Int)(a2:List X2)(w0:List X0):Option (List X0×Int):=
 AU (fit ([]:List X0).length w0.length 40) (
  AS a0.trans a1 fun x1=>
  AH (aNh a2 x1.sets w0 a0 0 w0) fun o5=>
  Ba o5 (fun o6=>
   some (o6,0)) (fun o7=>
   some (([]:List X0),o7)))
def U1(a0:AD)(a1:Int)(a2:X3)(a3:Ad):Option (X3×Bool×Int):=
 AH (Z4 a2.vals a3.frees) fun r1=>
 AH (U0 a0 a1 a3.bind r1) fun r2=>
 AE (!decide (r2.2=0)) (
  some (X3.mk 0 ([]:List X0),false,r2.2)) (
  AE (!r2.1) (
   some (X3.mk 0 ([]:List X0),false,r2.2)) (
   AH (Z5 a0 a1 a3.bind r1) fun r3=>
   AE (!decide (r3.2=0)) (
    some (X3.mk 0 ([]:List X0),false,r3.2)) (
    AS a0.trans a1 fun x4=>
    some (X3.mk x4.to r3.1,true,0))))
def Qt(a0 a1:Int):Option (Int):=
 AE (decide (a0=0)) (
  some a1) (
  AE (!decide (a1=0)) (
   AE (decide (a1<a0)) (
    some a1) (
    some a0)) (
   some a0))
def FF(w0:List X3)(w3:X3)(s5:Int):Option ((Int)⊕(Int)):=
 AE (decide (0<s5)) (
  AU (0<=(AA .sub .i64 s5 1)/\(AA .sub .i64 s5 1)+1<=(w0.length:Int)) (
   AS w0 (AA .sub .i64 s5 1) fun x1=>
   AH (Yd w3 x1) fun r2=>
   AE (r2) (
    some (.inl (AA .sub .i64 s5 1))) (
    some (.inr s5)))) (
  some (.inr s5))
def Mw(w0:List X3)(w3:X3)(s5:Int):Option (Int):=AR (fun s:Int=>FF w0 w3 s) s5
theorem GN(w0:List X3)(w3:X3)(s5:Int):Mw w0 w3 s5=B1 (FF w0 w3 s5) (fun s:Int=>Mw w0 w3 s):=An _ _
def Yo(a1:X3)(w0:List X3):Option (List X3):=
 AH (Mw w0 a1 (w0.length:Int)) fun o3=>
 AE (decide (0<o3)) (
  AU (0<=(AA .sub .i64 o3 1)/\(AA .sub .i64 o3 1)+1<=(w0.length:Int)) (
   AS w0 (AA .sub .i64 o3 1) fun x4=>
   AH (Qc x4 a1) fun r5=>
   AE (r5) (
    some w0) (
    AU ((0:Int)<=0/\(0:Int)<=o3/\o3<=(w0.length:Int)) (
     AU (fit ([]:List X3).length (sub w0 0 o3).length 32) (
      AU (fit (sub w0 0 o3).length [a1].length 32) (
       AU ((0:Int)<=o3/\(o3:Int)<=(w0.length:Int)/\(w0.length:Int)<=(w0.length:Int)) (
        AU (fit ((sub w0 0 o3)++[a1]).length (sub w0 o3 (w0.length:Int)).length 32) (
         some (((sub w0 0 o3)++[a1])++(sub w0 o3 (w0.length:Int))))))))))) (
  AU ((0:Int)<=0/\(0:Int)<=o3/\o3<=(w0.length:Int)) (
   AU (fit ([]:List X3).length (sub w0 0 o3).length 32) (
    AU (fit (sub w0 0 o3).length [a1].length 32) (
     AU ((0:Int)<=o3/\(o3:Int)<=(w0.length:Int)/\(w0.length:Int)<=(w0.length:Int)) (
      AU (fit ((sub w0 0 o3)++[a1]).length (sub w0 o3 (w0.length:Int)).length 32) (
       some (((sub w0 0 o3)++[a1])++(sub w0 o3 (w0.length:Int)))))))))
def Vc(s2:List Ad)(s9 s10 s11:Int)(s64:Bool)(w3:AD)(w4:X3)(w8:List X3)(w12:X3):Option ((List X3)):=
 AE (s64) (
  AH (Yo w12 w8) fun r7=>
  some r7) (
  some w8)
def Vb(s2:List Ad)(s9 s10 s11:Int)(w3:AD)(w4:X3)(w8:List X3):Option ((Int×List X3)):=
 AS s2 s11 fun x2=>
 AS w3.trans s10 fun x3=>
 AE (!decide (x2.symbol=x3.symbol)) (
  some (s9,w8)) (
  AS s2 s11 fun x4=>
  AH (U1 w3 s10 w4 x4) fun r5=>
  AH (Qt s9 r5.2.2) fun r6=>
  AH (Vc s2 r6 s10 s11 r5.2.1 w3 w4 w8 r5.1) fun o8=>
  some (r6,o8))
def E6(s2:List Ad)(s10:Int)(w3:AD)(w4:X3)(s9 s11:Int)(w8:List X3):Option ((Int×Int×List X3)⊕((Int×List X3))):=
 AE (decide (s11<(s2.length:Int))) (
  AH (Vb s2 s9 s10 s11 w3 w4 w8) fun o9=>
  some (.inl (o9.1,(AA .add .i64 s11 1),o9.2))) (
  some (.inr (s9,w8)))
def aH1(s2:List Ad)(s10:Int)(w3:AD)(w4:X3)(s9 s11:Int)(w8:List X3):Option ((Int×List X3)):=AR (fun s:Int×Int×List X3=>E6 s2 s10 w3 w4 s.1 s.2.1 s.2.2) (s9,s11,w8)
def Va(s2:List Ad)(s9 s10:Int)(w3:AD)(w4:X3)(w8:List X3):Option ((Int×List X3)):=
 AS w3.trans s10 fun x1=>
 AE (!decide (x1.from_=w4.state)) (
  some (s9,w8)) (
  AH (aH1 s2 s10 w3 w4 s9 0 w8) fun o10=>
  some (o10.1,o10.2))
def E5(s2:List Ad)(w3:AD)(w4:X3)(s9 s10:Int)(w8:List X3):Option ((Int×Int×List X3)⊕((Int×List X3))):=
 AE (decide (s10<(w3.trans.length:Int))) (
  AH (Va s2 s9 s10 w3 w4 w8) fun o11=>
  some (.inl (o11.1,(AA .add .i64 s10 1),o11.2))) (
  some (.inr (s9,w8)))
def aHz(s2:List Ad)(w3:AD)(w4:X3)(s9 s10:Int)(w8:List X3):Option ((Int×List X3)):=AR (fun s:Int×Int×List X3=>E5 s2 w3 w4 s.1 s.2.1 s.2.2) (s9,s10,w8)
def R8(s83:Bool)(w4:X3)(w8:List X3):Option ((List X3)):=
 AE (s83) (
  AU (fit w8.length [w4].length 32) (
   some (w8++[w4]))) (
  some w8)
def Xg(a0:AD)(a1:X3)(a2:List Ad):Option (List X3×Int):=
 AH (aHz a2 a0 a1 0 0 ([]:List X3)) fun o12=>
 AE (!decide (o12.1=0)) (
  some (([]:List X3),o12.1)) (
  AE (decide ((o12.2.length:Int)=0)) (
   AS a0.states a1.state fun x13=>
   AH (R8 (!x13.next) a1 o12.2) fun o14=>
   some (o14,0)) (
   AH (R8 false a1 o12.2) fun o15=>
   some (o15,0)))
def E8(s1:List X3)(s2:List Ad)(s9 s10:Int)(s11:List X3)(w3:AD)(s8:List X3)(s13:Int):Option ((List X3×Int)⊕((List X3))):=
 AE (decide (s13<(s11.length:Int))) (
  AS s11 s13 fun x12=>
  AH (Y6 s8 x12) fun r13=>
  some (.inl (r13,(AA .add .i64 s13 1)))) (
  some (.inr s8))
def aJp(s1:List X3)(s2:List Ad)(s9 s10:Int)(s11:List X3)(w3:AD)(s8:List X3)(s13:Int):Option ((List X3)):=AR (fun s:List X3×Int=>E8 s1 s2 s9 s10 s11 w3 s.1 s.2) (s8,s13)
def E7(s1:List X3)(s2:List Ad)(w3:AD)(s8:List X3)(s9 s10:Int):Option ((List X3×Int×Int)⊕((List X3×Int))):=
 AE (decide (s10<(s1.length:Int))) (
  AS s1 s10 fun x9=>
  AH (Xg w3 x9 s2) fun r10=>
  AH (Qt s9 r10.2) fun r11=>
  AH (aJp s1 s2 r11 s10 r10.1 w3 s8 0) fun o14=>
  some (.inl (o14,r11,(AA .add .i64 s10 1)))) (
  some (.inr (s8,s9)))
def aJn(s1:List X3)(s2:List Ad)(w3:AD)(s8:List X3)(s9 s10:Int):Option ((List X3×Int)):=AR (fun s:List X3×Int×Int=>E7 s1 s2 w3 s.1 s.2.1 s.2.2) (s8,s9,s10)
def OX(s8:List X3)(s9:Int)(s51:Bool):Option (Int):=
 AE (s51) (
  some 14) (
  some s9)
def Xt(a0:AD)(a1:List X3)(a2:List Ad):Option (List X3×Int):=
 AH (aJn a1 a2 a0 ([]:List X3) 0 0) fun o15=>
 AE (decide (o15.2=0)) (
  AH (OX o15.1 o15.2 (decide (256<(o15.1.length:Int)))) fun o16=>
  AE (!decide (o16=0)) (
   some (([]:List X3),o16)) (
   some (o15.1,0))) (
  AH (OX o15.1 o15.2 false) fun o17=>
  AE (!decide (o17=0)) (
   some (([]:List X3),o17)) (
   some (o15.1,0)))
def Qg(a0:AD)(a1:List X2)(a2:List X3)(a3:X4):Option (List X3×Int):=
 AH (Yc a0 a3) fun r1=>
 AH (Yf r1 a1) fun r2=>
 AE (decide ((r2.length:Int)=0)) (
  some (a2,0)) (
  AH (Xt a0 a2 r2) fun r3=>
  some (r3.1,r3.2))
def IO(s1:List X2)(s2:List X3)(s3:List X4)(s9:Bool)(w4:AD)(s10:Int):Option ((Int)⊕(Unit⊕Bool)):=
 AE (decide (s10<(s1.length:Int))) (
  AS s1 s10 fun x10=>
  AE (decide (100<(x10.value.str.length:Int))) (
   AH (Y9) fun r11=>
   some (.inr (.inr r11))) (
   AS s1 s10 fun x12=>
   AE (decide (x12.var<0)) (
    AH (Y9) fun r13=>
    some (.inr (.inr r13))) (
    AS s1 s10 fun x14=>
    AE (decide ((w4.quants.length:Int)<=x14.var)) (
     AH (Y9) fun r15=>
     some (.inr (.inr r15))) (
     AS s1 s10 fun x16=>
     AS s1 s10 fun x17=>
     AS w4.quants x17.var fun x18=>
     AE (!decide (x16.value.kind=x18.type)) (
      AH (Y9) fun r19=>
      some (.inr (.inr r19))) (
      some (.inl (AA .add .i64 s10 1))))))) (
  some (.inr (.inl ())))
def aG0(s1:List X2)(s2:List X3)(s3:List X4)(s9:Bool)(w4:AD)(s10:Int):Option (Unit⊕Bool):=AR (fun s:Int=>IO s1 s2 s3 s9 w4 s) s10
def IP(s1:List X2)(s2:List X3)(s3:List X4)(s9:Bool)(w4:AD)(s11:Int):Option ((Int)⊕(Unit⊕Bool)):=
 AE (decide (s11<(s2.length:Int))) (
  AS s2 s11 fun x23=>
  AH (Ug w4 x23) fun r24=>
  AE (!r24) (
   AH (Y9) fun r25=>
   some (.inr (.inr r25))) (
   some (.inl (AA .add .i64 s11 1)))) (
  some (.inr (.inl ())))
def aG1(s1:List X2)(s2:List X3)(s3:List X4)(s9:Bool)(w4:AD)(s11:Int):Option (Unit⊕Bool):=AR (fun s:Int=>IP s1 s2 s3 s9 w4 s) s11
def IR(s1:List X2)(s2:List X3)(s3:List X4)(s9:Bool)(s12:Int)(w4:AD)(s13:Int):Option ((Int)⊕(Unit⊕Bool)):=
 AS s3 s12 fun x32=>
 AE (decide (s13<(x32.args.length:Int))) (
  AS s3 s12 fun x33=>
  AS x33.args s13 fun x34=>
  AE (decide (100<(x34.str.length:Int))) (
   AH (Y9) fun r35=>
   some (.inr (.inr r35))) (
   some (.inl (AA .add .i64 s13 1)))) (
  some (.inr (.inl ())))
def aSb(s1:List X2)(s2:List X3)(s3:List X4)(s9:Bool)(s12:Int)(w4:AD)(s13:Int):Option (Unit⊕Bool):=AR (fun s:Int=>IR s1 s2 s3 s9 s12 w4 s) s13
def IQ(s1:List X2)(s2:List X3)(s3:List X4)(s9:Bool)(w4:AD)(s12:Int):Option ((Int)⊕(Unit⊕Bool)):=
 AE (decide (s12<(s3.length:Int))) (
  AS s3 s12 fun x29=>
  AH (Zj w4.decls x29) fun r30=>
  AE (!r30) (
   AH (Y9) fun r31=>
   some (.inr (.inr r31))) (
   AH (aSb s1 s2 s3 s9 s12 w4 0) fun o36=>
   Ba o36 (fun o37=>
    some (.inl (AA .add .i64 s12 1))) (fun o38=>
    some (.inr (.inr o38))))) (
  some (.inr (.inl ())))
def aG2(s1:List X2)(s2:List X3)(s3:List X4)(s9:Bool)(w4:AD)(s12:Int):Option (Unit⊕Bool):=AR (fun s:Int=>IQ s1 s2 s3 s9 w4 s) s12
def R4(s1:List X2)(s2:List X3)(s3:List X4)(s9:Bool)(s14 s15:Int)(s169:Bool)(w4:AD):Option (Int):=
 AE (s169) (
  AH (Yw s2) fun r45=>
  AH (Yn w4 s1 r45) fun r46=>
  some r46) (
  some s15)
def LY(s1:List X2)(s3:List X4)(s14:Int)(w4:AD)(s2:List X3)(s16:Int):Option ((List X3×Int)⊕(Unit⊕Unit)):=
 AE (decide (s16<=(s3.length:Int))) (
  AE (decide (0<s14)) (
   AH (Zm w4 s2) fun r52=>
   AE (!(r52==(decide (s14=1)))) (
    some (.inr (.inr ()))) (
    AE (decide (s16=(s3.length:Int))) (
     some (.inr (.inl ()))) (
     AS s3 s16 fun x53=>
     AH (Qg w4 s1 s2 x53) fun r54=>
     AE (!decide (r54.2=0)) (
      some (.inr (.inl ()))) (
      some (.inl (r54.1,(AA .add .i64 s16 1))))))) (
   AE (decide (s16=(s3.length:Int))) (
    some (.inr (.inl ()))) (
    AS s3 s16 fun x55=>
    AH (Qg w4 s1 s2 x55) fun r56=>
    AE (!decide (r56.2=0)) (
     some (.inr (.inl ()))) (
     some (.inl (r56.1,(AA .add .i64 s16 1))))))) (
  some (.inr (.inl ())))
def LX(s1:List X2)(s3:List X4)(s14:Int)(w4:AD)(s2:List X3)(s16:Int):Option (Unit⊕Unit):=AR (fun s:List X3×Int=>LY s1 s3 s14 w4 s.1 s.2) (s2,s16)
def X9(a0:AD)(a1:List X2)(a2:List X3)(a3:List X4):Option (Bool):=
 AH (Zo a0) fun r1=>
 AE (!r1) (
  AH (Y9) fun r2=>
  some r2) (
  AE (decide (20<(a2.length:Int))) (
   AH (Y9) fun r3=>
   some r3) (
   AE (decide (12<(a3.length:Int))) (
    AH (Y9) fun r4=>
    some r4) (
    AE (decide (8<(a1.length:Int))) (
     AH (Y9) fun r5=>
     some r5) (
     AH (Yv a0) fun r6=>
     AE (r6) (
      AH (Qz a0 a1) fun r7=>
      AE (!r7) (
       AH (Y9) fun r8=>
       some r8) (
       AE (!decide ((a1.length:Int)=(a0.quants.length:Int))) (
        AH (Y9) fun r9=>
        some r9) (
        AH (aG0 a1 a2 a3 true a0 0) fun o20=>
        Ba o20 (fun o21=>
         AH (aG1 a1 a2 a3 true a0 0) fun o26=>
         Ba o26 (fun o27=>
          AH (aG2 a1 a2 a3 true a0 0) fun o39=>
          Ba o39 (fun o40=>
           AH (Zc a2) fun r42=>
           AH (Qn a0 a1 r42) fun r43=>
           AH (Z0 a0 r42) fun r44=>
           AH (R4 a1 r42 a3 true r43 r44 true a0) fun o47=>
           AE (!decide (r43=o47)) (
            some false) (
            AE (true) (
             AE (decide (r43=0)) (
              AH (Yw r42) fun r48=>
              AH (Xu a0 a1 r48 true) fun r49=>
              AE (decide (r49<0)) (
               some false) (
               AH (Yw r42) fun r50=>
               AH (Xu a0 a1 r50 false) fun r51=>
               AE (decide (r51<0)) (
                some false) (
                AH (LX a1 a3 r43 a0 r42 0) fun o57=>
                Ba o57 (fun o58=>
                 AH (Y9) fun r60=>
                 some r60) (fun o59=>
                 some false)))) (
              AH (LX a1 a3 r43 a0 r42 0) fun o61=>
              Ba o61 (fun o62=>
               AH (Y9) fun r64=>
               some r64) (fun o63=>
               some false))) (
             AH (LX a1 a3 r43 a0 r42 0) fun o65=>
             Ba o65 (fun o66=>
              AH (Y9) fun r68=>
              some r68) (fun o67=>
              some false)))) (fun o41=>
           some o41)) (fun o28=>
          some o28)) (fun o22=>
         some o22)))) (
      AH (aG0 a1 a2 a3 false a0 0) fun o69=>
      Ba o69 (fun o70=>
       AH (aG1 a1 a2 a3 false a0 0) fun o72=>
       Ba o72 (fun o73=>
        AH (aG2 a1 a2 a3 false a0 0) fun o75=>
        Ba o75 (fun o76=>
         AH (Zc a2) fun r78=>
         AH (Qn a0 a1 r78) fun r79=>
         AH (Z0 a0 r78) fun r80=>
         AH (R4 a1 r78 a3 false r79 r80 false a0) fun o81=>
         AE (!decide (r79=o81)) (
          some false) (
          AE (false) (
           AE (decide (r79=0)) (
            AH (Yw r78) fun r82=>
            AH (Xu a0 a1 r82 true) fun r83=>
            AE (decide (r83<0)) (
             some false) (
             AH (Yw r78) fun r84=>
             AH (Xu a0 a1 r84 false) fun r85=>
             AE (decide (r85<0)) (
              some false) (
              AH (LX a1 a3 r79 a0 r78 0) fun o86=>
              Ba o86 (fun o87=>
               AH (Y9) fun r89=>
               some r89) (fun o88=>
               some false)))) (
            AH (LX a1 a3 r79 a0 r78 0) fun o90=>
            Ba o90 (fun o91=>
             AH (Y9) fun r93=>
             some r93) (fun o92=>
             some false))) (
           AH (LX a1 a3 r79 a0 r78 0) fun o94=>
           Ba o94 (fun o95=>
            AH (Y9) fun r97=>
            some r97) (fun o96=>
            some false)))) (fun o77=>
         some o77)) (fun o74=>
        some o74)) (fun o71=>
       some o71))))))
end
end Go.Ac
