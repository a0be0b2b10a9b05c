/- Own work, printed: the functions as Lean functions. -/
import Derived.Test.YtgcfokfcilgnlaaGreatAcC
set_option linter.unusedVariables false
set_option linter.unusedSimpArgs false
namespace Go.Ac
noncomputable section
abbrev aU1(P:Program)(rd:Option Nat)(root:Code)(p:List Nat)(s:St)(x:Ex×St):Prop:=FT P rd root p s x.1 x.2
abbrev dI(x:Int):A:= .d (D.i .i64 x)
abbrev sI(n:Nat)(x:Int):Nat×A:=(n,dI x)
abbrev sD{α:Type}(n:Nat)(f:α->D)(x:α):Nat×A:=(n,.d (f x))
abbrev bx(n:Nat):Nat×A:=(n,.box n 0)
abbrev rx(n:Nat):Nat×A:=(n,.row n)
abbrev cL{α:Type}(n:Nat)(f:α->D)(x:α):Nat×Bk:=(n,.cells (aOy (f x)))
abbrev rW{α:Type}(n e k:Nat)(f:α->D)(x:List α):Nat×Bk:=(n,.rw e k (x.map f))
abbrev eP{α:Type}(n:Nat)(f:α->D)(x:α):Nat×A:=(n,.eptr (D.cells (f x)))
abbrev dU:Int->D:=D.i .u64
abbrev dW:Int->D:=D.i .u32
abbrev dZ:Int->D:=D.i .i64
abbrev bT(n:Nat):Nat×W:=(n,.bit true)
abbrev bF(n:Nat):Nat×W:=(n,.bit false)
structure Xd where
 name:List UInt8
 types:List Int
 deriving DecidableEq
def Xd.D(v:Xd):D:= .agg ([D.s v.name]++[(D.l (D.i .i64)) v.types])
instance :Df Xd.D 2:=⟨fun _=>rfl⟩
structure Yc where
 all:Bool
 name:List UInt8
 type:Int
def Yc.D(v:Yc):D:= .agg ([D.b v.all]++[D.s v.name]++[(D.i .i64) v.type])
instance :Df Yc.D 3:=⟨fun _=>rfl⟩
def Yc.eqb(a b:Yc):Bool:=((a.all==b.all)&&(decide (a.name=b.name)&&(decide (a.type=b.type)&&true)))
theorem Yc.eqb_iff(a b:Yc):Yc.eqb a b=true↔a=b:=by cases a;cases b;simp [Yc.eqb]
instance :DecidableEq Yc:=fun a b=>decidable_of_iff (Yc.eqb a b=true) (Yc.eqb_iff a b)
structure X0 where
 kind:Int
 int:Int
 str:List UInt8
 bool:Bool
def X0.D(v:X0):D:= .agg ([(D.i .i64) v.kind]++[(D.i .i64) v.int]++[D.s v.str]++[D.b v.bool])
instance :Df X0.D 4:=⟨fun _=>rfl⟩
def X0.eqb(a b:X0):Bool:=(decide (a.kind=b.kind)&&(decide (a.int=b.int)&&(decide (a.str=b.str)&&((a.bool==b.bool)&&true))))
theorem X0.eqb_iff(a b:X0):X0.eqb a b=true↔a=b:=by cases a;cases b;simp [X0.eqb]
instance :DecidableEq X0:=fun a b=>decidable_of_iff (X0.eqb a b=true) (X0.eqb_iff a b)
structure Ye where
 name:List UInt8
 init_:X0
def Ye.D(v:Ye):D:= .agg ([D.s v.name]++(X0.D v.init_).cells)
instance :Df Ye.D 5:=⟨fun _=>rfl⟩
def Ye.eqb(a b:Ye):Bool:=(decide (a.name=b.name)&&(X0.eqb a.init_ b.init_&&true))
theorem Ye.eqb_iff(a b:Ye):Ye.eqb a b=true↔a=b:=by cases a;cases b;simp [Ye.eqb,X0.eqb_iff]
instance :DecidableEq Ye:=fun a b=>decidable_of_iff (Ye.eqb a b=true) (Ye.eqb_iff a b)
structure Xb where
 name:List UInt8
 next:Bool
 accept:Bool
def Xb.D(v:Xb):D:= .agg ([D.s v.name]++[D.b v.next]++[D.b v.accept])
instance :Df Xb.D 3:=⟨fun _=>rfl⟩
def Xb.eqb(a b:Xb):Bool:=(decide (a.name=b.name)&&((a.next==b.next)&&((a.accept==b.accept)&&true)))
theorem Xb.eqb_iff(a b:Xb):Xb.eqb a b=true↔a=b:=by cases a;cases b;simp [Xb.eqb]
instance :DecidableEq Xb:=fun a b=>decidable_of_iff (Xb.eqb a b=true) (Xb.eqb_iff a b)
structure CE where
 kind:Int
 n:Int
 value:X0
def CE.D(v:CE):D:= .agg ([(D.i .i64) v.kind]++[(D.i .i64) v.n]++(X0.D v.value).cells)
instance :Df CE.D 6:=⟨fun _=>rfl⟩
def CE.eqb(a b:CE):Bool:=(decide (a.kind=b.kind)&&(decide (a.n=b.n)&&(X0.eqb a.value b.value&&true)))
theorem CE.eqb_iff(a b:CE):CE.eqb a b=true↔a=b:=by cases a;cases b;simp [CE.eqb,X0.eqb_iff]
instance :DecidableEq CE:=fun a b=>decidable_of_iff (CE.eqb a b=true) (CE.eqb_iff a b)
structure X3 where
 event:Int
 args:List CE
 deriving DecidableEq
def X3.D(v:X3):D:= .agg ([(D.i .i64) v.event]++[(D.l CE.D) v.args])
instance :Df X3.D 2:=⟨fun _=>rfl⟩
structure Yj where
 op:Int
 a:Int
 b:Int
 value:X0
def Yj.D(v:Yj):D:= .agg ([(D.i .i64) v.op]++[(D.i .i64) v.a]++[(D.i .i64) v.b]++(X0.D v.value).cells)
instance :Df Yj.D 7:=⟨fun _=>rfl⟩
def Yj.eqb(a b:Yj):Bool:=(decide (a.op=b.op)&&(decide (a.a=b.a)&&(decide (a.b=b.b)&&(X0.eqb a.value b.value&&true))))
theorem Yj.eqb_iff(a b:Yj):Yj.eqb a b=true↔a=b:=by cases a;cases b;simp [Yj.eqb,X0.eqb_iff]
instance :DecidableEq Yj:=fun a b=>decidable_of_iff (Yj.eqb a b=true) (Yj.eqb_iff a b)
structure FV where
 free:Int
 expr:Int
def FV.D(v:FV):D:= .agg ([(D.i .i64) v.free]++[(D.i .i64) v.expr])
instance :Df FV.D 2:=⟨fun _=>rfl⟩
def FV.eqb(a b:FV):Bool:=(decide (a.free=b.free)&&(decide (a.expr=b.expr)&&true))
theorem FV.eqb_iff(a b:FV):FV.eqb a b=true↔a=b:=by cases a;cases b;simp [FV.eqb]
instance :DecidableEq FV:=fun a b=>decidable_of_iff (FV.eqb a b=true) (FV.eqb_iff a b)
structure Xc where
 from_:Int
 symbol:Int
 to:Int
 guard:Int
 sets:List FV
 deriving DecidableEq
def Xc.D(v:Xc):D:= .agg ([(D.i .i64) v.from_]++[(D.i .i64) v.symbol]++[(D.i .i64) v.to]++[(D.i .i64) v.guard]++[(D.l FV.D) v.sets])
instance :Df Xc.D 5:=⟨fun _=>rfl⟩
structure AD where
 name:List UInt8
 decls:List Xd
 quants:List Yc
 frees:List Ye
 states:List Xb
 start:Int
 symbols:List X3
 nodes:List Yj
 trans:List Xc
 deriving DecidableEq
def AD.D(v:AD):D:= .agg ([D.s v.name]++[(D.l Xd.D) v.decls]++[(D.l Yc.D) v.quants]++[(D.l Ye.D) v.frees]++[(D.l Xb.D) v.states]++[(D.i .i64) v.start]++[(D.l X3.D) v.symbols]++[(D.l Yj.D) v.nodes]++[(D.l Xc.D) v.trans])
instance :Df AD.D 9:=⟨fun _=>rfl⟩
structure X2 where
 var:Int
 value:X0
def X2.D(v:X2):D:= .agg ([(D.i .i64) v.var]++(X0.D v.value).cells)
instance :Df X2.D 5:=⟨fun _=>rfl⟩
def X2.eqb(a b:X2):Bool:=(decide (a.var=b.var)&&(X0.eqb a.value b.value&&true))
theorem X2.eqb_iff(a b:X2):X2.eqb a b=true↔a=b:=by cases a;cases b;simp [X2.eqb,X0.eqb_iff]
instance :DecidableEq X2:=fun a b=>decidable_of_iff (X2.eqb a b=true) (X2.eqb_iff a b)
structure Yk where
 state:Int
 vals:List X0
 deriving DecidableEq
def Yk.D(v:Yk):D:= .agg ([(D.i .i64) v.state]++[(D.l X0.D) v.vals])
instance :Df Yk.D 2:=⟨fun _=>rfl⟩
structure Xp where
 q:AD
 b:List X2
 d_:Int
 at_:Int
 deriving DecidableEq
def Xp.D(v:Xp):D:= .agg ((AD.D v.q).cells++[(D.l X2.D) v.b]++[(D.i .i64) v.d_]++[(D.i .i64) v.at_])
instance :Df Xp.D 12:=⟨fun _=>rfl⟩
structure X8 where
 name:List UInt8
 args:List X0
 deriving DecidableEq
def X8.D(v:X8):D:= .agg ([D.s v.name]++[(D.l X0.D) v.args])
instance :Df X8.D 2:=⟨fun _=>rfl⟩
structure Ao where
 symbol:Int
 bind:List X2
 frees:List X2
 deriving DecidableEq
def Ao.D(v:Ao):D:= .agg ([(D.i .i64) v.symbol]++[(D.l X2.D) v.bind]++[(D.l X2.D) v.frees])
instance :Df Ao.D 3:=⟨fun _=>rfl⟩
def Hd(w1:AD)(s3:Int):Option ((Int)⊕(Unit⊕Unit)):=
 AE (decide (s3<(w1.decls.length:Int))) (
  AX w1.decls s3 fun x1=>
  AE (decide (12<(x1.types.length:Int))) (
   some (.inr (.inr ()))) (
   AX w1.decls s3 fun x2=>
   AE (decide (100<(x2.name.length:Int))) (
    some (.inr (.inr ()))) (
    some (.inl (AA .add .i64 s3 1))))) (
  some (.inr (.inl ())))
def aJm(w1:AD)(s3:Int):Option (Unit⊕Unit):=AR (fun s:Int=>Hd w1 s) s3
def Hf(s4:Int)(w1:AD)(s5:Int):Option ((Int)⊕(Unit⊕Unit)):=
 AX w1.symbols s4 fun x7=>
 AE (decide (s5<(x7.args.length:Int))) (
  AX w1.symbols s4 fun x8=>
  AX x8.args s5 fun x9=>
  AE (decide (100<(x9.value.str.length:Int))) (
   some (.inr (.inr ()))) (
   some (.inl (AA .add .i64 s5 1)))) (
  some (.inr (.inl ())))
def aJo(s4:Int)(w1:AD)(s5:Int):Option (Unit⊕Unit):=AR (fun s:Int=>Hf s4 w1 s) s5
def He(w1:AD)(s4:Int):Option ((Int)⊕(Unit⊕Unit)):=
 AE (decide (s4<(w1.symbols.length:Int))) (
  AX w1.symbols s4 fun x6=>
  AE (decide (12<(x6.args.length:Int))) (
   some (.inr (.inr ()))) (
   AJ (aJo s4 w1 0) fun o10=>
   CP o10 (fun o11=>
    some (.inl (AA .add .i64 s4 1))) (fun o12=>
    some (.inr (.inr ()))))) (
  some (.inr (.inl ())))
def aJn(w1:AD)(s4:Int):Option (Unit⊕Unit):=AR (fun s:Int=>He w1 s) s4
def Hg(w1:AD)(s6:Int):Option ((Int)⊕(Unit⊕Unit)):=
 AE (decide (s6<(w1.frees.length:Int))) (
  AX w1.frees s6 fun x16=>
  AE (decide (100<(x16.init_.str.length:Int))) (
   some (.inr (.inr ()))) (
   some (.inl (AA .add .i64 s6 1)))) (
  some (.inr (.inl ())))
def aJp(w1:AD)(s6:Int):Option (Unit⊕Unit):=AR (fun s:Int=>Hg w1 s) s6
def Hh(w1:AD)(s7:Int):Option ((Int)⊕(Unit⊕Unit)):=
 AE (decide (s7<(w1.nodes.length:Int))) (
  AX w1.nodes s7 fun x20=>
  AE (decide (100<(x20.value.str.length:Int))) (
   some (.inr (.inr ()))) (
   some (.inl (AA .add .i64 s7 1)))) (
  some (.inr (.inl ())))
def aJq(w1:AD)(s7:Int):Option (Unit⊕Unit):=AR (fun s:Int=>Hh w1 s) s7
def Hi(w1:AD)(s8:Int):Option ((Int)⊕(Unit⊕Unit)):=
 AE (decide (s8<(w1.trans.length:Int))) (
  AX w1.trans s8 fun x24=>
  AE (decide (12<(x24.sets.length:Int))) (
   some (.inr (.inr ()))) (
   some (.inl (AA .add .i64 s8 1)))) (
  some (.inr (.inl ())))
def aJr(w1:AD)(s8:Int):Option (Unit⊕Unit):=AR (fun s:Int=>Hi w1 s) s8
def Xa(a0:AD):Option (Int):=
 AE (decide (12<(a0.decls.length:Int))) (
  some 0) (
  AE (decide (9<(a0.quants.length:Int))) (
   some 0) (
   AE (decide (12<(a0.frees.length:Int))) (
    some 0) (
    AE (decide (12<(a0.states.length:Int))) (
     some 0) (
     AE (decide (12<(a0.symbols.length:Int))) (
      some 0) (
      AE (decide (12<(a0.trans.length:Int))) (
       some 0) (
       AE (decide (40<(a0.nodes.length:Int))) (
        some 0) (
        AE (decide (100<(a0.name.length:Int))) (
         some 0) (
         AJ (aJm a0 0) fun o3=>
         CP o3 (fun o4=>
          AJ (aJn a0 0) fun o13=>
          CP o13 (fun o14=>
           AJ (aJp a0 0) fun o17=>
           CP o17 (fun o18=>
            AJ (aJq a0 0) fun o21=>
            CP o21 (fun o22=>
             AJ (aJr a0 0) fun o25=>
             CP o25 (fun o26=>
              some 1) (fun o27=>
              some 0)) (fun o23=>
             some 0)) (fun o19=>
            some 0)) (fun o15=>
           some 0)) (fun o5=>
          some 0)))))))))
def Qs:Option (List (List UInt8)):=
 some ([([97,99,99,101,112,116]:List UInt8),([97,108,115,111]:List UInt8),([97,110,100]:List UInt8),([98,111,111,108]:List UInt8),([100,111]:List UInt8),([101,118,101,110,116]:List UInt8),([101,120,105,115,116,115]:List UInt8),([102,97,108,115,101]:List UInt8),([102,111,114,97,108,108]:List UInt8),([102,114,101,101]:List UInt8),([105,102]:List UInt8),([105,110,116]:List UInt8),([110,101,120,116]:List UInt8),([110,111,116]:List UInt8),([111,110]:List UInt8),([111,114]:List UInt8),([113,101,97]:List UInt8),([115,107,105,112]:List UInt8),([115,116,97,114,116]:List UInt8),([115,116,114,105,110,103]:List UInt8),([116,111]:List UInt8),([116,114,117,101]:List UInt8)])
def IR(s0:List UInt8)(s3:Int):Option ((Int)⊕(Unit⊕Unit)):=
 AE (decide (s3<(s0.length:Int))) (
  AX s0 s3 fun x1=>
  AE (decide (((65:UInt8).toNat:Int)<=(x1.toNat:Int))) (
   AE (decide ((x1.toNat:Int)<=((90:UInt8).toNat:Int))) (
    some (.inl (AA .add .i64 s3 1))) (
    AE (decide (((97:UInt8).toNat:Int)<=(x1.toNat:Int))) (
     AE (decide ((x1.toNat:Int)<=((122:UInt8).toNat:Int))) (
      some (.inl (AA .add .i64 s3 1))) (
      AE (!(decide ((x1.toNat:Int)=((95:UInt8).toNat:Int)))) (
       AE (decide (s3=0)) (
        some (.inr (.inr ()))) (
        AE (decide ((x1.toNat:Int)<((48:UInt8).toNat:Int))) (
         some (.inr (.inr ()))) (
         AE (decide (((57:UInt8).toNat:Int)<(x1.toNat:Int))) (
          some (.inr (.inr ()))) (
          some (.inl (AA .add .i64 s3 1)))))) (
       some (.inl (AA .add .i64 s3 1))))) (
     AE (!(decide ((x1.toNat:Int)=((95:UInt8).toNat:Int)))) (
      AE (decide (s3=0)) (
       some (.inr (.inr ()))) (
       AE (decide ((x1.toNat:Int)<((48:UInt8).toNat:Int))) (
        some (.inr (.inr ()))) (
        AE (decide (((57:UInt8).toNat:Int)<(x1.toNat:Int))) (
         some (.inr (.inr ()))) (
         some (.inl (AA .add .i64 s3 1)))))) (
      some (.inl (AA .add .i64 s3 1)))))) (
   AE (decide (((97:UInt8).toNat:Int)<=(x1.toNat:Int))) (
    AE (decide ((x1.toNat:Int)<=((122:UInt8).toNat:Int))) (
     some (.inl (AA .add .i64 s3 1))) (
     AE (!(decide ((x1.toNat:Int)=((95:UInt8).toNat:Int)))) (
      AE (decide (s3=0)) (
       some (.inr (.inr ()))) (
       AE (decide ((x1.toNat:Int)<((48:UInt8).toNat:Int))) (
        some (.inr (.inr ()))) (
        AE (decide (((57:UInt8).toNat:Int)<(x1.toNat:Int))) (
         some (.inr (.inr ()))) (
         some (.inl (AA .add .i64 s3 1)))))) (
      some (.inl (AA .add .i64 s3 1))))) (
    AE (!(decide ((x1.toNat:Int)=((95:UInt8).toNat:Int)))) (
     AE (decide (s3=0)) (
      some (.inr (.inr ()))) (
      AE (decide ((x1.toNat:Int)<((48:UInt8).toNat:Int))) (
       some (.inr (.inr ()))) (
       AE (decide (((57:UInt8).toNat:Int)<(x1.toNat:Int))) (
        some (.inr (.inr ()))) (
        some (.inl (AA .add .i64 s3 1)))))) (
     some (.inl (AA .add .i64 s3 1)))))) (
  some (.inr (.inl ())))
def aKr(s0:List UInt8)(s3:Int):Option (Unit⊕Unit):=AR (fun s:Int=>IR s0 s) s3
def Ys(a0:List UInt8):Option (Bool):=
 AE (decide ((a0.length:Int)<1)) (
  some false) (
  AE (decide (32<(a0.length:Int))) (
   some false) (
   AJ (aKr a0 0) fun o2=>
   CP o2 (fun o3=>
    some true) (fun o4=>
    some false)))
def IM(s0:List UInt8)(s3:List (List UInt8))(s4:Int):Option ((Int)⊕(Unit⊕Unit)):=
 AE (decide (s4<(s3.length:Int))) (
  AX s3 s4 fun x2=>
  AE (decide (x2=s0)) (
   some (.inr (.inr ()))) (
   some (.inl (AA .add .i64 s4 1)))) (
  some (.inr (.inl ())))
def aKp(s0:List UInt8)(s3:List (List UInt8))(s4:Int):Option (Unit⊕Unit):=AR (fun s:Int=>IM s0 s3 s) s4
def Yi(a0:List UInt8):Option (Bool):=
 AJ (Qs) fun r1=>
 AJ (aKp a0 r1 0) fun o3=>
 CP o3 (fun o4=>
  AJ (Ys a0) fun r6=>
  AE (r6) (
   some (!decide (a0=([95]:List UInt8)))) (
   some false)) (fun o5=>
  some false)
def KU(s0:List Xd)(s1:List UInt8)(s5:Int):Option ((Int)⊕(Unit⊕Int)):=
 AE (decide (s5<(s0.length:Int))) (
  AX s0 s5 fun x1=>
  AE (decide (x1.name=s1)) (
   some (.inr (.inr s5))) (
   some (.inl (AA .add .i64 s5 1)))) (
  some (.inr (.inl ())))
def aKy(s0:List Xd)(s1:List UInt8)(s5:Int):Option (Unit⊕Int):=AR (fun s:Int=>KU s0 s1 s) s5
def Yz(a0:List Xd)(a1:List UInt8):Option (Int):=
 AJ (aKy a0 a1 0) fun o2=>
 CP o2 (fun o3=>
  some (-1)) (fun o4=>
  some o4)
def En(s0:List Xd)(s4 s5:Int):Option ((Int)⊕(Unit⊕Unit)):=
 AX s0 s4 fun x6=>
 AE (decide (s5<(x6.types.length:Int))) (
  AX s0 s4 fun x7=>
  AX x7.types s5 fun x8=>
  AE (decide (x8<1)) (
   some (.inr (.inr ()))) (
   AX s0 s4 fun x9=>
   AX x9.types s5 fun x10=>
   AE (decide (3<x10)) (
    some (.inr (.inr ()))) (
    some (.inl (AA .add .i64 s5 1))))) (
  some (.inr (.inl ())))
def aCy(s0:List Xd)(s4 s5:Int):Option (Unit⊕Unit):=AR (fun s:Int=>En s0 s4 s) s5
def Em(s0:List Xd)(s4:Int):Option ((Int)⊕(Unit⊕(Int×Int))):=
 AE (decide (s4<(s0.length:Int))) (
  AX s0 s4 fun x1=>
  AJ (Yi x1.name) fun r2=>
  AE (!r2) (
   some (.inr (.inr (11,s4)))) (
   AX s0 s4 fun x3=>
   AJ (Yz s0 x3.name) fun r4=>
   AE (decide (r4<s4)) (
    some (.inr (.inr (10,s4)))) (
    AX s0 s4 fun x5=>
    AE (decide (8<(x5.types.length:Int))) (
     some (.inr (.inr (14,s4)))) (
     AJ (aCy s0 s4 0) fun o11=>
     CP o11 (fun o12=>
      some (.inl (AA .add .i64 s4 1))) (fun o13=>
      some (.inr (.inr (8,s4)))))))) (
  some (.inr (.inl ())))
def aCw(s0:List Xd)(s4:Int):Option (Unit⊕(Int×Int)):=AR (fun s:Int=>Em s0 s) s4
def Xx(a0:List Xd):Option (Int×Int):=
 AE (decide (32<(a0.length:Int))) (
  some (14,32)) (
  AJ (aCw a0 0) fun o14=>
  CP o14 (fun o15=>
   some (0,(-1))) (fun o16=>
   some (o16.1,o16.2)))
def Zi(a0:X0):Option (Bool):=
 AE (decide (a0.kind=1)) (
  AE (decide (a0.str=([]:List UInt8))) (
   some (!a0.bool)) (
   some false)) (
  AE (decide (a0.kind=2)) (
   AE (decide (a0.int=0)) (
    AE (!a0.bool) (
     some (decide ((a0.str.length:Int)<=4096))) (
     some false)) (
    some false)) (
   AE (decide (a0.kind=3)) (
    AE (decide (a0.int=0)) (
     some (decide (a0.str=([]:List UInt8)))) (
     some false)) (
    some false)))
def IW(s0:List (List UInt8))(s1 s5:Int):Option ((Int)⊕(Unit⊕Unit)):=
 AE (decide (s5<s1)) (
  AX s0 s5 fun x1=>
  AX s0 s1 fun x2=>
  AE (decide (x1=x2)) (
   some (.inr (.inr ()))) (
   some (.inl (AA .add .i64 s5 1)))) (
  some (.inr (.inl ())))
def aOd(s0:List (List UInt8))(s1 s5:Int):Option (Unit⊕Unit):=AR (fun s:Int=>IW s0 s1 s) s5
def Z0(a0:List (List UInt8))(a1:Int):Option (Bool):=
 AJ (aOd a0 a1 0) fun o3=>
 CP o3 (fun o4=>
  some false) (fun o5=>
  some true)
def Hm(w1:AD)(s4:Int)(w3:List (List UInt8)):Option ((Int×List (List UInt8))⊕((List (List UInt8))⊕Unit)):=
 AE (decide (s4<(w1.quants.length:Int))) (
  AX w1.quants s4 fun x4=>
  AY (fit w3.length [x4.name].length 16) (
   AX w1.quants s4 fun x5=>
   AE (decide (x5.type<1)) (
    some (.inr (.inr ()))) (
    AX w1.quants s4 fun x6=>
    AE (decide (3<x6.type)) (
     some (.inr (.inr ()))) (
     some (.inl ((AA .add .i64 s4 1),w3++[x4.name])))))) (
  some (.inr (.inl w3)))
def aNx(w1:AD)(s4:Int)(w3:List (List UInt8)):Option ((List (List UInt8))⊕Unit):=AR (fun s:Int×List (List UInt8)=>Hm w1 s.1 s.2) (s4,w3)
def Hn(w1:AD)(s5:Int)(w3:List (List UInt8)):Option ((Int×List (List UInt8))⊕((List (List UInt8))⊕Unit)):=
 AE (decide (s5<(w1.frees.length:Int))) (
  AX w1.frees s5 fun x10=>
  AY (fit w3.length [x10.name].length 16) (
   AX w1.frees s5 fun x11=>
   AJ (Zi x11.init_) fun r12=>
   AE (!r12) (
    some (.inr (.inr ()))) (
    some (.inl ((AA .add .i64 s5 1),w3++[x10.name]))))) (
  some (.inr (.inl w3)))
def aNy(w1:AD)(s5:Int)(w3:List (List UInt8)):Option ((List (List UInt8))⊕Unit):=AR (fun s:Int×List (List UInt8)=>Hn w1 s.1 s.2) (s5,w3)
def Ho(w1:AD)(w3:List (List UInt8))(s6:Int):Option ((Int)⊕(Unit⊕Unit)):=
 AE (decide (s6<(w3.length:Int))) (
  AX w3 s6 fun x16=>
  AJ (Yi x16) fun r17=>
  AE (!r17) (
   some (.inr (.inr ()))) (
   AJ (Z0 w3 s6) fun r18=>
   AE (r18) (
    some (.inr (.inr ()))) (
    some (.inl (AA .add .i64 s6 1))))) (
  some (.inr (.inl ())))
def aNz(w1:AD)(w3:List (List UInt8))(s6:Int):Option (Unit⊕Unit):=AR (fun s:Int=>Ho w1 w3 s) s6
def Hq(w1:AD)(s8:Int)(w7:List (List UInt8)):Option ((Int×List (List UInt8))⊕(Unit⊕Unit)):=
 AE (decide (s8<(w1.states.length:Int))) (
  AX w1.states s8 fun x26=>
  AY (fit w7.length [x26.name].length 16) (
   AX (w7++[x26.name]) s8 fun x27=>
   AJ (Yi x27) fun r28=>
   AE (!r28) (
    some (.inr (.inr ()))) (
    AJ (Z0 (w7++[x26.name]) s8) fun r29=>
    AE (r29) (
     some (.inr (.inr ()))) (
     some (.inl ((AA .add .i64 s8 1),w7++[x26.name])))))) (
  some (.inr (.inl ())))
def aN0(w1:AD)(s8:Int)(w7:List (List UInt8)):Option (Unit⊕Unit):=AR (fun s:Int×List (List UInt8)=>Hq w1 s.1 s.2) (s8,w7)
def Xh(a0:AD):Option (Bool):=
 AJ (aNx a0 0 ([]:List (List UInt8))) fun o7=>
 CP o7 (fun o8=>
  AJ (aNy a0 0 o8) fun o13=>
  CP o13 (fun o14=>
   AJ (aNz a0 o14 0) fun o19=>
   CP o19 (fun o20=>
    AJ (aN0 a0 0 ([]:List (List UInt8))) fun o30=>
    CP o30 (fun o31=>
     AJ (Yi a0.name) fun r33=>
     some r33) (fun o32=>
     some false)) (fun o21=>
    some false)) (fun o15=>
   some false)) (fun o9=>
  some false)
def Zh(a0:Bool):Option (X0×Int):=
 some (X0.mk 3 0 ([]:List UInt8) a0,0)
def Qf(a0 a1:Int):Option (Int×Bool):=
 AE (decide (0<a1)) (
  AE (decide ((AA .sub .i64 9223372036854775807 a1)<a0)) (
   some (0,false)) (
   AE (decide (a1<0)) (
    AE (decide (a0<(AA .sub .i64 (-9223372036854775808) a1))) (
     some (0,false)) (
     some ((AA .add .i64 a0 a1),true))) (
    some ((AA .add .i64 a0 a1),true)))) (
  AE (decide (a1<0)) (
   AE (decide (a0<(AA .sub .i64 (-9223372036854775808) a1))) (
    some (0,false)) (
    some ((AA .add .i64 a0 a1),true))) (
   some ((AA .add .i64 a0 a1),true)))
def Zs(a0:Int)(a1:Bool):Option (X0×Int):=
 AE (!a1) (
  some (X0.mk 0 0 ([]:List UInt8) false,6)) (
  some (X0.mk 1 a0 ([]:List UInt8) false,0))
def Zo(a0 a1:Int):Option (Int×Bool):=
 AE (decide (a1<0)) (
  AE (decide ((AA .add .i64 9223372036854775807 a1)<a0)) (
   some (0,false)) (
   AE (decide (0<a1)) (
    AE (decide (a0<(AA .add .i64 (-9223372036854775808) a1))) (
     some (0,false)) (
     some ((AA .sub .i64 a0 a1),true))) (
    some ((AA .sub .i64 a0 a1),true)))) (
  AE (decide (0<a1)) (
   AE (decide (a0<(AA .add .i64 (-9223372036854775808) a1))) (
    some (0,false)) (
    some ((AA .sub .i64 a0 a1),true))) (
   some ((AA .sub .i64 a0 a1),true)))
def Qg(a0 a1:Int):Option (Int×Bool):=
 AE (decide (a0=0)) (
  some (0,true)) (
  AE (decide (a1=0)) (
   some (0,true)) (
   AE (decide (a0=(-1))) (
    AJ (Zo 0 a1) fun r1=>
    some (r1.1,r1.2)) (
    AE (decide (a1=(-1))) (
     AJ (Zo 0 a0) fun r2=>
     some (r2.1,r2.2)) (
     AE (decide (0<a0)) (
      AE (decide (0<a1)) (
       AY (a1≠0) (
        AE (decide ((AA .quo .i64 9223372036854775807 a1)<a0)) (
         some (0,false)) (
         AE (decide (a1<0)) (
          AY (a0≠0) (
           AE (decide (a1<(AA .quo .i64 (-9223372036854775808) a0))) (
            some (0,false)) (
            AE (decide (a0<0)) (
             AY (a1≠0) (
              AE (decide (a0<(AA .quo .i64 (-9223372036854775808) a1))) (
               some (0,false)) (
               AY (a1≠0) (
                AE (decide (a0<(AA .quo .i64 9223372036854775807 a1))) (
                 some (0,false)) (
                 some ((AA .mul .i64 a0 a1),true)))))) (
             some ((AA .mul .i64 a0 a1),true))))) (
          AE (decide (a0<0)) (
           AY (a1≠0) (
            AE (decide (a0<(AA .quo .i64 (-9223372036854775808) a1))) (
             some (0,false)) (
             some ((AA .mul .i64 a0 a1),true)))) (
           some ((AA .mul .i64 a0 a1),true)))))) (
       AE (decide (a1<0)) (
        AY (a0≠0) (
         AE (decide (a1<(AA .quo .i64 (-9223372036854775808) a0))) (
          some (0,false)) (
          AE (decide (a0<0)) (
           AY (a1≠0) (
            AE (decide (a0<(AA .quo .i64 9223372036854775807 a1))) (
             some (0,false)) (
             some ((AA .mul .i64 a0 a1),true)))) (
           some ((AA .mul .i64 a0 a1),true))))) (
        AE (decide (a0<0)) (
         some ((AA .mul .i64 a0 a1),true)) (
         some ((AA .mul .i64 a0 a1),true))))) (
      AE (decide (a0<0)) (
       AE (decide (0<a1)) (
        AY (a1≠0) (
         AE (decide (a0<(AA .quo .i64 (-9223372036854775808) a1))) (
          some (0,false)) (
          AE (decide (a1<0)) (
           AY (a1≠0) (
            AE (decide (a0<(AA .quo .i64 9223372036854775807 a1))) (
             some (0,false)) (
             some ((AA .mul .i64 a0 a1),true)))) (
           some ((AA .mul .i64 a0 a1),true))))) (
        AE (decide (a1<0)) (
         AY (a1≠0) (
          AE (decide (a0<(AA .quo .i64 9223372036854775807 a1))) (
           some (0,false)) (
           some ((AA .mul .i64 a0 a1),true)))) (
         some ((AA .mul .i64 a0 a1),true)))) (
       some ((AA .mul .i64 a0 a1),true)))))))
def Qh(a0 a1:Int):Option (Int×Int×Int):=
 AE (decide (a1=0)) (
  some (0,0,7)) (
  AE (decide (a1=(-1))) (
   AJ (Zo 0 a0) fun r1=>
   AE (!r1.2) (
    some (0,0,6)) (
    some (r1.1,0,0))) (
   AY (a1≠0) (
    AY (a1≠0) (
     some ((AA .quo .i64 a0 a1),(AA .rem .i64 a0 a1),0)))))
def Zp(a0 a1 a2:Int):Option (X0×Int):=
 AE (decide (a0=8)) (
  AJ (Qf a1 a2) fun r1=>
  AJ (Zs r1.1 r1.2) fun r2=>
  some (r2.1,r2.2)) (
  AE (decide (a0=9)) (
   AJ (Zo a1 a2) fun r3=>
   AJ (Zs r3.1 r3.2) fun r4=>
   some (r4.1,r4.2)) (
   AE (decide (a0=10)) (
    AJ (Qg a1 a2) fun r5=>
    AJ (Zs r5.1 r5.2) fun r6=>
    some (r6.1,r6.2)) (
    AJ (Qh a1 a2) fun r7=>
    AE (decide (r7.2.2=7)) (
     some (X0.mk 0 0 ([]:List UInt8) false,7)) (
     AE (decide (a0=12)) (
      some (X0.mk 1 r7.2.1 ([]:List UInt8) false,0)) (
      AJ (Zs r7.1 (decide (r7.2.2=0))) fun r8=>
      some (r8.1,r8.2))))))
def Ge(s0 s1:List UInt8)(s5:Int):Option ((Int)⊕(Unit⊕Bool)):=
 AE (decide (s5<(s0.length:Int))) (
  AE (decide (s5<(s1.length:Int))) (
   AX s0 s5 fun x1=>
   AX s1 s5 fun x2=>
   AE (!decide ((x1.toNat:Int)=(x2.toNat:Int))) (
    AX s0 s5 fun x3=>
    AX s1 s5 fun x4=>
    some (.inr (.inr (decide ((x3.toNat:Int)<(x4.toNat:Int)))))) (
    some (.inl (AA .add .i64 s5 1)))) (
   some (.inr (.inl ())))) (
  some (.inr (.inl ())))
def aE1(s0 s1:List UInt8)(s5:Int):Option (Unit⊕Bool):=AR (fun s:Int=>Ge s0 s1 s) s5
def Ym(a0 a1:List UInt8):Option (Bool):=
 AJ (aE1 a0 a1 0) fun o5=>
 CP o5 (fun o6=>
  some (decide ((a0.length:Int)<(a1.length:Int)))) (fun o7=>
  some o7)
def Zk(a0 a1:X0):Option (Bool):=
 AE (!decide (a0.kind=a1.kind)) (
  some (decide (a0.kind<a1.kind))) (
  AE (decide (a0.kind=1)) (
   some (decide (a0.int<a1.int))) (
   AE (decide (a0.kind=2)) (
    AJ (Ym a0.str a1.str) fun r1=>
    some r1) (
    AE (!a0.bool) (
     some a1.bool) (
     some false))))
def Q7(a0:Int)(a1 a2:X0):Option (X0×Int):=
 AE (decide (a0<4)) (
  some (X0.mk 0 0 ([]:List UInt8) false,1)) (
  AE (decide (16<a0)) (
   some (X0.mk 0 0 ([]:List UInt8) false,1)) (
   AE (decide (a0=4)) (
    AE (!decide (a1.kind=3)) (
     some (X0.mk 0 0 ([]:List UInt8) false,8)) (
     AJ (Zh (!a1.bool)) fun r1=>
     some (r1.1,r1.2))) (
    AE (decide (a0=5)) (
     AE (!decide (a1.kind=1)) (
      some (X0.mk 0 0 ([]:List UInt8) false,8)) (
      AJ (Zp 9 0 a1.int) fun r2=>
      some (r2.1,r2.2))) (
     AE (!decide (a1.kind=a2.kind)) (
      some (X0.mk 0 0 ([]:List UInt8) false,8)) (
      AE (decide (a0=13)) (
       AJ (Zh (X0.eqb a1 a2)) fun r3=>
       some (r3.1,r3.2)) (
       AE (decide (a0=14)) (
        AJ (Zh (!(X0.eqb a1 a2))) fun r4=>
        some (r4.1,r4.2)) (
        AE (decide (a1.kind=3)) (
         AE (decide (a0=6)) (
          AE (a1.bool) (
           AJ (Zh a2.bool) fun r5=>
           some (r5.1,r5.2)) (
           AJ (Zh false) fun r6=>
           some (r6.1,r6.2))) (
          AE (decide (a0=7)) (
           AE (a1.bool) (
            AJ (Zh true) fun r7=>
            some (r7.1,r7.2)) (
            AJ (Zh a2.bool) fun r8=>
            some (r8.1,r8.2))) (
           some (X0.mk 0 0 ([]:List UInt8) false,8)))) (
         AE (decide (a0=15)) (
          AJ (Zk a1 a2) fun r9=>
          AJ (Zh r9) fun r10=>
          some (r10.1,r10.2)) (
          AE (decide (a0=16)) (
           AJ (Zk a2 a1) fun r11=>
           AJ (Zh (!r11)) fun r12=>
           some (r12.1,r12.2)) (
           AE (decide (a1.kind=1)) (
            AE (decide (8<=a0)) (
             AE (decide (a0<=12)) (
              AJ (Zp a0 a1.int a2.int) fun r13=>
              some (r13.1,r13.2)) (
              AE (decide (a1.kind=2)) (
               AE (decide (a0=8)) (
                AE (decide (4096<(AA .add .i64 (a1.str.length:Int) (a2.str.length:Int)))) (
                 some (X0.mk 0 0 ([]:List UInt8) false,3)) (
                 AY (a1.str.length+a2.str.length<=9223372036854775807) (
                  some (X0.mk 2 0 (a1.str++a2.str) false,0)))) (
                some (X0.mk 0 0 ([]:List UInt8) false,8))) (
               some (X0.mk 0 0 ([]:List UInt8) false,8)))) (
             AE (decide (a1.kind=2)) (
              AE (decide (a0=8)) (
               AE (decide (4096<(AA .add .i64 (a1.str.length:Int) (a2.str.length:Int)))) (
                some (X0.mk 0 0 ([]:List UInt8) false,3)) (
                AY (a1.str.length+a2.str.length<=9223372036854775807) (
                 some (X0.mk 2 0 (a1.str++a2.str) false,0)))) (
               some (X0.mk 0 0 ([]:List UInt8) false,8))) (
              some (X0.mk 0 0 ([]:List UInt8) false,8)))) (
            AE (decide (a1.kind=2)) (
             AE (decide (a0=8)) (
              AE (decide (4096<(AA .add .i64 (a1.str.length:Int) (a2.str.length:Int)))) (
               some (X0.mk 0 0 ([]:List UInt8) false,3)) (
               AY (a1.str.length+a2.str.length<=9223372036854775807) (
                some (X0.mk 2 0 (a1.str++a2.str) false,0)))) (
              some (X0.mk 0 0 ([]:List UInt8) false,8))) (
             some (X0.mk 0 0 ([]:List UInt8) false,8)))))))))))))
def Zt(a0 a1 a2:Int):Option (Int):=
 AE (decide (a1<1)) (
  some 0) (
  AE (!decide (a1=a2)) (
   some 0) (
   AJ (Q7 a0 (X0.mk a1 0 ([]:List UInt8) false) (X0.mk a2 0 ([]:List UInt8) false)) fun r1=>
   AE (decide (r1.2=7)) (
    some 1) (
    AE (!decide (r1.2=0)) (
     some 0) (
     some r1.1.kind))))
def aKs(self:AD->Int->Option (Int×Int×Int))(a0:AD)(a1:Int):Option (Int×Int×Int):=
 AE (decide (a1<0)) (
  some (0,0,0)) (
  AE (decide ((a0.nodes.length:Int)<=a1)) (
   some (0,0,0)) (
   AX a0.nodes a1 fun x1=>
   AE (decide (x1.op=1)) (
    AE (!decide (x1.a=0)) (
     some (0,0,0)) (
     AE (!decide (x1.b=0)) (
      some (0,0,0)) (
      AJ (Zi x1.value) fun r2=>
      AE (!r2) (
       some (0,0,0)) (
       some (x1.value.kind,1,a1))))) (
    AE (!(X0.eqb x1.value (X0.mk 0 0 ([]:List UInt8) false))) (
     some (0,0,0)) (
     AE (decide (x1.op=2)) (
      AE (decide (x1.a<0)) (
       some (0,0,0)) (
       AE (decide ((a0.quants.length:Int)<=x1.a)) (
        some (0,0,0)) (
        AE (!decide (x1.b=0)) (
         some (0,0,0)) (
         AX a0.quants x1.a fun x3=>
         some (x3.type,1,a1))))) (
      AE (decide (x1.op=3)) (
       AE (decide (x1.a<0)) (
        some (0,0,0)) (
        AE (decide ((a0.frees.length:Int)<=x1.a)) (
         some (0,0,0)) (
         AE (!decide (x1.b=0)) (
          some (0,0,0)) (
          AX a0.frees x1.a fun x4=>
          some (x4.init_.kind,1,a1))))) (
       AE (decide (x1.op<4)) (
        some (0,0,0)) (
        AE (decide (16<x1.op)) (
         some (0,0,0)) (
         AJ (self a0 (AA .sub .i64 a1 1)) fun r5=>
         AE (decide (x1.op<=5)) (
          AE (decide (r5.1=0)) (
           some (0,0,0)) (
           AE (!decide (x1.a=(AA .sub .i64 a1 1))) (
            some (0,0,0)) (
            AE (!decide (x1.b=0)) (
             some (0,0,0)) (
             AJ (Zt x1.op r5.1 r5.1) fun r6=>
             some (r6,(AA .add .i64 r5.2.1 1),r5.2.2))))) (
          AE (decide (r5.1=0)) (
           some (0,0,0)) (
           AE (!decide (x1.b=(AA .sub .i64 a1 1))) (
            some (0,0,0)) (
            AE (!decide (x1.a=(AA .sub .i64 r5.2.2 1))) (
             some (0,0,0)) (
             AJ (self a0 (AA .sub .i64 r5.2.2 1)) fun r7=>
             AJ (Zt x1.op r7.1 r5.1) fun r8=>
             some (r8,(AA .add .i64 (aP3 r5.2.1 r7.2.1) 1),r7.2.2)))))))))))))
def aH5:Nat->AD->Int->Option (Int×Int×Int)
 |0=>fun _ _=>none
 |n+1=>fun a0 a1=>aKs (aH5 n) a0 a1
def Yt(a0:AD)(a1:Int):Option (Int×Int×Int):=aH5 100000 a0 a1
def Zy(a0:AD)(a1 a2:Int):Option (Int×Int):=
 AJ (Yt a0 a2) fun r1=>
 AE (decide (r1.1=0)) (
  some (0,0)) (
  AE (!decide (r1.2.2=a1)) (
   some (0,0)) (
   some (r1.1,r1.2.1)))
def IQ(s1:Int)(w2:X3)(s5:Int):Option ((Int)⊕(Unit⊕Unit)):=
 AE (decide (s5<(w2.args.length:Int))) (
  AX w2.args s5 fun x1=>
  AE (decide (x1.kind=2)) (
   AX w2.args s5 fun x2=>
   AE (decide (x2.n=s1)) (
    some (.inr (.inr ()))) (
    some (.inl (AA .add .i64 s5 1)))) (
   some (.inl (AA .add .i64 s5 1)))) (
  some (.inr (.inl ())))
def aKq(s1:Int)(w2:X3)(s5:Int):Option (Unit⊕Unit):=AR (fun s:Int=>IQ s1 w2 s) s5
def Yq(a0:X3)(a1:Int):Option (Bool):=
 AJ (aKq a1 a0 0) fun o3=>
 CP o3 (fun o4=>
  some false) (fun o5=>
  some true)
def IY(s3:Int)(w4:AD)(w5:X3)(s9:Int):Option ((Int)⊕(Unit⊕Unit)):=
 AE (decide (s9<s3)) (
  AX w4.nodes s9 fun x1=>
  AE (decide (x1.op=2)) (
   AX w4.nodes s9 fun x2=>
   AJ (Yq w5 x2.a) fun r3=>
   AE (!r3) (
    some (.inr (.inr ()))) (
    some (.inl (AA .add .i64 s9 1)))) (
   some (.inl (AA .add .i64 s9 1)))) (
  some (.inr (.inl ())))
def aK1(s3:Int)(w4:AD)(w5:X3)(s9:Int):Option (Unit⊕Unit):=AR (fun s:Int=>IY s3 w4 w5 s) s9
def Z4(a0:AD)(a1:X3)(a2 a3:Int):Option (Bool):=
 AJ (aK1 a3 a0 a1 a2) fun o4=>
 CP o4 (fun o5=>
  some true) (fun o6=>
  some false)
def T4(s2 s8:Int)(s56:Bool)(w3:AD)(w4:Xc):Option (Int⊕Unit):=
 AE (s56) (
  AJ (Zy w3 s8 w4.guard) fun r1=>
  AE (!decide (r1.1=3)) (
   some (.inr ())) (
   AE (decide (64<r1.2)) (
    some (.inr ())) (
    some (.inl (AA .add .i64 w4.guard 1))))) (
  some (.inl s8))
def H8(s2 s11:Int)(w3:AD)(w4:Xc)(w12:FV)(s15:Int):Option ((Int)⊕(Unit⊕Unit)):=
 AE (decide (s15<s11)) (
  AX w4.sets s15 fun x8=>
  AE (decide (x8.free=w12.free)) (
   some (.inr (.inr ()))) (
   some (.inl (AA .add .i64 s15 1)))) (
  some (.inr (.inl ())))
def aKa(s2 s11:Int)(w3:AD)(w4:Xc)(w12:FV)(s15:Int):Option (Unit⊕Unit):=AR (fun s:Int=>H8 s2 s11 w3 w4 w12 s) s15
def H7(s2:Int)(w3:AD)(w4:Xc)(s8 s11:Int):Option ((Int×Int)⊕(Int⊕Unit)):=
 AE (decide (s11<(w4.sets.length:Int))) (
  AX w4.sets s11 fun x5=>
  AJ (Zy w3 s8 x5.expr) fun r6=>
  AE (decide (x5.free<0)) (
   some (.inr (.inr ()))) (
   AE (decide ((w3.frees.length:Int)<=x5.free)) (
    some (.inr (.inr ()))) (
    AE (decide (r6.1=0)) (
     some (.inr (.inr ()))) (
     AE (decide (64<r6.2)) (
      some (.inr (.inr ()))) (
      AX w3.frees x5.free fun x7=>
      AE (!decide (r6.1=x7.init_.kind)) (
       some (.inr (.inr ()))) (
       AJ (aKa s2 s11 w3 w4 x5 0) fun o9=>
       CP o9 (fun o10=>
        some (.inl ((AA .add .i64 x5.expr 1),(AA .add .i64 s11 1)))) (fun o11=>
        some (.inr (.inr ()))))))))) (
  some (.inr (.inl s8)))
def aJ9(s2:Int)(w3:AD)(w4:Xc)(s8 s11:Int):Option (Int⊕Unit):=AR (fun s:Int×Int=>H7 s2 w3 w4 s.1 s.2) (s8,s11)
def Xy(a0:AD)(a1:Xc)(a2:Int):Option (Int×Bool):=
 AE (decide (a1.from_<0)) (
  some (0,false)) (
  AE (decide ((a0.states.length:Int)<=a1.from_)) (
   some (0,false)) (
   AE (decide (a1.to<0)) (
    some (0,false)) (
    AE (decide ((a0.states.length:Int)<=a1.to)) (
     some (0,false)) (
     AE (decide (a1.symbol<0)) (
      some (0,false)) (
      AE (decide ((a0.symbols.length:Int)<=a1.symbol)) (
       some (0,false)) (
       AJ (T4 a2 a2 (!decide (a1.guard=(-1))) a0 a1) fun o2=>
       CP o2 (fun o3=>
        AJ (aJ9 a2 a0 a1 o3 0) fun o12=>
        CP o12 (fun o13=>
         AX a0.symbols a1.symbol fun x15=>
         AJ (Z4 a0 x15 a2 o13) fun r16=>
         some (o13,r16)) (fun o14=>
         some (0,false))) (fun o4=>
        some (0,false))))))))
def Q8(a0:AD)(a1:CE)(a2:Int):Option (Bool):=
 AE (decide (a1.kind=1)) (
  AE (decide (a1.n=0)) (
   AJ (Zi a1.value) fun r1=>
   AE (r1) (
    some (decide (a1.value.kind=a2))) (
    some false)) (
   some false)) (
  AE (!(X0.eqb a1.value (X0.mk 0 0 ([]:List UInt8) false))) (
   some false) (
   AE (decide (a1.kind=2)) (
    AE (decide (0<=a1.n)) (
     AE (decide (a1.n<(a0.quants.length:Int))) (
      AX a0.quants a1.n fun x2=>
      some (decide (x2.type=a2))) (
      some false)) (
     some false)) (
    AE (decide (a1.kind=3)) (
     AE (decide (0<=a1.n)) (
      AE (decide (a1.n<(a0.frees.length:Int))) (
       AX a0.frees a1.n fun x3=>
       some (decide (x3.init_.kind=a2))) (
       some false)) (
      some false)) (
     AE (decide (a1.kind=4)) (
      some (decide (a1.n=0))) (
      some false)))))
def IX(w2:AD)(w3:X3)(s5:Int):Option ((Int)⊕(Unit⊕Unit)):=
 AE (decide (s5<(w3.args.length:Int))) (
  AX w3.args s5 fun x2=>
  AX w2.decls w3.event fun x3=>
  AX x3.types s5 fun x4=>
  AJ (Q8 w2 x2 x4) fun r5=>
  AE (!r5) (
   some (.inr (.inr ()))) (
   some (.inl (AA .add .i64 s5 1)))) (
  some (.inr (.inl ())))
def aOf(w2:AD)(w3:X3)(s5:Int):Option (Unit⊕Unit):=AR (fun s:Int=>IX w2 w3 s) s5
def Z1(a0:AD)(a1:X3):Option (Bool):=
 AE (decide (a1.event<0)) (
  some false) (
  AE (decide ((a0.decls.length:Int)<=a1.event)) (
   some false) (
   AX a0.decls a1.event fun x1=>
   AE (!decide ((a1.args.length:Int)=(x1.types.length:Int))) (
    some false) (
    AJ (aOf a0 a1 0) fun o6=>
    CP o6 (fun o7=>
     some true) (fun o8=>
     some false))))
def Ig(w2 w3:X3)(s5:Int):Option ((Int)⊕(Unit⊕Unit)):=
 AE (decide (s5<(w2.args.length:Int))) (
  AX w2.args s5 fun x1=>
  AX w3.args s5 fun x2=>
  AE (!(CE.eqb x1 x2)) (
   some (.inr (.inr ()))) (
   some (.inl (AA .add .i64 s5 1)))) (
  some (.inr (.inl ())))
def aOg(w2 w3:X3)(s5:Int):Option (Unit⊕Unit):=AR (fun s:Int=>Ig w2 w3 s) s5
def Zc(a0 a1:X3):Option (Bool):=
 AE (!decide (a0.event=a1.event)) (
  some false) (
  AE (!decide ((a0.args.length:Int)=(a1.args.length:Int))) (
   some false) (
   AJ (aOg a0 a1 0) fun o3=>
   CP o3 (fun o4=>
    some true) (fun o5=>
    some false)))
def Ry(s5 s6:Int)(s34:Bool)(w1:AD)(w3:List Bool)(w4:List Int):Option ((List Int)):=
 AE (s34) (
  AY (fit w4.length [s6].length 8) (
   some (w4++[s6]))) (
  some w4)
def ZT(s5:Int)(w1:AD)(w3:List Bool)(w4:List Int):Option ((List Bool×List Int)):=
 AX w1.trans s5 fun x5=>
 AY (0<=x5.symbol/\x5.symbol+1<=(w3.length:Int)) (
  AX w3 x5.symbol fun x6=>
  AJ (Ry s5 x5.symbol (!x6) w1 w3 w4) fun o7=>
  AY (0<=x5.symbol/\x5.symbol+1<=(w3.length:Int)) (
   AY (0<=x5.symbol/\x5.symbol+1<=(w3.length:Int)) (
    some (w3.set x5.symbol.toNat true,o7))))
def HX(w1:AD)(s5:Int)(w3:List Bool)(w4:List Int):Option ((Int×List Bool×List Int)⊕((List Int))):=
 AE (decide (s5<(w1.trans.length:Int))) (
  AJ (ZT s5 w1 w3 w4) fun o8=>
  some (.inl ((AA .add .i64 s5 1),o8.1,o8.2))) (
  some (.inr w4))
def aNt(w1:AD)(s5:Int)(w3:List Bool)(w4:List Int):Option ((List Int)):=AR (fun s:Int×List Bool×List Int=>HX w1 s.1 s.2.1 s.2.2) (s5,w3,w4)
def HY(w1:AD)(w4:List Int)(s7:Int):Option ((Int)⊕(Unit⊕Unit)):=
 AE (decide (s7<(w4.length:Int))) (
  AX w4 s7 fun x10=>
  AE (!decide (x10=(AA .add .i64 (AA .sub .i64 (w1.symbols.length:Int) (w4.length:Int)) s7))) (
   some (.inr (.inr ()))) (
   some (.inl (AA .add .i64 s7 1)))) (
  some (.inr (.inl ())))
def aNu(w1:AD)(w4:List Int)(s7:Int):Option (Unit⊕Unit):=AR (fun s:Int=>HY w1 w4 s) s7
def Ha(s8:Int)(w1:AD)(s9:Int):Option ((Int)⊕(Unit⊕Unit)):=
 AE (decide (s9<s8)) (
  AX w1.symbols s8 fun x16=>
  AX w1.symbols s9 fun x17=>
  AJ (Zc x16 x17) fun r18=>
  AE (r18) (
   some (.inr (.inr ()))) (
   some (.inl (AA .add .i64 s9 1)))) (
  some (.inr (.inl ())))
def aJj(s8:Int)(w1:AD)(s9:Int):Option (Unit⊕Unit):=AR (fun s:Int=>Ha s8 w1 s) s9
def HZ(w1:AD)(s8:Int):Option ((Int)⊕(Unit⊕Unit)):=
 AE (decide (s8<(w1.symbols.length:Int))) (
  AX w1.symbols s8 fun x14=>
  AJ (Z1 w1 x14) fun r15=>
  AE (!r15) (
   some (.inr (.inr ()))) (
   AJ (aJj s8 w1 0) fun o19=>
   CP o19 (fun o20=>
    some (.inl (AA .add .i64 s8 1))) (fun o21=>
    some (.inr (.inr ()))))) (
  some (.inr (.inl ())))
def aNv(w1:AD)(s8:Int):Option (Unit⊕Unit):=AR (fun s:Int=>HZ w1 s) s8
def E1(s10:Int)(w1:AD)(s11:Bool)(s12:Int):Option ((Bool×Int)⊕(Bool)):=
 AE (decide (s12<(w1.symbols.length:Int))) (
  AE (s11) (
   some (.inl (true,(AA .add .i64 s12 1)))) (
   AX w1.symbols s12 fun x25=>
   AJ (Yq x25 s10) fun r26=>
   some (.inl (r26,(AA .add .i64 s12 1))))) (
  some (.inr s11))
def Rz(s10:Int)(w1:AD)(s11:Bool)(s12:Int):Option (Bool):=AR (fun s:Bool×Int=>E1 s10 w1 s.1 s.2) (s11,s12)
def Hb(w1:AD)(s10:Int):Option ((Int)⊕(Unit⊕Unit)):=
 AE (decide (s10<(w1.quants.length:Int))) (
  AJ (Rz s10 w1 false 0) fun o27=>
  AE (!o27) (
   some (.inr (.inr ()))) (
   some (.inl (AA .add .i64 s10 1)))) (
  some (.inr (.inl ())))
def aNw(w1:AD)(s10:Int):Option (Unit⊕Unit):=AR (fun s:Int=>Hb w1 s) s10
def X7(a0:AD):Option (Bool):=
 AY (0<=(a0.symbols.length:Int)/\fit 0 (a0.symbols.length:Int).toNat 1) (
  AJ (aNt a0 0 (List.replicate (a0.symbols.length:Int).toNat false) ([]:List Int)) fun o9=>
  AJ (aNu a0 o9 0) fun o11=>
  CP o11 (fun o12=>
   AJ (aNv a0 0) fun o22=>
   CP o22 (fun o23=>
    AJ (aNw a0 0) fun o28=>
    CP o28 (fun o29=>
     some true) (fun o30=>
     some false)) (fun o24=>
    some false)) (fun o13=>
   some false))
def IO(w1:AD)(s5 s6:Int):Option ((Int×Int)⊕(Int⊕Unit)):=
 AE (decide (s6<(w1.trans.length:Int))) (
  AX w1.trans s6 fun x3=>
  AJ (Xy w1 x3 s5) fun r4=>
  AE (!r4.2) (
   some (.inr (.inr ()))) (
   some (.inl (r4.1,(AA .add .i64 s6 1))))) (
  some (.inr (.inl s5)))
def aN9(w1:AD)(s5 s6:Int):Option (Int⊕Unit):=AR (fun s:Int×Int=>IO w1 s.1 s.2) (s5,s6)
def Yn(a0:AD):Option (Bool):=
 AJ (Xx a0.decls) fun r1=>
 AE (!decide (r1.1=0)) (
  some false) (
  AE (decide (8<(a0.quants.length:Int))) (
   some false) (
   AE (decide (16<(a0.frees.length:Int))) (
    some false) (
    AE (decide (32<(a0.states.length:Int))) (
     some false) (
     AE (decide (64<(a0.symbols.length:Int))) (
      some false) (
      AE (decide (2048<(a0.nodes.length:Int))) (
       some false) (
       AE (decide (256<(a0.trans.length:Int))) (
        some false) (
        AE (decide (a0.start<0)) (
         some false) (
         AE (decide ((a0.states.length:Int)<=a0.start)) (
          some false) (
          AJ (Xh a0) fun r2=>
          AE (!r2) (
           some false) (
           AJ (aN9 a0 0 0) fun o5=>
           CP o5 (fun o6=>
            AE (decide (o6=(a0.nodes.length:Int))) (
             AJ (X7 a0) fun r8=>
             some r8) (
             some false)) (fun o7=>
            some false)))))))))))
def IZ(w1:AD)(s3:Int):Option ((Int)⊕(Unit⊕Unit)):=
 AE (decide (s3<(w1.decls.length:Int))) (
  AX w1.decls s3 fun x3=>
  AE (decide (3<(x3.types.length:Int))) (
   some (.inr (.inr ()))) (
   some (.inl (AA .add .i64 s3 1)))) (
  some (.inr (.inl ())))
def aK2(w1:AD)(s3:Int):Option (Unit⊕Unit):=AR (fun s:Int=>IZ w1 s) s3
def Z5(a0:AD):Option (Bool):=
 AJ (Xa a0) fun r1=>
 AE (decide (r1=0)) (
  some false) (
  AJ (Yn a0) fun r2=>
  AE (!r2) (
   some false) (
   AJ (aK2 a0 0) fun o4=>
   CP o4 (fun o5=>
    some true) (fun o6=>
    some false)))
def IS(w1:AD)(s3:Int):Option ((Int)⊕(Unit⊕Unit)):=
 AE (decide (s3<(w1.trans.length:Int))) (
  AX w1.trans s3 fun x1=>
  AE (!decide (x1.guard=(-1))) (
   some (.inr (.inr ()))) (
   some (.inl (AA .add .i64 s3 1)))) (
  some (.inr (.inl ())))
def aKu(w1:AD)(s3:Int):Option (Unit⊕Unit):=AR (fun s:Int=>IS w1 s) s3
def Yu(a0:AD):Option (Bool):=
 AE (decide (0<(a0.frees.length:Int))) (
  some false) (
  AE (decide (1<(a0.quants.length:Int))) (
   some false) (
   AE (decide (8<(a0.states.length:Int))) (
    some false) (
    AE (decide (8<(a0.symbols.length:Int))) (
     some false) (
     AJ (aKu a0 0) fun o2=>
     CP o2 (fun o3=>
      some true) (fun o4=>
      some false)))))
def Ia(s0:List X2)(s3:Int):Option ((Int)⊕(Unit⊕Unit)):=
 AE (decide (s3<(s0.length:Int))) (
  AX s0 s3 fun x1=>
  AE (decide (x1.var<0)) (
   some (.inr (.inr ()))) (
   AX s0 s3 fun x2=>
   AE (decide (7<x2.var)) (
    some (.inr (.inr ()))) (
    AX s0 s3 fun x3=>
    AJ (Zi x3.value) fun r4=>
    AE (!r4) (
     some (.inr (.inr ()))) (
     AE (decide (0<s3)) (
      AX s0 s3 fun x5=>
      AX s0 (AA .sub .i64 s3 1) fun x6=>
      AE (decide (x5.var<=x6.var)) (
       some (.inr (.inr ()))) (
       some (.inl (AA .add .i64 s3 1)))) (
      some (.inl (AA .add .i64 s3 1))))))) (
  some (.inr (.inl ())))
def aK3(s0:List X2)(s3:Int):Option (Unit⊕Unit):=AR (fun s:Int=>Ia s0 s) s3
def Z6(a0:List X2):Option (Bool):=
 AJ (aK3 a0 0) fun o7=>
 CP o7 (fun o8=>
  some true) (fun o9=>
  some false)
def Q9(a0:AD)(a1:List X2):Option (Bool):=
 AE (decide ((a1.length:Int)=0)) (
  some true) (
  AE (decide ((a1.length:Int)=1)) (
   AE (decide ((a0.quants.length:Int)=1)) (
    AX a1 0 fun x1=>
    AE (decide (x1.var=0)) (
     AX a1 0 fun x2=>
     AX a0.quants 0 fun x3=>
     AE (decide (x2.value.kind=x3.type)) (
      AJ (Z6 a1) fun r4=>
      some r4) (
      some false)) (
     some false)) (
    some false)) (
   some false))
def Qi(a0:AD)(a1:List X2):Option (Bool):=
 AJ (Z5 a0) fun r1=>
 AE (!r1) (
  some false) (
  AJ (Yu a0) fun r2=>
  AE (!r2) (
   some false) (
   AJ (Q9 a0 a1) fun r3=>
   AE (!r3) (
    some false) (
    AE (!decide ((a1.length:Int)=(a0.quants.length:Int))) (
     some false) (
     AE (decide ((a1.length:Int)=0)) (
      some true) (
      AX a1 0 fun x4=>
      some (decide ((x4.value.str.length:Int)<=100)))))))
def Ib(s0:List Int)(s1 s7 s8:Int):Option ((Int)⊕(Unit⊕Int)):=
 AE (decide (s8<s7)) (
  AX s0 s8 fun x1=>
  AE (decide (s1=x1)) (
   some (.inr (.inr s8))) (
   some (.inl (AA .add .i64 s8 1)))) (
  some (.inr (.inl ())))
def aK4(s0:List Int)(s1 s7 s8:Int):Option (Unit⊕Int):=AR (fun s:Int=>Ib s0 s1 s7 s) s8
def Z7(a0:List Int)(a1:Int):Option (Int):=
 AJ (aK4 a0 a1 (a0.length:Int) 0) fun o2=>
 CP o2 (fun o3=>
  some (-1)) (fun o4=>
  some o4)
def Qj(a0:List Int)(a1:Int):Option (Bool):=
 AJ (Z7 a0 a1) fun r1=>
 some (decide (0<=r1))
def Tc(s6:Int)(s18:List Xc)(s19 s20:Int)(s37:Bool)(w2:AD)(w5:List Int)(w8:Xc):Option ((List Int)):=
 AE (s37) (
  AY (fit w5.length [w8.to].length 8) (
   some (w5++[w8.to]))) (
  some w5)
def aCc(s6:Int)(s18:List Xc)(s19 s20:Int)(w2:AD)(w5:List Int):Option ((List Int)):=
 AX s18 s20 fun x1=>
 AX w5 s6 fun x2=>
 AE (decide (x1.from_=x2)) (
  AJ (Qj w5 x1.to) fun r3=>
  AJ (Tc s6 s18 s19 s20 (!r3) w2 w5 x1) fun o4=>
  some o4) (
  AJ (Tc s6 s18 s19 s20 false w2 w5 x1) fun o5=>
  some o5)
def H4(s6:Int)(s18:List Xc)(s19:Int)(w2:AD)(s20:Int)(w5:List Int):Option ((Int×List Int)⊕((List Int))):=
 AE (decide (s20<s19)) (
  AJ (aCc s6 s18 s19 s20 w2 w5) fun o6=>
  some (.inl ((AA .add .i64 s20 1),o6))) (
  some (.inr w5))
def aJ5(s6:Int)(s18:List Xc)(s19:Int)(w2:AD)(s20:Int)(w5:List Int):Option ((List Int)):=AR (fun s:Int×List Int=>H4 s6 s18 s19 w2 s.1 s.2) (s20,w5)
def H3(w2:AD)(s6:Int)(w5:List Int):Option ((Int×List Int)⊕((List Int))):=
 AE (decide (s6<(w5.length:Int))) (
  AJ (aJ5 s6 w2.trans (w2.trans.length:Int) w2 0 w5) fun o7=>
  some (.inl ((AA .add .i64 s6 1),o7))) (
  some (.inr w5))
def aJ4(w2:AD)(s6:Int)(w5:List Int):Option ((List Int)):=AR (fun s:Int×List Int=>H3 w2 s.1 s.2) (s6,w5)
def Xs(a0:AD)(a1:Int):Option (List Int):=
 AJ (aJ4 a0 0 [a1]) fun o8=>
 some o8
def Qk(a0:Int)(a1:AD):Option (Bool):=
 AX a1.states a0 fun x1=>
 AE (!x1.accept) (
  some true) (
  AX a1.states a0 fun x2=>
  some x2.next)
def Ih(s0:List Int)(s1:AD)(s7 s8:Int):Option ((Int)⊕(Unit⊕Int)):=
 AE (decide (s8<s7)) (
  AX s0 s8 fun x1=>
  AJ (Qk x1 s1) fun r2=>
  AE (r2) (
   some (.inr (.inr s8))) (
   some (.inl (AA .add .i64 s8 1)))) (
  some (.inr (.inl ())))
def aK8(s0:List Int)(s1:AD)(s7 s8:Int):Option (Unit⊕Int):=AR (fun s:Int=>Ih s0 s1 s7 s) s8
def Zd(a0:List Int)(a1:AD):Option (Int):=
 AJ (aK8 a0 a1 (a0.length:Int) 0) fun o3=>
 CP o3 (fun o4=>
  some (-1)) (fun o5=>
  some o5)
def Ql(a0:List Int)(a1:AD):Option (Bool):=
 AJ (Zd a0 a1) fun r1=>
 some (decide (0<=r1))
def Qm(a0:Int)(a1:AD):Option (Bool):=
 AX a1.states a0 fun x1=>
 some x1.accept
def Ii(s0:List Int)(s1:AD)(s7 s8:Int):Option ((Int)⊕(Unit⊕Int)):=
 AE (decide (s8<s7)) (
  AX s0 s8 fun x1=>
  AJ (Qm x1 s1) fun r2=>
  AE (r2) (
   some (.inr (.inr s8))) (
   some (.inl (AA .add .i64 s8 1)))) (
  some (.inr (.inl ())))
def aK9(s0:List Int)(s1:AD)(s7 s8:Int):Option (Unit⊕Int):=AR (fun s:Int=>Ii s0 s1 s7 s) s8
def Ze(a0:List Int)(a1:AD):Option (Int):=
 AJ (aK9 a0 a1 (a0.length:Int) 0) fun o3=>
 CP o3 (fun o4=>
  some (-1)) (fun o5=>
  some o5)
def Qn(a0:List Int)(a1:AD):Option (Bool):=
 AJ (Ze a0 a1) fun r1=>
 some (decide (0<=r1))
def Zj(a0:AD)(a1:Int):Option (Int):=
 AE (decide (a1<0)) (
  some 0) (
  AE (decide ((a0.states.length:Int)<=a1)) (
   some 0) (
   AJ (Xs a0 a1) fun r1=>
   AJ (Ql r1 a0) fun r2=>
   AE (!r2) (
    some 1) (
    AJ (Qn r1 a0) fun r3=>
    AE (!r3) (
     some 2) (
     some 0))))
def aCj(s5:Int)(s8:List Yk)(s9 s10:Int)(s20:Bool)(w2:AD):Option (Int):=
 AE (s20) (
  some 0) (
  some s5)
def Tj(s5:Int)(s8:List Yk)(s9 s10 s17:Int)(s18:Bool)(w2:AD):Option (Int⊕Unit):=
 AE (s18) (
  some (.inr ())) (
  AJ (aCj s5 s8 s9 s10 (decide (s17=0)) w2) fun o3=>
  some (.inl o3))
def Ti(s5:Int)(s8:List Yk)(s9 s10 s17:Int)(w2:AD):Option (Int⊕Unit):=
 AJ (Tj s5 s8 s9 s10 s17 (decide (s17=1)) w2) fun o4=>
 CP o4 (fun o5=>
  some (.inl o5)) (fun o6=>
  some (.inr ()))
def Th(s5:Int)(s8:List Yk)(s9 s10:Int)(w2:AD):Option (Int⊕Unit):=
 AX s8 s10 fun x1=>
 AJ (Zj w2 x1.state) fun r2=>
 AJ (Ti s5 s8 s9 s10 r2 w2) fun o7=>
 CP o7 (fun o8=>
  some (.inl o8)) (fun o9=>
  some (.inr ()))
def GZ(s8:List Yk)(s9:Int)(w2:AD)(s5 s10:Int):Option ((Int×Int)⊕(Int⊕Unit)):=
 AE (decide (s10<s9)) (
  AJ (Th s5 s8 s9 s10 w2) fun o10=>
  CP o10 (fun o11=>
   some (.inl (o11,(AA .add .i64 s10 1)))) (fun o12=>
   some (.inr (.inr ())))) (
  some (.inr (.inl s5)))
def aJ6(s8:List Yk)(s9:Int)(w2:AD)(s5 s10:Int):Option (Int⊕Unit):=AR (fun s:Int×Int=>GZ s8 s9 w2 s.1 s.2) (s5,s10)
def Xt(a0:AD)(a1:List Yk):Option (Int):=
 AJ (aJ6 a1 (a1.length:Int) a0 2 0) fun o13=>
 CP o13 (fun o14=>
  some o14) (fun o15=>
  some 1)
def aEn(s1 s5 s6:Int)(s9:List X3)(s10 s11:Int)(s19:Bool):Option (Int):=
 AE (s19) (
  AY (0<=(IntKind.wrap .u64 s6)) (
   some (AA .or .u64 s5 (AA .shl .u64 1 (IntKind.wrap .u64 s6))))) (
  some s5)
def aEl(s1 s5:Int)(s9:List X3)(s10 s11:Int):Option (Int):=
 AX s9 s11 fun x1=>
 AJ (aEn s1 s5 s11 s9 s10 s11 (decide (x1.event=s1))) fun o2=>
 some o2
def IL(s1:Int)(s9:List X3)(s10 s5 s11:Int):Option ((Int×Int)⊕(Int)):=
 AE (decide (s11<s10)) (
  AJ (aEl s1 s5 s9 s10 s11) fun o3=>
  some (.inl (o3,(AA .add .i64 s11 1)))) (
  some (.inr s5))
def aKl(s1:Int)(s9:List X3)(s10 s5 s11:Int):Option (Int):=AR (fun s:Int×Int=>IL s1 s9 s10 s.1 s.2) (s5,s11)
def Yf(a0:AD)(a1:Int):Option (Int):=
 AJ (aKl a1 a0.symbols (a0.symbols.length:Int) 0 0) fun o4=>
 some o4
def Qt:Option (Unit):=
 some ()
def Qa(a0:Bool):Option (X0):=
 some (X0.mk 3 0 ([]:List UInt8) a0)
def Zu(a0 a1:X0):Option (Bool):=
 AE (!decide (a0.kind=a1.kind)) (
  some (decide (a0.kind<a1.kind))) (
  AE (decide (a0.kind=1)) (
   some (decide (a0.int<a1.int))) (
   AE (decide (a0.kind=2)) (
    some (Op.bytesLess a0.str a1.str)) (
    AE (!a0.bool) (
     some a1.bool) (
     some false))))
def Zz(a0 a1:X0)(a2:List X0):Option (Int):=
 AJ (Zu a0 a1) fun r1=>
 AE (r1) (
  some (-1)) (
  AJ (Zu a1 a0) fun r2=>
  AE (r2) (
   some 1) (
   some 0))
def UM(s0 s2:List X0)(s8 s9:Int)(s10 s11:Int)(s31:Bool)(w4:X0):Option ((Int×Int)):=
 AE (s31) (
  some ((AA .add .i64 s11 1),s10)) (
  some (s9,s11))
def aDl(s0 s2:List X0)(s8 s9 s10:Int)(w4:X0):Option ((Int×Int)):=
 AX s0 (IntKind.wrap .i64 (AA .shr .u64 (IntKind.wrap .u64 (AA .add .i64 s9 s10)) 1)) fun x1=>
 AJ (Zz x1 w4 s2) fun r2=>
 AJ (UM s0 s2 s8 s9 s10 (IntKind.wrap .i64 (AA .shr .u64 (IntKind.wrap .u64 (AA .add .i64 s9 s10)) 1)) (decide (r2<0)) w4) fun o3=>
 some (o3.1,o3.2)
def Gd(s0 s2:List X0)(s8:Int)(w4:X0)(s9 s10:Int):Option ((Int×Int)⊕(Int)):=
 AE (decide (s9<s10)) (
  AJ (aDl s0 s2 s8 s9 s10 w4) fun o4=>
  some (.inl (o4.1,o4.2))) (
  some (.inr s9))
def aDo(s0 s2:List X0)(s8:Int)(w4:X0)(s9 s10:Int):Option (Int):=AR (fun s:Int×Int=>Gd s0 s2 s8 w4 s.1 s.2) (s9,s10)
def Y3(a0:List X0)(a1:X0)(a2:List X0):Option (Int×Bool):=
 AJ (aDo a0 a2 (a0.length:Int) a1 0 (a0.length:Int)) fun o5=>
 AE (decide (o5<(a0.length:Int))) (
  AX a0 o5 fun x6=>
  AJ (Zz x6 a1 a2) fun r7=>
  some (o5,decide (r7=0))) (
  some (o5,false))
def U0(i:Int)(ys:List X0):Option (List X0):=aP1 40 i ys
def aF5(s5:Int)(s6 s20:Bool)(w3:X0):Option ((List X0)):=
 AE (s20) (
  AJ (U0 s5 [w3]) fun r2=>
  some r2) (
  some ([]:List X0))
def Zm(a1:X0):Option (Bool×List X0):=
 AJ (Y3 ([]:List X0) a1 ([]:List X0)) fun r1=>
 AJ (aF5 r1.1 r1.2 (!r1.2) a1) fun o3=>
 some (!r1.2,o3)
def Qu(i:Int)(xs ys:List X0):Option (List X0):=aP0 40 i xs ys
def aF3(s5:Int)(s6 s20:Bool)(w3:X0)(w501:List X0):Option ((List X0)):=
 AE (s20) (
  AJ (Qu s5 w501 [w3]) fun r2=>
  some r2) (
  some w501)
def Zl(a1:X0)(w1:List X0):Option (Bool×List X0):=
 AJ (Y3 w1 a1 w1) fun r1=>
 AJ (aF3 r1.1 r1.2 (!r1.2) a1 w1) fun o3=>
 some (!r1.2,o3)
def U1(l:List X0):Option (List X0):=Oq 40 l
def Qb(w1:List X0):Option (List X0×List X0):=
 AJ (U1 w1) fun r1=>
 some (r1,w1)
def S9(s1:Int)(s12:Bool)(w2:AD):Option ((List X0)):=
 AE (s12) (
  AJ (Qa false) fun r2=>
  AJ (Zm r2) fun r3=>
  AJ (Qa true) fun r4=>
  AJ (Zl r4 r3.2) fun r5=>
  some r5.2) (
  some ([]:List X0))
def TA(s1:Int)(s20:List X3)(s21 s22:Int)(s27:List CE)(s28 s29:Int)(s42:Bool)(w9:CE)(w518:List X0):Option ((List X0)):=
 AE (s42) (
  AJ (Zl w9.value w518) fun r9=>
  some r9.2) (
  some w518)
def aBj(s1:Int)(s20:List X3)(s21 s22:Int)(s27:List CE)(s28 s29:Int)(w518:List X0):Option ((List X0)):=
 AX s27 s29 fun x8=>
 AE (decide (x8.kind=1)) (
  AJ (TA s1 s20 s21 s22 s27 s28 s29 (decide (x8.value.kind=s1)) x8 w518) fun o10=>
  some o10) (
  AJ (TA s1 s20 s21 s22 s27 s28 s29 false x8 w518) fun o11=>
  some o11)
def Hu(s1:Int)(s20:List X3)(s21 s22:Int)(s27:List CE)(s28 s29:Int)(w518:List X0):Option ((Int×List X0)⊕((List X0))):=
 AE (decide (s29<s28)) (
  AJ (aBj s1 s20 s21 s22 s27 s28 s29 w518) fun o12=>
  some (.inl ((AA .add .i64 s29 1),o12))) (
  some (.inr w518))
def aBm(s1:Int)(s20:List X3)(s21 s22:Int)(s27:List CE)(s28 s29:Int)(w518:List X0):Option ((List X0)):=AR (fun s:Int×List X0=>Hu s1 s20 s21 s22 s27 s28 s.1 s.2) (s29,w518)
def Ht(s1:Int)(s20:List X3)(s21 s22:Int)(w518:List X0):Option ((Int×List X0)⊕((List X0))):=
 AE (decide (s22<s21)) (
  AX s20 s22 fun x7=>
  AJ (aBm s1 s20 s21 s22 x7.args (x7.args.length:Int) 0 w518) fun o13=>
  some (.inl ((AA .add .i64 s22 1),o13))) (
  some (.inr w518))
def aJw(s1:Int)(s20:List X3)(s21 s22:Int)(w518:List X0):Option ((List X0)):=AR (fun s:Int×List X0=>Ht s1 s20 s21 s.1 s.2) (s22,w518)
def Xk(a0:AD)(a1:Int):Option (List X0):=
 AJ (Qt) fun r1=>
 AJ (S9 a1 (decide (a1=3)) a0) fun o6=>
 AJ (aJw a1 a0.symbols (a0.symbols.length:Int) 0 o6) fun o14=>
 AJ (Qb o14) fun r15=>
 some r15.1
def Ic(s0:List X0)(s7:Int)(w3:X0)(s8:Int):Option ((Int)⊕(Unit⊕Int)):=
 AE (decide (s8<s7)) (
  AX s0 s8 fun x1=>
  AE ((X0.eqb w3 x1)) (
   some (.inr (.inr s8))) (
   some (.inl (AA .add .i64 s8 1)))) (
  some (.inr (.inl ())))
def aFs(s0:List X0)(s7:Int)(w3:X0)(s8:Int):Option (Unit⊕Int):=AR (fun s:Int=>Ic s0 s7 w3 s) s8
def Z8(a0:List X0)(a1:X0):Option (Int):=
 AJ (aFs a0 (a0.length:Int) a1 0) fun o2=>
 CP o2 (fun o3=>
  some (-1)) (fun o4=>
  some o4)
def Q0(a0:List X0)(a1:X0):Option (Bool):=
 AJ (Z8 a0 a1) fun r1=>
 some (decide (0<=r1))
def Qv(n:Int):Option (List X0):=aGs 40 n
def Ss(s0:List (List X0))(s3:Int)(s9:List (List X0))(s10 s11:Int)(s20:Bool):Option (Unit):=
 AE (s20) (
  none) (
  some ())
def Sr(s0:List (List X0))(s3:Int)(s9:List (List X0))(s10 s11:Int):Option (Int):=
 AX s9 s11 fun x1=>
 AJ (Ss s0 (AA .add .i64 s3 (x1.length:Int)) s9 s10 s11 (decide ((AA .add .i64 s3 (x1.length:Int))<0))) fun o2=>
 some (AA .add .i64 s3 (x1.length:Int))
def GS(s0 s9:List (List X0))(s10 s3 s11:Int):Option ((Int×Int)⊕(Int)):=
 AE (decide (s11<s10)) (
  AJ (Sr s0 s3 s9 s10 s11) fun o3=>
  some (.inl (o3,(AA .add .i64 s11 1)))) (
  some (.inr s3))
def Su(s0 s9:List (List X0))(s10 s3 s11:Int):Option (Int):=AR (fun s:Int×Int=>GS s0 s9 s10 s.1 s.2) (s3,s11)
theorem KL(s0 s9:List (List X0))(s10 s3 s11:Int):Su s0 s9 s10 s3 s11=CU (GS s0 s9 s10 s3 s11) (fun s:Int×Int=>Su s0 s9 s10 s.1 s.2):=Aj _ _
def GT(s25:List (List X0))(s26 s27:Int)(w6:List X0):Option ((Int×List X0)⊕((List X0))):=
 AE (decide (s27<s26)) (
  AX s25 s27 fun x6=>
  AY (fit w6.length x6.length 40) (
   some (.inl ((AA .add .i64 s27 1),w6++x6)))) (
  some (.inr w6))
def Sx(s25:List (List X0))(s26 s27:Int)(w6:List X0):Option ((List X0)):=AR (fun s:Int×List X0=>GT s25 s26 s.1 s.2) (s27,w6)
theorem KM(s25:List (List X0))(s26 s27:Int)(w6:List X0):Sx s25 s26 s27 w6=CU (GT s25 s26 s27 w6) (fun s:Int×List X0=>Sx s25 s26 s.1 s.2):=Aj _ _
def Xi(a0:List (List X0)):Option (List X0):=
 AJ (Su a0 a0 (a0.length:Int) 0 0) fun o4=>
 AJ (Qv o4) fun r5=>
 AJ (Sx a0 (a0.length:Int) 0 r5) fun o7=>
 some o7
def aDc(s0:Int)(s1:List X0)(s20:Bool)(w4 w6:X0):Option (X0):=
 AE (s20) (
  some (X0.mk w6.kind (AA .add .i64 w6.int 1) w6.str w6.bool)) (
  AY (w6.str.length+([97]:List UInt8).length<=9223372036854775807) (
   some (X0.mk w6.kind w6.int (w6.str++([97]:List UInt8)) w6.bool)))
def UH(s0:Int)(s1:List X0)(w4 w6:X0):Option (X0):=
 AJ (aDc s0 s1 (decide (s0=1)) w4 w6) fun o2=>
 some o2
def IC(s0:Int)(s1:List X0)(w4 w6:X0):Option ((X0)⊕(X0)):=
 AJ (Q0 s1 w6) fun r1=>
 AE (r1) (
  AJ (UH s0 s1 w4 w6) fun o3=>
  some (.inl o3)) (
  some (.inr w6))
def Pq(s0:Int)(s1:List X0)(w4 w6:X0):Option (X0):=AR (fun s:X0=>IC s0 s1 w4 s) w6
theorem OT(s0:Int)(s1:List X0)(w4 w6:X0):Pq s0 s1 w4 w6=CU (IC s0 s1 w4 w6) (fun s:X0=>Pq s0 s1 w4 s):=Aj _ _
def Y1(a0:Int)(a1:List X0):Option (X0×Bool):=
 AE (!decide (a0=1)) (
  AE (!decide (a0=2)) (
   some (X0.mk 0 0 ([]:List UInt8) false,false)) (
   AJ (Pq a0 a1 (X0.mk 0 0 ([]:List UInt8) false) (X0.mk a0 0 ([]:List UInt8) false)) fun o4=>
   some (o4,true))) (
  AJ (Pq a0 a1 (X0.mk 0 0 ([]:List UInt8) false) (X0.mk a0 0 ([]:List UInt8) false)) fun o5=>
  some (o5,true))
def UE(s1:List X0)(s5:Int)(s28:List X2)(s29 s30:Int)(s45:Bool)(w6:List X0)(w8:X2):Option ((List X0)):=
 AE (s45) (
  AY (fit w6.length [w8.value].length 40) (
   some (w6++[w8.value]))) (
  some w6)
def aC6(s1:List X0)(s5:Int)(s28:List X2)(s29 s30:Int)(w6:List X0):Option ((List X0)):=
 AX s28 s30 fun x4=>
 AE (decide (x4.value.kind=s5)) (
  AJ (Q0 w6 x4.value) fun r5=>
  AJ (UE s1 s5 s28 s29 s30 (!r5) w6 x4) fun o6=>
  some o6) (
  AJ (UE s1 s5 s28 s29 s30 false w6 x4) fun o7=>
  some o7)
def IB(s1:List X0)(s5:Int)(s28:List X2)(s29 s30:Int)(w6:List X0):Option ((Int×List X0)⊕((List X0))):=
 AE (decide (s30<s29)) (
  AJ (aC6 s1 s5 s28 s29 s30 w6) fun o8=>
  some (.inl ((AA .add .i64 s30 1),o8))) (
  some (.inr w6))
def aC9(s1:List X0)(s5:Int)(s28:List X2)(s29 s30:Int)(w6:List X0):Option ((List X0)):=AR (fun s:Int×List X0=>IB s1 s5 s28 s29 s.1 s.2) (s30,w6)
def Pp(s61:Bool)(w6:List X0)(w9:X0):Option ((List X0)):=
 AE (s61) (
  AY (fit w6.length [w9].length 40) (
   some (w6++[w9]))) (
  some w6)
def Y0(a0:Xp)(a1:List X0):Option (List X0):=
 AX a0.q.decls a0.d_ fun x1=>
 AX x1.types a0.at_ fun x2=>
 AJ (Xk a0.q x2) fun r3=>
 AJ (aC9 a1 x2 a0.b (a0.b.length:Int) 0 r3) fun o9=>
 AJ (Xi [o9,a1]) fun r10=>
 AJ (Y1 x2 r10) fun r11=>
 AJ (Pp r11.2 o9 r11.1) fun o12=>
 some o12
def Id(s1:Int)(s8:List X2)(s9:Int)(w4:X0)(s10:Int):Option ((Int)⊕(Unit⊕X0)):=
 AE (decide (s10<s9)) (
  AX s8 s10 fun x1=>
  AE (decide (x1.var=s1)) (
   some (.inr (.inr x1.value))) (
   some (.inl (AA .add .i64 s10 1)))) (
  some (.inr (.inl ())))
def aK5(s1:Int)(s8:List X2)(s9:Int)(w4:X0)(s10:Int):Option (Unit⊕X0):=AR (fun s:Int=>Id s1 s8 s9 w4 s) s10
def Z9(a0:List X2)(a1:Int):Option (X0×Bool):=
 AJ (aK5 a1 a0 (a0.length:Int) (X0.mk 0 0 ([]:List UInt8) false) 0) fun o2=>
 CP o2 (fun o3=>
  some (X0.mk 0 0 ([]:List UInt8) false,false)) (fun o4=>
  some (o4,true))
def Qo(a0:Xp)(a1:CE)(a2:X0):Option (Bool):=
 AE (decide (a1.kind=1)) (
  some (X0.eqb a1.value a2)) (
  AE (decide (a1.kind=2)) (
   AJ (Z9 a0.b a1.n) fun r1=>
   AE (r1.2) (
    some (X0.eqb r1.1 a2)) (
    some false)) (
   some true))
def Ua(s6 s7:Int)(s11:List X3)(s12 s13:Int)(s34:Bool)(w2:Xp)(w3:X0):Option (Int):=
 AE (s34) (
  AY (0<=(IntKind.wrap .u64 s7)) (
   some (AA .or .u64 s6 (AA .shl .u64 1 (IntKind.wrap .u64 s7))))) (
  some s6)
def aD6(s6:Int)(s11:List X3)(s12 s13:Int)(w2:Xp)(w3:X0):Option (Int):=
 AX s11 s13 fun x1=>
 AE (decide (x1.event=w2.d_)) (
  AX x1.args w2.at_ fun x2=>
  AJ (Qo w2 x2 w3) fun r3=>
  AJ (Ua s6 s13 s11 s12 s13 r3 w2 w3) fun o4=>
  some o4) (
  AJ (Ua s6 s13 s11 s12 s13 false w2 w3) fun o5=>
  some o5)
def II(s11:List X3)(s12:Int)(w2:Xp)(w3:X0)(s6 s13:Int):Option ((Int×Int)⊕(Int)):=
 AE (decide (s13<s12)) (
  AJ (aD6 s6 s11 s12 s13 w2 w3) fun o6=>
  some (.inl (o6,(AA .add .i64 s13 1)))) (
  some (.inr s6))
def aKh(s11:List X3)(s12:Int)(w2:Xp)(w3:X0)(s6 s13:Int):Option (Int):=AR (fun s:Int×Int=>II s11 s12 w2 w3 s.1 s.2) (s6,s13)
def Y9(a0:Xp)(a1:X0):Option (Int):=
 AJ (aKh a0.q.symbols (a0.q.symbols.length:Int) a0 a1 0 0) fun o7=>
 some o7
def GW(s8:Int)(s12:List X0)(s13 s14:Int)(w0:List (Int×Bool))(w3:Xp)(k:Int)(v:Bool)(w5:List (Int×Bool)):Option ((List (Int×Bool))):=
 some (F4 (AA .and .u64 k s8) true w5)
def KN(s8:Int)(s12:List X0)(s13 s14:Int)(w0:List (Int×Bool))(w3:Xp)(s:(List (Int×Bool))):(List (Int×Bool)):=(fun s:(List (Int×Bool))=>(aG1 s:(List (Int×Bool)))) s
def aJy(s8:Int)(s12:List X0)(s13 s14:Int)(w0:List (Int×Bool))(w3:Xp)(w5:List (Int×Bool)):Option ((List (Int×Bool))):=Fr (KN s8 s12 s13 s14 w0 w3) w0 (fun(x:Int×Bool) (s:(List (Int×Bool)))=>GW s8 s12 s13 s14 w0 w3 x.1 x.2 s) w5
def aBo(s8:Int)(s12:List X0)(s13 s14:Int)(w0:List (Int×Bool))(w3:Xp)(w5:List (Int×Bool)):Option ((List (Int×Bool))):=
 AJ (aJy s8 s12 s13 s14 w0 w3 w5) fun o4=>
 some o4
def Hv(s12:List X0)(s13:Int)(w0:List (Int×Bool))(w3:Xp)(s14:Int)(w5:List (Int×Bool)):Option ((Int×(List (Int×Bool)))⊕((List (Int×Bool)))):=
 AE (decide (s14<s13)) (
  AX s12 s14 fun x2=>
  AJ (Y9 w3 x2) fun r3=>
  AJ (aBo r3 s12 s13 s14 w0 w3 w5) fun o5=>
  some (.inl ((AA .add .i64 s14 1),o5))) (
  some (.inr w5))
def aJx(s12:List X0)(s13:Int)(w0:List (Int×Bool))(w3:Xp)(s14:Int)(w5:List (Int×Bool)):Option ((List (Int×Bool))):=AR (fun s:Int×(List (Int×Bool))=>Hv s12 s13 w0 w3 s.1 s.2) (s14,w5)
def Xl(a1:Xp)(w0:List (Int×Bool)):Option ((List (Int×Bool))):=
 AJ (Y0 a1 ([]:List X0)) fun r1=>
 AJ (aJx r1 (r1.length:Int) w0 a1 0 ([]:List (Int×Bool))) fun o6=>
 some o6
def Uy(s0 s2:Int)(s4:Bool):Option ((Int×Int)):=
 AE (s4) (
  some ((AA .shr .u64 s0 32),32)) (
  some (s0,s2))
def Uz(s0 s2:Int)(s8:Bool):Option ((Int×Int)):=
 AE (s8) (
  some ((AA .shr .u64 s0 16),(AA .add .i64 s2 16))) (
  some (s0,s2))
def U2(s0 s2:Int)(s14:Bool):Option ((Int×Int)):=
 AE (s14) (
  some ((AA .shr .u64 s0 8),(AA .add .i64 s2 8))) (
  some (s0,s2))
def Yo(a0:Int):Option (Int):=
 AJ (Uy a0 0 (decide (4294967296<=a0))) fun o1=>
 AJ (Uz o1.1 o1.2 (decide (65536<=o1.1))) fun o2=>
 AJ (U2 o2.1 o2.2 (decide (256<=o2.1))) fun o3=>
 AX ([0,1,2,2,3,3,3,3,4,4,4,4,4,4,4,4,5,5,5,5,5,5,5,5,5,5,5,5,5,5,5,5,6,6,6,6,6,6,6,6,6,6,6,6,6,6,6,6,6,6,6,6,6,6,6,6,6,6,6,6,6,6,6,6,7,7,7,7,7,7,7,7,7,7,7,7,7,7,7,7,7,7,7,7,7,7,7,7,7,7,7,7,7,7,7,7,7,7,7,7,7,7,7,7,7,7,7,7,7,7,7,7,7,7,7,7,7,7,7,7,7,7,7,7,7,7,7,7,8,8,8,8,8,8,8,8,8,8,8,8,8,8,8,8,8,8,8,8,8,8,8,8,8,8,8,8,8,8,8,8,8,8,8,8,8,8,8,8,8,8,8,8,8,8,8,8,8,8,8,8,8,8,8,8,8,8,8,8,8,8,8,8,8,8,8,8,8,8,8,8,8,8,8,8,8,8,8,8,8,8,8,8,8,8,8,8,8,8,8,8,8,8,8,8,8,8,8,8,8,8,8,8,8,8,8,8,8,8,8,8,8,8,8,8,8,8,8,8,8,8,8,8,8,8,8,8]:List UInt8) ((u8w o3.1).toNat:Int) fun x4=>
 some (AA .add .i64 o3.2 (x4.toNat:Int))
def Q3(a0:Int):Option (Int):=
 AJ (Yo a0) fun r1=>
 some r1
def Q4(a0:Int):Option (Bool):=
 some (!decide (a0=a0))
def Y6(a0 a1:Int):Option (Bool):=
 AJ (Q4 a0) fun r1=>
 AE (r1) (
  AJ (Q4 a1) fun r2=>
  AE (!r2) (
   some true) (
   some (decide (a0<a1)))) (
  some (decide (a0<a1)))
def El(s1 s2:Int)(s6 s7:Int)(w0:List Int):Option ((Int×List Int)⊕((List Int))):=
 AE (decide (s1<s7)) (
  AY (0<=s7/\s7+1<=(w0.length:Int)) (
   AX w0 s7 fun x1=>
   AY (0<=(AA .sub .i64 s7 1)/\(AA .sub .i64 s7 1)+1<=(w0.length:Int)) (
    AX w0 (AA .sub .i64 s7 1) fun x2=>
    AJ (Y6 x1 x2) fun r3=>
    AE (r3) (
     AY (0<=(AA .sub .i64 s7 1)/\(AA .sub .i64 s7 1)+1<=(w0.length:Int)) (
      AX w0 (AA .sub .i64 s7 1) fun x4=>
      AY (0<=s7/\s7+1<=(w0.length:Int)) (
       AX w0 s7 fun x5=>
       AY (0<=s7/\s7+1<=(w0.length:Int)) (
        AY (0<=s7/\s7+1<=(w0.length:Int)) (
         AY (0<=(AA .sub .i64 s7 1)/\(AA .sub .i64 s7 1)+1<=((w0.set s7.toNat x4).length:Int)) (
          AY (0<=(AA .sub .i64 s7 1)/\(AA .sub .i64 s7 1)+1<=((w0.set s7.toNat x4).length:Int)) (
           some (.inl ((AA .sub .i64 s7 1),(w0.set s7.toNat x4).set (AA .sub .i64 s7 1).toNat x5))))))))) (
     some (.inr w0))))) (
  some (.inr w0))
def Pl(s1 s2:Int)(s6 s7:Int)(w0:List Int):Option ((List Int)):=AR (fun s:Int×List Int=>El s1 s2 s6 s.1 s.2) (s7,w0)
theorem OP(s1 s2:Int)(s6 s7:Int)(w0:List Int):Pl s1 s2 s6 s7 w0=CU (El s1 s2 s6 s7 w0) (fun s:Int×List Int=>Pl s1 s2 s6 s.1 s.2):=Aj _ _
def Ga(s1 s2 s6:Int)(w0:List Int):Option ((Int×List Int)⊕((List Int))):=
 AE (decide (s6<s2)) (
  AJ (Pl s1 s2 s6 s6 w0) fun o6=>
  some (.inl ((AA .add .i64 s6 1),o6))) (
  some (.inr w0))
def Pk(s1 s2 s6:Int)(w0:List Int):Option ((List Int)):=AR (fun s:Int×List Int=>Ga s1 s2 s.1 s.2) (s6,w0)
theorem OO(s1 s2 s6:Int)(w0:List Int):Pk s1 s2 s6 w0=CU (Ga s1 s2 s6 w0) (fun s:Int×List Int=>Pk s1 s2 s.1 s.2):=Aj _ _
def Xu(a1 a2:Int)(w0:List Int):Option (List Int):=
 AJ (Pk a1 a2 (AA .add .i64 a1 1) w0) fun o7=>
 some o7
def KO(s2 s3:Int)(s8 s9:Int)(s36:Bool)(w0:List Int):Option (Int):=
 AE (s36) (
  some (AA .add .i64 s9 1)) (
  some s9)
def JT(s2 s3 s8:Int)(w0:List Int):Option ((Int×List Int)⊕(Unit⊕Unit)):=
 AE (decide (s2<=(AA .add .i64 (AA .mul .i64 2 s8) 1))) (
  some (.inr (.inl ()))) (
  AE (decide ((AA .add .i64 (AA .add .i64 (AA .mul .i64 2 s8) 1) 1)<s2)) (
   AY (0<=(AA .add .i64 s3 (AA .add .i64 (AA .mul .i64 2 s8) 1))/\(AA .add .i64 s3 (AA .add .i64 (AA .mul .i64 2 s8) 1))+1<=(w0.length:Int)) (
    AX w0 (AA .add .i64 s3 (AA .add .i64 (AA .mul .i64 2 s8) 1)) fun x1=>
    AY (0<=(AA .add .i64 (AA .add .i64 s3 (AA .add .i64 (AA .mul .i64 2 s8) 1)) 1)/\(AA .add .i64 (AA .add .i64 s3 (AA .add .i64 (AA .mul .i64 2 s8) 1)) 1)+1<=(w0.length:Int)) (
     AX w0 (AA .add .i64 (AA .add .i64 s3 (AA .add .i64 (AA .mul .i64 2 s8) 1)) 1) fun x2=>
     AJ (Y6 x1 x2) fun r3=>
     AJ (KO s2 s3 s8 (AA .add .i64 (AA .mul .i64 2 s8) 1) r3 w0) fun o4=>
     AY (0<=(AA .add .i64 s3 s8)/\(AA .add .i64 s3 s8)+1<=(w0.length:Int)) (
      AX w0 (AA .add .i64 s3 s8) fun x5=>
      AY (0<=(AA .add .i64 s3 o4)/\(AA .add .i64 s3 o4)+1<=(w0.length:Int)) (
       AX w0 (AA .add .i64 s3 o4) fun x6=>
       AJ (Y6 x5 x6) fun r7=>
       AE (!r7) (
        some (.inr (.inr ()))) (
        AY (0<=(AA .add .i64 s3 o4)/\(AA .add .i64 s3 o4)+1<=(w0.length:Int)) (
         AX w0 (AA .add .i64 s3 o4) fun x8=>
         AY (0<=(AA .add .i64 s3 s8)/\(AA .add .i64 s3 s8)+1<=(w0.length:Int)) (
          AX w0 (AA .add .i64 s3 s8) fun x9=>
          AY (0<=(AA .add .i64 s3 s8)/\(AA .add .i64 s3 s8)+1<=(w0.length:Int)) (
           AY (0<=(AA .add .i64 s3 s8)/\(AA .add .i64 s3 s8)+1<=(w0.length:Int)) (
            AY (0<=(AA .add .i64 s3 o4)/\(AA .add .i64 s3 o4)+1<=((w0.set (AA .add .i64 s3 s8).toNat x8).length:Int)) (
             AY (0<=(AA .add .i64 s3 o4)/\(AA .add .i64 s3 o4)+1<=((w0.set (AA .add .i64 s3 s8).toNat x8).length:Int)) (
              some (.inl (o4,(w0.set (AA .add .i64 s3 s8).toNat x8).set (AA .add .i64 s3 o4).toNat x9)))))))))))))) (
   AJ (KO s2 s3 s8 (AA .add .i64 (AA .mul .i64 2 s8) 1) false w0) fun o10=>
   AY (0<=(AA .add .i64 s3 s8)/\(AA .add .i64 s3 s8)+1<=(w0.length:Int)) (
    AX w0 (AA .add .i64 s3 s8) fun x11=>
    AY (0<=(AA .add .i64 s3 o10)/\(AA .add .i64 s3 o10)+1<=(w0.length:Int)) (
     AX w0 (AA .add .i64 s3 o10) fun x12=>
     AJ (Y6 x11 x12) fun r13=>
     AE (!r13) (
      some (.inr (.inr ()))) (
      AY (0<=(AA .add .i64 s3 o10)/\(AA .add .i64 s3 o10)+1<=(w0.length:Int)) (
       AX w0 (AA .add .i64 s3 o10) fun x14=>
       AY (0<=(AA .add .i64 s3 s8)/\(AA .add .i64 s3 s8)+1<=(w0.length:Int)) (
        AX w0 (AA .add .i64 s3 s8) fun x15=>
        AY (0<=(AA .add .i64 s3 s8)/\(AA .add .i64 s3 s8)+1<=(w0.length:Int)) (
         AY (0<=(AA .add .i64 s3 s8)/\(AA .add .i64 s3 s8)+1<=(w0.length:Int)) (
          AY (0<=(AA .add .i64 s3 o10)/\(AA .add .i64 s3 o10)+1<=((w0.set (AA .add .i64 s3 s8).toNat x14).length:Int)) (
           AY (0<=(AA .add .i64 s3 o10)/\(AA .add .i64 s3 o10)+1<=((w0.set (AA .add .i64 s3 s8).toNat x14).length:Int)) (
            some (.inl (o10,(w0.set (AA .add .i64 s3 s8).toNat x14).set (AA .add .i64 s3 o10).toNat x15)))))))))))))
def EP(s2 s3 s8:Int)(w0:List Int):Option ((Int×List Int)⊕((List Int)⊕(List Int))):=
 AJ (JT s2 s3 s8 w0) fun o16=>
 CP o16 (fun o17=>
  some (.inl (o17.1,o17.2))) (fun o18=>
  CP o18 (fun o19=>
   some (.inr (.inl w0))) (fun o20=>
   some (.inr (.inr w0))))
def Pe(s2 s3 s8:Int)(w0:List Int):Option ((List Int)⊕(List Int)):=AR (fun s:Int×List Int=>EP s2 s3 s.1 s.2) (s8,w0)
theorem OH(s2 s3 s8:Int)(w0:List Int):Pe s2 s3 s8 w0=CU (EP s2 s3 s8 w0) (fun s:Int×List Int=>Pe s2 s3 s.1 s.2):=Aj _ _
def Xm(a1 a2 a3:Int)(w0:List Int):Option (List Int):=
 AJ (Pe a2 a3 a1 w0) fun o21=>
 CP o21 (fun o22=>
  some o22) (fun o23=>
  some o23)
def Gb(s6 s7:Int)(s8 s9:Int)(w0:List Int):Option ((Int×List Int)⊕((List Int))):=
 AE (decide (0<=s9)) (
  AJ (Xm s9 s8 s6 w0) fun r1=>
  some (.inl ((AA .sub .i64 s9 1),r1))) (
  some (.inr w0))
def Pn(s6 s7:Int)(s8 s9:Int)(w0:List Int):Option ((List Int)):=AR (fun s:Int×List Int=>Gb s6 s7 s8 s.1 s.2) (s9,w0)
theorem OQ(s6 s7:Int)(s8 s9:Int)(w0:List Int):Pn s6 s7 s8 s9 w0=CU (Gb s6 s7 s8 s9 w0) (fun s:Int×List Int=>Pn s6 s7 s8 s.1 s.2):=Aj _ _
def Gc(s6 s7 s10:Int)(w0:List Int):Option ((Int×List Int)⊕((List Int))):=
 AE (decide (0<=s10)) (
  AY (0<=(AA .add .i64 s6 s10)/\(AA .add .i64 s6 s10)+1<=(w0.length:Int)) (
   AX w0 (AA .add .i64 s6 s10) fun x3=>
   AY (0<=s6/\s6+1<=(w0.length:Int)) (
    AX w0 s6 fun x4=>
    AY (0<=s6/\s6+1<=(w0.length:Int)) (
     AY (0<=s6/\s6+1<=(w0.length:Int)) (
      AY (0<=(AA .add .i64 s6 s10)/\(AA .add .i64 s6 s10)+1<=((w0.set s6.toNat x3).length:Int)) (
       AY (0<=(AA .add .i64 s6 s10)/\(AA .add .i64 s6 s10)+1<=((w0.set s6.toNat x3).length:Int)) (
        AJ (Xm s7 s10 s6 ((w0.set s6.toNat x3).set (AA .add .i64 s6 s10).toNat x4)) fun r5=>
        some (.inl ((AA .sub .i64 s10 1),r5))))))))) (
  some (.inr w0))
def Po(s6 s7 s10:Int)(w0:List Int):Option ((List Int)):=AR (fun s:Int×List Int=>Gc s6 s7 s.1 s.2) (s10,w0)
theorem OR(s6 s7 s10:Int)(w0:List Int):Po s6 s7 s10 w0=CU (Gc s6 s7 s10 w0) (fun s:Int×List Int=>Po s6 s7 s.1 s.2):=Aj _ _
def Xv(a1 a2:Int)(w0:List Int):Option (List Int):=
 AJ (Pn a1 0 (AA .sub .i64 a2 a1) (AA .quo .i64 (AA .sub .i64 (AA .sub .i64 a2 a1) 1) 2) w0) fun o2=>
 AJ (Po a1 0 (AA .sub .i64 (AA .sub .i64 a2 a1) 1) o2) fun o6=>
 some o6
def Qc(a0:Int):Option (Int):=
 AJ (Q3 (IntKind.wrap .u64 a0)) fun r1=>
 AY (0<=r1) (
  some (AA .shl .u64 1 r1))
def Qd(w0:Int):Option (Int×Int):=
 some ((AA .xor .u64 (AA .xor .u64 (AA .xor .u64 w0 (AA .shl .u64 w0 13)) (AA .shr .u64 (AA .xor .u64 w0 (AA .shl .u64 w0 13)) 7)) (AA .shl .u64 (AA .xor .u64 (AA .xor .u64 w0 (AA .shl .u64 w0 13)) (AA .shr .u64 (AA .xor .u64 w0 (AA .shl .u64 w0 13)) 7)) 17)),(AA .xor .u64 (AA .xor .u64 (AA .xor .u64 w0 (AA .shl .u64 w0 13)) (AA .shr .u64 (AA .xor .u64 w0 (AA .shl .u64 w0 13)) 7)) (AA .shl .u64 (AA .xor .u64 (AA .xor .u64 w0 (AA .shl .u64 w0 13)) (AA .shr .u64 (AA .xor .u64 w0 (AA .shl .u64 w0 13)) 7)) 17)))
def Mz(s1 s6:Int)(s8 s9 s10:Int)(s43:Bool)(w0:List Int)(w7:Int):Option (Int):=
 AE (s43) (
  some (AA .sub .i64 s10 s6)) (
  some s10)
def Pi(s1 s6:Int)(s8 s9:Int)(w0:List Int)(w7:Int):Option ((List Int×Int)):=
 AJ (Qd w7) fun r2=>
 AJ (Mz s1 s6 s8 s9 (IntKind.wrap .i64 (AA .and .u64 r2.1 (AA .sub .u64 s8 1))) (decide (s6<=(IntKind.wrap .i64 (AA .and .u64 r2.1 (AA .sub .u64 s8 1))))) w0 r2.2) fun o3=>
 AY (0<=(AA .add .i64 s1 o3)/\(AA .add .i64 s1 o3)+1<=(w0.length:Int)) (
  AX w0 (AA .add .i64 s1 o3) fun x4=>
  AY (0<=s9/\s9+1<=(w0.length:Int)) (
   AX w0 s9 fun x5=>
   AY (0<=s9/\s9+1<=(w0.length:Int)) (
    AY (0<=s9/\s9+1<=(w0.length:Int)) (
     AY (0<=(AA .add .i64 s1 o3)/\(AA .add .i64 s1 o3)+1<=((w0.set s9.toNat x4).length:Int)) (
      AY (0<=(AA .add .i64 s1 o3)/\(AA .add .i64 s1 o3)+1<=((w0.set s9.toNat x4).length:Int)) (
       some ((w0.set s9.toNat x4).set (AA .add .i64 s1 o3).toNat x5,r2.2)))))))
def GY(s1 s6:Int)(s8 s9:Int)(w0:List Int)(w7:Int):Option ((Int×List Int×Int)⊕((List Int))):=
 AE (decide (s9<=(AA .add .i64 (AA .add .i64 s1 (AA .mul .i64 (AA .quo .i64 s6 4) 2)) 1))) (
  AJ (Pi s1 s6 s8 s9 w0 w7) fun o6=>
  some (.inl ((AA .add .i64 s9 1),o6.1,o6.2))) (
  some (.inr w0))
def Pj(s1 s6:Int)(s8 s9:Int)(w0:List Int)(w7:Int):Option ((List Int)):=AR (fun s:Int×List Int×Int=>GY s1 s6 s8 s.1 s.2.1 s.2.2) (s9,w0,w7)
theorem OM(s1 s6:Int)(s8 s9:Int)(w0:List Int)(w7:Int):Pj s1 s6 s8 s9 w0 w7=CU (GY s1 s6 s8 s9 w0 w7) (fun s:Int×List Int×Int=>Pj s1 s6 s8 s.1 s.2.1 s.2.2):=Aj _ _
def Ph(s1 s6:Int)(s15:Bool)(w0:List Int):Option ((List Int)):=
 AE (s15) (
  AJ (Qc s6) fun r1=>
  AJ (Pj s1 s6 r1 (AA .sub .i64 (AA .add .i64 s1 (AA .mul .i64 (AA .quo .i64 s6 4) 2)) 1) w0 (IntKind.wrap .u64 s6)) fun o7=>
  some o7) (
  some w0)
def Xq(a1 a2:Int)(w0:List Int):Option (List Int):=
 AJ (Ph a1 (AA .sub .i64 a2 a1) (decide (8<=(AA .sub .i64 a2 a1))) w0) fun o8=>
 some o8
def Zq(a0:List Int)(a1 a2 w0:Int):Option (Int×Int×Int):=
 AX a0 a2 fun x1=>
 AX a0 a1 fun x2=>
 AJ (Y6 x1 x2) fun r3=>
 AE (r3) (
  some (a2,a1,(AA .add .i64 w0 1))) (
  some (a1,a2,w0))
def Zx(a0:List Int)(a1 a2:Int)(a3 w0:Int):Option (Int×Int):=
 AJ (Zq a0 a1 a2 w0) fun r1=>
 AJ (Zq a0 r1.2.1 a3 r1.2.2) fun r2=>
 AJ (Zq a0 r1.1 r2.1 r2.2.2) fun r3=>
 some (r3.2.1,r3.2.2)
def Zr(a0:List Int)(a1 w0:Int):Option (Int×Int):=
 AJ (Zx a0 (AA .sub .i64 a1 1) a1 (AA .add .i64 a1 1) w0) fun r1=>
 some (r1.1,r1.2)
def M1(s0:List Int)(s10 s11 s12:Int)(s34:Bool)(w9:Int):Option ((Int×Int×Int×Int)):=
 AE (s34) (
  AJ (Zr s0 s10 w9) fun r1=>
  AJ (Zr s0 s11 r1.2) fun r2=>
  AJ (Zr s0 s12 r2.2) fun r3=>
  some (r1.1,r2.1,r3.1,r3.2)) (
  some (s10,s11,s12,w9))
def Pt(s0:List Int)(s8 s10:Int)(s11 s12:Int)(s32:Bool)(w9:Int):Option ((Int×Int)):=
 AE (s32) (
  AJ (M1 s0 s10 s11 s12 (decide (50<=s8)) w9) fun o4=>
  AJ (Zx s0 o4.1 o4.2.1 o4.2.2.1 o4.2.2.2) fun r5=>
  some (r5.1,r5.2)) (
  some (s11,w9))
def Yr(a0:List Int)(a1 a2:Int):Option (Int×Int):=
 AJ (Pt a0 (AA .sub .i64 a2 a1) (AA .add .i64 a1 (AA .mul .i64 (AA .quo .i64 (AA .sub .i64 a2 a1) 4) 1)) (AA .add .i64 a1 (AA .mul .i64 (AA .quo .i64 (AA .sub .i64 a2 a1) 4) 2)) (AA .add .i64 a1 (AA .mul .i64 (AA .quo .i64 (AA .sub .i64 a2 a1) 4) 3)) (decide (8<=(AA .sub .i64 a2 a1))) 0) fun o6=>
 AE (decide (o6.2=0)) (
  some (o6.1,1)) (
  AE (decide (o6.2=12)) (
   some (o6.1,2)) (
   some (o6.1,0)))
def IN(s6 s7:Int)(w0:List Int):Option ((Int×Int×List Int)⊕((List Int))):=
 AE (decide (s6<s7)) (
  AY (0<=s7/\s7+1<=(w0.length:Int)) (
   AX w0 s7 fun x1=>
   AY (0<=s6/\s6+1<=(w0.length:Int)) (
    AX w0 s6 fun x2=>
    AY (0<=s6/\s6+1<=(w0.length:Int)) (
     AY (0<=s6/\s6+1<=(w0.length:Int)) (
      AY (0<=s7/\s7+1<=((w0.set s6.toNat x1).length:Int)) (
       AY (0<=s7/\s7+1<=((w0.set s6.toNat x1).length:Int)) (
        some (.inl ((AA .add .i64 s6 1),(AA .sub .i64 s7 1),(w0.set s6.toNat x1).set s7.toNat x2))))))))) (
  some (.inr w0))
def Ps(s6 s7:Int)(w0:List Int):Option ((List Int)):=AR (fun s:Int×Int×List Int=>IN s.1 s.2.1 s.2.2) (s6,s7,w0)
theorem aEz(s6 s7:Int)(w0:List Int):Ps s6 s7 w0=CU (IN s6 s7 w0) (fun s:Int×Int×List Int=>Ps s.1 s.2.1 s.2.2):=Aj _ _
def Yl(a1 a2:Int)(w0:List Int):Option (List Int):=
 AJ (Ps a1 (AA .sub .i64 a2 1) w0) fun o3=>
 some o3
def GJ(s1 s2 s8:Int)(w0:List Int)(s7:Int):Option ((Int)⊕(Int)):=
 AE (decide (s7<s2)) (
  AY (0<=s7/\s7+1<=(w0.length:Int)) (
   AX w0 s7 fun x1=>
   AY (0<=(AA .sub .i64 s7 1)/\(AA .sub .i64 s7 1)+1<=(w0.length:Int)) (
    AX w0 (AA .sub .i64 s7 1) fun x2=>
    AJ (Y6 x1 x2) fun r3=>
    AE (!r3) (
     some (.inl (AA .add .i64 s7 1))) (
     some (.inr s7))))) (
  some (.inr s7))
def PV(s1 s2 s8:Int)(w0:List Int)(s7:Int):Option (Int):=AR (fun s:Int=>GJ s1 s2 s8 w0 s) s7
theorem N0(s1 s2 s8:Int)(w0:List Int)(s7:Int):PV s1 s2 s8 w0 s7=CU (GJ s1 s2 s8 w0 s7) (fun s:Int=>PV s1 s2 s8 w0 s):=Aj _ _
def GK(s1 s2:Int)(s7 s8 s9:Int)(w0:List Int):Option ((Int×List Int)⊕((List Int))):=
 AE (decide (1<=s9)) (
  AY (0<=s9/\s9+1<=(w0.length:Int)) (
   AX w0 s9 fun x7=>
   AY (0<=(AA .sub .i64 s9 1)/\(AA .sub .i64 s9 1)+1<=(w0.length:Int)) (
    AX w0 (AA .sub .i64 s9 1) fun x8=>
    AJ (Y6 x7 x8) fun r9=>
    AE (!r9) (
     some (.inr w0)) (
     AY (0<=(AA .sub .i64 s9 1)/\(AA .sub .i64 s9 1)+1<=(w0.length:Int)) (
      AX w0 (AA .sub .i64 s9 1) fun x10=>
      AY (0<=s9/\s9+1<=(w0.length:Int)) (
       AX w0 s9 fun x11=>
       AY (0<=s9/\s9+1<=(w0.length:Int)) (
        AY (0<=s9/\s9+1<=(w0.length:Int)) (
         AY (0<=(AA .sub .i64 s9 1)/\(AA .sub .i64 s9 1)+1<=((w0.set s9.toNat x10).length:Int)) (
          AY (0<=(AA .sub .i64 s9 1)/\(AA .sub .i64 s9 1)+1<=((w0.set s9.toNat x10).length:Int)) (
           some (.inl ((AA .sub .i64 s9 1),(w0.set s9.toNat x10).set (AA .sub .i64 s9 1).toNat x11)))))))))))) (
  some (.inr w0))
def PW(s1 s2:Int)(s7 s8 s9:Int)(w0:List Int):Option ((List Int)):=AR (fun s:Int×List Int=>GK s1 s2 s7 s8 s.1 s.2) (s9,w0)
theorem N1(s1 s2:Int)(s7 s8 s9:Int)(w0:List Int):PW s1 s2 s7 s8 s9 w0=CU (GK s1 s2 s7 s8 s9 w0) (fun s:Int×List Int=>PW s1 s2 s7 s8 s.1 s.2):=Aj _ _
def Mn(s1 s2:Int)(s7 s8:Int)(s61:Bool)(w0:List Int):Option ((List Int)):=
 AE (s61) (
  AJ (PW s1 s2 s7 s8 (AA .sub .i64 s7 1) w0) fun o12=>
  some o12) (
  some w0)
def GL(s1 s2:Int)(s7 s8 s10:Int)(w0:List Int):Option ((Int×List Int)⊕((List Int))):=
 AE (decide (s10<s2)) (
  AY (0<=s10/\s10+1<=(w0.length:Int)) (
   AX w0 s10 fun x14=>
   AY (0<=(AA .sub .i64 s10 1)/\(AA .sub .i64 s10 1)+1<=(w0.length:Int)) (
    AX w0 (AA .sub .i64 s10 1) fun x15=>
    AJ (Y6 x14 x15) fun r16=>
    AE (!r16) (
     some (.inr w0)) (
     AY (0<=(AA .sub .i64 s10 1)/\(AA .sub .i64 s10 1)+1<=(w0.length:Int)) (
      AX w0 (AA .sub .i64 s10 1) fun x17=>
      AY (0<=s10/\s10+1<=(w0.length:Int)) (
       AX w0 s10 fun x18=>
       AY (0<=s10/\s10+1<=(w0.length:Int)) (
        AY (0<=s10/\s10+1<=(w0.length:Int)) (
         AY (0<=(AA .sub .i64 s10 1)/\(AA .sub .i64 s10 1)+1<=((w0.set s10.toNat x17).length:Int)) (
          AY (0<=(AA .sub .i64 s10 1)/\(AA .sub .i64 s10 1)+1<=((w0.set s10.toNat x17).length:Int)) (
           some (.inl ((AA .add .i64 s10 1),(w0.set s10.toNat x17).set (AA .sub .i64 s10 1).toNat x18)))))))))))) (
  some (.inr w0))
def PX(s1 s2:Int)(s7 s8 s10:Int)(w0:List Int):Option ((List Int)):=AR (fun s:Int×List Int=>GL s1 s2 s7 s8 s.1 s.2) (s10,w0)
theorem N3(s1 s2:Int)(s7 s8 s10:Int)(w0:List Int):PX s1 s2 s7 s8 s10 w0=CU (GL s1 s2 s7 s8 s10 w0) (fun s:Int×List Int=>PX s1 s2 s7 s8 s.1 s.2):=Aj _ _
def Mo(s1 s2:Int)(s7 s8:Int)(s98:Bool)(w0:List Int):Option ((List Int)):=
 AE (s98) (
  AJ (PX s1 s2 s7 s8 (AA .add .i64 s7 1) w0) fun o19=>
  some o19) (
  some w0)
def PU(s1 s2:Int)(s7 s8:Int)(w0:List Int):Option ((Int×List Int)⊕Bool):=
 AJ (PV s1 s2 s8 w0 s7) fun o4=>
 AE (decide (o4=s2)) (
  some (.inr true)) (
  AE (decide ((AA .sub .i64 s2 s1)<50)) (
   some (.inr false)) (
   AY (0<=(AA .sub .i64 o4 1)/\(AA .sub .i64 o4 1)+1<=(w0.length:Int)) (
    AX w0 (AA .sub .i64 o4 1) fun x5=>
    AY (0<=o4/\o4+1<=(w0.length:Int)) (
     AX w0 o4 fun x6=>
     AY (0<=o4/\o4+1<=(w0.length:Int)) (
      AY (0<=o4/\o4+1<=(w0.length:Int)) (
       AY (0<=(AA .sub .i64 o4 1)/\(AA .sub .i64 o4 1)+1<=((w0.set o4.toNat x5).length:Int)) (
        AY (0<=(AA .sub .i64 o4 1)/\(AA .sub .i64 o4 1)+1<=((w0.set o4.toNat x5).length:Int)) (
         AJ (Mn s1 s2 o4 s8 (decide (2<=(AA .sub .i64 o4 s1))) ((w0.set o4.toNat x5).set (AA .sub .i64 o4 1).toNat x6)) fun o13=>
         AJ (Mo s1 s2 o4 s8 (decide (2<=(AA .sub .i64 s2 o4))) o13) fun o20=>
         some (.inl (o4,o20))))))))))
def GI(s1 s2:Int)(s7 s8:Int)(w0:List Int):Option ((Int×Int×List Int)⊕((List Int)⊕(Bool×List Int))):=
 AE (decide (s8<5)) (
  AJ (PU s1 s2 s7 s8 w0) fun o21=>
  CP o21 (fun o22=>
   some (.inl (o22.1,(AA .add .i64 s8 1),o22.2))) (fun o23=>
   some (.inr (.inr (o23,w0))))) (
  some (.inr (.inl w0)))
def Mp(s1 s2:Int)(s7 s8:Int)(w0:List Int):Option ((List Int)⊕(Bool×List Int)):=AR (fun s:Int×Int×List Int=>GI s1 s2 s.1 s.2.1 s.2.2) (s7,s8,w0)
theorem Nz(s1 s2:Int)(s7 s8:Int)(w0:List Int):Mp s1 s2 s7 s8 w0=CU (GI s1 s2 s7 s8 w0) (fun s:Int×Int×List Int=>Mp s1 s2 s.1 s.2.1 s.2.2):=Aj _ _
def X5(a1 a2:Int)(w0:List Int):Option (Bool×List Int):=
 AJ (Mp a1 a2 (AA .add .i64 a1 1) 0 w0) fun o24=>
 CP o24 (fun o25=>
  some (false,o25)) (fun o26=>
  some (o26.1,o26.2))
def GO(s1 s10:Int)(w0:List Int)(s9:Int):Option ((Int)⊕(Int)):=
 AE (decide (s9<=s10)) (
  AY (0<=s1/\s1+1<=(w0.length:Int)) (
   AX w0 s1 fun x3=>
   AY (0<=s9/\s9+1<=(w0.length:Int)) (
    AX w0 s9 fun x4=>
    AJ (Y6 x3 x4) fun r5=>
    AE (!r5) (
     some (.inl (AA .add .i64 s9 1))) (
     some (.inr s9))))) (
  some (.inr s9))
def Pc(s1 s10:Int)(w0:List Int)(s9:Int):Option (Int):=AR (fun s:Int=>GO s1 s10 w0 s) s9
theorem N8(s1 s10:Int)(w0:List Int)(s9:Int):Pc s1 s10 w0 s9=CU (GO s1 s10 w0 s9) (fun s:Int=>Pc s1 s10 w0 s):=Aj _ _
def GP(s1 s9:Int)(w0:List Int)(s10:Int):Option ((Int)⊕(Int)):=
 AE (decide (s9<=s10)) (
  AY (0<=s1/\s1+1<=(w0.length:Int)) (
   AX w0 s1 fun x7=>
   AY (0<=s10/\s10+1<=(w0.length:Int)) (
    AX w0 s10 fun x8=>
    AJ (Y6 x7 x8) fun r9=>
    AE (r9) (
     some (.inl (AA .sub .i64 s10 1))) (
     some (.inr s10))))) (
  some (.inr s10))
def Pd(s1 s9:Int)(w0:List Int)(s10:Int):Option (Int):=AR (fun s:Int=>GP s1 s9 w0 s) s10
theorem N9(s1 s9:Int)(w0:List Int)(s10:Int):Pd s1 s9 w0 s10=CU (GP s1 s9 w0 s10) (fun s:Int=>Pd s1 s9 w0 s):=Aj _ _
def Hj(s1 s9 s10:Int)(w0:List Int):Option ((Int×Int×List Int)⊕((Int×List Int))):=
 AJ (Pc s1 s10 w0 s9) fun o6=>
 AJ (Pd s1 o6 w0 s10) fun o10=>
 AE (decide (o10<o6)) (
  some (.inr (o6,w0))) (
  AY (0<=o10/\o10+1<=(w0.length:Int)) (
   AX w0 o10 fun x11=>
   AY (0<=o6/\o6+1<=(w0.length:Int)) (
    AX w0 o6 fun x12=>
    AY (0<=o6/\o6+1<=(w0.length:Int)) (
     AY (0<=o6/\o6+1<=(w0.length:Int)) (
      AY (0<=o10/\o10+1<=((w0.set o6.toNat x11).length:Int)) (
       AY (0<=o10/\o10+1<=((w0.set o6.toNat x11).length:Int)) (
        some (.inl ((AA .add .i64 o6 1),(AA .sub .i64 o10 1),(w0.set o6.toNat x11).set o10.toNat x12)))))))))
def Pb(s1 s9 s10:Int)(w0:List Int):Option ((Int×List Int)):=AR (fun s:Int×Int×List Int=>Hj s1 s.1 s.2.1 s.2.2) (s9,s10,w0)
theorem aAm(s1 s9 s10:Int)(w0:List Int):Pb s1 s9 s10 w0=CU (Hj s1 s9 s10 w0) (fun s:Int×Int×List Int=>Pb s1 s.1 s.2.1 s.2.2):=Aj _ _
def Xe(a1 a2 a3:Int)(w0:List Int):Option (Int×List Int):=
 AY (0<=a3/\a3+1<=(w0.length:Int)) (
  AX w0 a3 fun x1=>
  AY (0<=a1/\a1+1<=(w0.length:Int)) (
   AX w0 a1 fun x2=>
   AY (0<=a1/\a1+1<=(w0.length:Int)) (
    AY (0<=a1/\a1+1<=(w0.length:Int)) (
     AY (0<=a3/\a3+1<=((w0.set a1.toNat x1).length:Int)) (
      AY (0<=a3/\a3+1<=((w0.set a1.toNat x1).length:Int)) (
       AJ (Pb a1 (AA .add .i64 a1 1) (AA .sub .i64 a2 1) ((w0.set a1.toNat x1).set a3.toNat x2)) fun o13=>
       some (o13.1,o13.2)))))))
def GM(s1 s11:Int)(w0:List Int)(s10:Int):Option ((Int)⊕(Int)):=
 AE (decide (s10<=s11)) (
  AY (0<=s10/\s10+1<=(w0.length:Int)) (
   AX w0 s10 fun x3=>
   AY (0<=s1/\s1+1<=(w0.length:Int)) (
    AX w0 s1 fun x4=>
    AJ (Y6 x3 x4) fun r5=>
    AE (r5) (
     some (.inl (AA .add .i64 s10 1))) (
     some (.inr s10))))) (
  some (.inr s10))
def Mq(s1 s11:Int)(w0:List Int)(s10:Int):Option (Int):=AR (fun s:Int=>GM s1 s11 w0 s) s10
theorem N4(s1 s11:Int)(w0:List Int)(s10:Int):Mq s1 s11 w0 s10=CU (GM s1 s11 w0 s10) (fun s:Int=>Mq s1 s11 w0 s):=Aj _ _
def GN(s1 s10:Int)(w0:List Int)(s11:Int):Option ((Int)⊕(Int)):=
 AE (decide (s10<=s11)) (
  AY (0<=s11/\s11+1<=(w0.length:Int)) (
   AX w0 s11 fun x7=>
   AY (0<=s1/\s1+1<=(w0.length:Int)) (
    AX w0 s1 fun x8=>
    AJ (Y6 x7 x8) fun r9=>
    AE (!r9) (
     some (.inl (AA .sub .i64 s11 1))) (
     some (.inr s11))))) (
  some (.inr s11))
def Mr(s1 s10:Int)(w0:List Int)(s11:Int):Option (Int):=AR (fun s:Int=>GN s1 s10 w0 s) s11
theorem N5(s1 s10:Int)(w0:List Int)(s11:Int):Mr s1 s10 w0 s11=CU (GN s1 s10 w0 s11) (fun s:Int=>Mr s1 s10 w0 s):=Aj _ _
def Ms(s1 s11:Int)(w0:List Int)(s10:Int):Option ((Int)⊕(Int)):=
 AE (decide (s10<=s11)) (
  AY (0<=s10/\s10+1<=(w0.length:Int)) (
   AX w0 s10 fun x15=>
   AY (0<=s1/\s1+1<=(w0.length:Int)) (
    AX w0 s1 fun x16=>
    AJ (Y6 x15 x16) fun r17=>
    AE (r17) (
     some (.inl (AA .add .i64 s10 1))) (
     some (.inr s10))))) (
  some (.inr s10))
def ZP(s1 s11:Int)(w0:List Int)(s10:Int):Option (Int):=AR (fun s:Int=>Ms s1 s11 w0 s) s10
def Mt(s1 s10:Int)(w0:List Int)(s11:Int):Option ((Int)⊕(Int)):=
 AE (decide (s10<=s11)) (
  AY (0<=s11/\s11+1<=(w0.length:Int)) (
   AX w0 s11 fun x19=>
   AY (0<=s1/\s1+1<=(w0.length:Int)) (
    AX w0 s1 fun x20=>
    AJ (Y6 x19 x20) fun r21=>
    AE (!r21) (
     some (.inl (AA .sub .i64 s11 1))) (
     some (.inr s11))))) (
  some (.inr s11))
def ZR(s1 s10:Int)(w0:List Int)(s11:Int):Option (Int):=AR (fun s:Int=>Mt s1 s10 w0 s) s11
def HW(s1 s10 s11:Int)(w0:List Int):Option ((Int×Int×List Int)⊕((Int×List Int))):=
 AJ (ZP s1 s11 w0 s10) fun o18=>
 AJ (ZR s1 o18 w0 s11) fun o22=>
 AE (decide (o22<o18)) (
  some (.inr (o22,w0))) (
  AY (0<=o22/\o22+1<=(w0.length:Int)) (
   AX w0 o22 fun x23=>
   AY (0<=o18/\o18+1<=(w0.length:Int)) (
    AX w0 o18 fun x24=>
    AY (0<=o18/\o18+1<=(w0.length:Int)) (
     AY (0<=o18/\o18+1<=(w0.length:Int)) (
      AY (0<=o22/\o22+1<=((w0.set o18.toNat x23).length:Int)) (
       AY (0<=o22/\o22+1<=((w0.set o18.toNat x23).length:Int)) (
        some (.inl ((AA .add .i64 o18 1),(AA .sub .i64 o22 1),(w0.set o18.toNat x23).set o22.toNat x24)))))))))
def PY(s1 s10 s11:Int)(w0:List Int):Option ((Int×List Int)):=AR (fun s:Int×Int×List Int=>HW s1 s.1 s.2.1 s.2.2) (s10,s11,w0)
theorem ZN(s1 s10 s11:Int)(w0:List Int):PY s1 s10 s11 w0=CU (HW s1 s10 s11 w0) (fun s:Int×Int×List Int=>PY s1 s.1 s.2.1 s.2.2):=Aj _ _
def X6(a1 a2 a3:Int)(w0:List Int):Option (Int×Bool×List Int):=
 AY (0<=a3/\a3+1<=(w0.length:Int)) (
  AX w0 a3 fun x1=>
  AY (0<=a1/\a1+1<=(w0.length:Int)) (
   AX w0 a1 fun x2=>
   AY (0<=a1/\a1+1<=(w0.length:Int)) (
    AY (0<=a1/\a1+1<=(w0.length:Int)) (
     AY (0<=a3/\a3+1<=((w0.set a1.toNat x1).length:Int)) (
      AY (0<=a3/\a3+1<=((w0.set a1.toNat x1).length:Int)) (
       AJ (Mq a1 (AA .sub .i64 a2 1) ((w0.set a1.toNat x1).set a3.toNat x2) (AA .add .i64 a1 1)) fun o6=>
       AJ (Mr a1 o6 ((w0.set a1.toNat x1).set a3.toNat x2) (AA .sub .i64 a2 1)) fun o10=>
       AE (decide (o10<o6)) (
        AY (0<=a1/\a1+1<=(((w0.set a1.toNat x1).set a3.toNat x2).length:Int)) (
         AX ((w0.set a1.toNat x1).set a3.toNat x2) a1 fun x11=>
         AY (0<=o10/\o10+1<=(((w0.set a1.toNat x1).set a3.toNat x2).length:Int)) (
          AX ((w0.set a1.toNat x1).set a3.toNat x2) o10 fun x12=>
          AY (0<=o10/\o10+1<=(((w0.set a1.toNat x1).set a3.toNat x2).length:Int)) (
           AY (0<=o10/\o10+1<=(((w0.set a1.toNat x1).set a3.toNat x2).length:Int)) (
            AY (0<=a1/\a1+1<=((((w0.set a1.toNat x1).set a3.toNat x2).set o10.toNat x11).length:Int)) (
             AY (0<=a1/\a1+1<=((((w0.set a1.toNat x1).set a3.toNat x2).set o10.toNat x11).length:Int)) (
              some (o10,true,(((w0.set a1.toNat x1).set a3.toNat x2).set o10.toNat x11).set a1.toNat x12)))))))) (
        AY (0<=o10/\o10+1<=(((w0.set a1.toNat x1).set a3.toNat x2).length:Int)) (
         AX ((w0.set a1.toNat x1).set a3.toNat x2) o10 fun x13=>
         AY (0<=o6/\o6+1<=(((w0.set a1.toNat x1).set a3.toNat x2).length:Int)) (
          AX ((w0.set a1.toNat x1).set a3.toNat x2) o6 fun x14=>
          AY (0<=o6/\o6+1<=(((w0.set a1.toNat x1).set a3.toNat x2).length:Int)) (
           AY (0<=o6/\o6+1<=(((w0.set a1.toNat x1).set a3.toNat x2).length:Int)) (
            AY (0<=o10/\o10+1<=((((w0.set a1.toNat x1).set a3.toNat x2).set o6.toNat x13).length:Int)) (
             AY (0<=o10/\o10+1<=((((w0.set a1.toNat x1).set a3.toNat x2).set o6.toNat x13).length:Int)) (
              AJ (PY a1 (AA .add .i64 o6 1) (AA .sub .i64 o10 1) ((((w0.set a1.toNat x1).set a3.toNat x2).set o6.toNat x13).set o10.toNat x14)) fun o25=>
              AY (0<=a1/\a1+1<=(o25.2.length:Int)) (
               AX o25.2 a1 fun x26=>
               AY (0<=o25.1/\o25.1+1<=(o25.2.length:Int)) (
                AX o25.2 o25.1 fun x27=>
                AY (0<=o25.1/\o25.1+1<=(o25.2.length:Int)) (
                 AY (0<=o25.1/\o25.1+1<=(o25.2.length:Int)) (
                  AY (0<=a1/\a1+1<=((o25.2.set o25.1.toNat x26).length:Int)) (
                   AY (0<=a1/\a1+1<=((o25.2.set o25.1.toNat x26).length:Int)) (
                    some (o25.1,false,(o25.2.set o25.1.toNat x26).set a1.toNat x27))))))))))))))))))))
def Mv(self:Int->Int->Int->(List Int)->Option (List Int))(s1 s2 s3:Int)(s8 s9:Bool)(s10:Int)(s35:Bool)(w0:List Int):Option ((Int×List Int)):=
 AE (s35) (
  AJ (Xq s1 s2 w0) fun r3=>
  some ((AA .sub .i64 s3 1),r3)) (
  some (s3,w0))
def Mw(self:Int->Int->Int->(List Int)->Option (List Int))(s1 s2 s3:Int)(s8 s9:Bool)(s10 s11 s12:Int)(s50:Bool)(w0:List Int):Option ((Int×Int×List Int)):=
 AE (s50) (
  AJ (Yl s1 s2 w0) fun r6=>
  some ((AA .sub .i64 (AA .sub .i64 s2 1) (AA .sub .i64 s11 s1)),1,r6)) (
  some (s11,s12,w0))
def JS(self:Int->Int->Int->(List Int)->Option (List Int))(s1 s2 s3:Int)(s8 s9:Bool)(s10 s11:Int)(s68:Bool)(w0:List Int):Option ((List Int)⊕(List Int)):=
 AE (s68) (
  AJ (X5 s1 s2 w0) fun r8=>
  AE (r8.1) (
   some (.inr r8.2)) (
   some (.inl r8.2))) (
  some (.inl w0))
def FX(self:Int->Int->Int->(List Int)->Option (List Int))(s1 s2 s3:Int)(s9:Bool)(s14 s16:Int)(s17 s18:Int)(s113:Bool)(w0:List Int):Option ((Int×Int×Bool×List Int)):=
 AE (s113) (
  AJ (self s1 s14 s3 w0) fun r17=>
  some ((AA .add .i64 s14 1),s2,decide (s18<=s16),r17)) (
  AJ (self (AA .add .i64 s14 1) s2 s3 w0) fun r18=>
  some (s1,s14,decide (s18<=s17),r18))
def Mu(self:Int->Int->Int->(List Int)->Option (List Int))(s1 s2 s3:Int)(s8 s9:Bool)(w0:List Int):Option ((Int×Int×Int×Bool×Bool×List Int)⊕(List Int)):=
 AE (decide ((AA .sub .i64 s2 s1)<=12)) (
  AJ (Xu s1 s2 w0) fun r1=>
  some (.inr r1)) (
  AE (decide (s3=0)) (
   AJ (Xv s1 s2 w0) fun r2=>
   some (.inr r2)) (
   AJ (Mv self s1 s2 s3 s8 s9 (AA .sub .i64 s2 s1) (!s8) w0) fun o4=>
   AJ (Yr o4.2 s1 s2) fun r5=>
   AJ (Mw self s1 s2 o4.1 s8 s9 (AA .sub .i64 s2 s1) r5.1 r5.2 (decide (r5.2=2)) o4.2) fun o7=>
   AE (s8) (
    AE (s9) (
     AJ (JS self s1 s2 o4.1 s8 s9 (AA .sub .i64 s2 s1) o7.1 (decide (o7.2.1=1)) o7.2.2) fun o9=>
     CP o9 (fun o10=>
      AE (decide (0<s1)) (
       AY (0<=(AA .sub .i64 s1 1)/\(AA .sub .i64 s1 1)+1<=(o10.length:Int)) (
        AX o10 (AA .sub .i64 s1 1) fun x12=>
        AY (0<=o7.1/\o7.1+1<=(o10.length:Int)) (
         AX o10 o7.1 fun x13=>
         AJ (Y6 x12 x13) fun r14=>
         AE (!r14) (
          AJ (Xe s1 s2 o7.1 o10) fun r15=>
          some (.inl (r15.1,s2,o4.1,s8,s9,r15.2))) (
          AJ (X6 s1 s2 o7.1 o10) fun r16=>
          AJ (FX self s1 s2 o4.1 r16.2.1 r16.1 (AA .sub .i64 r16.1 s1) (AA .sub .i64 s2 r16.1) (AA .quo .i64 (AA .sub .i64 s2 s1) 8) (decide ((AA .sub .i64 r16.1 s1)<(AA .sub .i64 s2 r16.1))) r16.2.2) fun o19=>
          some (.inl (o19.1,o19.2.1,o4.1,o19.2.2.1,r16.2.1,o19.2.2.2)))))) (
       AJ (X6 s1 s2 o7.1 o10) fun r20=>
       AJ (FX self s1 s2 o4.1 r20.2.1 r20.1 (AA .sub .i64 r20.1 s1) (AA .sub .i64 s2 r20.1) (AA .quo .i64 (AA .sub .i64 s2 s1) 8) (decide ((AA .sub .i64 r20.1 s1)<(AA .sub .i64 s2 r20.1))) r20.2.2) fun o21=>
       some (.inl (o21.1,o21.2.1,o4.1,o21.2.2.1,r20.2.1,o21.2.2.2)))) (fun o11=>
      some (.inr o11))) (
     AJ (JS self s1 s2 o4.1 s8 s9 (AA .sub .i64 s2 s1) o7.1 false o7.2.2) fun o22=>
     CP o22 (fun o23=>
      AE (decide (0<s1)) (
       AY (0<=(AA .sub .i64 s1 1)/\(AA .sub .i64 s1 1)+1<=(o23.length:Int)) (
        AX o23 (AA .sub .i64 s1 1) fun x25=>
        AY (0<=o7.1/\o7.1+1<=(o23.length:Int)) (
         AX o23 o7.1 fun x26=>
         AJ (Y6 x25 x26) fun r27=>
         AE (!r27) (
          AJ (Xe s1 s2 o7.1 o23) fun r28=>
          some (.inl (r28.1,s2,o4.1,s8,s9,r28.2))) (
          AJ (X6 s1 s2 o7.1 o23) fun r29=>
          AJ (FX self s1 s2 o4.1 r29.2.1 r29.1 (AA .sub .i64 r29.1 s1) (AA .sub .i64 s2 r29.1) (AA .quo .i64 (AA .sub .i64 s2 s1) 8) (decide ((AA .sub .i64 r29.1 s1)<(AA .sub .i64 s2 r29.1))) r29.2.2) fun o30=>
          some (.inl (o30.1,o30.2.1,o4.1,o30.2.2.1,r29.2.1,o30.2.2.2)))))) (
       AJ (X6 s1 s2 o7.1 o23) fun r31=>
       AJ (FX self s1 s2 o4.1 r31.2.1 r31.1 (AA .sub .i64 r31.1 s1) (AA .sub .i64 s2 r31.1) (AA .quo .i64 (AA .sub .i64 s2 s1) 8) (decide ((AA .sub .i64 r31.1 s1)<(AA .sub .i64 s2 r31.1))) r31.2.2) fun o32=>
       some (.inl (o32.1,o32.2.1,o4.1,o32.2.2.1,r31.2.1,o32.2.2.2)))) (fun o24=>
      some (.inr o24)))) (
    AJ (JS self s1 s2 o4.1 s8 s9 (AA .sub .i64 s2 s1) o7.1 false o7.2.2) fun o33=>
    CP o33 (fun o34=>
     AE (decide (0<s1)) (
      AY (0<=(AA .sub .i64 s1 1)/\(AA .sub .i64 s1 1)+1<=(o34.length:Int)) (
       AX o34 (AA .sub .i64 s1 1) fun x36=>
       AY (0<=o7.1/\o7.1+1<=(o34.length:Int)) (
        AX o34 o7.1 fun x37=>
        AJ (Y6 x36 x37) fun r38=>
        AE (!r38) (
         AJ (Xe s1 s2 o7.1 o34) fun r39=>
         some (.inl (r39.1,s2,o4.1,s8,s9,r39.2))) (
         AJ (X6 s1 s2 o7.1 o34) fun r40=>
         AJ (FX self s1 s2 o4.1 r40.2.1 r40.1 (AA .sub .i64 r40.1 s1) (AA .sub .i64 s2 r40.1) (AA .quo .i64 (AA .sub .i64 s2 s1) 8) (decide ((AA .sub .i64 r40.1 s1)<(AA .sub .i64 s2 r40.1))) r40.2.2) fun o41=>
         some (.inl (o41.1,o41.2.1,o4.1,o41.2.2.1,r40.2.1,o41.2.2.2)))))) (
      AJ (X6 s1 s2 o7.1 o34) fun r42=>
      AJ (FX self s1 s2 o4.1 r42.2.1 r42.1 (AA .sub .i64 r42.1 s1) (AA .sub .i64 s2 r42.1) (AA .quo .i64 (AA .sub .i64 s2 s1) 8) (decide ((AA .sub .i64 r42.1 s1)<(AA .sub .i64 s2 r42.1))) r42.2.2) fun o43=>
      some (.inl (o43.1,o43.2.1,o4.1,o43.2.2.1,r42.2.1,o43.2.2.2)))) (fun o35=>
     some (.inr o35)))))
def Hc(self:Int->Int->Int->(List Int)->Option (List Int))(s1 s2 s3:Int)(s8 s9:Bool)(w0:List Int):Option ((Int×Int×Int×Bool×Bool×List Int)⊕((List Int))):=
 AJ (Mu self s1 s2 s3 s8 s9 w0) fun o44=>
 CP o44 (fun o45=>
  some (.inl (o45.1,o45.2.1,o45.2.2.1,o45.2.2.2.1,o45.2.2.2.2.1,o45.2.2.2.2.2))) (fun o46=>
  some (.inr o46))
def Pa(self:Int->Int->Int->(List Int)->Option (List Int))(s1 s2 s3:Int)(s8 s9:Bool)(w0:List Int):Option ((List Int)):=AR (fun s:Int×Int×Int×Bool×Bool×List Int=>Hc self s.1 s.2.1 s.2.2.1 s.2.2.2.1 s.2.2.2.2.1 s.2.2.2.2.2) (s1,s2,s3,s8,s9,w0)
theorem aAe(self:Int->Int->Int->(List Int)->Option (List Int))(s1 s2 s3:Int)(s8 s9:Bool)(w0:List Int):Pa self s1 s2 s3 s8 s9 w0=CU (Hc self s1 s2 s3 s8 s9 w0) (fun s:Int×Int×Int×Bool×Bool×List Int=>Pa self s.1 s.2.1 s.2.2.1 s.2.2.2.1 s.2.2.2.2.1 s.2.2.2.2.2):=Aj _ _
def aJk(self:Int->Int->Int->(List Int)->Option (List Int))(a1 a2 a3:Int)(w0:List Int):Option (List Int):=
 AJ (Pa self a1 a2 a3 true true w0) fun o47=>
 some o47
def aH3:Nat->Int->Int->Int->(List Int)->Option (List Int)
 |0=>fun _ _ _ _=>none
 |n+1=>fun a1 a2 a3 w0=>aJk (aH3 n) a1 a2 a3 w0
def X9(a1 a2 a3:Int)(w0:List Int):Option (List Int):=aH3 100000 a1 a2 a3 w0
def Q5(w0:List Int):Option (List Int):=
 AJ (Q3 (IntKind.wrap .u64 (w0.length:Int))) fun r1=>
 AJ (X9 0 (w0.length:Int) r1 w0) fun r2=>
 some r2
def Qw(xs:List Int):Option (List Int):=bagE Q5 xs
def HU(s1:List X2)(s6 s15:Int)(s16 s30:Int)(w2:AD)(w5:List (Int×Bool))(s31:Int)(w7:List (Int×Bool)):Option ((Int×(List (Int×Bool)))⊕((List (Int×Bool)))):=
 AE (decide (s31<s30)) (
  AJ (Xl (Xp.mk w2 s1 s6 s31) w7) fun r3=>
  some (.inl ((AA .add .i64 s31 1),r3))) (
  some (.inr w7))
def aJe(s1:List X2)(s6 s15:Int)(s16 s30:Int)(w2:AD)(w5:List (Int×Bool))(s31:Int)(w7:List (Int×Bool)):Option ((List (Int×Bool))):=AR (fun s:Int×(List (Int×Bool))=>HU s1 s6 s15 s16 s30 w2 w5 s.1 s.2) (s31,w7)
def HV(s1:List X2)(s15 s16:Int)(w2:AD)(w7:List (Int×Bool))(k:Int)(v:Bool)(w5:List (Int×Bool)):Option ((List (Int×Bool))):=
 some (F4 k true w5)
def KJ(s1:List X2)(s15 s16:Int)(w2:AD)(w7:List (Int×Bool))(s:(List (Int×Bool))):(List (Int×Bool)):=(fun s:(List (Int×Bool))=>(aG1 s:(List (Int×Bool)))) s
def aJf(s1:List X2)(s15 s16:Int)(w2:AD)(w7 w5:List (Int×Bool)):Option ((List (Int×Bool))):=Fr (KJ s1 s15 s16 w2 w7) w7 (fun(x:Int×Bool) (s:(List (Int×Bool)))=>HV s1 s15 s16 w2 w7 x.1 x.2 s) w5
def YW(s1:List X2)(s15 s16:Int)(w2:AD)(w5 w7:List (Int×Bool)):Option ((List (Int×Bool))):=
 AJ (aJf s1 s15 s16 w2 w7 w5) fun o5=>
 some o5
def HT(s1:List X2)(s15:Int)(w2:AD)(s16:Int)(w5:List (Int×Bool)):Option ((Int×(List (Int×Bool)))⊕((List (Int×Bool)))):=
 AE (decide (s16<s15)) (
  AJ (Yf w2 s16) fun r1=>
  AX w2.decls s16 fun x2=>
  AJ (aJe s1 s16 s15 s16 (x2.types.length:Int) w2 w5 0 (F4 r1 true ([]:List (Int×Bool)))) fun o4=>
  AJ (YW s1 s15 s16 w2 w5 o4) fun o6=>
  some (.inl ((AA .add .i64 s16 1),o6))) (
  some (.inr w5))
def aJd(s1:List X2)(s15:Int)(w2:AD)(s16:Int)(w5:List (Int×Bool)):Option ((List (Int×Bool))):=AR (fun s:Int×(List (Int×Bool))=>HT s1 s15 w2 s.1 s.2) (s16,w5)
def FW(w5:List (Int×Bool))(k:Int)(v:Bool)(w10:List Int):Option (List Int):=
 AY (fit w10.length [k].length 8) (
  some (w10++[k]))
def Mm(w5:List (Int×Bool))(s:List Int):List Int:=(fun s:List Int=>(aHk s:List Int)) s
def aJh(w5:List (Int×Bool))(w10:List Int):Option (List Int):=Fr (Mm w5) w5 (fun(x:Int×Bool) (s:List Int)=>FW w5 x.1 x.2 s) w10
def YY(w5:List (Int×Bool)):Option ((List Int)):=
 AJ (aJh w5 ([]:List Int)) fun o8=>
 some o8
def X4(a0:AD)(a1:List X2):Option (List Int):=
 AJ (aJd a1 (a0.decls.length:Int) a0 0 ([]:List (Int×Bool))) fun o7=>
 AJ (YY (NL 0 o7)) fun o9=>
 AJ (Qw o9) fun r10=>
 some r10
def Qx(a0:Int):Option (Bool):=
 some false
def SY(s1 s2:Int)(s7 s8 s10:Int)(s14:List Xb)(s15 s16:Int)(s28:List Xc)(s29 s30:Int)(s46:Bool)(w3:AD)(w9:Xb)(w12:Xc):Option (Int):=
 AE (s46) (
  AY (0<=(IntKind.wrap .u64 w12.to)) (
   some (AA .or .u32 s10 (AA .shl .u32 1 (IntKind.wrap .u64 w12.to))))) (
  some s10)
def aAs(s1 s2:Int)(s7 s8 s10:Int)(s14:List Xb)(s15 s16:Int)(s28:List Xc)(s29 s30:Int)(w3:AD)(w9:Xb):Option (Int):=
 AX s28 s30 fun x2=>
 AE (decide (x2.from_=s8)) (
  AY (0<=(IntKind.wrap .u64 x2.symbol)) (
   AJ (SY s1 s2 s7 s8 s10 s14 s15 s16 s28 s29 s30 (!decide ((AA .and .u64 s2 (AA .shl .u64 1 (IntKind.wrap .u64 x2.symbol)))=0)) w3 w9 x2) fun o3=>
   some o3)) (
  AJ (SY s1 s2 s7 s8 s10 s14 s15 s16 s28 s29 s30 false w3 w9 x2) fun o4=>
  some o4)
def Hk(s1 s2:Int)(s7 s8:Int)(s14:List Xb)(s15 s16:Int)(s28:List Xc)(s29:Int)(w3:AD)(w9:Xb)(s10 s30:Int):Option ((Int×Int)⊕(Int)):=
 AE (decide (s30<s29)) (
  AJ (aAs s1 s2 s7 s8 s10 s14 s15 s16 s28 s29 s30 w3 w9) fun o5=>
  some (.inl (o5,(AA .add .i64 s30 1)))) (
  some (.inr s10))
def aAv(s1 s2:Int)(s7 s8:Int)(s14:List Xb)(s15 s16:Int)(s28:List Xc)(s29:Int)(w3:AD)(w9:Xb)(s10 s30:Int):Option (Int):=AR (fun s:Int×Int=>Hk s1 s2 s7 s8 s14 s15 s16 s28 s29 w3 w9 s.1 s.2) (s10,s30)
def Mx(s1 s2:Int)(s7 s8 s10:Int)(s14:List Xb)(s15 s16:Int)(s60:Bool)(w3:AD):Option (Int):=
 AE (s60) (
  AY (0<=(IntKind.wrap .u64 s8)) (
   some (AA .shl .u32 1 (IntKind.wrap .u64 s8)))) (
  some s10)
def aAq(s1 s2 s7:Int)(s14:List Xb)(s15 s16:Int)(w3:AD):Option (Int):=
 AX s14 s16 fun x1=>
 AY (0<=(IntKind.wrap .u64 s16)) (
  AE (decide ((AA .and .u32 s1 (AA .shl .u32 1 (IntKind.wrap .u64 s16)))=0)) (
   some s7) (
   AJ (aAv s1 s2 s7 s16 s14 s15 s16 w3.trans (w3.trans.length:Int) w3 x1 0 0) fun o6=>
   AE (decide (o6=0)) (
    AJ (Mx s1 s2 s7 s16 o6 s14 s15 s16 (!x1.next) w3) fun o7=>
    some (AA .or .u32 s7 o7)) (
    AJ (Mx s1 s2 s7 s16 o6 s14 s15 s16 false w3) fun o8=>
    some (AA .or .u32 s7 o8))))
def GQ(s1 s2:Int)(s14:List Xb)(s15:Int)(w3:AD)(s7 s16:Int):Option ((Int×Int)⊕(Int)):=
 AE (decide (s16<s15)) (
  AJ (aAq s1 s2 s7 s14 s15 s16 w3) fun o9=>
  some (.inl (o9,(AA .add .i64 s16 1)))) (
  some (.inr s7))
def aJt(s1 s2:Int)(s14:List Xb)(s15:Int)(w3:AD)(s7 s16:Int):Option (Int):=AR (fun s:Int×Int=>GQ s1 s2 s14 s15 w3 s.1 s.2) (s7,s16)
def Xf(a0:AD)(a1 a2:Int):Option (Int):=
 AJ (aJt a1 a2 a0.states (a0.states.length:Int) a0 0 0) fun o10=>
 some o10
def aCs(s11:List Int)(s12 s14 s15:Int)(s44:List Int)(s45 s46:Int)(s64:Bool)(w4:AD)(w8:List Int)(w9 w10:MP Int Int):Option ((List Int×MP Int Int×MP Int Int)):=
 AE (s64) (
  AY (0<=s12/\s12+1<=(w8.length:Int)) (
   AX w8 s12 fun x7=>
   AY (Ng 0 w9 s15<=4611686018427387904) (
    AY (aG9 (Gs 0 w9 s15) ((Ng 0 w9 s15:Nat):Int)=true) (
     AY (fit w8.length [s15].length 4) (
      some (w8++[s15],QN (Gs 0 w9 s15) ((Ng 0 w9 s15:Nat):Int) x7,EV w10 s15 s14)))))) (
  some (w8,w9,w10))
def aCq(s11:List Int)(s12:Int)(s44:List Int)(s45 s46:Int)(w4:AD)(w8:List Int)(w9 w10:MP Int Int):Option ((List Int×MP Int Int×MP Int Int)):=
 AX s44 s46 fun x4=>
 AY (0<=s12/\s12+1<=(w8.length:Int)) (
  AX w8 s12 fun x5=>
  AJ (Xf w4 x5 x4) fun r6=>
  AJ (aCs s11 s12 x4 r6 s44 s45 s46 (!((Ja 0 w9 r6).2)) w4 w8 w9 w10) fun o8=>
  some (o8.1,o8.2.1,o8.2.2))
def H6(s11:List Int)(s12:Int)(s44:List Int)(s45:Int)(w4:AD)(s46:Int)(w8:List Int)(w9 w10:MP Int Int):Option ((Int×List Int×MP Int Int×MP Int Int)⊕((List Int×MP Int Int×MP Int Int))):=
 AE (decide (s46<s45)) (
  AJ (aCq s11 s12 s44 s45 s46 w4 w8 w9 w10) fun o9=>
  some (.inl ((AA .add .i64 s46 1),o9.1,o9.2.1,o9.2.2))) (
  some (.inr (w8,w9,w10)))
def aJ8(s11:List Int)(s12:Int)(s44:List Int)(s45:Int)(w4:AD)(s46:Int)(w8:List Int)(w9 w10:MP Int Int):Option ((List Int×MP Int Int×MP Int Int)):=AR (fun s:Int×List Int×MP Int Int×MP Int Int=>H6 s11 s12 s44 s45 w4 s.1 s.2.1 s.2.2.1 s.2.2.2) (s46,w8,w9,w10)
def H5(s11:List Int)(w4:AD)(s12:Int)(w8:List Int)(w9 w10:MP Int Int):Option ((Int×List Int×MP Int Int×MP Int Int)⊕((List Int×MP Int Int×MP Int Int))):=
 AE (decide (s12<(w8.length:Int))) (
  AY (0<=s12/\s12+1<=(w8.length:Int)) (
   AX w8 s12 fun x2=>
   AJ (Qx x2) fun r3=>
   AE (r3) (
    AY (0<=(AA .add .i64 s12 1)/\(AA .add .i64 s12 1)<=(w8.length:Int)) (
     some (.inr (w8.take ((AA .add .i64 s12 1)).toNat,w9,w10)))) (
    AJ (aJ8 s11 s12 s11 (s11.length:Int) w4 0 w8 w9 w10) fun o10=>
    some (.inl ((AA .add .i64 s12 1),o10.1,o10.2.1,o10.2.2))))) (
  some (.inr (w8,w9,w10)))
def aJ7(s11:List Int)(w4:AD)(s12:Int)(w8:List Int)(w9 w10:MP Int Int):Option ((List Int×MP Int Int×MP Int Int)):=AR (fun s:Int×List Int×MP Int Int×MP Int Int=>H5 s11 w4 s.1 s.2.1 s.2.2.1 s.2.2.2) (s12,w8,w9,w10)
def Xw(a0:AD)(a1:List X2)(a2:Int):Option (List Int×MP Int Int×MP Int Int):=
 AJ (X4 a0 a1) fun r1=>
 AJ (aJ7 r1 a0 0 [a2] (EV (Gt:MP Int Int) a2 a2) (Gt:MP Int Int)) fun o11=>
 some (o11.1,o11.2.1,o11.2.2)
def Zv(a0:AD)(a1:List X2)(a2:Int):Option (List Int):=
 AJ (Xw a0 a1 a2) fun r1=>
 AJ (Q5 r1.1) fun r2=>
 some r2
def IT(s1:Int)(s8:List Xb)(s9 s10:Int):Option ((Int)⊕(Unit⊕Unit)):=
 AE (decide (s10<s9)) (
  AX s8 s10 fun x1=>
  AE (x1.accept) (
   AY (0<=(IntKind.wrap .u64 s10)) (
    AE (!decide ((AA .and .u32 s1 (AA .shl .u32 1 (IntKind.wrap .u64 s10)))=0)) (
     some (.inr (.inr ()))) (
     some (.inl (AA .add .i64 s10 1))))) (
   some (.inl (AA .add .i64 s10 1)))) (
  some (.inr (.inl ())))
def aKv(s1:Int)(s8:List Xb)(s9 s10:Int):Option (Unit⊕Unit):=AR (fun s:Int=>IT s1 s8 s9 s) s10
def Yv(a0:AD)(a1:Int):Option (Bool):=
 AJ (aKv a1 a0.states (a0.states.length:Int) 0) fun o2=>
 CP o2 (fun o3=>
  some false) (fun o4=>
  some true)
def Qy(a0:Int)(a1:AD):Option (Bool):=
 AJ (Yv a1 a0) fun r1=>
 some (!r1)
def Ij(s0:List Int)(s1:AD)(s7 s8:Int):Option ((Int)⊕(Unit⊕Int)):=
 AE (decide (s8<s7)) (
  AX s0 s8 fun x1=>
  AJ (Qy x1 s1) fun r2=>
  AE (r2) (
   some (.inr (.inr s8))) (
   some (.inl (AA .add .i64 s8 1)))) (
  some (.inr (.inl ())))
def aLa(s0:List Int)(s1:AD)(s7 s8:Int):Option (Unit⊕Int):=AR (fun s:Int=>Ij s0 s1 s7 s) s8
def Zf(a0:List Int)(a1:AD):Option (Int):=
 AJ (aLa a0 a1 (a0.length:Int) 0) fun o3=>
 CP o3 (fun o4=>
  some (-1)) (fun o5=>
  some o5)
def Qp(a0:List Int)(a1:AD):Option (Bool):=
 AJ (Zf a0 a1) fun r1=>
 some (decide (0<=r1))
def Qz(a0:Int)(a1:AD):Option (Bool):=
 AJ (Yv a1 a0) fun r1=>
 some r1
def Ik(s0:List Int)(s1:AD)(s7 s8:Int):Option ((Int)⊕(Unit⊕Int)):=
 AE (decide (s8<s7)) (
  AX s0 s8 fun x1=>
  AJ (Qz x1 s1) fun r2=>
  AE (r2) (
   some (.inr (.inr s8))) (
   some (.inl (AA .add .i64 s8 1)))) (
  some (.inr (.inl ())))
def aLb(s0:List Int)(s1:AD)(s7 s8:Int):Option (Unit⊕Int):=AR (fun s:Int=>Ik s0 s1 s7 s) s8
def Zg(a0:List Int)(a1:AD):Option (Int):=
 AJ (aLb a0 a1 (a0.length:Int) 0) fun o3=>
 CP o3 (fun o4=>
  some (-1)) (fun o5=>
  some o5)
def Qq(a0:List Int)(a1:AD):Option (Bool):=
 AJ (Zg a0 a1) fun r1=>
 some (decide (0<=r1))
def Qr(a0:AD)(a1:List Int):Option (Int):=
 AJ (Qp a1 a0) fun r1=>
 AE (!r1) (
  some 1) (
  AJ (Qq a1 a0) fun r2=>
  AE (!r2) (
   some 2) (
   some 0))
def Zn(a0:AD)(a1:List X2)(a2:Int):Option (Int):=
 AJ (Zv a0 a1 a2) fun r1=>
 AJ (Qr a0 r1) fun r2=>
 some r2
def Zw:Option (Bool):=
 AJ (Zj (AD.mk ([113]:List UInt8) ([]:List Xd) ([]:List Yc) ([]:List Ye) ([Xb.mk ([115]:List UInt8) false true,Xb.mk ([116]:List UInt8) true false]) 0 ([]:List X3) ([]:List Yj) ([]:List Xc)) 0) fun r1=>
 AE (decide (r1=1)) (
  AJ (Zj (AD.mk ([113]:List UInt8) ([]:List Xd) ([]:List Yc) ([]:List Ye) ([Xb.mk ([115]:List UInt8) false true,Xb.mk ([116]:List UInt8) true false]) 0 ([]:List X3) ([]:List Yj) ([]:List Xc)) 1) fun r2=>
  AE (decide (r2=2)) (
   AJ (Xt (AD.mk ([113]:List UInt8) ([]:List Xd) ([]:List Yc) ([]:List Ye) ([Xb.mk ([115]:List UInt8) false true,Xb.mk ([116]:List UInt8) true false]) 0 ([]:List X3) ([]:List Yj) ([]:List Xc)) ([]:List Yk)) fun r3=>
   AE (decide (r3=2)) (
    AJ (Zn (AD.mk ([113]:List UInt8) ([]:List Xd) ([]:List Yc) ([]:List Ye) ([Xb.mk ([115]:List UInt8) false true,Xb.mk ([116]:List UInt8) true false]) 0 ([]:List X3) ([]:List Yj) ([]:List Xc)) ([]:List X2) 1) fun r4=>
    some (decide (r4=1))) (
    some false)) (
   some false)) (
  some false)
def IK(s0:List X0)(w3:X0)(s5:Int):Option ((Int)⊕(Int)):=
 AE (decide (0<s5)) (
  AX s0 (AA .sub .i64 s5 1) fun x1=>
  AJ (Zk w3 x1) fun r2=>
  AE (r2) (
   some (.inl (AA .sub .i64 s5 1))) (
   some (.inr s5))) (
  some (.inr s5))
def aKk(s0:List X0)(w3:X0)(s5:Int):Option (Int):=AR (fun s:Int=>IK s0 w3 s) s5
def Yd(a0:List X0)(a1:X0):Option (List X0):=
 AJ (aKk a0 a1 (a0.length:Int)) fun o3=>
 AE (decide (0<o3)) (
  AX a0 (AA .sub .i64 o3 1) fun x4=>
  AE ((X0.eqb x4 a1)) (
   some a0) (
   AY ((0:Int)<=0/\(0:Int)<=o3/\o3<=(a0.length:Int)) (
    AY (fit ([]:List X0).length (sub a0 0 o3).length 40) (
     AY (fit (([]:List X0)++(sub a0 0 o3)).length [a1].length 40) (
      AY ((0:Int)<=o3/\(o3:Int)<=(a0.length:Int)/\(a0.length:Int)<=(a0.length:Int)) (
       AY (fit ((([]:List X0)++(sub a0 0 o3))++[a1]).length (sub a0 o3 (a0.length:Int)).length 40) (
        some (((([]:List X0)++(sub a0 0 o3))++[a1])++(sub a0 o3 (a0.length:Int)))))))))) (
  AY ((0:Int)<=0/\(0:Int)<=o3/\o3<=(a0.length:Int)) (
   AY (fit ([]:List X0).length (sub a0 0 o3).length 40) (
    AY (fit (([]:List X0)++(sub a0 0 o3)).length [a1].length 40) (
     AY ((0:Int)<=o3/\(o3:Int)<=(a0.length:Int)/\(a0.length:Int)<=(a0.length:Int)) (
      AY (fit ((([]:List X0)++(sub a0 0 o3))++[a1]).length (sub a0 o3 (a0.length:Int)).length 40) (
       some (((([]:List X0)++(sub a0 0 o3))++[a1])++(sub a0 o3 (a0.length:Int)))))))))
def S1(s1:Int)(s10:Bool)(w2:AD):Option ((List X0)):=
 AE (s10) (
  some ([X0.mk 3 0 ([]:List UInt8) false,X0.mk 3 0 ([]:List UInt8) true])) (
  some ([]:List X0))
def S4(s1:Int)(s5:List X0)(s6 s7:Int)(s50:Bool)(w2:AD)(w8:CE):Option ((List X0)):=
 AE (s50) (
  AJ (Yd s5 w8.value) fun r12=>
  some r12) (
  some s5)
def aBd(s1:Int)(s5:List X0)(s6 s7:Int)(w2:AD):Option ((List X0)):=
 AX w2.symbols s6 fun x10=>
 AX x10.args s7 fun x11=>
 AE (decide (x11.kind=1)) (
  AJ (S4 s1 s5 s6 s7 (decide (x11.value.kind=s1)) w2 x11) fun o13=>
  some o13) (
  AJ (S4 s1 s5 s6 s7 false w2 x11) fun o14=>
  some o14)
def Hs(s1 s6:Int)(w2:AD)(s5:List X0)(s7:Int):Option ((List X0×Int)⊕((List X0))):=
 AX w2.symbols s6 fun x17=>
 AE (decide (s7<(x17.args.length:Int))) (
  AJ (aBd s1 s5 s6 s7 w2) fun o18=>
  some (.inl (o18,(AA .add .i64 s7 1)))) (
  some (.inr s5))
def aBg(s1 s6:Int)(w2:AD)(s5:List X0)(s7:Int):Option ((List X0)):=AR (fun s:List X0×Int=>Hs s1 s6 w2 s.1 s.2) (s5,s7)
def Hr(s1:Int)(w2:AD)(s5:List X0)(s6:Int):Option ((List X0×Int)⊕((List X0))):=
 AE (decide (s6<(w2.symbols.length:Int))) (
  AJ (aBg s1 s6 w2 s5 0) fun o19=>
  some (.inl (o19,(AA .add .i64 s6 1)))) (
  some (.inr s5))
def aJv(s1:Int)(w2:AD)(s5:List X0)(s6:Int):Option ((List X0)):=AR (fun s:List X0×Int=>Hr s1 w2 s.1 s.2) (s5,s6)
def Xj(a0:AD)(a1:Int):Option (List X0):=
 AJ (S1 a1 (decide (a1=3)) a0) fun o1=>
 AJ (aJv a1 a0 o1 0) fun o20=>
 some o20
def aKn(s0:List X0)(s1:Int)(s5:List X0)(s6:Int)(s19:Bool):Option ((List X0)):=
 AE (s19) (
  AX s0 s6 fun x7=>
  AJ (Yd s5 x7) fun r8=>
  some r8) (
  some s5)
def aKm(s0:List X0)(s1:Int)(s5:List X0)(s6:Int):Option ((List X0)):=
 AX s0 s6 fun x6=>
 AJ (aKn s0 s1 s5 s6 (decide (x6.kind=s1))) fun o9=>
 some o9
def KQ(s0:List X0)(s1:Int)(s5:List X0)(s6:Int):Option ((List X0×Int)⊕((List X0))):=
 AE (decide (s6<(s0.length:Int))) (
  AJ (aKm s0 s1 s5 s6) fun o10=>
  some (.inl (o10,(AA .add .i64 s6 1)))) (
  some (.inr s5))
def aEs(s0:List X0)(s1:Int)(s5:List X0)(s6:Int):Option ((List X0)):=AR (fun s:List X0×Int=>KQ s0 s1 s.1 s.2) (s5,s6)
theorem aEt(s0:List X0)(s1:Int)(s5:List X0)(s6:Int):aEs s0 s1 s5 s6=CU (KQ s0 s1 s5 s6) (fun s:List X0×Int=>aEs s0 s1 s.1 s.2):=Aj _ _
def Yg(a0:List X0)(a1:Int):Option (List X0):=
 AJ (aEs a0 a1 ([]:List X0) 0) fun o11=>
 some o11
def KT(s1 s5:List X0)(s6:Int):Option ((List X0×Int)⊕((List X0))):=
 AE (decide (s6<(s1.length:Int))) (
  AX s1 s6 fun x1=>
  AJ (Yd s5 x1) fun r2=>
  some (.inl (r2,(AA .add .i64 s6 1)))) (
  some (.inr s5))
def aFe(s1 s5:List X0)(s6:Int):Option ((List X0)):=AR (fun s:List X0×Int=>KT s1 s.1 s.2) (s5,s6)
theorem aFf(s1 s5:List X0)(s6:Int):aFe s1 s5 s6=CU (KT s1 s5 s6) (fun s:List X0×Int=>aFe s1 s.1 s.2):=Aj _ _
def Yw(a0 a1:List X0):Option (List X0):=
 AJ (aFe a1 a0 0) fun o3=>
 some o3
def Qe(a0:List X0)(a1:X0):Option (Bool):=
 AJ (Yd a0 a1) fun r1=>
 some (decide ((r1.length:Int)=(a0.length:Int)))
def aDr(s0:Int)(s1:List X0)(s12:Bool)(w4 w5:X0):Option (X0):=
 AE (s12) (
  some (X0.mk w5.kind (AA .add .i64 w5.int 1) w5.str w5.bool)) (
  AY (w5.str.length+([97]:List UInt8).length<=9223372036854775807) (
   some (X0.mk w5.kind w5.int (w5.str++([97]:List UInt8)) w5.bool)))
def UP(s0:Int)(s1:List X0)(w4 w5:X0):Option (X0):=
 AJ (aDr s0 s1 (decide (s0=1)) w4 w5) fun o2=>
 some o2
def IE(s0:Int)(s1:List X0)(w4 w5:X0):Option ((X0)⊕(X0)):=
 AJ (Qe s1 w5) fun r1=>
 AE (r1) (
  AJ (UP s0 s1 w4 w5) fun o3=>
  some (.inl o3)) (
  some (.inr w5))
def UQ(s0:Int)(s1:List X0)(w4 w5:X0):Option (X0):=AR (fun s:X0=>IE s0 s1 w4 s) w5
theorem OV(s0:Int)(s1:List X0)(w4 w5:X0):UQ s0 s1 w4 w5=CU (IE s0 s1 w4 w5) (fun s:X0=>UQ s0 s1 w4 s):=Aj _ _
def Y4(a0:Int)(a1:List X0):Option (X0):=
 AJ (UQ a0 a1 (X0.mk 0 0 ([]:List UInt8) false) (X0.mk a0 0 ([]:List UInt8) false)) fun o4=>
 some o4
def aDx(s1:Int)(s2:List X2)(s3 s9:List X0)(s10:Int)(s27:Bool):Option ((List X0)):=
 AE (s27) (
  AX s2 s10 fun x3=>
  AJ (Yd s9 x3.value) fun r4=>
  some r4) (
  some s9)
def aDv(s1:Int)(s2:List X2)(s3 s9:List X0)(s10:Int):Option ((List X0)):=
 AX s2 s10 fun x2=>
 AJ (aDx s1 s2 s3 s9 s10 (decide (x2.value.kind=s1))) fun o5=>
 some o5
def IG(s1:Int)(s2:List X2)(s3 s9:List X0)(s10:Int):Option ((List X0×Int)⊕((List X0))):=
 AE (decide (s10<(s2.length:Int))) (
  AJ (aDv s1 s2 s3 s9 s10) fun o6=>
  some (.inl (o6,(AA .add .i64 s10 1)))) (
  some (.inr s9))
def aDz(s1:Int)(s2:List X2)(s3 s9:List X0)(s10:Int):Option ((List X0)):=AR (fun s:List X0×Int=>IG s1 s2 s3 s.1 s.2) (s9,s10)
def Y7(a0:AD)(a1:Int)(a2:List X2)(a3:List X0):Option (List X0):=
 AJ (Xj a0 a1) fun r1=>
 AJ (aDz a1 a2 a3 r1 0) fun o7=>
 AE (decide (a1=3)) (
  some o7) (
  AJ (Yg a3 a1) fun r8=>
  AJ (Yw o7 r8) fun r9=>
  AJ (Y4 a1 r9) fun r10=>
  AJ (Yd o7 r10) fun r11=>
  some r11)
def IF(self:AD->Int->(List X2)->(List X0)->(List X0)->Option (List X8))(s1:Int)(s2:List X2)(s3 s4 s12:List X0)(w5:AD)(s13:Int)(w11:List X8):Option ((Int×List X8)⊕((List X8))):=
 AE (decide (s13<(s12.length:Int))) (
  AY (fit ([]:List X0).length s4.length 40) (
   AX s12 s13 fun x8=>
   AY (fit (([]:List X0)++s4).length [x8].length 40) (
    AJ (self w5 s1 s2 s3 ((([]:List X0)++s4)++[x8])) fun r9=>
    AY (fit w11.length r9.length 40) (
     some (.inl ((AA .add .i64 s13 1),w11++r9)))))) (
  some (.inr w11))
def aKf(self:AD->Int->(List X2)->(List X0)->(List X0)->Option (List X8))(s1:Int)(s2:List X2)(s3 s4 s12:List X0)(w5:AD)(s13:Int)(w11:List X8):Option ((List X8)):=AR (fun s:Int×List X8=>IF self s1 s2 s3 s4 s12 w5 s.1 s.2) (s13,w11)
def aN8(self:AD->Int->(List X2)->(List X0)->(List X0)->Option (List X8))(a0:AD)(a1:Int)(a2:List X2)(a3 a4:List X0):Option (List X8):=
 AX a0.decls a1 fun x1=>
 AE (decide ((a4.length:Int)=(x1.types.length:Int))) (
  AX a0.decls a1 fun x2=>
  some [X8.mk x2.name a4]) (
  AX a0.decls a1 fun x3=>
  AX x3.types (a4.length:Int) fun x4=>
  AJ (Y7 a0 x4 a2 a3) fun r5=>
  AJ (aKf self a1 a2 a3 a4 r5 a0 0 ([]:List X8)) fun o10=>
  some o10)
def aH4:Nat->AD->Int->(List X2)->(List X0)->(List X0)->Option (List X8)
 |0=>fun _ _ _ _ _=>none
 |n+1=>fun a0 a1 a2 a3 a4=>aN8 (aH4 n) a0 a1 a2 a3 a4
def Y5(a0:AD)(a1:Int)(a2:List X2)(a3 a4:List X0):Option (List X8):=aH4 100000 a0 a1 a2 a3 a4
def KR(s0:List X2)(s1:Int)(w4:X0)(s6:Int):Option ((Int)⊕(Unit⊕X0)):=
 AE (decide (s6<(s0.length:Int))) (
  AX s0 s6 fun x1=>
  AE (decide (x1.var=s1)) (
   AX s0 s6 fun x2=>
   some (.inr (.inr x2.value))) (
   some (.inl (AA .add .i64 s6 1)))) (
  some (.inr (.inl ())))
def aKo(s0:List X2)(s1:Int)(w4:X0)(s6:Int):Option (Unit⊕X0):=AR (fun s:Int=>KR s0 s1 w4 s) s6
def Yh(a0:List X2)(a1:Int):Option (X0×Bool):=
 AJ (aKo a0 a1 (X0.mk 0 0 ([]:List UInt8) false) 0) fun o3=>
 CP o3 (fun o4=>
  some (X0.mk 0 0 ([]:List UInt8) false,false)) (fun o5=>
  some (o5,true))
def KV(s0 s1:List X2)(s5:Int):Option ((Int)⊕(Unit⊕Unit)):=
 AE (decide (s5<(s0.length:Int))) (
  AX s0 s5 fun x1=>
  AJ (Yh s1 x1.var) fun r2=>
  AE (r2.2) (
   AX s0 s5 fun x3=>
   AE (!(X0.eqb r2.1 x3.value)) (
    some (.inr (.inr ()))) (
    some (.inl (AA .add .i64 s5 1)))) (
   some (.inl (AA .add .i64 s5 1)))) (
  some (.inr (.inl ())))
def aKz(s0 s1:List X2)(s5:Int):Option (Unit⊕Unit):=AR (fun s:Int=>KV s0 s1 s) s5
def Z2(a0 a1:List X2):Option (Bool):=
 AJ (aKz a0 a1 0) fun o4=>
 CP o4 (fun o5=>
  some true) (fun o6=>
  some false)
def aDi(s0 s1:List X2)(s6:Int)(s34:Bool)(w5:List X2)(w9:X0):Option ((List X2)):=
 AE (s34) (
  AY (fit w5.length [X2.mk s6 w9].length 48) (
   some (w5++[X2.mk s6 w9]))) (
  some w5)
def aDg(s0 s1:List X2)(s6:Int)(s10 s27:Bool)(w5:List X2)(w7 w9:X0):Option ((List X2)):=
 AE (s27) (
  AY (fit w5.length [X2.mk s6 w7].length 48) (
   some (w5++[X2.mk s6 w7]))) (
  AJ (aDi s0 s1 s6 s10 w5 w9) fun o8=>
  some o8)
def aDe(s0 s1:List X2)(s6:Int)(w5:List X2):Option ((List X2)):=
 AJ (Yh s0 s6) fun r6=>
 AJ (Yh s1 s6) fun r7=>
 AJ (aDg s0 s1 s6 r7.2 r6.2 w5 r6.1 r7.1) fun o9=>
 some o9
def ID(s0 s1:List X2)(s6:Int)(w5:List X2):Option ((Int×List X2)⊕((List X2))):=
 AE (decide (s6<8)) (
  AJ (aDe s0 s1 s6 w5) fun o10=>
  some (.inl ((AA .add .i64 s6 1),o10))) (
  some (.inr w5))
def aKd(s0 s1:List X2)(s6:Int)(w5:List X2):Option ((List X2)):=AR (fun s:Int×List X2=>ID s0 s1 s.1 s.2) (s6,w5)
def Y2(a0 a1:List X2):Option (List X2):=
 AJ (aKd a0 a1 0 ([]:List X2)) fun o11=>
 some o11
def IU(s0:List X2)(w3:X2)(s5:Int):Option ((Int)⊕(Int)):=
 AE (decide (0<s5)) (
  AX s0 (AA .sub .i64 s5 1) fun x1=>
  AE (decide (w3.var<x1.var)) (
   some (.inl (AA .sub .i64 s5 1))) (
   some (.inr s5))) (
  some (.inr s5))
def aKw(s0:List X2)(w3:X2)(s5:Int):Option (Int):=AR (fun s:Int=>IU s0 w3 s) s5
def Yx(a0:List X2)(a1:X2):Option (List X2):=
 AJ (aKw a0 a1 (a0.length:Int)) fun o2=>
 AY ((0:Int)<=0/\(0:Int)<=o2/\o2<=(a0.length:Int)) (
  AY (fit ([]:List X2).length (sub a0 0 o2).length 48) (
   AY (fit (([]:List X2)++(sub a0 0 o2)).length [a1].length 48) (
    AY ((0:Int)<=o2/\(o2:Int)<=(a0.length:Int)/\(a0.length:Int)<=(a0.length:Int)) (
     AY (fit ((([]:List X2)++(sub a0 0 o2))++[a1]).length (sub a0 o2 (a0.length:Int)).length 48) (
      some (((([]:List X2)++(sub a0 0 o2))++[a1])++(sub a0 o2 (a0.length:Int))))))))
def TM(s1:Int)(s10 s11:List X2)(s12:Int)(s80:Bool)(w5:X8)(w6:Int)(w8:X3)(w9:Ao)(w13:CE)(w14:List X2):Option ((List X2)⊕Unit):=
 AE (s80) (
  AJ (Z2 s10 w14) fun r32=>
  AE (!r32) (
   some (.inr ())) (
   AJ (Y2 s10 w14) fun r33=>
   some (.inl r33))) (
  some (.inl s10))
def TO(s1:Int)(s10 s11:List X2)(s12:Int)(s111:Bool)(w5:X8)(w6:Int)(w8:X3)(w9:Ao)(w14:List X2):Option ((List X2)):=
 AE (s111) (
  AX w14 0 fun x39=>
  AJ (Yx s11 x39) fun r40=>
  some r40) (
  some s11)
def TN(s1:Int)(s10 s11:List X2)(s12:Int)(s91:Bool)(w5:X8)(w6:Int)(w8:X3)(w9:Ao)(w13:CE)(w14:List X2):Option ((List X2)⊕Unit):=
 AE (s91) (
  AJ (Yh s11 w13.n) fun r37=>
  AE (r37.2) (
   AX w5.args s12 fun x38=>
   AE (!(X0.eqb r37.1 x38)) (
    some (.inr ())) (
    AJ (TO s1 s10 s11 s12 (!r37.2) w5 w6 w8 w9 w14) fun o41=>
    some (.inl o41))) (
   AJ (TO s1 s10 s11 s12 (!r37.2) w5 w6 w8 w9 w14) fun o42=>
   some (.inl o42))) (
  some (.inl s11))
def aBu(s1:Int)(s10 s11:List X2)(s12:Int)(w5:X8)(w6:Int)(w8:X3)(w9:Ao):Option ((List X2×List X2)⊕Unit):=
 AX w8.args s12 fun x29=>
 AX w5.args s12 fun x30=>
 AE (decide (x29.kind=1)) (
  AX w5.args s12 fun x31=>
  AE (!(X0.eqb x29.value x31)) (
   some (.inr ())) (
   AJ (TM s1 s10 s11 s12 (decide (x29.kind=2)) w5 w6 w8 w9 x29 [X2.mk x29.n x30]) fun o34=>
   CP o34 (fun o35=>
    AJ (TN s1 o35 s11 s12 (decide (x29.kind=3)) w5 w6 w8 w9 x29 [X2.mk x29.n x30]) fun o43=>
    CP o43 (fun o44=>
     some (.inl (o35,o44))) (fun o45=>
     some (.inr ()))) (fun o36=>
    some (.inr ())))) (
  AJ (TM s1 s10 s11 s12 (decide (x29.kind=2)) w5 w6 w8 w9 x29 [X2.mk x29.n x30]) fun o46=>
  CP o46 (fun o47=>
   AJ (TN s1 o47 s11 s12 (decide (x29.kind=3)) w5 w6 w8 w9 x29 [X2.mk x29.n x30]) fun o49=>
   CP o49 (fun o50=>
    some (.inl (o47,o50))) (fun o51=>
    some (.inr ()))) (fun o48=>
   some (.inr ())))
def Hx(s1:Int)(w5:X8)(w6:Int)(w8:X3)(w9:Ao)(s10 s11:List X2)(s12:Int):Option ((List X2×List X2×Int)⊕((List X2×List X2)⊕Unit)):=
 AE (decide (s12<(w8.args.length:Int))) (
  AJ (aBu s1 s10 s11 s12 w5 w6 w8 w9) fun o52=>
  CP o52 (fun o53=>
   some (.inl (o53.1,o53.2,(AA .add .i64 s12 1)))) (fun o54=>
   some (.inr (.inr ())))) (
  some (.inr (.inl (s10,s11))))
def Pf(s1:Int)(w5:X8)(w6:Int)(w8:X3)(w9:Ao)(s10 s11:List X2)(s12:Int):Option ((List X2×List X2)⊕Unit):=AR (fun s:List X2×List X2×Int=>Hx s1 w5 w6 w8 w9 s.1 s.2.1 s.2.2) (s10,s11,s12)
theorem OL(s1:Int)(w5:X8)(w6:Int)(w8:X3)(w9:Ao)(s10 s11:List X2)(s12:Int):Pf s1 w5 w6 w8 w9 s10 s11 s12=CU (Hx s1 w5 w6 w8 w9 s10 s11 s12) (fun s:List X2×List X2×Int=>Pf s1 w5 w6 w8 w9 s.1 s.2.1 s.2.2):=Aj _ _
def Xn(a0:AD)(a1:Int)(a2:X8):Option (Ao×Bool):=
 AX a0.symbols a1 fun x1=>
 AX a0.decls x1.event fun x2=>
 AE (!decide (x2.name=a2.name)) (
  some (Ao.mk 0 ([]:List X2) ([]:List X2),false)) (
  AE (!decide ((x1.args.length:Int)=(a2.args.length:Int))) (
   some (Ao.mk 0 ([]:List X2) ([]:List X2),false)) (
   AJ (Pf a1 a2 0 x1 (Ao.mk 0 ([]:List X2) ([]:List X2)) ([]:List X2) ([]:List X2) 0) fun o55=>
   CP o55 (fun o56=>
    some (Ao.mk a1 o56.1 o56.2,true)) (fun o57=>
    some ((Ao.mk 0 ([]:List X2) ([]:List X2)),false))))
def aD3(s6:Int)(s23:Bool)(w2:AD)(w3:X8)(w5:List Ao)(w7:Ao):Option ((List Ao)):=
 AE (s23) (
  AY (fit w5.length [w7].length 56) (
   some (w5++[w7]))) (
  some w5)
def aD1(s6:Int)(w2:AD)(w3:X8)(w5:List Ao):Option ((List Ao)):=
 AJ (Xn w2 s6 w3) fun r4=>
 AJ (aD3 s6 r4.2 w2 w3 w5 r4.1) fun o5=>
 some o5
def IH(w2:AD)(w3:X8)(s6:Int)(w5:List Ao):Option ((Int×List Ao)⊕((List Ao))):=
 AE (decide (s6<(w2.symbols.length:Int))) (
  AJ (aD1 s6 w2 w3 w5) fun o6=>
  some (.inl ((AA .add .i64 s6 1),o6))) (
  some (.inr w5))
def aKg(w2:AD)(w3:X8)(s6:Int)(w5:List Ao):Option ((List Ao)):=AR (fun s:Int×List Ao=>IH w2 w3 s.1 s.2) (s6,w5)
def Y8(a0:AD)(a1:X8):Option (List Ao):=
 AJ (aKg a0 a1 0 ([]:List Ao)) fun o7=>
 some o7
def KW(s0 s1:List X2)(s5:Int):Option ((Int)⊕(Unit⊕Unit)):=
 AE (decide (s5<(s0.length:Int))) (
  AX s0 s5 fun x1=>
  AJ (Yh s1 x1.var) fun r2=>
  AE (!r2.2) (
   some (.inr (.inr ()))) (
   AX s0 s5 fun x3=>
   AE (!(X0.eqb r2.1 x3.value)) (
    some (.inr (.inr ()))) (
    some (.inl (AA .add .i64 s5 1))))) (
  some (.inr (.inl ())))
def aK0(s0 s1:List X2)(s5:Int):Option (Unit⊕Unit):=AR (fun s:Int=>KW s0 s1 s) s5
def Z3(a0 a1:List X2):Option (Bool):=
 AJ (aK0 a0 a1 0) fun o4=>
 CP o4 (fun o5=>
  some true) (fun o6=>
  some false)
def aEb(s0:List Ao)(s1:List X2)(s6:Int)(s19:Bool)(w5:List Ao):Option ((List Ao)):=
 AE (s19) (
  AX s0 s6 fun x8=>
  AY (fit w5.length [x8].length 56) (
   some (w5++[x8]))) (
  some w5)
def aD9(s0:List Ao)(s1:List X2)(s6:Int)(w5:List Ao):Option ((List Ao)):=
 AX s0 s6 fun x6=>
 AJ (Z3 x6.bind s1) fun r7=>
 AJ (aEb s0 s1 s6 r7 w5) fun o9=>
 some o9
def KP(s0:List Ao)(s1:List X2)(s6:Int)(w5:List Ao):Option ((Int×List Ao)⊕((List Ao))):=
 AE (decide (s6<(s0.length:Int))) (
  AJ (aD9 s0 s1 s6 w5) fun o10=>
  some (.inl ((AA .add .i64 s6 1),o10))) (
  some (.inr w5))
def aKi(s0:List Ao)(s1:List X2)(s6:Int)(w5:List Ao):Option ((List Ao)):=AR (fun s:Int×List Ao=>KP s0 s1 s.1 s.2) (s6,w5)
def Ya(a0:List Ao)(a1:List X2):Option (List Ao):=
 AJ (aKi a0 a1 0 ([]:List Ao)) fun o11=>
 some o11
def IV(s0:List Ao)(s3 s4:Int):Option ((Int×Int)⊕(Int)):=
 AE (decide (s4<(s0.length:Int))) (
  AX s0 s4 fun x1=>
  AY (0<=(IntKind.wrap .u64 x1.symbol)) (
   some (.inl ((AA .add .u64 s3 (AA .shl .u64 1 (IntKind.wrap .u64 x1.symbol))),(AA .add .i64 s4 1))))) (
  some (.inr s3))
def aKx(s0:List Ao)(s3 s4:Int):Option (Int):=AR (fun s:Int×Int=>IV s0 s.1 s.2) (s3,s4)
def Yy(a0:List Ao):Option (Int):=
 AJ (aKx a0 0 0) fun o2=>
 some o2
def IP(s0:List Int)(s1 s5:Int):Option ((Int)⊕(Int)):=
 AE (decide (0<s5)) (
  AX s0 (AA .sub .i64 s5 1) fun x1=>
  AE (decide (s1<x1)) (
   some (.inl (AA .sub .i64 s5 1))) (
   some (.inr s5))) (
  some (.inr s5))
def U3(s0:List Int)(s1 s5:Int):Option (Int):=AR (fun s:Int=>IP s0 s1 s) s5
theorem OY(s0:List Int)(s1 s5:Int):U3 s0 s1 s5=CU (IP s0 s1 s5) (fun s:Int=>U3 s0 s1 s):=Aj _ _
def Yp(a0:List Int)(a1:Int):Option (List Int):=
 AJ (U3 a0 a1 (a0.length:Int)) fun o2=>
 AE (decide (0<o2)) (
  AX a0 (AA .sub .i64 o2 1) fun x3=>
  AE (decide (x3=a1)) (
   some a0) (
   AY ((0:Int)<=0/\(0:Int)<=o2/\o2<=(a0.length:Int)) (
    AY (fit ([]:List Int).length (sub a0 0 o2).length 8) (
     AY (fit (([]:List Int)++(sub a0 0 o2)).length [a1].length 8) (
      AY ((0:Int)<=o2/\(o2:Int)<=(a0.length:Int)/\(a0.length:Int)<=(a0.length:Int)) (
       AY (fit ((([]:List Int)++(sub a0 0 o2))++[a1]).length (sub a0 o2 (a0.length:Int)).length 8) (
        some (((([]:List Int)++(sub a0 0 o2))++[a1])++(sub a0 o2 (a0.length:Int)))))))))) (
  AY ((0:Int)<=0/\(0:Int)<=o2/\o2<=(a0.length:Int)) (
   AY (fit ([]:List Int).length (sub a0 0 o2).length 8) (
    AY (fit (([]:List Int)++(sub a0 0 o2)).length [a1].length 8) (
     AY ((0:Int)<=o2/\(o2:Int)<=(a0.length:Int)/\(a0.length:Int)<=(a0.length:Int)) (
      AY (fit ((([]:List Int)++(sub a0 0 o2))++[a1]).length (sub a0 o2 (a0.length:Int)).length 8) (
       some (((([]:List Int)++(sub a0 0 o2))++[a1])++(sub a0 o2 (a0.length:Int)))))))))
def Pg(s1:List X2)(s5:List Int)(s6:Int)(s7:List X8)(s8 s9:Int)(s37:Bool)(w2:AD):Option ((List Int)):=
 AE (s37) (
  AJ (Yp s5 s9) fun r13=>
  some r13) (
  some s5)
def aBx(s1:List X2)(s5:List Int)(s6:Int)(s7:List X8)(s8:Int)(w2:AD):Option ((List Int)):=
 AX s7 s8 fun x9=>
 AJ (Y8 w2 x9) fun r10=>
 AJ (Ya r10 s1) fun r11=>
 AJ (Yy r11) fun r12=>
 AJ (Pg s1 s5 s6 s7 s8 r12 (!decide (r12=0)) w2) fun o14=>
 some o14
def GX(s1:List X2)(s6:Int)(s7:List X8)(w2:AD)(s5:List Int)(s8:Int):Option ((List Int×Int)⊕((List Int))):=
 AE (decide (s8<(s7.length:Int))) (
  AJ (aBx s1 s5 s6 s7 s8 w2) fun o18=>
  some (.inl (o18,(AA .add .i64 s8 1)))) (
  some (.inr s5))
def aJ1(s1:List X2)(s6:Int)(s7:List X8)(w2:AD)(s5:List Int)(s8:Int):Option ((List Int)):=AR (fun s:List Int×Int=>GX s1 s6 s7 w2 s.1 s.2) (s5,s8)
def Hy(s1:List X2)(w2:AD)(s5:List Int)(s6:Int):Option ((List Int×Int)⊕((List Int))):=
 AE (decide (s6<(w2.decls.length:Int))) (
  AJ (Y5 w2 s6 s1 ([]:List X0) ([]:List X0)) fun r17=>
  AJ (aJ1 s1 s6 r17 w2 s5 0) fun o19=>
  some (.inl (o19,(AA .add .i64 s6 1)))) (
  some (.inr s5))
def aJ0(s1:List X2)(w2:AD)(s5:List Int)(s6:Int):Option ((List Int)):=AR (fun s:List Int×Int=>Hy s1 w2 s.1 s.2) (s5,s6)
def Xo(a0:AD)(a1:List X2):Option (List Int):=
 AJ (aJ0 a1 a0 ([]:List Int) 0) fun o20=>
 some o20
def Sd(s1 s2:Int)(s7 s8:Int)(s9 s10:Int)(s49:Bool)(w3:AD)(w11:Xc):Option (Int):=
 AE (s49) (
  AY (0<=(IntKind.wrap .u64 w11.to)) (
   some (AA .or .u32 s9 (AA .shl .u32 1 (IntKind.wrap .u64 w11.to))))) (
  some s9)
def aAz(s1 s2:Int)(s7 s8:Int)(s9 s10:Int)(w3:AD):Option (Int):=
 AX w3.trans s10 fun x1=>
 AE (decide (x1.from_=s8)) (
  AY (0<=(IntKind.wrap .u64 x1.symbol)) (
   AJ (Sd s1 s2 s7 s8 s9 s10 (decide ((AA .rem .u64 (AA .shr .u64 s2 (IntKind.wrap .u64 x1.symbol)) 2)=1)) w3 x1) fun o2=>
   some o2)) (
  AJ (Sd s1 s2 s7 s8 s9 s10 false w3 x1) fun o3=>
  some o3)
def Hl(s1 s2:Int)(s7 s8:Int)(w3:AD)(s9 s10:Int):Option ((Int×Int)⊕(Int)):=
 AE (decide (s10<(w3.trans.length:Int))) (
  AJ (aAz s1 s2 s7 s8 s9 s10 w3) fun o4=>
  some (.inl (o4,(AA .add .i64 s10 1)))) (
  some (.inr s9))
def aA2(s1 s2:Int)(s7 s8:Int)(w3:AD)(s9 s10:Int):Option (Int):=AR (fun s:Int×Int=>Hl s1 s2 s7 s8 w3 s.1 s.2) (s9,s10)
def My(s1 s2:Int)(s7 s8 s9:Int)(s66:Bool)(w3:AD):Option (Int):=
 AE (s66) (
  AY (0<=(IntKind.wrap .u64 s8)) (
   some (AA .shl .u32 1 (IntKind.wrap .u64 s8)))) (
  some s9)
def aAx(s1 s2:Int)(s7 s8:Int)(w3:AD):Option (Int):=
 AY (0<=(IntKind.wrap .u64 s8)) (
  AE (decide ((AA .rem .u32 (AA .shr .u32 s1 (IntKind.wrap .u64 s8)) 2)=0)) (
   some s7) (
   AJ (aA2 s1 s2 s7 s8 w3 0 0) fun o5=>
   AE (decide (o5=0)) (
    AX w3.states s8 fun x6=>
    AJ (My s1 s2 s7 s8 o5 (!x6.next) w3) fun o7=>
    some (AA .or .u32 s7 o7)) (
    AJ (My s1 s2 s7 s8 o5 false w3) fun o8=>
    some (AA .or .u32 s7 o8))))
def GR(s1 s2:Int)(w3:AD)(s7 s8:Int):Option ((Int×Int)⊕(Int)):=
 AE (decide (s8<(w3.states.length:Int))) (
  AJ (aAx s1 s2 s7 s8 w3) fun o9=>
  some (.inl (o9,(AA .add .i64 s8 1)))) (
  some (.inr s7))
def aJu(s1 s2:Int)(w3:AD)(s7 s8:Int):Option (Int):=AR (fun s:Int×Int=>GR s1 s2 w3 s.1 s.2) (s7,s8)
def Xg(a0:AD)(a1 a2:Int):Option (Int):=
 AJ (aJu a1 a2 a0 0 0) fun o10=>
 some o10
def Ie(s0:List Int)(s1 s5:Int):Option ((Int)⊕(Unit⊕Unit)):=
 AE (decide (s5<(s0.length:Int))) (
  AX s0 s5 fun x1=>
  AE (decide (x1=s1)) (
   some (.inr (.inr ()))) (
   some (.inl (AA .add .i64 s5 1)))) (
  some (.inr (.inl ())))
def aK6(s0:List Int)(s1 s5:Int):Option (Unit⊕Unit):=AR (fun s:Int=>Ie s0 s1 s) s5
def Za(a0:List Int)(a1:Int):Option (Bool):=
 AJ (aK6 a0 a1 0) fun o2=>
 CP o2 (fun o3=>
  some false) (fun o4=>
  some true)
def aB8(s7:List Int)(s9 s10 s11:Int)(s42:Bool)(w3:AD)(w8:List Int):Option ((List Int)):=
 AE (s42) (
  AY (fit w8.length [s11].length 4) (
   some (w8++[s11]))) (
  some w8)
def aB6(s7:List Int)(s9 s10:Int)(w3:AD)(w8:List Int):Option ((List Int)):=
 AX w8 s9 fun x2=>
 AX s7 s10 fun x3=>
 AJ (Xg w3 x2 x3) fun r4=>
 AJ (Za w8 r4) fun r5=>
 AJ (aB8 s7 s9 s10 r4 (!r5) w3 w8) fun o6=>
 some o6
def H0(s7:List Int)(s9:Int)(w3:AD)(s10:Int)(w8:List Int):Option ((Int×List Int)⊕((List Int))):=
 AE (decide (s10<(s7.length:Int))) (
  AJ (aB6 s7 s9 s10 w3 w8) fun o7=>
  some (.inl ((AA .add .i64 s10 1),o7))) (
  some (.inr w8))
def aJ3(s7:List Int)(s9:Int)(w3:AD)(s10:Int)(w8:List Int):Option ((List Int)):=AR (fun s:Int×List Int=>H0 s7 s9 w3 s.1 s.2) (s10,w8)
def Hz(s7:List Int)(w3:AD)(s9:Int)(w8:List Int):Option ((Int×List Int)⊕((List Int))):=
 AE (decide (s9<(w8.length:Int))) (
  AJ (aJ3 s7 s9 w3 0 w8) fun o8=>
  some (.inl ((AA .add .i64 s9 1),o8))) (
  some (.inr w8))
def aJ2(s7:List Int)(w3:AD)(s9:Int)(w8:List Int):Option ((List Int)):=AR (fun s:Int×List Int=>Hz s7 w3 s.1 s.2) (s9,w8)
def Xr(a0:AD)(a1:List X2)(a2:Int):Option (List Int):=
 AJ (Xo a0 a1) fun r1=>
 AJ (aJ2 r1 a0 0 [a2]) fun o9=>
 some o9
def If(s1:Int)(w2:AD)(s5:Int):Option ((Int)⊕(Unit⊕Unit)):=
 AE (decide (s5<(w2.states.length:Int))) (
  AY (0<=(IntKind.wrap .u64 s5)) (
   AE (decide ((AA .rem .u32 (AA .shr .u32 s1 (IntKind.wrap .u64 s5)) 2)=1)) (
    AX w2.states s5 fun x1=>
    AE (x1.accept) (
     some (.inr (.inr ()))) (
     some (.inl (AA .add .i64 s5 1)))) (
    some (.inl (AA .add .i64 s5 1))))) (
  some (.inr (.inl ())))
def aK7(s1:Int)(w2:AD)(s5:Int):Option (Unit⊕Unit):=AR (fun s:Int=>If s1 w2 s) s5
def Zb(a0:AD)(a1:Int):Option (Bool):=
 AJ (aK7 a1 a0 0) fun o2=>
 CP o2 (fun o3=>
  some false) (fun o4=>
  some true)
def aEg(s7:List Int)(s8 s9:Int)(s25:Bool)(w3:AD):Option (Int):=
 AE (s25) (
  some (AA .add .i64 s8 1)) (
  some s8)
def aEe(s7:List Int)(s8 s9:Int)(w3:AD):Option (Int):=
 AX s7 s9 fun x2=>
 AJ (Zb w3 x2) fun r3=>
 AJ (aEg s7 s8 s9 r3 w3) fun o4=>
 some o4
def IJ(s7:List Int)(w3:AD)(s8 s9:Int):Option ((Int×Int)⊕(Int)):=
 AE (decide (s9<(s7.length:Int))) (
  AJ (aEe s7 s8 s9 w3) fun o5=>
  some (.inl (o5,(AA .add .i64 s9 1)))) (
  some (.inr s8))
def aKj(s7:List Int)(w3:AD)(s8 s9:Int):Option (Int):=AR (fun s:Int×Int=>IJ s7 w3 s.1 s.2) (s8,s9)
def Yb(a0:AD)(a1:List X2)(a2:Int):Option (Int):=
 AJ (Xr a0 a1 a2) fun r1=>
 AJ (aKj r1 a0 0 0) fun o6=>
 AE (decide (o6=(r1.length:Int))) (
  some 1) (
  AE (decide (o6=0)) (
   some 2) (
   some 0))
def IA(s7 s8:List Int)(s9:Int)(s10:Bool)(s11:Int):Option ((Bool×Int)⊕(Bool)):=
 AE (decide (s11<(s7.length:Int))) (
  AE (s10) (
   some (.inl (true,(AA .add .i64 s11 1)))) (
   AX s7 s11 fun x8=>
   AX s8 s9 fun x9=>
   some (.inl (decide (x8=x9),(AA .add .i64 s11 1))))) (
  some (.inr s10))
def aKc(s7 s8:List Int)(s9:Int)(s10:Bool)(s11:Int):Option (Bool):=AR (fun s:Bool×Int=>IA s7 s8 s9 s.1 s.2) (s10,s11)
def H9(s7 s8:List Int)(s9:Int):Option ((Int)⊕(Unit⊕Unit)):=
 AE (decide (s9<(s8.length:Int))) (
  AJ (aKc s7 s8 s9 false 0) fun o10=>
  AE (!o10) (
   some (.inr (.inr ()))) (
   AE (decide (0<s9)) (
    AX s8 s9 fun x11=>
    AX s8 (AA .sub .i64 s9 1) fun x12=>
    AE (decide (x11<=x12)) (
     some (.inr (.inr ()))) (
     some (.inl (AA .add .i64 s9 1)))) (
    some (.inl (AA .add .i64 s9 1))))) (
  some (.inr (.inl ())))
def aKb(s7 s8:List Int)(s9:Int):Option (Unit⊕Unit):=AR (fun s:Int=>H9 s7 s8 s) s9
def Xz(a0:AD)(a1:List X2)(a2:Int):Option (Bool):=
 AJ (Qi a0 a1) fun r1=>
 AE (!r1) (
  AJ (Zw) fun r2=>
  some r2) (
  AY (0<=(IntKind.wrap .u64 (a0.states.length:Int))) (
   AE (decide ((AA .shl .u32 1 (IntKind.wrap .u64 (a0.states.length:Int)))<=a2)) (
    AJ (Zw) fun r3=>
    some r3) (
    AJ (Xr a0 a1 a2) fun r4=>
    AJ (Zv a0 a1 a2) fun r5=>
    AE (!decide ((r5.length:Int)=(r4.length:Int))) (
     some false) (
     AJ (Zn a0 a1 a2) fun r6=>
     AJ (Yb a0 a1 a2) fun r7=>
     AE (!decide (r6=r7)) (
      some false) (
      AJ (aKb r4 r5 0) fun o13=>
      CP o13 (fun o14=>
       AJ (Zw) fun r16=>
       some r16) (fun o15=>
       some false))))))
end
end Go.Ac
