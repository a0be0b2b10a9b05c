/- Own work, printed: the functions as Lean functions. -/
import Derived.Test.YtgcfokfcilgnlaaGreatAcC
set_option linter.unusedVariables false
set_option linter.unusedSimpArgs false
namespace Go.Ac
noncomputable section
abbrev aV5(P:Program)(rd:Option Nat)(root:Code)(p:List Nat)(s:St)(x:Ex×St):Prop:=Ff P rd root p s x.1 x.2
abbrev dI(x:Int):A:= .d (D.i .i64 x)
abbrev sI(n:Nat)(x:Int):Nat×A:=(n,dI x)
abbrev sD{α:Type}(n:Nat)(f:α->D)(x:α):Nat×A:=(n,.d (f x))
abbrev bx(n:Nat):Nat×A:=(n,.box n 0)
abbrev rx(n:Nat):Nat×A:=(n,.row n)
abbrev cL{α:Type}(n:Nat)(f:α->D)(x:α):Nat×Bk:=(n,.cells (aP1 (f x)))
abbrev rW{α:Type}(n e k:Nat)(f:α->D)(x:List α):Nat×Bk:=(n,.rw e k (x.map f))
abbrev eP{α:Type}(n:Nat)(f:α->D)(x:α):Nat×A:=(n,.eptr (D.cells (f x)))
abbrev dU:Int->D:=D.i .u64
abbrev dW:Int->D:=D.i .u32
abbrev dZ:Int->D:=D.i .i64
abbrev bT(n:Nat):Nat×W:=(n,.bit true)
abbrev bF(n:Nat):Nat×W:=(n,.bit false)
structure Xd where
 name:List UInt8
 types:List Int
 deriving DecidableEq
def Xd.D(v:Xd):D:= .agg ([D.s v.name]++[(D.l (D.i .i64)) v.types])
instance :Di Xd.D 2:=⟨fun _=>rfl⟩
structure Yc where
 all:Bool
 name:List UInt8
 type:Int
def Yc.D(v:Yc):D:= .agg ([D.b v.all]++[D.s v.name]++[(D.i .i64) v.type])
instance :Di Yc.D 3:=⟨fun _=>rfl⟩
def Yc.eqb(a b:Yc):Bool:=((a.all==b.all)&&(decide (a.name=b.name)&&(decide (a.type=b.type)&&true)))
theorem Yc.eqb_iff(a b:Yc):Yc.eqb a b=true↔a=b:=by cases a;cases b;simp [Yc.eqb]
instance :DecidableEq Yc:=fun a b=>decidable_of_iff (Yc.eqb a b=true) (Yc.eqb_iff a b)
structure X0 where
 kind:Int
 int:Int
 str:List UInt8
 bool:Bool
def X0.D(v:X0):D:= .agg ([(D.i .i64) v.kind]++[(D.i .i64) v.int]++[D.s v.str]++[D.b v.bool])
instance :Di X0.D 4:=⟨fun _=>rfl⟩
def X0.eqb(a b:X0):Bool:=(decide (a.kind=b.kind)&&(decide (a.int=b.int)&&(decide (a.str=b.str)&&((a.bool==b.bool)&&true))))
theorem X0.eqb_iff(a b:X0):X0.eqb a b=true↔a=b:=by cases a;cases b;simp [X0.eqb]
instance :DecidableEq X0:=fun a b=>decidable_of_iff (X0.eqb a b=true) (X0.eqb_iff a b)
structure Ye where
 name:List UInt8
 init_:X0
def Ye.D(v:Ye):D:= .agg ([D.s v.name]++(X0.D v.init_).cells)
instance :Di Ye.D 5:=⟨fun _=>rfl⟩
def Ye.eqb(a b:Ye):Bool:=(decide (a.name=b.name)&&(X0.eqb a.init_ b.init_&&true))
theorem Ye.eqb_iff(a b:Ye):Ye.eqb a b=true↔a=b:=by cases a;cases b;simp [Ye.eqb,X0.eqb_iff]
instance :DecidableEq Ye:=fun a b=>decidable_of_iff (Ye.eqb a b=true) (Ye.eqb_iff a b)
structure Xb where
 name:List UInt8
 next:Bool
 accept:Bool
def Xb.D(v:Xb):D:= .agg ([D.s v.name]++[D.b v.next]++[D.b v.accept])
instance :Di Xb.D 3:=⟨fun _=>rfl⟩
def Xb.eqb(a b:Xb):Bool:=(decide (a.name=b.name)&&((a.next==b.next)&&((a.accept==b.accept)&&true)))
theorem Xb.eqb_iff(a b:Xb):Xb.eqb a b=true↔a=b:=by cases a;cases b;simp [Xb.eqb]
instance :DecidableEq Xb:=fun a b=>decidable_of_iff (Xb.eqb a b=true) (Xb.eqb_iff a b)
structure CH where
 kind:Int
 n:Int
 value:X0
def CH.D(v:CH):D:= .agg ([(D.i .i64) v.kind]++[(D.i .i64) v.n]++(X0.D v.value).cells)
instance :Di CH.D 6:=⟨fun _=>rfl⟩
def CH.eqb(a b:CH):Bool:=(decide (a.kind=b.kind)&&(decide (a.n=b.n)&&(X0.eqb a.value b.value&&true)))
theorem CH.eqb_iff(a b:CH):CH.eqb a b=true↔a=b:=by cases a;cases b;simp [CH.eqb,X0.eqb_iff]
instance :DecidableEq CH:=fun a b=>decidable_of_iff (CH.eqb a b=true) (CH.eqb_iff a b)
structure X3 where
 event:Int
 args:List CH
 deriving DecidableEq
def X3.D(v:X3):D:= .agg ([(D.i .i64) v.event]++[(D.l CH.D) v.args])
instance :Di X3.D 2:=⟨fun _=>rfl⟩
structure Yj where
 op:Int
 a:Int
 b:Int
 value:X0
def Yj.D(v:Yj):D:= .agg ([(D.i .i64) v.op]++[(D.i .i64) v.a]++[(D.i .i64) v.b]++(X0.D v.value).cells)
instance :Di Yj.D 7:=⟨fun _=>rfl⟩
def Yj.eqb(a b:Yj):Bool:=(decide (a.op=b.op)&&(decide (a.a=b.a)&&(decide (a.b=b.b)&&(X0.eqb a.value b.value&&true))))
theorem Yj.eqb_iff(a b:Yj):Yj.eqb a b=true↔a=b:=by cases a;cases b;simp [Yj.eqb,X0.eqb_iff]
instance :DecidableEq Yj:=fun a b=>decidable_of_iff (Yj.eqb a b=true) (Yj.eqb_iff a b)
structure Fh where
 free:Int
 expr:Int
def Fh.D(v:Fh):D:= .agg ([(D.i .i64) v.free]++[(D.i .i64) v.expr])
instance :Di Fh.D 2:=⟨fun _=>rfl⟩
def Fh.eqb(a b:Fh):Bool:=(decide (a.free=b.free)&&(decide (a.expr=b.expr)&&true))
theorem Fh.eqb_iff(a b:Fh):Fh.eqb a b=true↔a=b:=by cases a;cases b;simp [Fh.eqb]
instance :DecidableEq Fh:=fun a b=>decidable_of_iff (Fh.eqb a b=true) (Fh.eqb_iff a b)
structure Xc where
 from_:Int
 symbol:Int
 to:Int
 guard:Int
 sets:List Fh
 deriving DecidableEq
def Xc.D(v:Xc):D:= .agg ([(D.i .i64) v.from_]++[(D.i .i64) v.symbol]++[(D.i .i64) v.to]++[(D.i .i64) v.guard]++[(D.l Fh.D) v.sets])
instance :Di Xc.D 5:=⟨fun _=>rfl⟩
structure AD where
 name:List UInt8
 decls:List Xd
 quants:List Yc
 frees:List Ye
 states:List Xb
 start:Int
 symbols:List X3
 nodes:List Yj
 trans:List Xc
 deriving DecidableEq
def AD.D(v:AD):D:= .agg ([D.s v.name]++[(D.l Xd.D) v.decls]++[(D.l Yc.D) v.quants]++[(D.l Ye.D) v.frees]++[(D.l Xb.D) v.states]++[(D.i .i64) v.start]++[(D.l X3.D) v.symbols]++[(D.l Yj.D) v.nodes]++[(D.l Xc.D) v.trans])
instance :Di AD.D 9:=⟨fun _=>rfl⟩
structure X2 where
 var:Int
 value:X0
def X2.D(v:X2):D:= .agg ([(D.i .i64) v.var]++(X0.D v.value).cells)
instance :Di X2.D 5:=⟨fun _=>rfl⟩
def X2.eqb(a b:X2):Bool:=(decide (a.var=b.var)&&(X0.eqb a.value b.value&&true))
theorem X2.eqb_iff(a b:X2):X2.eqb a b=true↔a=b:=by cases a;cases b;simp [X2.eqb,X0.eqb_iff]
instance :DecidableEq X2:=fun a b=>decidable_of_iff (X2.eqb a b=true) (X2.eqb_iff a b)
structure Yk where
 state:Int
 vals:List X0
 deriving DecidableEq
def Yk.D(v:Yk):D:= .agg ([(D.i .i64) v.state]++[(D.l X0.D) v.vals])
instance :Di Yk.D 2:=⟨fun _=>rfl⟩
structure Xp where
 q:AD
 b:List X2
 d_:Int
 at_:Int
 deriving DecidableEq
def Xp.D(v:Xp):D:= .agg ((AD.D v.q).cells++[(D.l X2.D) v.b]++[(D.i .i64) v.d_]++[(D.i .i64) v.at_])
instance :Di Xp.D 12:=⟨fun _=>rfl⟩
structure X8 where
 name:List UInt8
 args:List X0
 deriving DecidableEq
def X8.D(v:X8):D:= .agg ([D.s v.name]++[(D.l X0.D) v.args])
instance :Di X8.D 2:=⟨fun _=>rfl⟩
structure Aq where
 symbol:Int
 bind:List X2
 frees:List X2
 deriving DecidableEq
def Aq.D(v:Aq):D:= .agg ([(D.i .i64) v.symbol]++[(D.l X2.D) v.bind]++[(D.l X2.D) v.frees])
instance :Di Aq.D 3:=⟨fun _=>rfl⟩
def Ho(w1:AD)(s3:Int):Option ((Int)⊕(Unit⊕Unit)):=
 AE (decide (s3<(w1.decls.length:Int))) (
  AX w1.decls s3 fun x1=>
  AE (decide (12<(x1.types.length:Int))) (
   some (.inr (.inr ()))) (
   AX w1.decls s3 fun x2=>
   AE (decide (100<(x2.name.length:Int))) (
    some (.inr (.inr ()))) (
    some (.inl (AA .add .i64 s3 1))))) (
  some (.inr (.inl ())))
def aKm(w1:AD)(s3:Int):Option (Unit⊕Unit):=AR (fun s:Int=>Ho w1 s) s3
def Hr(s4:Int)(w1:AD)(s5:Int):Option ((Int)⊕(Unit⊕Unit)):=
 AX w1.symbols s4 fun x7=>
 AE (decide (s5<(x7.args.length:Int))) (
  AX w1.symbols s4 fun x8=>
  AX x8.args s5 fun x9=>
  AE (decide (100<(x9.value.str.length:Int))) (
   some (.inr (.inr ()))) (
   some (.inl (AA .add .i64 s5 1)))) (
  some (.inr (.inl ())))
def aKo(s4:Int)(w1:AD)(s5:Int):Option (Unit⊕Unit):=AR (fun s:Int=>Hr s4 w1 s) s5
def Hq(w1:AD)(s4:Int):Option ((Int)⊕(Unit⊕Unit)):=
 AE (decide (s4<(w1.symbols.length:Int))) (
  AX w1.symbols s4 fun x6=>
  AE (decide (12<(x6.args.length:Int))) (
   some (.inr (.inr ()))) (
   AJ (aKo s4 w1 0) fun o10=>
   CQ o10 (fun o11=>
    some (.inl (AA .add .i64 s4 1))) (fun o12=>
    some (.inr (.inr ()))))) (
  some (.inr (.inl ())))
def aKn(w1:AD)(s4:Int):Option (Unit⊕Unit):=AR (fun s:Int=>Hq w1 s) s4
def Hs(w1:AD)(s6:Int):Option ((Int)⊕(Unit⊕Unit)):=
 AE (decide (s6<(w1.frees.length:Int))) (
  AX w1.frees s6 fun x16=>
  AE (decide (100<(x16.init_.str.length:Int))) (
   some (.inr (.inr ()))) (
   some (.inl (AA .add .i64 s6 1)))) (
  some (.inr (.inl ())))
def aKp(w1:AD)(s6:Int):Option (Unit⊕Unit):=AR (fun s:Int=>Hs w1 s) s6
def Ht(w1:AD)(s7:Int):Option ((Int)⊕(Unit⊕Unit)):=
 AE (decide (s7<(w1.nodes.length:Int))) (
  AX w1.nodes s7 fun x20=>
  AE (decide (100<(x20.value.str.length:Int))) (
   some (.inr (.inr ()))) (
   some (.inl (AA .add .i64 s7 1)))) (
  some (.inr (.inl ())))
def aKq(w1:AD)(s7:Int):Option (Unit⊕Unit):=AR (fun s:Int=>Ht w1 s) s7
def Hu(w1:AD)(s8:Int):Option ((Int)⊕(Unit⊕Unit)):=
 AE (decide (s8<(w1.trans.length:Int))) (
  AX w1.trans s8 fun x24=>
  AE (decide (12<(x24.sets.length:Int))) (
   some (.inr (.inr ()))) (
   some (.inl (AA .add .i64 s8 1)))) (
  some (.inr (.inl ())))
def aKr(w1:AD)(s8:Int):Option (Unit⊕Unit):=AR (fun s:Int=>Hu w1 s) s8
def Xa(a0:AD):Option (Int):=
 AE (decide (12<(a0.decls.length:Int))) (
  some 0) (
  AE (decide (9<(a0.quants.length:Int))) (
   some 0) (
   AE (decide (12<(a0.frees.length:Int))) (
    some 0) (
    AE (decide (12<(a0.states.length:Int))) (
     some 0) (
     AE (decide (12<(a0.symbols.length:Int))) (
      some 0) (
      AE (decide (12<(a0.trans.length:Int))) (
       some 0) (
       AE (decide (40<(a0.nodes.length:Int))) (
        some 0) (
        AE (decide (100<(a0.name.length:Int))) (
         some 0) (
         AJ (aKm a0 0) fun o3=>
         CQ o3 (fun o4=>
          AJ (aKn a0 0) fun o13=>
          CQ o13 (fun o14=>
           AJ (aKp a0 0) fun o17=>
           CQ o17 (fun o18=>
            AJ (aKq a0 0) fun o21=>
            CQ o21 (fun o22=>
             AJ (aKr a0 0) fun o25=>
             CQ o25 (fun o26=>
              some 1) (fun o27=>
              some 0)) (fun o23=>
             some 0)) (fun o19=>
            some 0)) (fun o15=>
           some 0)) (fun o5=>
          some 0)))))))))
def Qv:Option (List (List UInt8)):=
 some ([([97,99,99,101,112,116]:List UInt8),([97,108,115,111]:List UInt8),([97,110,100]:List UInt8),([98,111,111,108]:List UInt8),([100,111]:List UInt8),([101,118,101,110,116]:List UInt8),([101,120,105,115,116,115]:List UInt8),([102,97,108,115,101]:List UInt8),([102,111,114,97,108,108]:List UInt8),([102,114,101,101]:List UInt8),([105,102]:List UInt8),([105,110,116]:List UInt8),([110,101,120,116]:List UInt8),([110,111,116]:List UInt8),([111,110]:List UInt8),([111,114]:List UInt8),([113,101,97]:List UInt8),([115,107,105,112]:List UInt8),([115,116,97,114,116]:List UInt8),([115,116,114,105,110,103]:List UInt8),([116,111]:List UInt8),([116,114,117,101]:List UInt8)])
def Ic(s0:List UInt8)(s3:Int):Option ((Int)⊕(Unit⊕Unit)):=
 AE (decide (s3<(s0.length:Int))) (
  AX s0 s3 fun x1=>
  AE (decide (((65:UInt8).toNat:Int)<=(x1.toNat:Int))) (
   AE (decide ((x1.toNat:Int)<=((90:UInt8).toNat:Int))) (
    some (.inl (AA .add .i64 s3 1))) (
    AE (decide (((97:UInt8).toNat:Int)<=(x1.toNat:Int))) (
     AE (decide ((x1.toNat:Int)<=((122:UInt8).toNat:Int))) (
      some (.inl (AA .add .i64 s3 1))) (
      AE (!(decide ((x1.toNat:Int)=((95:UInt8).toNat:Int)))) (
       AE (decide (s3=0)) (
        some (.inr (.inr ()))) (
        AE (decide ((x1.toNat:Int)<((48:UInt8).toNat:Int))) (
         some (.inr (.inr ()))) (
         AE (decide (((57:UInt8).toNat:Int)<(x1.toNat:Int))) (
          some (.inr (.inr ()))) (
          some (.inl (AA .add .i64 s3 1)))))) (
       some (.inl (AA .add .i64 s3 1))))) (
     AE (!(decide ((x1.toNat:Int)=((95:UInt8).toNat:Int)))) (
      AE (decide (s3=0)) (
       some (.inr (.inr ()))) (
       AE (decide ((x1.toNat:Int)<((48:UInt8).toNat:Int))) (
        some (.inr (.inr ()))) (
        AE (decide (((57:UInt8).toNat:Int)<(x1.toNat:Int))) (
         some (.inr (.inr ()))) (
         some (.inl (AA .add .i64 s3 1)))))) (
      some (.inl (AA .add .i64 s3 1)))))) (
   AE (decide (((97:UInt8).toNat:Int)<=(x1.toNat:Int))) (
    AE (decide ((x1.toNat:Int)<=((122:UInt8).toNat:Int))) (
     some (.inl (AA .add .i64 s3 1))) (
     AE (!(decide ((x1.toNat:Int)=((95:UInt8).toNat:Int)))) (
      AE (decide (s3=0)) (
       some (.inr (.inr ()))) (
       AE (decide ((x1.toNat:Int)<((48:UInt8).toNat:Int))) (
        some (.inr (.inr ()))) (
        AE (decide (((57:UInt8).toNat:Int)<(x1.toNat:Int))) (
         some (.inr (.inr ()))) (
         some (.inl (AA .add .i64 s3 1)))))) (
      some (.inl (AA .add .i64 s3 1))))) (
    AE (!(decide ((x1.toNat:Int)=((95:UInt8).toNat:Int)))) (
     AE (decide (s3=0)) (
      some (.inr (.inr ()))) (
      AE (decide ((x1.toNat:Int)<((48:UInt8).toNat:Int))) (
       some (.inr (.inr ()))) (
       AE (decide (((57:UInt8).toNat:Int)<(x1.toNat:Int))) (
        some (.inr (.inr ()))) (
        some (.inl (AA .add .i64 s3 1)))))) (
     some (.inl (AA .add .i64 s3 1)))))) (
  some (.inr (.inl ())))
def aLy(s0:List UInt8)(s3:Int):Option (Unit⊕Unit):=AR (fun s:Int=>Ic s0 s) s3
def Yv(a0:List UInt8):Option (Bool):=
 AE (decide ((a0.length:Int)<1)) (
  some false) (
  AE (decide (32<(a0.length:Int))) (
   some false) (
   AJ (aLy a0 0) fun o2=>
   CQ o2 (fun o3=>
    some true) (fun o4=>
    some false)))
def IV(s0:List UInt8)(s3:List (List UInt8))(s4:Int):Option ((Int)⊕(Unit⊕Unit)):=
 AE (decide (s4<(s3.length:Int))) (
  AX s3 s4 fun x2=>
  AE (decide (x2=s0)) (
   some (.inr (.inr ()))) (
   some (.inl (AA .add .i64 s4 1)))) (
  some (.inr (.inl ())))
def aLu(s0:List UInt8)(s3:List (List UInt8))(s4:Int):Option (Unit⊕Unit):=AR (fun s:Int=>IV s0 s3 s) s4
def Yi(a0:List UInt8):Option (Bool):=
 AJ (Qv) fun r1=>
 AJ (aLu a0 r1 0) fun o3=>
 CQ o3 (fun o4=>
  AJ (Yv a0) fun r6=>
  AE (r6) (
   some (!decide (a0=([95]:List UInt8)))) (
   some false)) (fun o5=>
  some false)
def Kj(s0:List Xd)(s1:List UInt8)(s5:Int):Option ((Int)⊕(Unit⊕Int)):=
 AE (decide (s5<(s0.length:Int))) (
  AX s0 s5 fun x1=>
  AE (decide (x1.name=s1)) (
   some (.inr (.inr s5))) (
   some (.inl (AA .add .i64 s5 1)))) (
  some (.inr (.inl ())))
def aL4(s0:List Xd)(s1:List UInt8)(s5:Int):Option (Unit⊕Int):=AR (fun s:Int=>Kj s0 s1 s) s5
def Z1(a0:List Xd)(a1:List UInt8):Option (Int):=
 AJ (aL4 a0 a1 0) fun o2=>
 CQ o2 (fun o3=>
  some (-1)) (fun o4=>
  some o4)
def Ew(s0:List Xd)(s4 s5:Int):Option ((Int)⊕(Unit⊕Unit)):=
 AX s0 s4 fun x6=>
 AE (decide (s5<(x6.types.length:Int))) (
  AX s0 s4 fun x7=>
  AX x7.types s5 fun x8=>
  AE (decide (x8<1)) (
   some (.inr (.inr ()))) (
   AX s0 s4 fun x9=>
   AX x9.types s5 fun x10=>
   AE (decide (3<x10)) (
    some (.inr (.inr ()))) (
    some (.inl (AA .add .i64 s5 1))))) (
  some (.inr (.inl ())))
def aDu(s0:List Xd)(s4 s5:Int):Option (Unit⊕Unit):=AR (fun s:Int=>Ew s0 s4 s) s5
def Ev(s0:List Xd)(s4:Int):Option ((Int)⊕(Unit⊕(Int×Int))):=
 AE (decide (s4<(s0.length:Int))) (
  AX s0 s4 fun x1=>
  AJ (Yi x1.name) fun r2=>
  AE (!r2) (
   some (.inr (.inr (11,s4)))) (
   AX s0 s4 fun x3=>
   AJ (Z1 s0 x3.name) fun r4=>
   AE (decide (r4<s4)) (
    some (.inr (.inr (10,s4)))) (
    AX s0 s4 fun x5=>
    AE (decide (8<(x5.types.length:Int))) (
     some (.inr (.inr (14,s4)))) (
     AJ (aDu s0 s4 0) fun o11=>
     CQ o11 (fun o12=>
      some (.inl (AA .add .i64 s4 1))) (fun o13=>
      some (.inr (.inr (8,s4)))))))) (
  some (.inr (.inl ())))
def aDs(s0:List Xd)(s4:Int):Option (Unit⊕(Int×Int)):=AR (fun s:Int=>Ev s0 s) s4
def Xx(a0:List Xd):Option (Int×Int):=
 AE (decide (32<(a0.length:Int))) (
  some (14,32)) (
  AJ (aDs a0 0) fun o14=>
  CQ o14 (fun o15=>
   some (0,(-1))) (fun o16=>
   some (o16.1,o16.2)))
def Zk(a0:X0):Option (Bool):=
 AE (decide (a0.kind=1)) (
  AE (decide (a0.str=([]:List UInt8))) (
   some (!a0.bool)) (
   some false)) (
  AE (decide (a0.kind=2)) (
   AE (decide (a0.int=0)) (
    AE (!a0.bool) (
     some (decide ((a0.str.length:Int)<=4096))) (
     some false)) (
    some false)) (
   AE (decide (a0.kind=3)) (
    AE (decide (a0.int=0)) (
     some (decide (a0.str=([]:List UInt8)))) (
     some false)) (
    some false)))
def Ig(s0:List (List UInt8))(s1 s5:Int):Option ((Int)⊕(Unit⊕Unit)):=
 AE (decide (s5<s1)) (
  AX s0 s5 fun x1=>
  AX s0 s1 fun x2=>
  AE (decide (x1=x2)) (
   some (.inr (.inr ()))) (
   some (.inl (AA .add .i64 s5 1)))) (
  some (.inr (.inl ())))
def aPk(s0:List (List UInt8))(s1 s5:Int):Option (Unit⊕Unit):=AR (fun s:Int=>Ig s0 s1 s) s5
def Z2(a0:List (List UInt8))(a1:Int):Option (Bool):=
 AJ (aPk a0 a1 0) fun o3=>
 CQ o3 (fun o4=>
  some false) (fun o5=>
  some true)
def Hz(w1:AD)(s4:Int)(w3:List (List UInt8)):Option ((Int×List (List UInt8))⊕((List (List UInt8))⊕Unit)):=
 AE (decide (s4<(w1.quants.length:Int))) (
  AX w1.quants s4 fun x4=>
  AW (fit w3.length [x4.name].length 16) (
   AX w1.quants s4 fun x5=>
   AE (decide (x5.type<1)) (
    some (.inr (.inr ()))) (
    AX w1.quants s4 fun x6=>
    AE (decide (3<x6.type)) (
     some (.inr (.inr ()))) (
     some (.inl ((AA .add .i64 s4 1),w3++[x4.name])))))) (
  some (.inr (.inl w3)))
def aO3(w1:AD)(s4:Int)(w3:List (List UInt8)):Option ((List (List UInt8))⊕Unit):=AR (fun s:Int×List (List UInt8)=>Hz w1 s.1 s.2) (s4,w3)
def H0(w1:AD)(s5:Int)(w3:List (List UInt8)):Option ((Int×List (List UInt8))⊕((List (List UInt8))⊕Unit)):=
 AE (decide (s5<(w1.frees.length:Int))) (
  AX w1.frees s5 fun x10=>
  AW (fit w3.length [x10.name].length 16) (
   AX w1.frees s5 fun x11=>
   AJ (Zk x11.init_) fun r12=>
   AE (!r12) (
    some (.inr (.inr ()))) (
    some (.inl ((AA .add .i64 s5 1),w3++[x10.name]))))) (
  some (.inr (.inl w3)))
def aO4(w1:AD)(s5:Int)(w3:List (List UInt8)):Option ((List (List UInt8))⊕Unit):=AR (fun s:Int×List (List UInt8)=>H0 w1 s.1 s.2) (s5,w3)
def H3(w1:AD)(w3:List (List UInt8))(s6:Int):Option ((Int)⊕(Unit⊕Unit)):=
 AE (decide (s6<(w3.length:Int))) (
  AX w3 s6 fun x16=>
  AJ (Yi x16) fun r17=>
  AE (!r17) (
   some (.inr (.inr ()))) (
   AJ (Z2 w3 s6) fun r18=>
   AE (r18) (
    some (.inr (.inr ()))) (
    some (.inl (AA .add .i64 s6 1))))) (
  some (.inr (.inl ())))
def aO5(w1:AD)(w3:List (List UInt8))(s6:Int):Option (Unit⊕Unit):=AR (fun s:Int=>H3 w1 w3 s) s6
def H4(w1:AD)(s8:Int)(w7:List (List UInt8)):Option ((Int×List (List UInt8))⊕(Unit⊕Unit)):=
 AE (decide (s8<(w1.states.length:Int))) (
  AX w1.states s8 fun x26=>
  AW (fit w7.length [x26.name].length 16) (
   AX (w7++[x26.name]) s8 fun x27=>
   AJ (Yi x27) fun r28=>
   AE (!r28) (
    some (.inr (.inr ()))) (
    AJ (Z2 (w7++[x26.name]) s8) fun r29=>
    AE (r29) (
     some (.inr (.inr ()))) (
     some (.inl ((AA .add .i64 s8 1),w7++[x26.name])))))) (
  some (.inr (.inl ())))
def aO6(w1:AD)(s8:Int)(w7:List (List UInt8)):Option (Unit⊕Unit):=AR (fun s:Int×List (List UInt8)=>H4 w1 s.1 s.2) (s8,w7)
def Xh(a0:AD):Option (Bool):=
 AJ (aO3 a0 0 ([]:List (List UInt8))) fun o7=>
 CQ o7 (fun o8=>
  AJ (aO4 a0 0 o8) fun o13=>
  CQ o13 (fun o14=>
   AJ (aO5 a0 o14 0) fun o19=>
   CQ o19 (fun o20=>
    AJ (aO6 a0 0 ([]:List (List UInt8))) fun o30=>
    CQ o30 (fun o31=>
     AJ (Yi a0.name) fun r33=>
     some r33) (fun o32=>
     some false)) (fun o21=>
    some false)) (fun o15=>
   some false)) (fun o9=>
  some false)
def Zj(a0:Bool):Option (X0×Int):=
 some (X0.mk 3 0 ([]:List UInt8) a0,0)
def Qh(a0 a1:Int):Option (Int×Bool):=
 AE (decide (0<a1)) (
  AE (decide ((AA .sub .i64 9223372036854775807 a1)<a0)) (
   some (0,false)) (
   AE (decide (a1<0)) (
    AE (decide (a0<(AA .sub .i64 (-9223372036854775808) a1))) (
     some (0,false)) (
     some ((AA .add .i64 a0 a1),true))) (
    some ((AA .add .i64 a0 a1),true)))) (
  AE (decide (a1<0)) (
   AE (decide (a0<(AA .sub .i64 (-9223372036854775808) a1))) (
    some (0,false)) (
    some ((AA .add .i64 a0 a1),true))) (
   some ((AA .add .i64 a0 a1),true)))
def Zu(a0:Int)(a1:Bool):Option (X0×Int):=
 AE (!a1) (
  some (X0.mk 0 0 ([]:List UInt8) false,6)) (
  some (X0.mk 1 a0 ([]:List UInt8) false,0))
def Zq(a0 a1:Int):Option (Int×Bool):=
 AE (decide (a1<0)) (
  AE (decide ((AA .add .i64 9223372036854775807 a1)<a0)) (
   some (0,false)) (
   AE (decide (0<a1)) (
    AE (decide (a0<(AA .add .i64 (-9223372036854775808) a1))) (
     some (0,false)) (
     some ((AA .sub .i64 a0 a1),true))) (
    some ((AA .sub .i64 a0 a1),true)))) (
  AE (decide (0<a1)) (
   AE (decide (a0<(AA .add .i64 (-9223372036854775808) a1))) (
    some (0,false)) (
    some ((AA .sub .i64 a0 a1),true))) (
   some ((AA .sub .i64 a0 a1),true)))
def Qi(a0 a1:Int):Option (Int×Bool):=
 AE (decide (a0=0)) (
  some (0,true)) (
  AE (decide (a1=0)) (
   some (0,true)) (
   AE (decide (a0=(-1))) (
    AJ (Zq 0 a1) fun r1=>
    some (r1.1,r1.2)) (
    AE (decide (a1=(-1))) (
     AJ (Zq 0 a0) fun r2=>
     some (r2.1,r2.2)) (
     AE (decide (0<a0)) (
      AE (decide (0<a1)) (
       AW (a1≠0) (
        AE (decide ((AA .quo .i64 9223372036854775807 a1)<a0)) (
         some (0,false)) (
         AE (decide (a1<0)) (
          AW (a0≠0) (
           AE (decide (a1<(AA .quo .i64 (-9223372036854775808) a0))) (
            some (0,false)) (
            AE (decide (a0<0)) (
             AW (a1≠0) (
              AE (decide (a0<(AA .quo .i64 (-9223372036854775808) a1))) (
               some (0,false)) (
               AW (a1≠0) (
                AE (decide (a0<(AA .quo .i64 9223372036854775807 a1))) (
                 some (0,false)) (
                 some ((AA .mul .i64 a0 a1),true)))))) (
             some ((AA .mul .i64 a0 a1),true))))) (
          AE (decide (a0<0)) (
           AW (a1≠0) (
            AE (decide (a0<(AA .quo .i64 (-9223372036854775808) a1))) (
             some (0,false)) (
             some ((AA .mul .i64 a0 a1),true)))) (
           some ((AA .mul .i64 a0 a1),true)))))) (
       AE (decide (a1<0)) (
        AW (a0≠0) (
         AE (decide (a1<(AA .quo .i64 (-9223372036854775808) a0))) (
          some (0,false)) (
          AE (decide (a0<0)) (
           AW (a1≠0) (
            AE (decide (a0<(AA .quo .i64 9223372036854775807 a1))) (
             some (0,false)) (
             some ((AA .mul .i64 a0 a1),true)))) (
           some ((AA .mul .i64 a0 a1),true))))) (
        AE (decide (a0<0)) (
         some ((AA .mul .i64 a0 a1),true)) (
         some ((AA .mul .i64 a0 a1),true))))) (
      AE (decide (a0<0)) (
       AE (decide (0<a1)) (
        AW (a1≠0) (
         AE (decide (a0<(AA .quo .i64 (-9223372036854775808) a1))) (
          some (0,false)) (
          AE (decide (a1<0)) (
           AW (a1≠0) (
            AE (decide (a0<(AA .quo .i64 9223372036854775807 a1))) (
             some (0,false)) (
             some ((AA .mul .i64 a0 a1),true)))) (
           some ((AA .mul .i64 a0 a1),true))))) (
        AE (decide (a1<0)) (
         AW (a1≠0) (
          AE (decide (a0<(AA .quo .i64 9223372036854775807 a1))) (
           some (0,false)) (
           some ((AA .mul .i64 a0 a1),true)))) (
         some ((AA .mul .i64 a0 a1),true)))) (
       some ((AA .mul .i64 a0 a1),true)))))))
def Qj(a0 a1:Int):Option (Int×Int×Int):=
 AE (decide (a1=0)) (
  some (0,0,7)) (
  AE (decide (a1=(-1))) (
   AJ (Zq 0 a0) fun r1=>
   AE (!r1.2) (
    some (0,0,6)) (
    some (r1.1,0,0))) (
   AW (a1≠0) (
    AW (a1≠0) (
     some ((AA .quo .i64 a0 a1),(AA .rem .i64 a0 a1),0)))))
def Zr(a0 a1 a2:Int):Option (X0×Int):=
 AE (decide (a0=8)) (
  AJ (Qh a1 a2) fun r1=>
  AJ (Zu r1.1 r1.2) fun r2=>
  some (r2.1,r2.2)) (
  AE (decide (a0=9)) (
   AJ (Zq a1 a2) fun r3=>
   AJ (Zu r3.1 r3.2) fun r4=>
   some (r4.1,r4.2)) (
   AE (decide (a0=10)) (
    AJ (Qi a1 a2) fun r5=>
    AJ (Zu r5.1 r5.2) fun r6=>
    some (r6.1,r6.2)) (
    AJ (Qj a1 a2) fun r7=>
    AE (decide (r7.2.2=7)) (
     some (X0.mk 0 0 ([]:List UInt8) false,7)) (
     AE (decide (a0=12)) (
      some (X0.mk 1 r7.2.1 ([]:List UInt8) false,0)) (
      AJ (Zu r7.1 (decide (r7.2.2=0))) fun r8=>
      some (r8.1,r8.2))))))
def Gt(s0 s1:List UInt8)(s5:Int):Option ((Int)⊕(Unit⊕Bool)):=
 AE (decide (s5<(s0.length:Int))) (
  AE (decide (s5<(s1.length:Int))) (
   AX s0 s5 fun x1=>
   AX s1 s5 fun x2=>
   AE (!decide ((x1.toNat:Int)=(x2.toNat:Int))) (
    AX s0 s5 fun x3=>
    AX s1 s5 fun x4=>
    some (.inr (.inr (decide ((x3.toNat:Int)<(x4.toNat:Int)))))) (
    some (.inl (AA .add .i64 s5 1)))) (
   some (.inr (.inl ())))) (
  some (.inr (.inl ())))
def aFy(s0 s1:List UInt8)(s5:Int):Option (Unit⊕Bool):=AR (fun s:Int=>Gt s0 s1 s) s5
def Yn(a0 a1:List UInt8):Option (Bool):=
 AJ (aFy a0 a1 0) fun o5=>
 CQ o5 (fun o6=>
  some (decide ((a0.length:Int)<(a1.length:Int)))) (fun o7=>
  some o7)
def Zm(a0 a1:X0):Option (Bool):=
 AE (!decide (a0.kind=a1.kind)) (
  some (decide (a0.kind<a1.kind))) (
  AE (decide (a0.kind=1)) (
   some (decide (a0.int<a1.int))) (
   AE (decide (a0.kind=2)) (
    AJ (Yn a0.str a1.str) fun r1=>
    some r1) (
    AE (!a0.bool) (
     some a1.bool) (
     some false))))
def Q8(a0:Int)(a1 a2:X0):Option (X0×Int):=
 AE (decide (a0<4)) (
  some (X0.mk 0 0 ([]:List UInt8) false,1)) (
  AE (decide (16<a0)) (
   some (X0.mk 0 0 ([]:List UInt8) false,1)) (
   AE (decide (a0=4)) (
    AE (!decide (a1.kind=3)) (
     some (X0.mk 0 0 ([]:List UInt8) false,8)) (
     AJ (Zj (!a1.bool)) fun r1=>
     some (r1.1,r1.2))) (
    AE (decide (a0=5)) (
     AE (!decide (a1.kind=1)) (
      some (X0.mk 0 0 ([]:List UInt8) false,8)) (
      AJ (Zr 9 0 a1.int) fun r2=>
      some (r2.1,r2.2))) (
     AE (!decide (a1.kind=a2.kind)) (
      some (X0.mk 0 0 ([]:List UInt8) false,8)) (
      AE (decide (a0=13)) (
       AJ (Zj (X0.eqb a1 a2)) fun r3=>
       some (r3.1,r3.2)) (
       AE (decide (a0=14)) (
        AJ (Zj (!(X0.eqb a1 a2))) fun r4=>
        some (r4.1,r4.2)) (
        AE (decide (a1.kind=3)) (
         AE (decide (a0=6)) (
          AE (a1.bool) (
           AJ (Zj a2.bool) fun r5=>
           some (r5.1,r5.2)) (
           AJ (Zj false) fun r6=>
           some (r6.1,r6.2))) (
          AE (decide (a0=7)) (
           AE (a1.bool) (
            AJ (Zj true) fun r7=>
            some (r7.1,r7.2)) (
            AJ (Zj a2.bool) fun r8=>
            some (r8.1,r8.2))) (
           some (X0.mk 0 0 ([]:List UInt8) false,8)))) (
         AE (decide (a0=15)) (
          AJ (Zm a1 a2) fun r9=>
          AJ (Zj r9) fun r10=>
          some (r10.1,r10.2)) (
          AE (decide (a0=16)) (
           AJ (Zm a2 a1) fun r11=>
           AJ (Zj (!r11)) fun r12=>
           some (r12.1,r12.2)) (
           AE (decide (a1.kind=1)) (
            AE (decide (8<=a0)) (
             AE (decide (a0<=12)) (
              AJ (Zr a0 a1.int a2.int) fun r13=>
              some (r13.1,r13.2)) (
              AE (decide (a1.kind=2)) (
               AE (decide (a0=8)) (
                AE (decide (4096<(AA .add .i64 (a1.str.length:Int) (a2.str.length:Int)))) (
                 some (X0.mk 0 0 ([]:List UInt8) false,3)) (
                 AW (a1.str.length+a2.str.length<=9223372036854775807) (
                  some (X0.mk 2 0 (a1.str++a2.str) false,0)))) (
                some (X0.mk 0 0 ([]:List UInt8) false,8))) (
               some (X0.mk 0 0 ([]:List UInt8) false,8)))) (
             AE (decide (a1.kind=2)) (
              AE (decide (a0=8)) (
               AE (decide (4096<(AA .add .i64 (a1.str.length:Int) (a2.str.length:Int)))) (
                some (X0.mk 0 0 ([]:List UInt8) false,3)) (
                AW (a1.str.length+a2.str.length<=9223372036854775807) (
                 some (X0.mk 2 0 (a1.str++a2.str) false,0)))) (
               some (X0.mk 0 0 ([]:List UInt8) false,8))) (
              some (X0.mk 0 0 ([]:List UInt8) false,8)))) (
            AE (decide (a1.kind=2)) (
             AE (decide (a0=8)) (
              AE (decide (4096<(AA .add .i64 (a1.str.length:Int) (a2.str.length:Int)))) (
               some (X0.mk 0 0 ([]:List UInt8) false,3)) (
               AW (a1.str.length+a2.str.length<=9223372036854775807) (
                some (X0.mk 2 0 (a1.str++a2.str) false,0)))) (
              some (X0.mk 0 0 ([]:List UInt8) false,8))) (
             some (X0.mk 0 0 ([]:List UInt8) false,8)))))))))))))
def Zv(a0 a1 a2:Int):Option (Int):=
 AE (decide (a1<1)) (
  some 0) (
  AE (!decide (a1=a2)) (
   some 0) (
   AJ (Q8 a0 (X0.mk a1 0 ([]:List UInt8) false) (X0.mk a2 0 ([]:List UInt8) false)) fun r1=>
   AE (decide (r1.2=7)) (
    some 1) (
    AE (!decide (r1.2=0)) (
     some 0) (
     some r1.1.kind))))
def aLz(self:AD->Int->Option (Int×Int×Int))(a0:AD)(a1:Int):Option (Int×Int×Int):=
 AE (decide (a1<0)) (
  some (0,0,0)) (
  AE (decide ((a0.nodes.length:Int)<=a1)) (
   some (0,0,0)) (
   AX a0.nodes a1 fun x1=>
   AE (decide (x1.op=1)) (
    AE (!decide (x1.a=0)) (
     some (0,0,0)) (
     AE (!decide (x1.b=0)) (
      some (0,0,0)) (
      AJ (Zk x1.value) fun r2=>
      AE (!r2) (
       some (0,0,0)) (
       some (x1.value.kind,1,a1))))) (
    AE (!(X0.eqb x1.value (X0.mk 0 0 ([]:List UInt8) false))) (
     some (0,0,0)) (
     AE (decide (x1.op=2)) (
      AE (decide (x1.a<0)) (
       some (0,0,0)) (
       AE (decide ((a0.quants.length:Int)<=x1.a)) (
        some (0,0,0)) (
        AE (!decide (x1.b=0)) (
         some (0,0,0)) (
         AX a0.quants x1.a fun x3=>
         some (x3.type,1,a1))))) (
      AE (decide (x1.op=3)) (
       AE (decide (x1.a<0)) (
        some (0,0,0)) (
        AE (decide ((a0.frees.length:Int)<=x1.a)) (
         some (0,0,0)) (
         AE (!decide (x1.b=0)) (
          some (0,0,0)) (
          AX a0.frees x1.a fun x4=>
          some (x4.init_.kind,1,a1))))) (
       AE (decide (x1.op<4)) (
        some (0,0,0)) (
        AE (decide (16<x1.op)) (
         some (0,0,0)) (
         AJ (self a0 (AA .sub .i64 a1 1)) fun r5=>
         AE (decide (x1.op<=5)) (
          AE (decide (r5.1=0)) (
           some (0,0,0)) (
           AE (!decide (x1.a=(AA .sub .i64 a1 1))) (
            some (0,0,0)) (
            AE (!decide (x1.b=0)) (
             some (0,0,0)) (
             AJ (Zv x1.op r5.1 r5.1) fun r6=>
             some (r6,(AA .add .i64 r5.2.1 1),r5.2.2))))) (
          AE (decide (r5.1=0)) (
           some (0,0,0)) (
           AE (!decide (x1.b=(AA .sub .i64 a1 1))) (
            some (0,0,0)) (
            AE (!decide (x1.a=(AA .sub .i64 r5.2.2 1))) (
             some (0,0,0)) (
             AJ (self a0 (AA .sub .i64 r5.2.2 1)) fun r7=>
             AJ (Zv x1.op r7.1 r5.1) fun r8=>
             some (r8,(AA .add .i64 (aQ8 r5.2.1 r7.2.1) 1),r7.2.2)))))))))))))
def aI4:Nat->AD->Int->Option (Int×Int×Int)
 |0=>fun _ _=>none
 |n+1=>fun a0 a1=>aLz (aI4 n) a0 a1
def Yw(a0:AD)(a1:Int):Option (Int×Int×Int):=aI4 100000 a0 a1
def Zz(a0:AD)(a1 a2:Int):Option (Int×Int):=
 AJ (Yw a0 a2) fun r1=>
 AE (decide (r1.1=0)) (
  some (0,0)) (
  AE (!decide (r1.2.2=a1)) (
   some (0,0)) (
   some (r1.1,r1.2.1)))
def Ia(s1:Int)(w2:X3)(s5:Int):Option ((Int)⊕(Unit⊕Unit)):=
 AE (decide (s5<(w2.args.length:Int))) (
  AX w2.args s5 fun x1=>
  AE (decide (x1.kind=2)) (
   AX w2.args s5 fun x2=>
   AE (decide (x2.n=s1)) (
    some (.inr (.inr ()))) (
    some (.inl (AA .add .i64 s5 1)))) (
   some (.inl (AA .add .i64 s5 1)))) (
  some (.inr (.inl ())))
def aLw(s1:Int)(w2:X3)(s5:Int):Option (Unit⊕Unit):=AR (fun s:Int=>Ia s1 w2 s) s5
def Ys(a0:X3)(a1:Int):Option (Bool):=
 AJ (aLw a1 a0 0) fun o3=>
 CQ o3 (fun o4=>
  some false) (fun o5=>
  some true)
def Ii(s3:Int)(w4:AD)(w5:X3)(s9:Int):Option ((Int)⊕(Unit⊕Unit)):=
 AE (decide (s9<s3)) (
  AX w4.nodes s9 fun x1=>
  AE (decide (x1.op=2)) (
   AX w4.nodes s9 fun x2=>
   AJ (Ys w5 x2.a) fun r3=>
   AE (!r3) (
    some (.inr (.inr ()))) (
    some (.inl (AA .add .i64 s9 1)))) (
   some (.inl (AA .add .i64 s9 1)))) (
  some (.inr (.inl ())))
def aL7(s3:Int)(w4:AD)(w5:X3)(s9:Int):Option (Unit⊕Unit):=AR (fun s:Int=>Ii s3 w4 w5 s) s9
def Z6(a0:AD)(a1:X3)(a2 a3:Int):Option (Bool):=
 AJ (aL7 a3 a0 a1 a2) fun o4=>
 CQ o4 (fun o5=>
  some true) (fun o6=>
  some false)
def UK(s2 s8:Int)(s56:Bool)(w3:AD)(w4:Xc):Option (Int⊕Unit):=
 AE (s56) (
  AJ (Zz w3 s8 w4.guard) fun r1=>
  AE (!decide (r1.1=3)) (
   some (.inr ())) (
   AE (decide (64<r1.2)) (
    some (.inr ())) (
    some (.inl (AA .add .i64 w4.guard 1))))) (
  some (.inl s8))
def II(s2 s11:Int)(w3:AD)(w4:Xc)(w12:Fh)(s15:Int):Option ((Int)⊕(Unit⊕Unit)):=
 AE (decide (s15<s11)) (
  AX w4.sets s15 fun x8=>
  AE (decide (x8.free=w12.free)) (
   some (.inr (.inr ()))) (
   some (.inl (AA .add .i64 s15 1)))) (
  some (.inr (.inl ())))
def aLc(s2 s11:Int)(w3:AD)(w4:Xc)(w12:Fh)(s15:Int):Option (Unit⊕Unit):=AR (fun s:Int=>II s2 s11 w3 w4 w12 s) s15
def IH(s2:Int)(w3:AD)(w4:Xc)(s8 s11:Int):Option ((Int×Int)⊕(Int⊕Unit)):=
 AE (decide (s11<(w4.sets.length:Int))) (
  AX w4.sets s11 fun x5=>
  AJ (Zz w3 s8 x5.expr) fun r6=>
  AE (decide (x5.free<0)) (
   some (.inr (.inr ()))) (
   AE (decide ((w3.frees.length:Int)<=x5.free)) (
    some (.inr (.inr ()))) (
    AE (decide (r6.1=0)) (
     some (.inr (.inr ()))) (
     AE (decide (64<r6.2)) (
      some (.inr (.inr ()))) (
      AX w3.frees x5.free fun x7=>
      AE (!decide (r6.1=x7.init_.kind)) (
       some (.inr (.inr ()))) (
       AJ (aLc s2 s11 w3 w4 x5 0) fun o9=>
       CQ o9 (fun o10=>
        some (.inl ((AA .add .i64 x5.expr 1),(AA .add .i64 s11 1)))) (fun o11=>
        some (.inr (.inr ()))))))))) (
  some (.inr (.inl s8)))
def aLb(s2:Int)(w3:AD)(w4:Xc)(s8 s11:Int):Option (Int⊕Unit):=AR (fun s:Int×Int=>IH s2 w3 w4 s.1 s.2) (s8,s11)
def Xy(a0:AD)(a1:Xc)(a2:Int):Option (Int×Bool):=
 AE (decide (a1.from_<0)) (
  some (0,false)) (
  AE (decide ((a0.states.length:Int)<=a1.from_)) (
   some (0,false)) (
   AE (decide (a1.to<0)) (
    some (0,false)) (
    AE (decide ((a0.states.length:Int)<=a1.to)) (
     some (0,false)) (
     AE (decide (a1.symbol<0)) (
      some (0,false)) (
      AE (decide ((a0.symbols.length:Int)<=a1.symbol)) (
       some (0,false)) (
       AJ (UK a2 a2 (!decide (a1.guard=(-1))) a0 a1) fun o2=>
       CQ o2 (fun o3=>
        AJ (aLb a2 a0 a1 o3 0) fun o12=>
        CQ o12 (fun o13=>
         AX a0.symbols a1.symbol fun x15=>
         AJ (Z6 a0 x15 a2 o13) fun r16=>
         some (o13,r16)) (fun o14=>
         some (0,false))) (fun o4=>
        some (0,false))))))))
def Q9(a0:AD)(a1:CH)(a2:Int):Option (Bool):=
 AE (decide (a1.kind=1)) (
  AE (decide (a1.n=0)) (
   AJ (Zk a1.value) fun r1=>
   AE (r1) (
    some (decide (a1.value.kind=a2))) (
    some false)) (
   some false)) (
  AE (!(X0.eqb a1.value (X0.mk 0 0 ([]:List UInt8) false))) (
   some false) (
   AE (decide (a1.kind=2)) (
    AE (decide (0<=a1.n)) (
     AE (decide (a1.n<(a0.quants.length:Int))) (
      AX a0.quants a1.n fun x2=>
      some (decide (x2.type=a2))) (
      some false)) (
     some false)) (
    AE (decide (a1.kind=3)) (
     AE (decide (0<=a1.n)) (
      AE (decide (a1.n<(a0.frees.length:Int))) (
       AX a0.frees a1.n fun x3=>
       some (decide (x3.init_.kind=a2))) (
       some false)) (
      some false)) (
     AE (decide (a1.kind=4)) (
      some (decide (a1.n=0))) (
      some false)))))
def Ih(w2:AD)(w3:X3)(s5:Int):Option ((Int)⊕(Unit⊕Unit)):=
 AE (decide (s5<(w3.args.length:Int))) (
  AX w3.args s5 fun x2=>
  AX w2.decls w3.event fun x3=>
  AX x3.types s5 fun x4=>
  AJ (Q9 w2 x2 x4) fun r5=>
  AE (!r5) (
   some (.inr (.inr ()))) (
   some (.inl (AA .add .i64 s5 1)))) (
  some (.inr (.inl ())))
def aPm(w2:AD)(w3:X3)(s5:Int):Option (Unit⊕Unit):=AR (fun s:Int=>Ih w2 w3 s) s5
def Z3(a0:AD)(a1:X3):Option (Bool):=
 AE (decide (a1.event<0)) (
  some false) (
  AE (decide ((a0.decls.length:Int)<=a1.event)) (
   some false) (
   AX a0.decls a1.event fun x1=>
   AE (!decide ((a1.args.length:Int)=(x1.types.length:Int))) (
    some false) (
    AJ (aPm a0 a1 0) fun o6=>
    CQ o6 (fun o7=>
     some true) (fun o8=>
     some false))))
def Iq(w2 w3:X3)(s5:Int):Option ((Int)⊕(Unit⊕Unit)):=
 AE (decide (s5<(w2.args.length:Int))) (
  AX w2.args s5 fun x1=>
  AX w3.args s5 fun x2=>
  AE (!(CH.eqb x1 x2)) (
   some (.inr (.inr ()))) (
   some (.inl (AA .add .i64 s5 1)))) (
  some (.inr (.inl ())))
def aPn(w2 w3:X3)(s5:Int):Option (Unit⊕Unit):=AR (fun s:Int=>Iq w2 w3 s) s5
def Ze(a0 a1:X3):Option (Bool):=
 AE (!decide (a0.event=a1.event)) (
  some false) (
  AE (!decide ((a0.args.length:Int)=(a1.args.length:Int))) (
   some false) (
   AJ (aPn a0 a1 0) fun o3=>
   CQ o3 (fun o4=>
    some true) (fun o5=>
    some false)))
def SE(s5 s6:Int)(s34:Bool)(w1:AD)(w3:List Bool)(w4:List Int):Option ((List Int)):=
 AE (s34) (
  AW (fit w4.length [s6].length 8) (
   some (w4++[s6]))) (
  some w4)
def aAz(s5:Int)(w1:AD)(w3:List Bool)(w4:List Int):Option ((List Bool×List Int)):=
 AX w1.trans s5 fun x5=>
 AW (0<=x5.symbol/\x5.symbol+1<=(w3.length:Int)) (
  AX w3 x5.symbol fun x6=>
  AJ (SE s5 x5.symbol (!x6) w1 w3 w4) fun o7=>
  AW (0<=x5.symbol/\x5.symbol+1<=(w3.length:Int)) (
   AW (0<=x5.symbol/\x5.symbol+1<=(w3.length:Int)) (
    some (w3.set x5.symbol.toNat true,o7))))
def Hi(w1:AD)(s5:Int)(w3:List Bool)(w4:List Int):Option ((Int×List Bool×List Int)⊕((List Int))):=
 AE (decide (s5<(w1.trans.length:Int))) (
  AJ (aAz s5 w1 w3 w4) fun o8=>
  some (.inl ((AA .add .i64 s5 1),o8.1,o8.2))) (
  some (.inr w4))
def aOy(w1:AD)(s5:Int)(w3:List Bool)(w4:List Int):Option ((List Int)):=AR (fun s:Int×List Bool×List Int=>Hi w1 s.1 s.2.1 s.2.2) (s5,w3,w4)
def Hj(w1:AD)(w4:List Int)(s7:Int):Option ((Int)⊕(Unit⊕Unit)):=
 AE (decide (s7<(w4.length:Int))) (
  AX w4 s7 fun x10=>
  AE (!decide (x10=(AA .add .i64 (AA .sub .i64 (w1.symbols.length:Int) (w4.length:Int)) s7))) (
   some (.inr (.inr ()))) (
   some (.inl (AA .add .i64 s7 1)))) (
  some (.inr (.inl ())))
def aOz(w1:AD)(w4:List Int)(s7:Int):Option (Unit⊕Unit):=AR (fun s:Int=>Hj w1 w4 s) s7
def Hl(s8:Int)(w1:AD)(s9:Int):Option ((Int)⊕(Unit⊕Unit)):=
 AE (decide (s9<s8)) (
  AX w1.symbols s8 fun x16=>
  AX w1.symbols s9 fun x17=>
  AJ (Ze x16 x17) fun r18=>
  AE (r18) (
   some (.inr (.inr ()))) (
   some (.inl (AA .add .i64 s9 1)))) (
  some (.inr (.inl ())))
def aKj(s8:Int)(w1:AD)(s9:Int):Option (Unit⊕Unit):=AR (fun s:Int=>Hl s8 w1 s) s9
def Hk(w1:AD)(s8:Int):Option ((Int)⊕(Unit⊕Unit)):=
 AE (decide (s8<(w1.symbols.length:Int))) (
  AX w1.symbols s8 fun x14=>
  AJ (Z3 w1 x14) fun r15=>
  AE (!r15) (
   some (.inr (.inr ()))) (
   AJ (aKj s8 w1 0) fun o19=>
   CQ o19 (fun o20=>
    some (.inl (AA .add .i64 s8 1))) (fun o21=>
    some (.inr (.inr ()))))) (
  some (.inr (.inl ())))
def aO0(w1:AD)(s8:Int):Option (Unit⊕Unit):=AR (fun s:Int=>Hk w1 s) s8
def E9(s10:Int)(w1:AD)(s11:Bool)(s12:Int):Option ((Bool×Int)⊕(Bool)):=
 AE (decide (s12<(w1.symbols.length:Int))) (
  AE (s11) (
   some (.inl (true,(AA .add .i64 s12 1)))) (
   AX w1.symbols s12 fun x25=>
   AJ (Ys x25 s10) fun r26=>
   some (.inl (r26,(AA .add .i64 s12 1))))) (
  some (.inr s11))
def SF(s10:Int)(w1:AD)(s11:Bool)(s12:Int):Option (Bool):=AR (fun s:Bool×Int=>E9 s10 w1 s.1 s.2) (s11,s12)
def Hm(w1:AD)(s10:Int):Option ((Int)⊕(Unit⊕Unit)):=
 AE (decide (s10<(w1.quants.length:Int))) (
  AJ (SF s10 w1 false 0) fun o27=>
  AE (!o27) (
   some (.inr (.inr ()))) (
   some (.inl (AA .add .i64 s10 1)))) (
  some (.inr (.inl ())))
def aO1(w1:AD)(s10:Int):Option (Unit⊕Unit):=AR (fun s:Int=>Hm w1 s) s10
def X7(a0:AD):Option (Bool):=
 AW (0<=(a0.symbols.length:Int)/\fit 0 (a0.symbols.length:Int).toNat 1) (
  AJ (aOy a0 0 (List.replicate (a0.symbols.length:Int).toNat false) ([]:List Int)) fun o9=>
  AJ (aOz a0 o9 0) fun o11=>
  CQ o11 (fun o12=>
   AJ (aO0 a0 0) fun o22=>
   CQ o22 (fun o23=>
    AJ (aO1 a0 0) fun o28=>
    CQ o28 (fun o29=>
     some true) (fun o30=>
     some false)) (fun o24=>
    some false)) (fun o13=>
   some false))
def IY(w1:AD)(s5 s6:Int):Option ((Int×Int)⊕(Int⊕Unit)):=
 AE (decide (s6<(w1.trans.length:Int))) (
  AX w1.trans s6 fun x3=>
  AJ (Xy w1 x3 s5) fun r4=>
  AE (!r4.2) (
   some (.inr (.inr ()))) (
   some (.inl (r4.1,(AA .add .i64 s6 1))))) (
  some (.inr (.inl s5)))
def aPg(w1:AD)(s5 s6:Int):Option (Int⊕Unit):=AR (fun s:Int×Int=>IY w1 s.1 s.2) (s5,s6)
def Yo(a0:AD):Option (Bool):=
 AJ (Xx a0.decls) fun r1=>
 AE (!decide (r1.1=0)) (
  some false) (
  AE (decide (8<(a0.quants.length:Int))) (
   some false) (
   AE (decide (16<(a0.frees.length:Int))) (
    some false) (
    AE (decide (32<(a0.states.length:Int))) (
     some false) (
     AE (decide (64<(a0.symbols.length:Int))) (
      some false) (
      AE (decide (2048<(a0.nodes.length:Int))) (
       some false) (
       AE (decide (256<(a0.trans.length:Int))) (
        some false) (
        AE (decide (a0.start<0)) (
         some false) (
         AE (decide ((a0.states.length:Int)<=a0.start)) (
          some false) (
          AJ (Xh a0) fun r2=>
          AE (!r2) (
           some false) (
           AJ (aPg a0 0 0) fun o5=>
           CQ o5 (fun o6=>
            AE (decide (o6=(a0.nodes.length:Int))) (
             AJ (X7 a0) fun r8=>
             some r8) (
             some false)) (fun o7=>
            some false)))))))))))
def Ij(w1:AD)(s3:Int):Option ((Int)⊕(Unit⊕Unit)):=
 AE (decide (s3<(w1.decls.length:Int))) (
  AX w1.decls s3 fun x3=>
  AE (decide (3<(x3.types.length:Int))) (
   some (.inr (.inr ()))) (
   some (.inl (AA .add .i64 s3 1)))) (
  some (.inr (.inl ())))
def aL8(w1:AD)(s3:Int):Option (Unit⊕Unit):=AR (fun s:Int=>Ij w1 s) s3
def Z7(a0:AD):Option (Bool):=
 AJ (Xa a0) fun r1=>
 AE (decide (r1=0)) (
  some false) (
  AJ (Yo a0) fun r2=>
  AE (!r2) (
   some false) (
   AJ (aL8 a0 0) fun o4=>
   CQ o4 (fun o5=>
    some true) (fun o6=>
    some false)))
def Id(w1:AD)(s3:Int):Option ((Int)⊕(Unit⊕Unit)):=
 AE (decide (s3<(w1.trans.length:Int))) (
  AX w1.trans s3 fun x1=>
  AE (!decide (x1.guard=(-1))) (
   some (.inr (.inr ()))) (
   some (.inl (AA .add .i64 s3 1)))) (
  some (.inr (.inl ())))
def aL1(w1:AD)(s3:Int):Option (Unit⊕Unit):=AR (fun s:Int=>Id w1 s) s3
def Yx(a0:AD):Option (Bool):=
 AE (decide (0<(a0.frees.length:Int))) (
  some false) (
  AE (decide (1<(a0.quants.length:Int))) (
   some false) (
   AE (decide (8<(a0.states.length:Int))) (
    some false) (
    AE (decide (8<(a0.symbols.length:Int))) (
     some false) (
     AJ (aL1 a0 0) fun o2=>
     CQ o2 (fun o3=>
      some true) (fun o4=>
      some false)))))
def Ik(s0:List X2)(s3:Int):Option ((Int)⊕(Unit⊕Unit)):=
 AE (decide (s3<(s0.length:Int))) (
  AX s0 s3 fun x1=>
  AE (decide (x1.var<0)) (
   some (.inr (.inr ()))) (
   AX s0 s3 fun x2=>
   AE (decide (7<x2.var)) (
    some (.inr (.inr ()))) (
    AX s0 s3 fun x3=>
    AJ (Zk x3.value) fun r4=>
    AE (!r4) (
     some (.inr (.inr ()))) (
     AE (decide (0<s3)) (
      AX s0 s3 fun x5=>
      AX s0 (AA .sub .i64 s3 1) fun x6=>
      AE (decide (x5.var<=x6.var)) (
       some (.inr (.inr ()))) (
       some (.inl (AA .add .i64 s3 1)))) (
      some (.inl (AA .add .i64 s3 1))))))) (
  some (.inr (.inl ())))
def aL9(s0:List X2)(s3:Int):Option (Unit⊕Unit):=AR (fun s:Int=>Ik s0 s) s3
def Z8(a0:List X2):Option (Bool):=
 AJ (aL9 a0 0) fun o7=>
 CQ o7 (fun o8=>
  some true) (fun o9=>
  some false)
def Qa(a0:AD)(a1:List X2):Option (Bool):=
 AE (decide ((a1.length:Int)=0)) (
  some true) (
  AE (decide ((a1.length:Int)=1)) (
   AE (decide ((a0.quants.length:Int)=1)) (
    AX a1 0 fun x1=>
    AE (decide (x1.var=0)) (
     AX a1 0 fun x2=>
     AX a0.quants 0 fun x3=>
     AE (decide (x2.value.kind=x3.type)) (
      AJ (Z8 a1) fun r4=>
      some r4) (
      some false)) (
     some false)) (
    some false)) (
   some false))
def Qk(a0:AD)(a1:List X2):Option (Bool):=
 AJ (Z7 a0) fun r1=>
 AE (!r1) (
  some false) (
  AJ (Yx a0) fun r2=>
  AE (!r2) (
   some false) (
   AJ (Qa a0 a1) fun r3=>
   AE (!r3) (
    some false) (
    AE (!decide ((a1.length:Int)=(a0.quants.length:Int))) (
     some false) (
     AE (decide ((a1.length:Int)=0)) (
      some true) (
      AX a1 0 fun x4=>
      some (decide ((x4.value.str.length:Int)<=100)))))))
def Il(s0:List Int)(s1 s7 s8:Int):Option ((Int)⊕(Unit⊕Int)):=
 AE (decide (s8<s7)) (
  AX s0 s8 fun x1=>
  AE (decide (s1=x1)) (
   some (.inr (.inr s8))) (
   some (.inl (AA .add .i64 s8 1)))) (
  some (.inr (.inl ())))
def aMa(s0:List Int)(s1 s7 s8:Int):Option (Unit⊕Int):=AR (fun s:Int=>Il s0 s1 s7 s) s8
def Z9(a0:List Int)(a1:Int):Option (Int):=
 AJ (aMa a0 a1 (a0.length:Int) 0) fun o2=>
 CQ o2 (fun o3=>
  some (-1)) (fun o4=>
  some o4)
def Ql(a0:List Int)(a1:Int):Option (Bool):=
 AJ (Z9 a0 a1) fun r1=>
 some (decide (0<=r1))
def To(s6:Int)(s18:List Xc)(s19 s20:Int)(s37:Bool)(w2:AD)(w5:List Int)(w8:Xc):Option ((List Int)):=
 AE (s37) (
  AW (fit w5.length [w8.to].length 8) (
   some (w5++[w8.to]))) (
  some w5)
def aC2(s6:Int)(s18:List Xc)(s19 s20:Int)(w2:AD)(w5:List Int):Option ((List Int)):=
 AX s18 s20 fun x1=>
 AX w5 s6 fun x2=>
 AE (decide (x1.from_=x2)) (
  AJ (Ql w5 x1.to) fun r3=>
  AJ (To s6 s18 s19 s20 (!r3) w2 w5 x1) fun o4=>
  some o4) (
  AJ (To s6 s18 s19 s20 false w2 w5 x1) fun o5=>
  some o5)
def ID(s6:Int)(s18:List Xc)(s19:Int)(w2:AD)(s20:Int)(w5:List Int):Option ((Int×List Int)⊕((List Int))):=
 AE (decide (s20<s19)) (
  AJ (aC2 s6 s18 s19 s20 w2 w5) fun o6=>
  some (.inl ((AA .add .i64 s20 1),o6))) (
  some (.inr w5))
def aK5(s6:Int)(s18:List Xc)(s19:Int)(w2:AD)(s20:Int)(w5:List Int):Option ((List Int)):=AR (fun s:Int×List Int=>ID s6 s18 s19 w2 s.1 s.2) (s20,w5)
def IC(w2:AD)(s6:Int)(w5:List Int):Option ((Int×List Int)⊕((List Int))):=
 AE (decide (s6<(w5.length:Int))) (
  AJ (aK5 s6 w2.trans (w2.trans.length:Int) w2 0 w5) fun o7=>
  some (.inl ((AA .add .i64 s6 1),o7))) (
  some (.inr w5))
def aK4(w2:AD)(s6:Int)(w5:List Int):Option ((List Int)):=AR (fun s:Int×List Int=>IC w2 s.1 s.2) (s6,w5)
def Xr(a0:AD)(a1:Int):Option (List Int):=
 AJ (aK4 a0 0 [a1]) fun o8=>
 some o8
def Qm(a0:Int)(a1:AD):Option (Bool):=
 AX a1.states a0 fun x1=>
 AE (!x1.accept) (
  some true) (
  AX a1.states a0 fun x2=>
  some x2.next)
def Ir(s0:List Int)(s1:AD)(s7 s8:Int):Option ((Int)⊕(Unit⊕Int)):=
 AE (decide (s8<s7)) (
  AX s0 s8 fun x1=>
  AJ (Qm x1 s1) fun r2=>
  AE (r2) (
   some (.inr (.inr s8))) (
   some (.inl (AA .add .i64 s8 1)))) (
  some (.inr (.inl ())))
def aMe(s0:List Int)(s1:AD)(s7 s8:Int):Option (Unit⊕Int):=AR (fun s:Int=>Ir s0 s1 s7 s) s8
def Zf(a0:List Int)(a1:AD):Option (Int):=
 AJ (aMe a0 a1 (a0.length:Int) 0) fun o3=>
 CQ o3 (fun o4=>
  some (-1)) (fun o5=>
  some o5)
def Qn(a0:List Int)(a1:AD):Option (Bool):=
 AJ (Zf a0 a1) fun r1=>
 some (decide (0<=r1))
def Qo(a0:Int)(a1:AD):Option (Bool):=
 AX a1.states a0 fun x1=>
 some x1.accept
def Is(s0:List Int)(s1:AD)(s7 s8:Int):Option ((Int)⊕(Unit⊕Int)):=
 AE (decide (s8<s7)) (
  AX s0 s8 fun x1=>
  AJ (Qo x1 s1) fun r2=>
  AE (r2) (
   some (.inr (.inr s8))) (
   some (.inl (AA .add .i64 s8 1)))) (
  some (.inr (.inl ())))
def aMf(s0:List Int)(s1:AD)(s7 s8:Int):Option (Unit⊕Int):=AR (fun s:Int=>Is s0 s1 s7 s) s8
def Zg(a0:List Int)(a1:AD):Option (Int):=
 AJ (aMf a0 a1 (a0.length:Int) 0) fun o3=>
 CQ o3 (fun o4=>
  some (-1)) (fun o5=>
  some o5)
def Qp(a0:List Int)(a1:AD):Option (Bool):=
 AJ (Zg a0 a1) fun r1=>
 some (decide (0<=r1))
def Zl(a0:AD)(a1:Int):Option (Int):=
 AE (decide (a1<0)) (
  some 0) (
  AE (decide ((a0.states.length:Int)<=a1)) (
   some 0) (
   AJ (Xr a0 a1) fun r1=>
   AJ (Qn r1 a0) fun r2=>
   AE (!r2) (
    some 1) (
    AJ (Qp r1 a0) fun r3=>
    AE (!r3) (
     some 2) (
     some 0))))
def aC9(s5:Int)(s8:List Yk)(s9 s10:Int)(s20:Bool)(w2:AD):Option (Int):=
 AE (s20) (
  some 0) (
  some s5)
def Tv(s5:Int)(s8:List Yk)(s9 s10 s17:Int)(s18:Bool)(w2:AD):Option (Int⊕Unit):=
 AE (s18) (
  some (.inr ())) (
  AJ (aC9 s5 s8 s9 s10 (decide (s17=0)) w2) fun o3=>
  some (.inl o3))
def Tu(s5:Int)(s8:List Yk)(s9 s10 s17:Int)(w2:AD):Option (Int⊕Unit):=
 AJ (Tv s5 s8 s9 s10 s17 (decide (s17=1)) w2) fun o4=>
 CQ o4 (fun o5=>
  some (.inl o5)) (fun o6=>
  some (.inr ()))
def Tt(s5:Int)(s8:List Yk)(s9 s10:Int)(w2:AD):Option (Int⊕Unit):=
 AX s8 s10 fun x1=>
 AJ (Zl w2 x1.state) fun r2=>
 AJ (Tu s5 s8 s9 s10 r2 w2) fun o7=>
 CQ o7 (fun o8=>
  some (.inl o8)) (fun o9=>
  some (.inr ()))
def Gk(s8:List Yk)(s9:Int)(w2:AD)(s5 s10:Int):Option ((Int×Int)⊕(Int⊕Unit)):=
 AE (decide (s10<s9)) (
  AJ (Tt s5 s8 s9 s10 w2) fun o10=>
  CQ o10 (fun o11=>
   some (.inl (o11,(AA .add .i64 s10 1)))) (fun o12=>
   some (.inr (.inr ())))) (
  some (.inr (.inl s5)))
def aK6(s8:List Yk)(s9:Int)(w2:AD)(s5 s10:Int):Option (Int⊕Unit):=AR (fun s:Int×Int=>Gk s8 s9 w2 s.1 s.2) (s5,s10)
def Xs(a0:AD)(a1:List Yk):Option (Int):=
 AJ (aK6 a1 (a1.length:Int) a0 2 0) fun o13=>
 CQ o13 (fun o14=>
  some o14) (fun o15=>
  some 1)
def aFi(s1 s5 s6:Int)(s9:List X3)(s10 s11:Int)(s19:Bool):Option (Int):=
 AE (s19) (
  AW (0<=(IntKind.wrap .u64 s6)) (
   some (AA .or .u64 s5 (AA .shl .u64 1 (IntKind.wrap .u64 s6))))) (
  some s5)
def aFg(s1 s5:Int)(s9:List X3)(s10 s11:Int):Option (Int):=
 AX s9 s11 fun x1=>
 AJ (aFi s1 s5 s11 s9 s10 s11 (decide (x1.event=s1))) fun o2=>
 some o2
def IU(s1:Int)(s9:List X3)(s10 s5 s11:Int):Option ((Int×Int)⊕(Int)):=
 AE (decide (s11<s10)) (
  AJ (aFg s1 s5 s9 s10 s11) fun o3=>
  some (.inl (o3,(AA .add .i64 s11 1)))) (
  some (.inr s5))
def aLq(s1:Int)(s9:List X3)(s10 s5 s11:Int):Option (Int):=AR (fun s:Int×Int=>IU s1 s9 s10 s.1 s.2) (s5,s11)
def Yf(a0:AD)(a1:Int):Option (Int):=
 AJ (aLq a1 a0.symbols (a0.symbols.length:Int) 0 0) fun o4=>
 some o4
def Qw:Option (Unit):=
 some ()
def Qc(a0:Bool):Option (X0):=
 some (X0.mk 3 0 ([]:List UInt8) a0)
def Zw(a0 a1:X0):Option (Bool):=
 AE (!decide (a0.kind=a1.kind)) (
  some (decide (a0.kind<a1.kind))) (
  AE (decide (a0.kind=1)) (
   some (decide (a0.int<a1.int))) (
   AE (decide (a0.kind=2)) (
    some (Op.bytesLess a0.str a1.str)) (
    AE (!a0.bool) (
     some a1.bool) (
     some false))))
def Q0(a0 a1:X0)(a2:List X0):Option (Int):=
 AJ (Zw a0 a1) fun r1=>
 AE (r1) (
  some (-1)) (
  AJ (Zw a1 a0) fun r2=>
  AE (r2) (
   some 1) (
   some 0))
def Uh(s0 s2:List X0)(s8 s9:Int)(s10 s11:Int)(s31:Bool)(w4:X0):Option ((Int×Int)):=
 AE (s31) (
  some ((AA .add .i64 s11 1),s10)) (
  some (s9,s11))
def aEl(s0 s2:List X0)(s8 s9 s10:Int)(w4:X0):Option ((Int×Int)):=
 AX s0 (IntKind.wrap .i64 (AA .shr .u64 (IntKind.wrap .u64 (AA .add .i64 s9 s10)) 1)) fun x1=>
 AJ (Q0 x1 w4 s2) fun r2=>
 AJ (Uh s0 s2 s8 s9 s10 (IntKind.wrap .i64 (AA .shr .u64 (IntKind.wrap .u64 (AA .add .i64 s9 s10)) 1)) (decide (r2<0)) w4) fun o3=>
 some (o3.1,o3.2)
def Gs(s0 s2:List X0)(s8:Int)(w4:X0)(s9 s10:Int):Option ((Int×Int)⊕(Int)):=
 AE (decide (s9<s10)) (
  AJ (aEl s0 s2 s8 s9 s10 w4) fun o4=>
  some (.inl (o4.1,o4.2))) (
  some (.inr s9))
def aEo(s0 s2:List X0)(s8:Int)(w4:X0)(s9 s10:Int):Option (Int):=AR (fun s:Int×Int=>Gs s0 s2 s8 w4 s.1 s.2) (s9,s10)
def Y4(a0:List X0)(a1:X0)(a2:List X0):Option (Int×Bool):=
 AJ (aEo a0 a2 (a0.length:Int) a1 0 (a0.length:Int)) fun o5=>
 AE (decide (o5<(a0.length:Int))) (
  AX a0 o5 fun x6=>
  AJ (Q0 x6 a1 a2) fun r7=>
  some (o5,decide (r7=0))) (
  some (o5,false))
def U3(i:Int)(ys:List X0):Option (List X0):=aQ6 40 i ys
def aG3(s5:Int)(s6 s20:Bool)(w3:X0):Option ((List X0)):=
 AE (s20) (
  AJ (U3 s5 [w3]) fun r2=>
  some r2) (
  some ([]:List X0))
def Zo(a1:X0):Option (Bool×List X0):=
 AJ (Y4 ([]:List X0) a1 ([]:List X0)) fun r1=>
 AJ (aG3 r1.1 r1.2 (!r1.2) a1) fun o3=>
 some (!r1.2,o3)
def Qx(i:Int)(xs ys:List X0):Option (List X0):=aQ5 40 i xs ys
def aG1(s5:Int)(s6 s20:Bool)(w3:X0)(w501:List X0):Option ((List X0)):=
 AE (s20) (
  AJ (Qx s5 w501 [w3]) fun r2=>
  some r2) (
  some w501)
def Zn(a1:X0)(w1:List X0):Option (Bool×List X0):=
 AJ (Y4 w1 a1 w1) fun r1=>
 AJ (aG1 r1.1 r1.2 (!r1.2) a1 w1) fun o3=>
 some (!r1.2,o3)
def U4(l:List X0):Option (List X0):=O6 40 l
def Qd(w1:List X0):Option (List X0×List X0):=
 AJ (U4 w1) fun r1=>
 some (r1,w1)
def TQ(s1:Int)(s12:Bool)(w2:AD):Option ((List X0)):=
 AE (s12) (
  AJ (Qc false) fun r2=>
  AJ (Zo r2) fun r3=>
  AJ (Qc true) fun r4=>
  AJ (Zn r4 r3.2) fun r5=>
  some r5.2) (
  some ([]:List X0))
def TS(s1:Int)(s20:List X3)(s21 s22:Int)(s27:List CH)(s28 s29:Int)(s42:Bool)(w9:CH)(w518:List X0):Option ((List X0)):=
 AE (s42) (
  AJ (Zn w9.value w518) fun r9=>
  some r9.2) (
  some w518)
def aCf(s1:Int)(s20:List X3)(s21 s22:Int)(s27:List CH)(s28 s29:Int)(w518:List X0):Option ((List X0)):=
 AX s27 s29 fun x8=>
 AE (decide (x8.kind=1)) (
  AJ (TS s1 s20 s21 s22 s27 s28 s29 (decide (x8.value.kind=s1)) x8 w518) fun o10=>
  some o10) (
  AJ (TS s1 s20 s21 s22 s27 s28 s29 false x8 w518) fun o11=>
  some o11)
def H8(s1:Int)(s20:List X3)(s21 s22:Int)(s27:List CH)(s28 s29:Int)(w518:List X0):Option ((Int×List X0)⊕((List X0))):=
 AE (decide (s29<s28)) (
  AJ (aCf s1 s20 s21 s22 s27 s28 s29 w518) fun o12=>
  some (.inl ((AA .add .i64 s29 1),o12))) (
  some (.inr w518))
def aCi(s1:Int)(s20:List X3)(s21 s22:Int)(s27:List CH)(s28 s29:Int)(w518:List X0):Option ((List X0)):=AR (fun s:Int×List X0=>H8 s1 s20 s21 s22 s27 s28 s.1 s.2) (s29,w518)
def H7(s1:Int)(s20:List X3)(s21 s22:Int)(w518:List X0):Option ((Int×List X0)⊕((List X0))):=
 AE (decide (s22<s21)) (
  AX s20 s22 fun x7=>
  AJ (aCi s1 s20 s21 s22 x7.args (x7.args.length:Int) 0 w518) fun o13=>
  some (.inl ((AA .add .i64 s22 1),o13))) (
  some (.inr w518))
def aKy(s1:Int)(s20:List X3)(s21 s22:Int)(w518:List X0):Option ((List X0)):=AR (fun s:Int×List X0=>H7 s1 s20 s21 s.1 s.2) (s22,w518)
def Xk(a0:AD)(a1:Int):Option (List X0):=
 AJ (Qw) fun r1=>
 AJ (TQ a1 (decide (a1=3)) a0) fun o6=>
 AJ (aKy a1 a0.symbols (a0.symbols.length:Int) 0 o6) fun o14=>
 AJ (Qd o14) fun r15=>
 some r15.1
def Im(s0:List X0)(s7:Int)(w3:X0)(s8:Int):Option ((Int)⊕(Unit⊕Int)):=
 AE (decide (s8<s7)) (
  AX s0 s8 fun x1=>
  AE ((X0.eqb w3 x1)) (
   some (.inr (.inr s8))) (
   some (.inl (AA .add .i64 s8 1)))) (
  some (.inr (.inl ())))
def aGq(s0:List X0)(s7:Int)(w3:X0)(s8:Int):Option (Unit⊕Int):=AR (fun s:Int=>Im s0 s7 w3 s) s8
def Za(a0:List X0)(a1:X0):Option (Int):=
 AJ (aGq a0 (a0.length:Int) a1 0) fun o2=>
 CQ o2 (fun o3=>
  some (-1)) (fun o4=>
  some o4)
def Q3(a0:List X0)(a1:X0):Option (Bool):=
 AJ (Za a0 a1) fun r1=>
 some (decide (0<=r1))
def Qy(n:Int):Option (List X0):=aHr 40 n
def TC(s0:List (List X0))(s3:Int)(s9:List (List X0))(s10 s11:Int)(s20:Bool):Option (Unit):=
 AE (s20) (
  none) (
  some ())
def TB(s0:List (List X0))(s3:Int)(s9:List (List X0))(s10 s11:Int):Option (Int):=
 AX s9 s11 fun x1=>
 AJ (TC s0 (AA .add .i64 s3 (x1.length:Int)) s9 s10 s11 (decide ((AA .add .i64 s3 (x1.length:Int))<0))) fun o2=>
 some (AA .add .i64 s3 (x1.length:Int))
def Gd(s0 s9:List (List X0))(s10 s3 s11:Int):Option ((Int×Int)⊕(Int)):=
 AE (decide (s11<s10)) (
  AJ (TB s0 s3 s9 s10 s11) fun o3=>
  some (.inl (o3,(AA .add .i64 s11 1)))) (
  some (.inr s3))
def TD(s0 s9:List (List X0))(s10 s3 s11:Int):Option (Int):=AR (fun s:Int×Int=>Gd s0 s9 s10 s.1 s.2) (s3,s11)
theorem Ka(s0 s9:List (List X0))(s10 s3 s11:Int):TD s0 s9 s10 s3 s11=CS (Gd s0 s9 s10 s3 s11) (fun s:Int×Int=>TD s0 s9 s10 s.1 s.2):=Ah _ _
def Ge(s25:List (List X0))(s26 s27:Int)(w6:List X0):Option ((Int×List X0)⊕((List X0))):=
 AE (decide (s27<s26)) (
  AX s25 s27 fun x6=>
  AW (fit w6.length x6.length 40) (
   some (.inl ((AA .add .i64 s27 1),w6++x6)))) (
  some (.inr w6))
def TG(s25:List (List X0))(s26 s27:Int)(w6:List X0):Option ((List X0)):=AR (fun s:Int×List X0=>Ge s25 s26 s.1 s.2) (s27,w6)
theorem Kb(s25:List (List X0))(s26 s27:Int)(w6:List X0):TG s25 s26 s27 w6=CS (Ge s25 s26 s27 w6) (fun s:Int×List X0=>TG s25 s26 s.1 s.2):=Ah _ _
def Xi(a0:List (List X0)):Option (List X0):=
 AJ (TD a0 a0 (a0.length:Int) 0 0) fun o4=>
 AJ (Qy o4) fun r5=>
 AJ (TG a0 (a0.length:Int) 0 r5) fun o7=>
 some o7
def aEc(s0:Int)(s1:List X0)(s20:Bool)(w4 w6:X0):Option (X0):=
 AE (s20) (
  some (X0.mk w6.kind (AA .add .i64 w6.int 1) w6.str w6.bool)) (
  AW (w6.str.length+([97]:List UInt8).length<=9223372036854775807) (
   some (X0.mk w6.kind w6.int (w6.str++([97]:List UInt8)) w6.bool)))
def Uc(s0:Int)(s1:List X0)(w4 w6:X0):Option (X0):=
 AJ (aEc s0 s1 (decide (s0=1)) w4 w6) fun o2=>
 some o2
def IM(s0:Int)(s1:List X0)(w4 w6:X0):Option ((X0)⊕(X0)):=
 AJ (Q3 s1 w6) fun r1=>
 AE (r1) (
  AJ (Uc s0 s1 w4 w6) fun o3=>
  some (.inl o3)) (
  some (.inr w6))
def P7(s0:Int)(s1:List X0)(w4 w6:X0):Option (X0):=AR (fun s:X0=>IM s0 s1 w4 s) w6
theorem Ol(s0:Int)(s1:List X0)(w4 w6:X0):P7 s0 s1 w4 w6=CS (IM s0 s1 w4 w6) (fun s:X0=>P7 s0 s1 w4 s):=Ah _ _
def Y2(a0:Int)(a1:List X0):Option (X0×Bool):=
 AE (!decide (a0=1)) (
  AE (!decide (a0=2)) (
   some (X0.mk 0 0 ([]:List UInt8) false,false)) (
   AJ (P7 a0 a1 (X0.mk 0 0 ([]:List UInt8) false) (X0.mk a0 0 ([]:List UInt8) false)) fun o4=>
   some (o4,true))) (
  AJ (P7 a0 a1 (X0.mk 0 0 ([]:List UInt8) false) (X0.mk a0 0 ([]:List UInt8) false)) fun o5=>
  some (o5,true))
def UZ(s1:List X0)(s5:Int)(s28:List X2)(s29 s30:Int)(s45:Bool)(w6:List X0)(w8:X2):Option ((List X0)):=
 AE (s45) (
  AW (fit w6.length [w8.value].length 40) (
   some (w6++[w8.value]))) (
  some w6)
def aD6(s1:List X0)(s5:Int)(s28:List X2)(s29 s30:Int)(w6:List X0):Option ((List X0)):=
 AX s28 s30 fun x4=>
 AE (decide (x4.value.kind=s5)) (
  AJ (Q3 w6 x4.value) fun r5=>
  AJ (UZ s1 s5 s28 s29 s30 (!r5) w6 x4) fun o6=>
  some o6) (
  AJ (UZ s1 s5 s28 s29 s30 false w6 x4) fun o7=>
  some o7)
def IL(s1:List X0)(s5:Int)(s28:List X2)(s29 s30:Int)(w6:List X0):Option ((Int×List X0)⊕((List X0))):=
 AE (decide (s30<s29)) (
  AJ (aD6 s1 s5 s28 s29 s30 w6) fun o8=>
  some (.inl ((AA .add .i64 s30 1),o8))) (
  some (.inr w6))
def aD9(s1:List X0)(s5:Int)(s28:List X2)(s29 s30:Int)(w6:List X0):Option ((List X0)):=AR (fun s:Int×List X0=>IL s1 s5 s28 s29 s.1 s.2) (s30,w6)
def P6(s61:Bool)(w6:List X0)(w9:X0):Option ((List X0)):=
 AE (s61) (
  AW (fit w6.length [w9].length 40) (
   some (w6++[w9]))) (
  some w6)
def Y1(a0:Xp)(a1:List X0):Option (List X0):=
 AX a0.q.decls a0.d_ fun x1=>
 AX x1.types a0.at_ fun x2=>
 AJ (Xk a0.q x2) fun r3=>
 AJ (aD9 a1 x2 a0.b (a0.b.length:Int) 0 r3) fun o9=>
 AJ (Xi [o9,a1]) fun r10=>
 AJ (Y2 x2 r10) fun r11=>
 AJ (P6 r11.2 o9 r11.1) fun o12=>
 some o12
def In(s1:Int)(s8:List X2)(s9:Int)(w4:X0)(s10:Int):Option ((Int)⊕(Unit⊕X0)):=
 AE (decide (s10<s9)) (
  AX s8 s10 fun x1=>
  AE (decide (x1.var=s1)) (
   some (.inr (.inr x1.value))) (
   some (.inl (AA .add .i64 s10 1)))) (
  some (.inr (.inl ())))
def aMb(s1:Int)(s8:List X2)(s9:Int)(w4:X0)(s10:Int):Option (Unit⊕X0):=AR (fun s:Int=>In s1 s8 s9 w4 s) s10
def Zb(a0:List X2)(a1:Int):Option (X0×Bool):=
 AJ (aMb a1 a0 (a0.length:Int) (X0.mk 0 0 ([]:List UInt8) false) 0) fun o2=>
 CQ o2 (fun o3=>
  some (X0.mk 0 0 ([]:List UInt8) false,false)) (fun o4=>
  some (o4,true))
def Qq(a0:Xp)(a1:CH)(a2:X0):Option (Bool):=
 AE (decide (a1.kind=1)) (
  some (X0.eqb a1.value a2)) (
  AE (decide (a1.kind=2)) (
   AJ (Zb a0.b a1.n) fun r1=>
   AE (r1.2) (
    some (X0.eqb r1.1 a2)) (
    some false)) (
   some true))
def Uv(s6 s7:Int)(s11:List X3)(s12 s13:Int)(s34:Bool)(w2:Xp)(w3:X0):Option (Int):=
 AE (s34) (
  AW (0<=(IntKind.wrap .u64 s7)) (
   some (AA .or .u64 s6 (AA .shl .u64 1 (IntKind.wrap .u64 s7))))) (
  some s6)
def aE6(s6:Int)(s11:List X3)(s12 s13:Int)(w2:Xp)(w3:X0):Option (Int):=
 AX s11 s13 fun x1=>
 AE (decide (x1.event=w2.d_)) (
  AX x1.args w2.at_ fun x2=>
  AJ (Qq w2 x2 w3) fun r3=>
  AJ (Uv s6 s13 s11 s12 s13 r3 w2 w3) fun o4=>
  some o4) (
  AJ (Uv s6 s13 s11 s12 s13 false w2 w3) fun o5=>
  some o5)
def IS(s11:List X3)(s12:Int)(w2:Xp)(w3:X0)(s6 s13:Int):Option ((Int×Int)⊕(Int)):=
 AE (decide (s13<s12)) (
  AJ (aE6 s6 s11 s12 s13 w2 w3) fun o6=>
  some (.inl (o6,(AA .add .i64 s13 1)))) (
  some (.inr s6))
def aLn(s11:List X3)(s12:Int)(w2:Xp)(w3:X0)(s6 s13:Int):Option (Int):=AR (fun s:Int×Int=>IS s11 s12 w2 w3 s.1 s.2) (s6,s13)
def Ya(a0:Xp)(a1:X0):Option (Int):=
 AJ (aLn a0.q.symbols (a0.q.symbols.length:Int) a0 a1 0 0) fun o7=>
 some o7
def Gh(s8:Int)(s12:List X0)(s13 s14:Int)(w0:List (Int×Bool))(w3:Xp)(k:Int)(v:Bool)(w5:List (Int×Bool)):Option ((List (Int×Bool))):=
 some (GF (AA .and .u64 k s8) true w5)
def Kc(s8:Int)(s12:List X0)(s13 s14:Int)(w0:List (Int×Bool))(w3:Xp)(s:(List (Int×Bool))):(List (Int×Bool)):=(fun s:(List (Int×Bool))=>(aH0 s:(List (Int×Bool)))) s
def aK0(s8:Int)(s12:List X0)(s13 s14:Int)(w0:List (Int×Bool))(w3:Xp)(w5:List (Int×Bool)):Option ((List (Int×Bool))):=F3 (Kc s8 s12 s13 s14 w0 w3) w0 (fun(x:Int×Bool) (s:(List (Int×Bool)))=>Gh s8 s12 s13 s14 w0 w3 x.1 x.2 s) w5
def aCk(s8:Int)(s12:List X0)(s13 s14:Int)(w0:List (Int×Bool))(w3:Xp)(w5:List (Int×Bool)):Option ((List (Int×Bool))):=
 AJ (aK0 s8 s12 s13 s14 w0 w3 w5) fun o4=>
 some o4
def H9(s12:List X0)(s13:Int)(w0:List (Int×Bool))(w3:Xp)(s14:Int)(w5:List (Int×Bool)):Option ((Int×(List (Int×Bool)))⊕((List (Int×Bool)))):=
 AE (decide (s14<s13)) (
  AX s12 s14 fun x2=>
  AJ (Ya w3 x2) fun r3=>
  AJ (aCk r3 s12 s13 s14 w0 w3 w5) fun o5=>
  some (.inl ((AA .add .i64 s14 1),o5))) (
  some (.inr w5))
def aKz(s12:List X0)(s13:Int)(w0:List (Int×Bool))(w3:Xp)(s14:Int)(w5:List (Int×Bool)):Option ((List (Int×Bool))):=AR (fun s:Int×(List (Int×Bool))=>H9 s12 s13 w0 w3 s.1 s.2) (s14,w5)
def Xl(a1:Xp)(w0:List (Int×Bool)):Option ((List (Int×Bool))):=
 AJ (Y1 a1 ([]:List X0)) fun r1=>
 AJ (aKz r1 (r1.length:Int) w0 a1 0 ([]:List (Int×Bool))) fun o6=>
 some o6
def VO(s0 s2:Int)(s4:Bool):Option ((Int×Int)):=
 AE (s4) (
  some ((AA .shr .u64 s0 32),32)) (
  some (s0,s2))
def VP(s0 s2:Int)(s8:Bool):Option ((Int×Int)):=
 AE (s8) (
  some ((AA .shr .u64 s0 16),(AA .add .i64 s2 16))) (
  some (s0,s2))
def VQ(s0 s2:Int)(s14:Bool):Option ((Int×Int)):=
 AE (s14) (
  some ((AA .shr .u64 s0 8),(AA .add .i64 s2 8))) (
  some (s0,s2))
def Yp(a0:Int):Option (Int):=
 AJ (VO a0 0 (decide (4294967296<=a0))) fun o1=>
 AJ (VP o1.1 o1.2 (decide (65536<=o1.1))) fun o2=>
 AJ (VQ o2.1 o2.2 (decide (256<=o2.1))) fun o3=>
 AX ([0,1,2,2,3,3,3,3,4,4,4,4,4,4,4,4,5,5,5,5,5,5,5,5,5,5,5,5,5,5,5,5,6,6,6,6,6,6,6,6,6,6,6,6,6,6,6,6,6,6,6,6,6,6,6,6,6,6,6,6,6,6,6,6,7,7,7,7,7,7,7,7,7,7,7,7,7,7,7,7,7,7,7,7,7,7,7,7,7,7,7,7,7,7,7,7,7,7,7,7,7,7,7,7,7,7,7,7,7,7,7,7,7,7,7,7,7,7,7,7,7,7,7,7,7,7,7,7,8,8,8,8,8,8,8,8,8,8,8,8,8,8,8,8,8,8,8,8,8,8,8,8,8,8,8,8,8,8,8,8,8,8,8,8,8,8,8,8,8,8,8,8,8,8,8,8,8,8,8,8,8,8,8,8,8,8,8,8,8,8,8,8,8,8,8,8,8,8,8,8,8,8,8,8,8,8,8,8,8,8,8,8,8,8,8,8,8,8,8,8,8,8,8,8,8,8,8,8,8,8,8,8,8,8,8,8,8,8,8,8,8,8,8,8,8,8,8,8,8,8,8,8,8,8,8,8]:List UInt8) ((u8w o3.1).toNat:Int) fun x4=>
 some (AA .add .i64 o3.2 (x4.toNat:Int))
def Q4(a0:Int):Option (Int):=
 AJ (Yp a0) fun r1=>
 some r1
def Q5(a0:Int):Option (Bool):=
 some (!decide (a0=a0))
def Y7(a0 a1:Int):Option (Bool):=
 AJ (Q5 a0) fun r1=>
 AE (r1) (
  AJ (Q5 a1) fun r2=>
  AE (!r2) (
   some true) (
   some (decide (a0<a1)))) (
  some (decide (a0<a1)))
def Eu(s1 s2:Int)(s6 s7:Int)(w0:List Int):Option ((Int×List Int)⊕((List Int))):=
 AE (decide (s1<s7)) (
  AW (0<=s7/\s7+1<=(w0.length:Int)) (
   AX w0 s7 fun x1=>
   AW (0<=(AA .sub .i64 s7 1)/\(AA .sub .i64 s7 1)+1<=(w0.length:Int)) (
    AX w0 (AA .sub .i64 s7 1) fun x2=>
    AJ (Y7 x1 x2) fun r3=>
    AE (r3) (
     AW (0<=(AA .sub .i64 s7 1)/\(AA .sub .i64 s7 1)+1<=(w0.length:Int)) (
      AX w0 (AA .sub .i64 s7 1) fun x4=>
      AW (0<=s7/\s7+1<=(w0.length:Int)) (
       AX w0 s7 fun x5=>
       AW (0<=s7/\s7+1<=(w0.length:Int)) (
        AW (0<=s7/\s7+1<=(w0.length:Int)) (
         AW (0<=(AA .sub .i64 s7 1)/\(AA .sub .i64 s7 1)+1<=((w0.set s7.toNat x4).length:Int)) (
          AW (0<=(AA .sub .i64 s7 1)/\(AA .sub .i64 s7 1)+1<=((w0.set s7.toNat x4).length:Int)) (
           some (.inl ((AA .sub .i64 s7 1),(w0.set s7.toNat x4).set (AA .sub .i64 s7 1).toNat x5))))))))) (
     some (.inr w0))))) (
  some (.inr w0))
def P3(s1 s2:Int)(s6 s7:Int)(w0:List Int):Option ((List Int)):=AR (fun s:Int×List Int=>Eu s1 s2 s6 s.1 s.2) (s7,w0)
theorem Oh(s1 s2:Int)(s6 s7:Int)(w0:List Int):P3 s1 s2 s6 s7 w0=CS (Eu s1 s2 s6 s7 w0) (fun s:Int×List Int=>P3 s1 s2 s6 s.1 s.2):=Ah _ _
def Gm(s1 s2 s6:Int)(w0:List Int):Option ((Int×List Int)⊕((List Int))):=
 AE (decide (s6<s2)) (
  AJ (P3 s1 s2 s6 s6 w0) fun o6=>
  some (.inl ((AA .add .i64 s6 1),o6))) (
  some (.inr w0))
def P2(s1 s2 s6:Int)(w0:List Int):Option ((List Int)):=AR (fun s:Int×List Int=>Gm s1 s2 s.1 s.2) (s6,w0)
theorem Og(s1 s2 s6:Int)(w0:List Int):P2 s1 s2 s6 w0=CS (Gm s1 s2 s6 w0) (fun s:Int×List Int=>P2 s1 s2 s.1 s.2):=Ah _ _
def Xt(a1 a2:Int)(w0:List Int):Option (List Int):=
 AJ (P2 a1 a2 (AA .add .i64 a1 1) w0) fun o7=>
 some o7
def Kd(s2 s3:Int)(s8 s9:Int)(s36:Bool)(w0:List Int):Option (Int):=
 AE (s36) (
  some (AA .add .i64 s9 1)) (
  some s9)
def Jh(s2 s3 s8:Int)(w0:List Int):Option ((Int×List Int)⊕(Unit⊕Unit)):=
 AE (decide (s2<=(AA .add .i64 (AA .mul .i64 2 s8) 1))) (
  some (.inr (.inl ()))) (
  AE (decide ((AA .add .i64 (AA .add .i64 (AA .mul .i64 2 s8) 1) 1)<s2)) (
   AW (0<=(AA .add .i64 s3 (AA .add .i64 (AA .mul .i64 2 s8) 1))/\(AA .add .i64 s3 (AA .add .i64 (AA .mul .i64 2 s8) 1))+1<=(w0.length:Int)) (
    AX w0 (AA .add .i64 s3 (AA .add .i64 (AA .mul .i64 2 s8) 1)) fun x1=>
    AW (0<=(AA .add .i64 (AA .add .i64 s3 (AA .add .i64 (AA .mul .i64 2 s8) 1)) 1)/\(AA .add .i64 (AA .add .i64 s3 (AA .add .i64 (AA .mul .i64 2 s8) 1)) 1)+1<=(w0.length:Int)) (
     AX w0 (AA .add .i64 (AA .add .i64 s3 (AA .add .i64 (AA .mul .i64 2 s8) 1)) 1) fun x2=>
     AJ (Y7 x1 x2) fun r3=>
     AJ (Kd s2 s3 s8 (AA .add .i64 (AA .mul .i64 2 s8) 1) r3 w0) fun o4=>
     AW (0<=(AA .add .i64 s3 s8)/\(AA .add .i64 s3 s8)+1<=(w0.length:Int)) (
      AX w0 (AA .add .i64 s3 s8) fun x5=>
      AW (0<=(AA .add .i64 s3 o4)/\(AA .add .i64 s3 o4)+1<=(w0.length:Int)) (
       AX w0 (AA .add .i64 s3 o4) fun x6=>
       AJ (Y7 x5 x6) fun r7=>
       AE (!r7) (
        some (.inr (.inr ()))) (
        AW (0<=(AA .add .i64 s3 o4)/\(AA .add .i64 s3 o4)+1<=(w0.length:Int)) (
         AX w0 (AA .add .i64 s3 o4) fun x8=>
         AW (0<=(AA .add .i64 s3 s8)/\(AA .add .i64 s3 s8)+1<=(w0.length:Int)) (
          AX w0 (AA .add .i64 s3 s8) fun x9=>
          AW (0<=(AA .add .i64 s3 s8)/\(AA .add .i64 s3 s8)+1<=(w0.length:Int)) (
           AW (0<=(AA .add .i64 s3 s8)/\(AA .add .i64 s3 s8)+1<=(w0.length:Int)) (
            AW (0<=(AA .add .i64 s3 o4)/\(AA .add .i64 s3 o4)+1<=((w0.set (AA .add .i64 s3 s8).toNat x8).length:Int)) (
             AW (0<=(AA .add .i64 s3 o4)/\(AA .add .i64 s3 o4)+1<=((w0.set (AA .add .i64 s3 s8).toNat x8).length:Int)) (
              some (.inl (o4,(w0.set (AA .add .i64 s3 s8).toNat x8).set (AA .add .i64 s3 o4).toNat x9)))))))))))))) (
   AJ (Kd s2 s3 s8 (AA .add .i64 (AA .mul .i64 2 s8) 1) false w0) fun o10=>
   AW (0<=(AA .add .i64 s3 s8)/\(AA .add .i64 s3 s8)+1<=(w0.length:Int)) (
    AX w0 (AA .add .i64 s3 s8) fun x11=>
    AW (0<=(AA .add .i64 s3 o10)/\(AA .add .i64 s3 o10)+1<=(w0.length:Int)) (
     AX w0 (AA .add .i64 s3 o10) fun x12=>
     AJ (Y7 x11 x12) fun r13=>
     AE (!r13) (
      some (.inr (.inr ()))) (
      AW (0<=(AA .add .i64 s3 o10)/\(AA .add .i64 s3 o10)+1<=(w0.length:Int)) (
       AX w0 (AA .add .i64 s3 o10) fun x14=>
       AW (0<=(AA .add .i64 s3 s8)/\(AA .add .i64 s3 s8)+1<=(w0.length:Int)) (
        AX w0 (AA .add .i64 s3 s8) fun x15=>
        AW (0<=(AA .add .i64 s3 s8)/\(AA .add .i64 s3 s8)+1<=(w0.length:Int)) (
         AW (0<=(AA .add .i64 s3 s8)/\(AA .add .i64 s3 s8)+1<=(w0.length:Int)) (
          AW (0<=(AA .add .i64 s3 o10)/\(AA .add .i64 s3 o10)+1<=((w0.set (AA .add .i64 s3 s8).toNat x14).length:Int)) (
           AW (0<=(AA .add .i64 s3 o10)/\(AA .add .i64 s3 o10)+1<=((w0.set (AA .add .i64 s3 s8).toNat x14).length:Int)) (
            some (.inl (o10,(w0.set (AA .add .i64 s3 s8).toNat x14).set (AA .add .i64 s3 o10).toNat x15)))))))))))))
def EW(s2 s3 s8:Int)(w0:List Int):Option ((Int×List Int)⊕((List Int)⊕(List Int))):=
 AJ (Jh s2 s3 s8 w0) fun o16=>
 CQ o16 (fun o17=>
  some (.inl (o17.1,o17.2))) (fun o18=>
  CQ o18 (fun o19=>
   some (.inr (.inl w0))) (fun o20=>
   some (.inr (.inr w0))))
def Px(s2 s3 s8:Int)(w0:List Int):Option ((List Int)⊕(List Int)):=AR (fun s:Int×List Int=>EW s2 s3 s.1 s.2) (s8,w0)
theorem OY(s2 s3 s8:Int)(w0:List Int):Px s2 s3 s8 w0=CS (EW s2 s3 s8 w0) (fun s:Int×List Int=>Px s2 s3 s.1 s.2):=Ah _ _
def Xn(a1 a2 a3:Int)(w0:List Int):Option (List Int):=
 AJ (Px a2 a3 a1 w0) fun o21=>
 CQ o21 (fun o22=>
  some o22) (fun o23=>
  some o23)
def Gp(s6 s7:Int)(s8 s9:Int)(w0:List Int):Option ((Int×List Int)⊕((List Int))):=
 AE (decide (0<=s9)) (
  AJ (Xn s9 s8 s6 w0) fun r1=>
  some (.inl ((AA .sub .i64 s9 1),r1))) (
  some (.inr w0))
def P4(s6 s7:Int)(s8 s9:Int)(w0:List Int):Option ((List Int)):=AR (fun s:Int×List Int=>Gp s6 s7 s8 s.1 s.2) (s9,w0)
theorem Oi(s6 s7:Int)(s8 s9:Int)(w0:List Int):P4 s6 s7 s8 s9 w0=CS (Gp s6 s7 s8 s9 w0) (fun s:Int×List Int=>P4 s6 s7 s8 s.1 s.2):=Ah _ _
def Gq(s6 s7 s10:Int)(w0:List Int):Option ((Int×List Int)⊕((List Int))):=
 AE (decide (0<=s10)) (
  AW (0<=(AA .add .i64 s6 s10)/\(AA .add .i64 s6 s10)+1<=(w0.length:Int)) (
   AX w0 (AA .add .i64 s6 s10) fun x3=>
   AW (0<=s6/\s6+1<=(w0.length:Int)) (
    AX w0 s6 fun x4=>
    AW (0<=s6/\s6+1<=(w0.length:Int)) (
     AW (0<=s6/\s6+1<=(w0.length:Int)) (
      AW (0<=(AA .add .i64 s6 s10)/\(AA .add .i64 s6 s10)+1<=((w0.set s6.toNat x3).length:Int)) (
       AW (0<=(AA .add .i64 s6 s10)/\(AA .add .i64 s6 s10)+1<=((w0.set s6.toNat x3).length:Int)) (
        AJ (Xn s7 s10 s6 ((w0.set s6.toNat x3).set (AA .add .i64 s6 s10).toNat x4)) fun r5=>
        some (.inl ((AA .sub .i64 s10 1),r5))))))))) (
  some (.inr w0))
def P5(s6 s7 s10:Int)(w0:List Int):Option ((List Int)):=AR (fun s:Int×List Int=>Gq s6 s7 s.1 s.2) (s10,w0)
theorem Oj(s6 s7 s10:Int)(w0:List Int):P5 s6 s7 s10 w0=CS (Gq s6 s7 s10 w0) (fun s:Int×List Int=>P5 s6 s7 s.1 s.2):=Ah _ _
def Xv(a1 a2:Int)(w0:List Int):Option (List Int):=
 AJ (P4 a1 0 (AA .sub .i64 a2 a1) (AA .quo .i64 (AA .sub .i64 (AA .sub .i64 a2 a1) 1) 2) w0) fun o2=>
 AJ (P5 a1 0 (AA .sub .i64 (AA .sub .i64 a2 a1) 1) o2) fun o6=>
 some o6
def Qe(a0:Int):Option (Int):=
 AJ (Q4 (IntKind.wrap .u64 a0)) fun r1=>
 AW (0<=r1) (
  some (AA .shl .u64 1 r1))
def Qf(w0:Int):Option (Int×Int):=
 some ((AA .xor .u64 (AA .xor .u64 (AA .xor .u64 w0 (AA .shl .u64 w0 13)) (AA .shr .u64 (AA .xor .u64 w0 (AA .shl .u64 w0 13)) 7)) (AA .shl .u64 (AA .xor .u64 (AA .xor .u64 w0 (AA .shl .u64 w0 13)) (AA .shr .u64 (AA .xor .u64 w0 (AA .shl .u64 w0 13)) 7)) 17)),(AA .xor .u64 (AA .xor .u64 (AA .xor .u64 w0 (AA .shl .u64 w0 13)) (AA .shr .u64 (AA .xor .u64 w0 (AA .shl .u64 w0 13)) 7)) (AA .shl .u64 (AA .xor .u64 (AA .xor .u64 w0 (AA .shl .u64 w0 13)) (AA .shr .u64 (AA .xor .u64 w0 (AA .shl .u64 w0 13)) 7)) 17)))
def NF(s1 s6:Int)(s8 s9 s10:Int)(s43:Bool)(w0:List Int)(w7:Int):Option (Int):=
 AE (s43) (
  some (AA .sub .i64 s10 s6)) (
  some s10)
def P0(s1 s6:Int)(s8 s9:Int)(w0:List Int)(w7:Int):Option ((List Int×Int)):=
 AJ (Qf w7) fun r2=>
 AJ (NF s1 s6 s8 s9 (IntKind.wrap .i64 (AA .and .u64 r2.1 (AA .sub .u64 s8 1))) (decide (s6<=(IntKind.wrap .i64 (AA .and .u64 r2.1 (AA .sub .u64 s8 1))))) w0 r2.2) fun o3=>
 AW (0<=(AA .add .i64 s1 o3)/\(AA .add .i64 s1 o3)+1<=(w0.length:Int)) (
  AX w0 (AA .add .i64 s1 o3) fun x4=>
  AW (0<=s9/\s9+1<=(w0.length:Int)) (
   AX w0 s9 fun x5=>
   AW (0<=s9/\s9+1<=(w0.length:Int)) (
    AW (0<=s9/\s9+1<=(w0.length:Int)) (
     AW (0<=(AA .add .i64 s1 o3)/\(AA .add .i64 s1 o3)+1<=((w0.set s9.toNat x4).length:Int)) (
      AW (0<=(AA .add .i64 s1 o3)/\(AA .add .i64 s1 o3)+1<=((w0.set s9.toNat x4).length:Int)) (
       some ((w0.set s9.toNat x4).set (AA .add .i64 s1 o3).toNat x5,r2.2)))))))
def Gj(s1 s6:Int)(s8 s9:Int)(w0:List Int)(w7:Int):Option ((Int×List Int×Int)⊕((List Int))):=
 AE (decide (s9<=(AA .add .i64 (AA .add .i64 s1 (AA .mul .i64 (AA .quo .i64 s6 4) 2)) 1))) (
  AJ (P0 s1 s6 s8 s9 w0 w7) fun o6=>
  some (.inl ((AA .add .i64 s9 1),o6.1,o6.2))) (
  some (.inr w0))
def P1(s1 s6:Int)(s8 s9:Int)(w0:List Int)(w7:Int):Option ((List Int)):=AR (fun s:Int×List Int×Int=>Gj s1 s6 s8 s.1 s.2.1 s.2.2) (s9,w0,w7)
theorem Oe(s1 s6:Int)(s8 s9:Int)(w0:List Int)(w7:Int):P1 s1 s6 s8 s9 w0 w7=CS (Gj s1 s6 s8 s9 w0 w7) (fun s:Int×List Int×Int=>P1 s1 s6 s8 s.1 s.2.1 s.2.2):=Ah _ _
def Pz(s1 s6:Int)(s15:Bool)(w0:List Int):Option ((List Int)):=
 AE (s15) (
  AJ (Qe s6) fun r1=>
  AJ (P1 s1 s6 r1 (AA .sub .i64 (AA .add .i64 s1 (AA .mul .i64 (AA .quo .i64 s6 4) 2)) 1) w0 (IntKind.wrap .u64 s6)) fun o7=>
  some o7) (
  some w0)
def Xq(a1 a2:Int)(w0:List Int):Option (List Int):=
 AJ (Pz a1 (AA .sub .i64 a2 a1) (decide (8<=(AA .sub .i64 a2 a1))) w0) fun o8=>
 some o8
def Zs(a0:List Int)(a1 a2 w0:Int):Option (Int×Int×Int):=
 AX a0 a2 fun x1=>
 AX a0 a1 fun x2=>
 AJ (Y7 x1 x2) fun r3=>
 AE (r3) (
  some (a2,a1,(AA .add .i64 w0 1))) (
  some (a1,a2,w0))
def Zx(a0:List Int)(a1 a2:Int)(a3 w0:Int):Option (Int×Int):=
 AJ (Zs a0 a1 a2 w0) fun r1=>
 AJ (Zs a0 r1.2.1 a3 r1.2.2) fun r2=>
 AJ (Zs a0 r1.1 r2.1 r2.2.2) fun r3=>
 some (r3.2.1,r3.2.2)
def Zt(a0:List Int)(a1 w0:Int):Option (Int×Int):=
 AJ (Zx a0 (AA .sub .i64 a1 1) a1 (AA .add .i64 a1 1) w0) fun r1=>
 some (r1.1,r1.2)
def NH(s0:List Int)(s10 s11 s12:Int)(s34:Bool)(w9:Int):Option ((Int×Int×Int×Int)):=
 AE (s34) (
  AJ (Zt s0 s10 w9) fun r1=>
  AJ (Zt s0 s11 r1.2) fun r2=>
  AJ (Zt s0 s12 r2.2) fun r3=>
  some (r1.1,r2.1,r3.1,r3.2)) (
  some (s10,s11,s12,w9))
def QA(s0:List Int)(s8 s10:Int)(s11 s12:Int)(s32:Bool)(w9:Int):Option ((Int×Int)):=
 AE (s32) (
  AJ (NH s0 s10 s11 s12 (decide (50<=s8)) w9) fun o4=>
  AJ (Zx s0 o4.1 o4.2.1 o4.2.2.1 o4.2.2.2) fun r5=>
  some (r5.1,r5.2)) (
  some (s11,w9))
def Yt(a0:List Int)(a1 a2:Int):Option (Int×Int):=
 AJ (QA a0 (AA .sub .i64 a2 a1) (AA .add .i64 a1 (AA .mul .i64 (AA .quo .i64 (AA .sub .i64 a2 a1) 4) 1)) (AA .add .i64 a1 (AA .mul .i64 (AA .quo .i64 (AA .sub .i64 a2 a1) 4) 2)) (AA .add .i64 a1 (AA .mul .i64 (AA .quo .i64 (AA .sub .i64 a2 a1) 4) 3)) (decide (8<=(AA .sub .i64 a2 a1))) 0) fun o6=>
 AE (decide (o6.2=0)) (
  some (o6.1,1)) (
  AE (decide (o6.2=12)) (
   some (o6.1,2)) (
   some (o6.1,0)))
def IX(s6 s7:Int)(w0:List Int):Option ((Int×Int×List Int)⊕((List Int))):=
 AE (decide (s6<s7)) (
  AW (0<=s7/\s7+1<=(w0.length:Int)) (
   AX w0 s7 fun x1=>
   AW (0<=s6/\s6+1<=(w0.length:Int)) (
    AX w0 s6 fun x2=>
    AW (0<=s6/\s6+1<=(w0.length:Int)) (
     AW (0<=s6/\s6+1<=(w0.length:Int)) (
      AW (0<=s7/\s7+1<=((w0.set s6.toNat x1).length:Int)) (
       AW (0<=s7/\s7+1<=((w0.set s6.toNat x1).length:Int)) (
        some (.inl ((AA .add .i64 s6 1),(AA .sub .i64 s7 1),(w0.set s6.toNat x1).set s7.toNat x2))))))))) (
  some (.inr w0))
def P9(s6 s7:Int)(w0:List Int):Option ((List Int)):=AR (fun s:Int×Int×List Int=>IX s.1 s.2.1 s.2.2) (s6,s7,w0)
theorem aFw(s6 s7:Int)(w0:List Int):P9 s6 s7 w0=CS (IX s6 s7 w0) (fun s:Int×Int×List Int=>P9 s.1 s.2.1 s.2.2):=Ah _ _
def Ym(a1 a2:Int)(w0:List Int):Option (List Int):=
 AJ (P9 a1 (AA .sub .i64 a2 1) w0) fun o3=>
 some o3
def GU(s1 s2 s8:Int)(w0:List Int)(s7:Int):Option ((Int)⊕(Int)):=
 AE (decide (s7<s2)) (
  AW (0<=s7/\s7+1<=(w0.length:Int)) (
   AX w0 s7 fun x1=>
   AW (0<=(AA .sub .i64 s7 1)/\(AA .sub .i64 s7 1)+1<=(w0.length:Int)) (
    AX w0 (AA .sub .i64 s7 1) fun x2=>
    AJ (Y7 x1 x2) fun r3=>
    AE (!r3) (
     some (.inl (AA .add .i64 s7 1))) (
     some (.inr s7))))) (
  some (.inr s7))
def Pn(s1 s2 s8:Int)(w0:List Int)(s7:Int):Option (Int):=AR (fun s:Int=>GU s1 s2 s8 w0 s) s7
theorem OI(s1 s2 s8:Int)(w0:List Int)(s7:Int):Pn s1 s2 s8 w0 s7=CS (GU s1 s2 s8 w0 s7) (fun s:Int=>Pn s1 s2 s8 w0 s):=Ah _ _
def GV(s1 s2:Int)(s7 s8 s9:Int)(w0:List Int):Option ((Int×List Int)⊕((List Int))):=
 AE (decide (1<=s9)) (
  AW (0<=s9/\s9+1<=(w0.length:Int)) (
   AX w0 s9 fun x7=>
   AW (0<=(AA .sub .i64 s9 1)/\(AA .sub .i64 s9 1)+1<=(w0.length:Int)) (
    AX w0 (AA .sub .i64 s9 1) fun x8=>
    AJ (Y7 x7 x8) fun r9=>
    AE (!r9) (
     some (.inr w0)) (
     AW (0<=(AA .sub .i64 s9 1)/\(AA .sub .i64 s9 1)+1<=(w0.length:Int)) (
      AX w0 (AA .sub .i64 s9 1) fun x10=>
      AW (0<=s9/\s9+1<=(w0.length:Int)) (
       AX w0 s9 fun x11=>
       AW (0<=s9/\s9+1<=(w0.length:Int)) (
        AW (0<=s9/\s9+1<=(w0.length:Int)) (
         AW (0<=(AA .sub .i64 s9 1)/\(AA .sub .i64 s9 1)+1<=((w0.set s9.toNat x10).length:Int)) (
          AW (0<=(AA .sub .i64 s9 1)/\(AA .sub .i64 s9 1)+1<=((w0.set s9.toNat x10).length:Int)) (
           some (.inl ((AA .sub .i64 s9 1),(w0.set s9.toNat x10).set (AA .sub .i64 s9 1).toNat x11)))))))))))) (
  some (.inr w0))
def Po(s1 s2:Int)(s7 s8 s9:Int)(w0:List Int):Option ((List Int)):=AR (fun s:Int×List Int=>GV s1 s2 s7 s8 s.1 s.2) (s9,w0)
theorem OJ(s1 s2:Int)(s7 s8 s9:Int)(w0:List Int):Po s1 s2 s7 s8 s9 w0=CS (GV s1 s2 s7 s8 s9 w0) (fun s:Int×List Int=>Po s1 s2 s7 s8 s.1 s.2):=Ah _ _
def M3(s1 s2:Int)(s7 s8:Int)(s61:Bool)(w0:List Int):Option ((List Int)):=
 AE (s61) (
  AJ (Po s1 s2 s7 s8 (AA .sub .i64 s7 1) w0) fun o12=>
  some o12) (
  some w0)
def GW(s1 s2:Int)(s7 s8 s10:Int)(w0:List Int):Option ((Int×List Int)⊕((List Int))):=
 AE (decide (s10<s2)) (
  AW (0<=s10/\s10+1<=(w0.length:Int)) (
   AX w0 s10 fun x14=>
   AW (0<=(AA .sub .i64 s10 1)/\(AA .sub .i64 s10 1)+1<=(w0.length:Int)) (
    AX w0 (AA .sub .i64 s10 1) fun x15=>
    AJ (Y7 x14 x15) fun r16=>
    AE (!r16) (
     some (.inr w0)) (
     AW (0<=(AA .sub .i64 s10 1)/\(AA .sub .i64 s10 1)+1<=(w0.length:Int)) (
      AX w0 (AA .sub .i64 s10 1) fun x17=>
      AW (0<=s10/\s10+1<=(w0.length:Int)) (
       AX w0 s10 fun x18=>
       AW (0<=s10/\s10+1<=(w0.length:Int)) (
        AW (0<=s10/\s10+1<=(w0.length:Int)) (
         AW (0<=(AA .sub .i64 s10 1)/\(AA .sub .i64 s10 1)+1<=((w0.set s10.toNat x17).length:Int)) (
          AW (0<=(AA .sub .i64 s10 1)/\(AA .sub .i64 s10 1)+1<=((w0.set s10.toNat x17).length:Int)) (
           some (.inl ((AA .add .i64 s10 1),(w0.set s10.toNat x17).set (AA .sub .i64 s10 1).toNat x18)))))))))))) (
  some (.inr w0))
def Pp(s1 s2:Int)(s7 s8 s10:Int)(w0:List Int):Option ((List Int)):=AR (fun s:Int×List Int=>GW s1 s2 s7 s8 s.1 s.2) (s10,w0)
theorem OK(s1 s2:Int)(s7 s8 s10:Int)(w0:List Int):Pp s1 s2 s7 s8 s10 w0=CS (GW s1 s2 s7 s8 s10 w0) (fun s:Int×List Int=>Pp s1 s2 s7 s8 s.1 s.2):=Ah _ _
def M4(s1 s2:Int)(s7 s8:Int)(s98:Bool)(w0:List Int):Option ((List Int)):=
 AE (s98) (
  AJ (Pp s1 s2 s7 s8 (AA .add .i64 s7 1) w0) fun o19=>
  some o19) (
  some w0)
def Pl(s1 s2:Int)(s7 s8:Int)(w0:List Int):Option ((Int×List Int)⊕Bool):=
 AJ (Pn s1 s2 s8 w0 s7) fun o4=>
 AE (decide (o4=s2)) (
  some (.inr true)) (
  AE (decide ((AA .sub .i64 s2 s1)<50)) (
   some (.inr false)) (
   AW (0<=(AA .sub .i64 o4 1)/\(AA .sub .i64 o4 1)+1<=(w0.length:Int)) (
    AX w0 (AA .sub .i64 o4 1) fun x5=>
    AW (0<=o4/\o4+1<=(w0.length:Int)) (
     AX w0 o4 fun x6=>
     AW (0<=o4/\o4+1<=(w0.length:Int)) (
      AW (0<=o4/\o4+1<=(w0.length:Int)) (
       AW (0<=(AA .sub .i64 o4 1)/\(AA .sub .i64 o4 1)+1<=((w0.set o4.toNat x5).length:Int)) (
        AW (0<=(AA .sub .i64 o4 1)/\(AA .sub .i64 o4 1)+1<=((w0.set o4.toNat x5).length:Int)) (
         AJ (M3 s1 s2 o4 s8 (decide (2<=(AA .sub .i64 o4 s1))) ((w0.set o4.toNat x5).set (AA .sub .i64 o4 1).toNat x6)) fun o13=>
         AJ (M4 s1 s2 o4 s8 (decide (2<=(AA .sub .i64 s2 o4))) o13) fun o20=>
         some (.inl (o4,o20))))))))))
def GT(s1 s2:Int)(s7 s8:Int)(w0:List Int):Option ((Int×Int×List Int)⊕((List Int)⊕(Bool×List Int))):=
 AE (decide (s8<5)) (
  AJ (Pl s1 s2 s7 s8 w0) fun o21=>
  CQ o21 (fun o22=>
   some (.inl (o22.1,(AA .add .i64 s8 1),o22.2))) (fun o23=>
   some (.inr (.inr (o23,w0))))) (
  some (.inr (.inl w0)))
def M5(s1 s2:Int)(s7 s8:Int)(w0:List Int):Option ((List Int)⊕(Bool×List Int)):=AR (fun s:Int×Int×List Int=>GT s1 s2 s.1 s.2.1 s.2.2) (s7,s8,w0)
theorem OH(s1 s2:Int)(s7 s8:Int)(w0:List Int):M5 s1 s2 s7 s8 w0=CS (GT s1 s2 s7 s8 w0) (fun s:Int×Int×List Int=>M5 s1 s2 s.1 s.2.1 s.2.2):=Ah _ _
def X5(a1 a2:Int)(w0:List Int):Option (Bool×List Int):=
 AJ (M5 a1 a2 (AA .add .i64 a1 1) 0 w0) fun o24=>
 CQ o24 (fun o25=>
  some (false,o25)) (fun o26=>
  some (o26.1,o26.2))
def GZ(s1 s10:Int)(w0:List Int)(s9:Int):Option ((Int)⊕(Int)):=
 AE (decide (s9<=s10)) (
  AW (0<=s1/\s1+1<=(w0.length:Int)) (
   AX w0 s1 fun x3=>
   AW (0<=s9/\s9+1<=(w0.length:Int)) (
    AX w0 s9 fun x4=>
    AJ (Y7 x3 x4) fun r5=>
    AE (!r5) (
     some (.inl (AA .add .i64 s9 1))) (
     some (.inr s9))))) (
  some (.inr s9))
def Pu(s1 s10:Int)(w0:List Int)(s9:Int):Option (Int):=AR (fun s:Int=>GZ s1 s10 w0 s) s9
theorem OP(s1 s10:Int)(w0:List Int)(s9:Int):Pu s1 s10 w0 s9=CS (GZ s1 s10 w0 s9) (fun s:Int=>Pu s1 s10 w0 s):=Ah _ _
def Ga(s1 s9:Int)(w0:List Int)(s10:Int):Option ((Int)⊕(Int)):=
 AE (decide (s9<=s10)) (
  AW (0<=s1/\s1+1<=(w0.length:Int)) (
   AX w0 s1 fun x7=>
   AW (0<=s10/\s10+1<=(w0.length:Int)) (
    AX w0 s10 fun x8=>
    AJ (Y7 x7 x8) fun r9=>
    AE (r9) (
     some (.inl (AA .sub .i64 s10 1))) (
     some (.inr s10))))) (
  some (.inr s10))
def Pv(s1 s9:Int)(w0:List Int)(s10:Int):Option (Int):=AR (fun s:Int=>Ga s1 s9 w0 s) s10
theorem OQ(s1 s9:Int)(w0:List Int)(s10:Int):Pv s1 s9 w0 s10=CS (Ga s1 s9 w0 s10) (fun s:Int=>Pv s1 s9 w0 s):=Ah _ _
def Hv(s1 s9 s10:Int)(w0:List Int):Option ((Int×Int×List Int)⊕((Int×List Int))):=
 AJ (Pu s1 s10 w0 s9) fun o6=>
 AJ (Pv s1 o6 w0 s10) fun o10=>
 AE (decide (o10<o6)) (
  some (.inr (o6,w0))) (
  AW (0<=o10/\o10+1<=(w0.length:Int)) (
   AX w0 o10 fun x11=>
   AW (0<=o6/\o6+1<=(w0.length:Int)) (
    AX w0 o6 fun x12=>
    AW (0<=o6/\o6+1<=(w0.length:Int)) (
     AW (0<=o6/\o6+1<=(w0.length:Int)) (
      AW (0<=o10/\o10+1<=((w0.set o6.toNat x11).length:Int)) (
       AW (0<=o10/\o10+1<=((w0.set o6.toNat x11).length:Int)) (
        some (.inl ((AA .add .i64 o6 1),(AA .sub .i64 o10 1),(w0.set o6.toNat x11).set o10.toNat x12)))))))))
def Pt(s1 s9 s10:Int)(w0:List Int):Option ((Int×List Int)):=AR (fun s:Int×Int×List Int=>Hv s1 s.1 s.2.1 s.2.2) (s9,s10,w0)
theorem aBi(s1 s9 s10:Int)(w0:List Int):Pt s1 s9 s10 w0=CS (Hv s1 s9 s10 w0) (fun s:Int×Int×List Int=>Pt s1 s.1 s.2.1 s.2.2):=Ah _ _
def Xe(a1 a2 a3:Int)(w0:List Int):Option (Int×List Int):=
 AW (0<=a3/\a3+1<=(w0.length:Int)) (
  AX w0 a3 fun x1=>
  AW (0<=a1/\a1+1<=(w0.length:Int)) (
   AX w0 a1 fun x2=>
   AW (0<=a1/\a1+1<=(w0.length:Int)) (
    AW (0<=a1/\a1+1<=(w0.length:Int)) (
     AW (0<=a3/\a3+1<=((w0.set a1.toNat x1).length:Int)) (
      AW (0<=a3/\a3+1<=((w0.set a1.toNat x1).length:Int)) (
       AJ (Pt a1 (AA .add .i64 a1 1) (AA .sub .i64 a2 1) ((w0.set a1.toNat x1).set a3.toNat x2)) fun o13=>
       some (o13.1,o13.2)))))))
def GX(s1 s11:Int)(w0:List Int)(s10:Int):Option ((Int)⊕(Int)):=
 AE (decide (s10<=s11)) (
  AW (0<=s10/\s10+1<=(w0.length:Int)) (
   AX w0 s10 fun x3=>
   AW (0<=s1/\s1+1<=(w0.length:Int)) (
    AX w0 s1 fun x4=>
    AJ (Y7 x3 x4) fun r5=>
    AE (r5) (
     some (.inl (AA .add .i64 s10 1))) (
     some (.inr s10))))) (
  some (.inr s10))
def M6(s1 s11:Int)(w0:List Int)(s10:Int):Option (Int):=AR (fun s:Int=>GX s1 s11 w0 s) s10
theorem OL(s1 s11:Int)(w0:List Int)(s10:Int):M6 s1 s11 w0 s10=CS (GX s1 s11 w0 s10) (fun s:Int=>M6 s1 s11 w0 s):=Ah _ _
def GY(s1 s10:Int)(w0:List Int)(s11:Int):Option ((Int)⊕(Int)):=
 AE (decide (s10<=s11)) (
  AW (0<=s11/\s11+1<=(w0.length:Int)) (
   AX w0 s11 fun x7=>
   AW (0<=s1/\s1+1<=(w0.length:Int)) (
    AX w0 s1 fun x8=>
    AJ (Y7 x7 x8) fun r9=>
    AE (!r9) (
     some (.inl (AA .sub .i64 s11 1))) (
     some (.inr s11))))) (
  some (.inr s11))
def M7(s1 s10:Int)(w0:List Int)(s11:Int):Option (Int):=AR (fun s:Int=>GY s1 s10 w0 s) s11
theorem OM(s1 s10:Int)(w0:List Int)(s11:Int):M7 s1 s10 w0 s11=CS (GY s1 s10 w0 s11) (fun s:Int=>M7 s1 s10 w0 s):=Ah _ _
def M8(s1 s11:Int)(w0:List Int)(s10:Int):Option ((Int)⊕(Int)):=
 AE (decide (s10<=s11)) (
  AW (0<=s10/\s10+1<=(w0.length:Int)) (
   AX w0 s10 fun x15=>
   AW (0<=s1/\s1+1<=(w0.length:Int)) (
    AX w0 s1 fun x16=>
    AJ (Y7 x15 x16) fun r17=>
    AE (r17) (
     some (.inl (AA .add .i64 s10 1))) (
     some (.inr s10))))) (
  some (.inr s10))
def aAv(s1 s11:Int)(w0:List Int)(s10:Int):Option (Int):=AR (fun s:Int=>M8 s1 s11 w0 s) s10
def M9(s1 s10:Int)(w0:List Int)(s11:Int):Option ((Int)⊕(Int)):=
 AE (decide (s10<=s11)) (
  AW (0<=s11/\s11+1<=(w0.length:Int)) (
   AX w0 s11 fun x19=>
   AW (0<=s1/\s1+1<=(w0.length:Int)) (
    AX w0 s1 fun x20=>
    AJ (Y7 x19 x20) fun r21=>
    AE (!r21) (
     some (.inl (AA .sub .i64 s11 1))) (
     some (.inr s11))))) (
  some (.inr s11))
def aAx(s1 s10:Int)(w0:List Int)(s11:Int):Option (Int):=AR (fun s:Int=>M9 s1 s10 w0 s) s11
def Hh(s1 s10 s11:Int)(w0:List Int):Option ((Int×Int×List Int)⊕((Int×List Int))):=
 AJ (aAv s1 s11 w0 s10) fun o18=>
 AJ (aAx s1 o18 w0 s11) fun o22=>
 AE (decide (o22<o18)) (
  some (.inr (o22,w0))) (
  AW (0<=o22/\o22+1<=(w0.length:Int)) (
   AX w0 o22 fun x23=>
   AW (0<=o18/\o18+1<=(w0.length:Int)) (
    AX w0 o18 fun x24=>
    AW (0<=o18/\o18+1<=(w0.length:Int)) (
     AW (0<=o18/\o18+1<=(w0.length:Int)) (
      AW (0<=o22/\o22+1<=((w0.set o18.toNat x23).length:Int)) (
       AW (0<=o22/\o22+1<=((w0.set o18.toNat x23).length:Int)) (
        some (.inl ((AA .add .i64 o18 1),(AA .sub .i64 o22 1),(w0.set o18.toNat x23).set o22.toNat x24)))))))))
def Pq(s1 s10 s11:Int)(w0:List Int):Option ((Int×List Int)):=AR (fun s:Int×Int×List Int=>Hh s1 s.1 s.2.1 s.2.2) (s10,s11,w0)
theorem aAt(s1 s10 s11:Int)(w0:List Int):Pq s1 s10 s11 w0=CS (Hh s1 s10 s11 w0) (fun s:Int×Int×List Int=>Pq s1 s.1 s.2.1 s.2.2):=Ah _ _
def X6(a1 a2 a3:Int)(w0:List Int):Option (Int×Bool×List Int):=
 AW (0<=a3/\a3+1<=(w0.length:Int)) (
  AX w0 a3 fun x1=>
  AW (0<=a1/\a1+1<=(w0.length:Int)) (
   AX w0 a1 fun x2=>
   AW (0<=a1/\a1+1<=(w0.length:Int)) (
    AW (0<=a1/\a1+1<=(w0.length:Int)) (
     AW (0<=a3/\a3+1<=((w0.set a1.toNat x1).length:Int)) (
      AW (0<=a3/\a3+1<=((w0.set a1.toNat x1).length:Int)) (
       AJ (M6 a1 (AA .sub .i64 a2 1) ((w0.set a1.toNat x1).set a3.toNat x2) (AA .add .i64 a1 1)) fun o6=>
       AJ (M7 a1 o6 ((w0.set a1.toNat x1).set a3.toNat x2) (AA .sub .i64 a2 1)) fun o10=>
       AE (decide (o10<o6)) (
        AW (0<=a1/\a1+1<=(((w0.set a1.toNat x1).set a3.toNat x2).length:Int)) (
         AX ((w0.set a1.toNat x1).set a3.toNat x2) a1 fun x11=>
         AW (0<=o10/\o10+1<=(((w0.set a1.toNat x1).set a3.toNat x2).length:Int)) (
          AX ((w0.set a1.toNat x1).set a3.toNat x2) o10 fun x12=>
          AW (0<=o10/\o10+1<=(((w0.set a1.toNat x1).set a3.toNat x2).length:Int)) (
           AW (0<=o10/\o10+1<=(((w0.set a1.toNat x1).set a3.toNat x2).length:Int)) (
            AW (0<=a1/\a1+1<=((((w0.set a1.toNat x1).set a3.toNat x2).set o10.toNat x11).length:Int)) (
             AW (0<=a1/\a1+1<=((((w0.set a1.toNat x1).set a3.toNat x2).set o10.toNat x11).length:Int)) (
              some (o10,true,(((w0.set a1.toNat x1).set a3.toNat x2).set o10.toNat x11).set a1.toNat x12)))))))) (
        AW (0<=o10/\o10+1<=(((w0.set a1.toNat x1).set a3.toNat x2).length:Int)) (
         AX ((w0.set a1.toNat x1).set a3.toNat x2) o10 fun x13=>
         AW (0<=o6/\o6+1<=(((w0.set a1.toNat x1).set a3.toNat x2).length:Int)) (
          AX ((w0.set a1.toNat x1).set a3.toNat x2) o6 fun x14=>
          AW (0<=o6/\o6+1<=(((w0.set a1.toNat x1).set a3.toNat x2).length:Int)) (
           AW (0<=o6/\o6+1<=(((w0.set a1.toNat x1).set a3.toNat x2).length:Int)) (
            AW (0<=o10/\o10+1<=((((w0.set a1.toNat x1).set a3.toNat x2).set o6.toNat x13).length:Int)) (
             AW (0<=o10/\o10+1<=((((w0.set a1.toNat x1).set a3.toNat x2).set o6.toNat x13).length:Int)) (
              AJ (Pq a1 (AA .add .i64 o6 1) (AA .sub .i64 o10 1) ((((w0.set a1.toNat x1).set a3.toNat x2).set o6.toNat x13).set o10.toNat x14)) fun o25=>
              AW (0<=a1/\a1+1<=(o25.2.length:Int)) (
               AX o25.2 a1 fun x26=>
               AW (0<=o25.1/\o25.1+1<=(o25.2.length:Int)) (
                AX o25.2 o25.1 fun x27=>
                AW (0<=o25.1/\o25.1+1<=(o25.2.length:Int)) (
                 AW (0<=o25.1/\o25.1+1<=(o25.2.length:Int)) (
                  AW (0<=a1/\a1+1<=((o25.2.set o25.1.toNat x26).length:Int)) (
                   AW (0<=a1/\a1+1<=((o25.2.set o25.1.toNat x26).length:Int)) (
                    some (o25.1,false,(o25.2.set o25.1.toNat x26).set a1.toNat x27))))))))))))))))))))
def NB(self:Int->Int->Int->(List Int)->Option (List Int))(s1 s2 s3:Int)(s8 s9:Bool)(s10:Int)(s35:Bool)(w0:List Int):Option ((Int×List Int)):=
 AE (s35) (
  AJ (Xq s1 s2 w0) fun r3=>
  some ((AA .sub .i64 s3 1),r3)) (
  some (s3,w0))
def NC(self:Int->Int->Int->(List Int)->Option (List Int))(s1 s2 s3:Int)(s8 s9:Bool)(s10 s11 s12:Int)(s50:Bool)(w0:List Int):Option ((Int×Int×List Int)):=
 AE (s50) (
  AJ (Ym s1 s2 w0) fun r6=>
  some ((AA .sub .i64 (AA .sub .i64 s2 1) (AA .sub .i64 s11 s1)),1,r6)) (
  some (s11,s12,w0))
def Jg(self:Int->Int->Int->(List Int)->Option (List Int))(s1 s2 s3:Int)(s8 s9:Bool)(s10 s11:Int)(s68:Bool)(w0:List Int):Option ((List Int)⊕(List Int)):=
 AE (s68) (
  AJ (X5 s1 s2 w0) fun r8=>
  AE (r8.1) (
   some (.inr r8.2)) (
   some (.inl r8.2))) (
  some (.inl w0))
def Fj(self:Int->Int->Int->(List Int)->Option (List Int))(s1 s2 s3:Int)(s9:Bool)(s14 s16:Int)(s17 s18:Int)(s113:Bool)(w0:List Int):Option ((Int×Int×Bool×List Int)):=
 AE (s113) (
  AJ (self s1 s14 s3 w0) fun r17=>
  some ((AA .add .i64 s14 1),s2,decide (s18<=s16),r17)) (
  AJ (self (AA .add .i64 s14 1) s2 s3 w0) fun r18=>
  some (s1,s14,decide (s18<=s17),r18))
def NA(self:Int->Int->Int->(List Int)->Option (List Int))(s1 s2 s3:Int)(s8 s9:Bool)(w0:List Int):Option ((Int×Int×Int×Bool×Bool×List Int)⊕(List Int)):=
 AE (decide ((AA .sub .i64 s2 s1)<=12)) (
  AJ (Xt s1 s2 w0) fun r1=>
  some (.inr r1)) (
  AE (decide (s3=0)) (
   AJ (Xv s1 s2 w0) fun r2=>
   some (.inr r2)) (
   AJ (NB self s1 s2 s3 s8 s9 (AA .sub .i64 s2 s1) (!s8) w0) fun o4=>
   AJ (Yt o4.2 s1 s2) fun r5=>
   AJ (NC self s1 s2 o4.1 s8 s9 (AA .sub .i64 s2 s1) r5.1 r5.2 (decide (r5.2=2)) o4.2) fun o7=>
   AE (s8) (
    AE (s9) (
     AJ (Jg self s1 s2 o4.1 s8 s9 (AA .sub .i64 s2 s1) o7.1 (decide (o7.2.1=1)) o7.2.2) fun o9=>
     CQ o9 (fun o10=>
      AE (decide (0<s1)) (
       AW (0<=(AA .sub .i64 s1 1)/\(AA .sub .i64 s1 1)+1<=(o10.length:Int)) (
        AX o10 (AA .sub .i64 s1 1) fun x12=>
        AW (0<=o7.1/\o7.1+1<=(o10.length:Int)) (
         AX o10 o7.1 fun x13=>
         AJ (Y7 x12 x13) fun r14=>
         AE (!r14) (
          AJ (Xe s1 s2 o7.1 o10) fun r15=>
          some (.inl (r15.1,s2,o4.1,s8,s9,r15.2))) (
          AJ (X6 s1 s2 o7.1 o10) fun r16=>
          AJ (Fj self s1 s2 o4.1 r16.2.1 r16.1 (AA .sub .i64 r16.1 s1) (AA .sub .i64 s2 r16.1) (AA .quo .i64 (AA .sub .i64 s2 s1) 8) (decide ((AA .sub .i64 r16.1 s1)<(AA .sub .i64 s2 r16.1))) r16.2.2) fun o19=>
          some (.inl (o19.1,o19.2.1,o4.1,o19.2.2.1,r16.2.1,o19.2.2.2)))))) (
       AJ (X6 s1 s2 o7.1 o10) fun r20=>
       AJ (Fj self s1 s2 o4.1 r20.2.1 r20.1 (AA .sub .i64 r20.1 s1) (AA .sub .i64 s2 r20.1) (AA .quo .i64 (AA .sub .i64 s2 s1) 8) (decide ((AA .sub .i64 r20.1 s1)<(AA .sub .i64 s2 r20.1))) r20.2.2) fun o21=>
       some (.inl (o21.1,o21.2.1,o4.1,o21.2.2.1,r20.2.1,o21.2.2.2)))) (fun o11=>
      some (.inr o11))) (
     AJ (Jg self s1 s2 o4.1 s8 s9 (AA .sub .i64 s2 s1) o7.1 false o7.2.2) fun o22=>
     CQ o22 (fun o23=>
      AE (decide (0<s1)) (
       AW (0<=(AA .sub .i64 s1 1)/\(AA .sub .i64 s1 1)+1<=(o23.length:Int)) (
        AX o23 (AA .sub .i64 s1 1) fun x25=>
        AW (0<=o7.1/\o7.1+1<=(o23.length:Int)) (
         AX o23 o7.1 fun x26=>
         AJ (Y7 x25 x26) fun r27=>
         AE (!r27) (
          AJ (Xe s1 s2 o7.1 o23) fun r28=>
          some (.inl (r28.1,s2,o4.1,s8,s9,r28.2))) (
          AJ (X6 s1 s2 o7.1 o23) fun r29=>
          AJ (Fj self s1 s2 o4.1 r29.2.1 r29.1 (AA .sub .i64 r29.1 s1) (AA .sub .i64 s2 r29.1) (AA .quo .i64 (AA .sub .i64 s2 s1) 8) (decide ((AA .sub .i64 r29.1 s1)<(AA .sub .i64 s2 r29.1))) r29.2.2) fun o30=>
          some (.inl (o30.1,o30.2.1,o4.1,o30.2.2.1,r29.2.1,o30.2.2.2)))))) (
       AJ (X6 s1 s2 o7.1 o23) fun r31=>
       AJ (Fj self s1 s2 o4.1 r31.2.1 r31.1 (AA .sub .i64 r31.1 s1) (AA .sub .i64 s2 r31.1) (AA .quo .i64 (AA .sub .i64 s2 s1) 8) (decide ((AA .sub .i64 r31.1 s1)<(AA .sub .i64 s2 r31.1))) r31.2.2) fun o32=>
       some (.inl (o32.1,o32.2.1,o4.1,o32.2.2.1,r31.2.1,o32.2.2.2)))) (fun o24=>
      some (.inr o24)))) (
    AJ (Jg self s1 s2 o4.1 s8 s9 (AA .sub .i64 s2 s1) o7.1 false o7.2.2) fun o33=>
    CQ o33 (fun o34=>
     AE (decide (0<s1)) (
      AW (0<=(AA .sub .i64 s1 1)/\(AA .sub .i64 s1 1)+1<=(o34.length:Int)) (
       AX o34 (AA .sub .i64 s1 1) fun x36=>
       AW (0<=o7.1/\o7.1+1<=(o34.length:Int)) (
        AX o34 o7.1 fun x37=>
        AJ (Y7 x36 x37) fun r38=>
        AE (!r38) (
         AJ (Xe s1 s2 o7.1 o34) fun r39=>
         some (.inl (r39.1,s2,o4.1,s8,s9,r39.2))) (
         AJ (X6 s1 s2 o7.1 o34) fun r40=>
         AJ (Fj self s1 s2 o4.1 r40.2.1 r40.1 (AA .sub .i64 r40.1 s1) (AA .sub .i64 s2 r40.1) (AA .quo .i64 (AA .sub .i64 s2 s1) 8) (decide ((AA .sub .i64 r40.1 s1)<(AA .sub .i64 s2 r40.1))) r40.2.2) fun o41=>
         some (.inl (o41.1,o41.2.1,o4.1,o41.2.2.1,r40.2.1,o41.2.2.2)))))) (
      AJ (X6 s1 s2 o7.1 o34) fun r42=>
      AJ (Fj self s1 s2 o4.1 r42.2.1 r42.1 (AA .sub .i64 r42.1 s1) (AA .sub .i64 s2 r42.1) (AA .quo .i64 (AA .sub .i64 s2 s1) 8) (decide ((AA .sub .i64 r42.1 s1)<(AA .sub .i64 s2 r42.1))) r42.2.2) fun o43=>
      some (.inl (o43.1,o43.2.1,o4.1,o43.2.2.1,r42.2.1,o43.2.2.2)))) (fun o35=>
     some (.inr o35)))))
def Hn(self:Int->Int->Int->(List Int)->Option (List Int))(s1 s2 s3:Int)(s8 s9:Bool)(w0:List Int):Option ((Int×Int×Int×Bool×Bool×List Int)⊕((List Int))):=
 AJ (NA self s1 s2 s3 s8 s9 w0) fun o44=>
 CQ o44 (fun o45=>
  some (.inl (o45.1,o45.2.1,o45.2.2.1,o45.2.2.2.1,o45.2.2.2.2.1,o45.2.2.2.2.2))) (fun o46=>
  some (.inr o46))
def Ps(self:Int->Int->Int->(List Int)->Option (List Int))(s1 s2 s3:Int)(s8 s9:Bool)(w0:List Int):Option ((List Int)):=AR (fun s:Int×Int×Int×Bool×Bool×List Int=>Hn self s.1 s.2.1 s.2.2.1 s.2.2.2.1 s.2.2.2.2.1 s.2.2.2.2.2) (s1,s2,s3,s8,s9,w0)
theorem aBa(self:Int->Int->Int->(List Int)->Option (List Int))(s1 s2 s3:Int)(s8 s9:Bool)(w0:List Int):Ps self s1 s2 s3 s8 s9 w0=CS (Hn self s1 s2 s3 s8 s9 w0) (fun s:Int×Int×Int×Bool×Bool×List Int=>Ps self s.1 s.2.1 s.2.2.1 s.2.2.2.1 s.2.2.2.2.1 s.2.2.2.2.2):=Ah _ _
def aKk(self:Int->Int->Int->(List Int)->Option (List Int))(a1 a2 a3:Int)(w0:List Int):Option (List Int):=
 AJ (Ps self a1 a2 a3 true true w0) fun o47=>
 some o47
def aI2:Nat->Int->Int->Int->(List Int)->Option (List Int)
 |0=>fun _ _ _ _=>none
 |n+1=>fun a1 a2 a3 w0=>aKk (aI2 n) a1 a2 a3 w0
def X9(a1 a2 a3:Int)(w0:List Int):Option (List Int):=aI2 100000 a1 a2 a3 w0
def Q7(w0:List Int):Option (List Int):=
 AJ (Q4 (IntKind.wrap .u64 (w0.length:Int))) fun r1=>
 AJ (X9 0 (w0.length:Int) r1 w0) fun r2=>
 some r2
def Qz(xs:List Int):Option (List Int):=bagE Q7 xs
def Hf(s1:List X2)(s6 s15:Int)(s16 s30:Int)(w2:AD)(w5:List (Int×Bool))(s31:Int)(w7:List (Int×Bool)):Option ((Int×(List (Int×Bool)))⊕((List (Int×Bool)))):=
 AE (decide (s31<s30)) (
  AJ (Xl (Xp.mk w2 s1 s6 s31) w7) fun r3=>
  some (.inl ((AA .add .i64 s31 1),r3))) (
  some (.inr w7))
def aKe(s1:List X2)(s6 s15:Int)(s16 s30:Int)(w2:AD)(w5:List (Int×Bool))(s31:Int)(w7:List (Int×Bool)):Option ((List (Int×Bool))):=AR (fun s:Int×(List (Int×Bool))=>Hf s1 s6 s15 s16 s30 w2 w5 s.1 s.2) (s31,w7)
def Hg(s1:List X2)(s15 s16:Int)(w2:AD)(w7:List (Int×Bool))(k:Int)(v:Bool)(w5:List (Int×Bool)):Option ((List (Int×Bool))):=
 some (GF k true w5)
def KY(s1:List X2)(s15 s16:Int)(w2:AD)(w7:List (Int×Bool))(s:(List (Int×Bool))):(List (Int×Bool)):=(fun s:(List (Int×Bool))=>(aH0 s:(List (Int×Bool)))) s
def aKf(s1:List X2)(s15 s16:Int)(w2:AD)(w7 w5:List (Int×Bool)):Option ((List (Int×Bool))):=F3 (KY s1 s15 s16 w2 w7) w7 (fun(x:Int×Bool) (s:(List (Int×Bool)))=>Hg s1 s15 s16 w2 w7 x.1 x.2 s) w5
def aAc(s1:List X2)(s15 s16:Int)(w2:AD)(w5 w7:List (Int×Bool)):Option ((List (Int×Bool))):=
 AJ (aKf s1 s15 s16 w2 w7 w5) fun o5=>
 some o5
def He(s1:List X2)(s15:Int)(w2:AD)(s16:Int)(w5:List (Int×Bool)):Option ((Int×(List (Int×Bool)))⊕((List (Int×Bool)))):=
 AE (decide (s16<s15)) (
  AJ (Yf w2 s16) fun r1=>
  AX w2.decls s16 fun x2=>
  AJ (aKe s1 s16 s15 s16 (x2.types.length:Int) w2 w5 0 (GF r1 true ([]:List (Int×Bool)))) fun o4=>
  AJ (aAc s1 s15 s16 w2 w5 o4) fun o6=>
  some (.inl ((AA .add .i64 s16 1),o6))) (
  some (.inr w5))
def aKd(s1:List X2)(s15:Int)(w2:AD)(s16:Int)(w5:List (Int×Bool)):Option ((List (Int×Bool))):=AR (fun s:Int×(List (Int×Bool))=>He s1 s15 w2 s.1 s.2) (s16,w5)
def Fi(w5:List (Int×Bool))(k:Int)(v:Bool)(w10:List Int):Option (List Int):=
 AW (fit w10.length [k].length 8) (
  some (w10++[k]))
def M2(w5:List (Int×Bool))(s:List Int):List Int:=(fun s:List Int=>(aIi s:List Int)) s
def aKh(w5:List (Int×Bool))(w10:List Int):Option (List Int):=F3 (M2 w5) w5 (fun(x:Int×Bool) (s:List Int)=>Fi w5 x.1 x.2 s) w10
def aAe(w5:List (Int×Bool)):Option ((List Int)):=
 AJ (aKh w5 ([]:List Int)) fun o8=>
 some o8
def X4(a0:AD)(a1:List X2):Option (List Int):=
 AJ (aKd a1 (a0.decls.length:Int) a0 0 ([]:List (Int×Bool))) fun o7=>
 AJ (aAe (Nc 0 o7)) fun o9=>
 AJ (Qz o9) fun r10=>
 some r10
def U0(a0:Int):Option (Bool):=
 some false
def Sv(s1 s2:Int)(s7 s8 s10:Int)(s14:List Xb)(s15 s16:Int)(s28:List Xc)(s29 s30:Int)(s46:Bool)(w3:AD)(w9:Xb)(w12:Xc):Option (Int):=
 AE (s46) (
  AW (0<=(IntKind.wrap .u64 w12.to)) (
   some (AA .or .u32 s10 (AA .shl .u32 1 (IntKind.wrap .u64 w12.to))))) (
  some s10)
def aBv(s1 s2:Int)(s7 s8 s10:Int)(s14:List Xb)(s15 s16:Int)(s28:List Xc)(s29 s30:Int)(w3:AD)(w9:Xb):Option (Int):=
 AX s28 s30 fun x2=>
 AE (decide (x2.from_=s8)) (
  AW (0<=(IntKind.wrap .u64 x2.symbol)) (
   AJ (Sv s1 s2 s7 s8 s10 s14 s15 s16 s28 s29 s30 (!decide ((AA .and .u64 s2 (AA .shl .u64 1 (IntKind.wrap .u64 x2.symbol)))=0)) w3 w9 x2) fun o3=>
   some o3)) (
  AJ (Sv s1 s2 s7 s8 s10 s14 s15 s16 s28 s29 s30 false w3 w9 x2) fun o4=>
  some o4)
def Hy(s1 s2:Int)(s7 s8:Int)(s14:List Xb)(s15 s16:Int)(s28:List Xc)(s29:Int)(w3:AD)(w9:Xb)(s10 s30:Int):Option ((Int×Int)⊕(Int)):=
 AE (decide (s30<s29)) (
  AJ (aBv s1 s2 s7 s8 s10 s14 s15 s16 s28 s29 s30 w3 w9) fun o5=>
  some (.inl (o5,(AA .add .i64 s30 1)))) (
  some (.inr s10))
def aBy(s1 s2:Int)(s7 s8:Int)(s14:List Xb)(s15 s16:Int)(s28:List Xc)(s29:Int)(w3:AD)(w9:Xb)(s10 s30:Int):Option (Int):=AR (fun s:Int×Int=>Hy s1 s2 s7 s8 s14 s15 s16 s28 s29 w3 w9 s.1 s.2) (s10,s30)
def NE(s1 s2:Int)(s7 s8 s10:Int)(s14:List Xb)(s15 s16:Int)(s60:Bool)(w3:AD):Option (Int):=
 AE (s60) (
  AW (0<=(IntKind.wrap .u64 s8)) (
   some (AA .shl .u32 1 (IntKind.wrap .u64 s8)))) (
  some s10)
def aBt(s1 s2 s7:Int)(s14:List Xb)(s15 s16:Int)(w3:AD):Option (Int):=
 AX s14 s16 fun x1=>
 AW (0<=(IntKind.wrap .u64 s16)) (
  AE (decide ((AA .and .u32 s1 (AA .shl .u32 1 (IntKind.wrap .u64 s16)))=0)) (
   some s7) (
   AJ (aBy s1 s2 s7 s16 s14 s15 s16 w3.trans (w3.trans.length:Int) w3 x1 0 0) fun o6=>
   AE (decide (o6=0)) (
    AJ (NE s1 s2 s7 s16 o6 s14 s15 s16 (!x1.next) w3) fun o7=>
    some (AA .or .u32 s7 o7)) (
    AJ (NE s1 s2 s7 s16 o6 s14 s15 s16 false w3) fun o8=>
    some (AA .or .u32 s7 o8))))
def Gc(s1 s2:Int)(s14:List Xb)(s15:Int)(w3:AD)(s7 s16:Int):Option ((Int×Int)⊕(Int)):=
 AE (decide (s16<s15)) (
  AJ (aBt s1 s2 s7 s14 s15 s16 w3) fun o9=>
  some (.inl (o9,(AA .add .i64 s16 1)))) (
  some (.inr s7))
def aKv(s1 s2:Int)(s14:List Xb)(s15:Int)(w3:AD)(s7 s16:Int):Option (Int):=AR (fun s:Int×Int=>Gc s1 s2 s14 s15 w3 s.1 s.2) (s7,s16)
def Xg(a0:AD)(a1 a2:Int):Option (Int):=
 AJ (aKv a1 a2 a0.states (a0.states.length:Int) a0 0 0) fun o10=>
 some o10
def aDo(s11:List Int)(s12 s14 s15:Int)(s44:List Int)(s45 s46:Int)(s64:Bool)(w4:AD)(w8:List Int)(w9 w10:MP Int Int):Option ((List Int×MP Int Int×MP Int Int)):=
 AE (s64) (
  AW (0<=s12/\s12+1<=(w8.length:Int)) (
   AX w8 s12 fun x7=>
   AW (Je 0 w9 s15<=4611686018427387904) (
    AW (XU (Ei 0 w9 s15) ((Je 0 w9 s15:Nat):Int)=true) (
     AW (fit w8.length [s15].length 4) (
      some (w8++[s15],LE (Ei 0 w9 s15) ((Je 0 w9 s15:Nat):Int) x7,C8 w10 s15 s14)))))) (
  some (w8,w9,w10))
def aDm(s11:List Int)(s12:Int)(s44:List Int)(s45 s46:Int)(w4:AD)(w8:List Int)(w9 w10:MP Int Int):Option ((List Int×MP Int Int×MP Int Int)):=
 AX s44 s46 fun x4=>
 AW (0<=s12/\s12+1<=(w8.length:Int)) (
  AX w8 s12 fun x5=>
  AJ (Xg w4 x5 x4) fun r6=>
  AJ (aDo s11 s12 x4 r6 s44 s45 s46 (!((DU 0 w9 r6).2)) w4 w8 w9 w10) fun o8=>
  some (o8.1,o8.2.1,o8.2.2))
def IG(s11:List Int)(s12:Int)(s44:List Int)(s45:Int)(w4:AD)(s46:Int)(w8:List Int)(w9 w10:MP Int Int):Option ((Int×List Int×MP Int Int×MP Int Int)⊕((List Int×MP Int Int×MP Int Int))):=
 AE (decide (s46<s45)) (
  AJ (aDm s11 s12 s44 s45 s46 w4 w8 w9 w10) fun o9=>
  some (.inl ((AA .add .i64 s46 1),o9.1,o9.2.1,o9.2.2))) (
  some (.inr (w8,w9,w10)))
def aLa(s11:List Int)(s12:Int)(s44:List Int)(s45:Int)(w4:AD)(s46:Int)(w8:List Int)(w9 w10:MP Int Int):Option ((List Int×MP Int Int×MP Int Int)):=AR (fun s:Int×List Int×MP Int Int×MP Int Int=>IG s11 s12 s44 s45 w4 s.1 s.2.1 s.2.2.1 s.2.2.2) (s46,w8,w9,w10)
def IF(s11:List Int)(w4:AD)(s12:Int)(w8:List Int)(w9 w10:MP Int Int):Option ((Int×List Int×MP Int Int×MP Int Int)⊕((List Int×MP Int Int×MP Int Int))):=
 AE (decide (s12<(w8.length:Int))) (
  AW (0<=s12/\s12+1<=(w8.length:Int)) (
   AX w8 s12 fun x2=>
   AJ (U0 x2) fun r3=>
   AE (r3) (
    AW (0<=(AA .add .i64 s12 1)/\(AA .add .i64 s12 1)<=(w8.length:Int)) (
     some (.inr (w8.take ((AA .add .i64 s12 1)).toNat,w9,w10)))) (
    AJ (aLa s11 s12 s11 (s11.length:Int) w4 0 w8 w9 w10) fun o10=>
    some (.inl ((AA .add .i64 s12 1),o10.1,o10.2.1,o10.2.2))))) (
  some (.inr (w8,w9,w10)))
def aK9(s11:List Int)(w4:AD)(s12:Int)(w8:List Int)(w9 w10:MP Int Int):Option ((List Int×MP Int Int×MP Int Int)):=AR (fun s:Int×List Int×MP Int Int×MP Int Int=>IF s11 w4 s.1 s.2.1 s.2.2.1 s.2.2.2) (s12,w8,w9,w10)
def Xw(a0:AD)(a1:List X2)(a2:Int):Option (List Int×MP Int Int×MP Int Int):=
 AJ (X4 a0 a1) fun r1=>
 AJ (aK9 r1 a0 0 [a2] (C8 (EN:MP Int Int) a2 a2) (EN:MP Int Int)) fun o11=>
 some (o11.1,o11.2.1,o11.2.2)
def Qb(a0:AD)(a1:List X2)(a2:Int):Option (List Int):=
 AJ (Xw a0 a1 a2) fun r1=>
 AJ (Q7 r1.1) fun r2=>
 some r2
def IW(s1:Int)(s8:List Xb)(s9 s10:Int):Option ((Int)⊕(Unit⊕Unit)):=
 AE (decide (s10<s9)) (
  AX s8 s10 fun x1=>
  AE (x1.accept) (
   AW (0<=(IntKind.wrap .u64 s10)) (
    AE (!decide ((AA .and .u32 s1 (AA .shl .u32 1 (IntKind.wrap .u64 s10)))=0)) (
     some (.inr (.inr ()))) (
     some (.inl (AA .add .i64 s10 1))))) (
   some (.inl (AA .add .i64 s10 1)))) (
  some (.inr (.inl ())))
def aLv(s1:Int)(s8:List Xb)(s9 s10:Int):Option (Unit⊕Unit):=AR (fun s:Int=>IW s1 s8 s9 s) s10
def Yl(a0:AD)(a1:Int):Option (Bool):=
 AJ (aLv a1 a0.states (a0.states.length:Int) 0) fun o2=>
 CQ o2 (fun o3=>
  some false) (fun o4=>
  some true)
def U1(a0:Int)(a1:AD):Option (Bool):=
 AJ (Yl a1 a0) fun r1=>
 some (!r1)
def It(s0:List Int)(s1:AD)(s7 s8:Int):Option ((Int)⊕(Unit⊕Int)):=
 AE (decide (s8<s7)) (
  AX s0 s8 fun x1=>
  AJ (U1 x1 s1) fun r2=>
  AE (r2) (
   some (.inr (.inr s8))) (
   some (.inl (AA .add .i64 s8 1)))) (
  some (.inr (.inl ())))
def aMg(s0:List Int)(s1:AD)(s7 s8:Int):Option (Unit⊕Int):=AR (fun s:Int=>It s0 s1 s7 s) s8
def Zh(a0:List Int)(a1:AD):Option (Int):=
 AJ (aMg a0 a1 (a0.length:Int) 0) fun o3=>
 CQ o3 (fun o4=>
  some (-1)) (fun o5=>
  some o5)
def Qr(a0:List Int)(a1:AD):Option (Bool):=
 AJ (Zh a0 a1) fun r1=>
 some (decide (0<=r1))
def U2(a0:Int)(a1:AD):Option (Bool):=
 AJ (Yl a1 a0) fun r1=>
 some r1
def Iu(s0:List Int)(s1:AD)(s7 s8:Int):Option ((Int)⊕(Unit⊕Int)):=
 AE (decide (s8<s7)) (
  AX s0 s8 fun x1=>
  AJ (U2 x1 s1) fun r2=>
  AE (r2) (
   some (.inr (.inr s8))) (
   some (.inl (AA .add .i64 s8 1)))) (
  some (.inr (.inl ())))
def aMh(s0:List Int)(s1:AD)(s7 s8:Int):Option (Unit⊕Int):=AR (fun s:Int=>Iu s0 s1 s7 s) s8
def Zi(a0:List Int)(a1:AD):Option (Int):=
 AJ (aMh a0 a1 (a0.length:Int) 0) fun o3=>
 CQ o3 (fun o4=>
  some (-1)) (fun o5=>
  some o5)
def Qs(a0:List Int)(a1:AD):Option (Bool):=
 AJ (Zi a0 a1) fun r1=>
 some (decide (0<=r1))
def Qt(a0:AD)(a1:List Int):Option (Int):=
 AJ (Qr a1 a0) fun r1=>
 AE (!r1) (
  some 1) (
  AJ (Qs a1 a0) fun r2=>
  AE (!r2) (
   some 2) (
   some 0))
def Zy(a0:AD)(a1:List X2)(a2:Int):Option (Int):=
 AJ (Qb a0 a1 a2) fun r1=>
 AJ (Qt a0 r1) fun r2=>
 some r2
def Zp:Option (Bool):=
 AJ (Zl (AD.mk ([113]:List UInt8) ([]:List Xd) ([]:List Yc) ([]:List Ye) ([Xb.mk ([115]:List UInt8) false true,Xb.mk ([116]:List UInt8) true false]) 0 ([]:List X3) ([]:List Yj) ([]:List Xc)) 0) fun r1=>
 AE (decide (r1=1)) (
  AJ (Zl (AD.mk ([113]:List UInt8) ([]:List Xd) ([]:List Yc) ([]:List Ye) ([Xb.mk ([115]:List UInt8) false true,Xb.mk ([116]:List UInt8) true false]) 0 ([]:List X3) ([]:List Yj) ([]:List Xc)) 1) fun r2=>
  AE (decide (r2=2)) (
   AJ (Xs (AD.mk ([113]:List UInt8) ([]:List Xd) ([]:List Yc) ([]:List Ye) ([Xb.mk ([115]:List UInt8) false true,Xb.mk ([116]:List UInt8) true false]) 0 ([]:List X3) ([]:List Yj) ([]:List Xc)) ([]:List Yk)) fun r3=>
   AE (decide (r3=2)) (
    AJ (Zy (AD.mk ([113]:List UInt8) ([]:List Xd) ([]:List Yc) ([]:List Ye) ([Xb.mk ([115]:List UInt8) false true,Xb.mk ([116]:List UInt8) true false]) 0 ([]:List X3) ([]:List Yj) ([]:List Xc)) ([]:List X2) 1) fun r4=>
    some (decide (r4=1))) (
    some false)) (
   some false)) (
  some false)
def Qu(a0:Int)(a1:AD)(a2:Bool):Option (Bool):=
 AJ (Yl a1 a0) fun r1=>
 some (r1==a2)
def aLe(s3_1:AD)(s3_2:Bool)(s11:List Int)(s12 s14 s15:Int)(s44:List Int)(s45 s46:Int)(s64:Bool)(w4:AD)(w8:List Int)(w9 w10:MP Int Int):Option ((List Int×MP Int Int×MP Int Int)):=
 AE (s64) (
  AW (0<=s12/\s12+1<=(w8.length:Int)) (
   AX w8 s12 fun x7=>
   AW (Je 0 w9 s15<=4611686018427387904) (
    AW (XU (Ei 0 w9 s15) ((Je 0 w9 s15:Nat):Int)=true) (
     AW (fit w8.length [s15].length 4) (
      some (w8++[s15],LE (Ei 0 w9 s15) ((Je 0 w9 s15:Nat):Int) x7,C8 w10 s15 s14)))))) (
  some (w8,w9,w10))
def aLd(s3_1:AD)(s3_2:Bool)(s11:List Int)(s12:Int)(s44:List Int)(s45 s46:Int)(w4:AD)(w8:List Int)(w9 w10:MP Int Int):Option ((List Int×MP Int Int×MP Int Int)):=
 AX s44 s46 fun x4=>
 AW (0<=s12/\s12+1<=(w8.length:Int)) (
  AX w8 s12 fun x5=>
  AJ (Xg w4 x5 x4) fun r6=>
  AJ (aLe s3_1 s3_2 s11 s12 x4 r6 s44 s45 s46 (!((DU 0 w9 r6).2)) w4 w8 w9 w10) fun o8=>
  some (o8.1,o8.2.1,o8.2.2))
def UT(s3_1:AD)(s3_2:Bool)(s11:List Int)(s12:Int)(s44:List Int)(s45:Int)(w4:AD)(s46:Int)(w8:List Int)(w9 w10:MP Int Int):Option ((Int×List Int×MP Int Int×MP Int Int)⊕((List Int×MP Int Int×MP Int Int))):=
 AE (decide (s46<s45)) (
  AJ (aLd s3_1 s3_2 s11 s12 s44 s45 s46 w4 w8 w9 w10) fun o9=>
  some (.inl ((AA .add .i64 s46 1),o9.1,o9.2.1,o9.2.2))) (
  some (.inr (w8,w9,w10)))
def aLg(s3_1:AD)(s3_2:Bool)(s11:List Int)(s12:Int)(s44:List Int)(s45:Int)(w4:AD)(s46:Int)(w8:List Int)(w9 w10:MP Int Int):Option ((List Int×MP Int Int×MP Int Int)):=AR (fun s:Int×List Int×MP Int Int×MP Int Int=>UT s3_1 s3_2 s11 s12 s44 s45 w4 s.1 s.2.1 s.2.2.1 s.2.2.2) (s46,w8,w9,w10)
def Gr(s3_1:AD)(s3_2:Bool)(s11:List Int)(w4:AD)(s12:Int)(w8:List Int)(w9 w10:MP Int Int):Option ((Int×List Int×MP Int Int×MP Int Int)⊕((List Int×MP Int Int×MP Int Int))):=
 AE (decide (s12<(w8.length:Int))) (
  AW (0<=s12/\s12+1<=(w8.length:Int)) (
   AX w8 s12 fun x2=>
   AJ (Qu x2 s3_1 s3_2) fun r3=>
   AE (r3) (
    AW (0<=(AA .add .i64 s12 1)/\(AA .add .i64 s12 1)<=(w8.length:Int)) (
     some (.inr (w8.take ((AA .add .i64 s12 1)).toNat,w9,w10)))) (
    AJ (aLg s3_1 s3_2 s11 s12 s11 (s11.length:Int) w4 0 w8 w9 w10) fun o10=>
    some (.inl ((AA .add .i64 s12 1),o10.1,o10.2.1,o10.2.2))))) (
  some (.inr (w8,w9,w10)))
def aLf(s3_1:AD)(s3_2:Bool)(s11:List Int)(w4:AD)(s12:Int)(w8:List Int)(w9 w10:MP Int Int):Option ((List Int×MP Int Int×MP Int Int)):=AR (fun s:Int×List Int×MP Int Int×MP Int Int=>Gr s3_1 s3_2 s11 w4 s.1 s.2.1 s.2.2.1 s.2.2.2) (s12,w8,w9,w10)
def Xz(a0:AD)(a1:List X2)(a2:Int)(a3_1:AD)(a3_2:Bool):Option (List Int×MP Int Int×MP Int Int):=
 AJ (X4 a0 a1) fun r1=>
 AJ (aLf a3_1 a3_2 r1 a0 0 [a2] (C8 (EN:MP Int Int) a2 a2) (EN:MP Int Int)) fun o11=>
 some (o11.1,o11.2.1,o11.2.2)
def Io(s2 s3:Int)(w0:List Int):Option ((Int×Int×List Int)⊕((List Int))):=
 AE (decide (s2<s3)) (
  AW (0<=s3/\s3+1<=(w0.length:Int)) (
   AX w0 s3 fun x1=>
   AW (0<=s2/\s2+1<=(w0.length:Int)) (
    AX w0 s2 fun x2=>
    AW (0<=s2/\s2+1<=(w0.length:Int)) (
     AW (0<=s2/\s2+1<=(w0.length:Int)) (
      AW (0<=s3/\s3+1<=((w0.set s2.toNat x1).length:Int)) (
       AW (0<=s3/\s3+1<=((w0.set s2.toNat x1).length:Int)) (
        some (.inl ((AA .add .i64 s2 1),(AA .sub .i64 s3 1),(w0.set s2.toNat x1).set s3.toNat x2))))))))) (
  some (.inr w0))
def aMc(s2 s3:Int)(w0:List Int):Option ((List Int)):=AR (fun s:Int×Int×List Int=>Io s.1 s.2.1 s.2.2) (s2,s3,w0)
def Zc(w0:List Int):Option (List Int):=
 AJ (aMc 0 (AA .sub .i64 (w0.length:Int) 1) w0) fun o3=>
 some o3
def Kh(s2:Int)(w11 w12:MP Int Int)(s13:Int)(w14:List Int):Option ((Int×List Int)⊕((List Int))):=
 AE (!decide (s13=s2)) (
  AW (fit w14.length [(DU 0 w12 s13).1].length 8) (
   some (.inl ((DU 0 w11 s13).1,w14++[(DU 0 w12 s13).1])))) (
  some (.inr w14))
def VV(s2:Int)(w11 w12:MP Int Int)(s13:Int)(w14:List Int):Option ((List Int)):=AR (fun s:Int×List Int=>Kh s2 w11 w12 s.1 s.2) (s13,w14)
def Yr(a0:AD)(a1:List X2)(a2:Int)(a3:Bool):Option (List Int×Bool):=
 AJ (Xz a0 a1 a2 a0 a3) fun r1=>
 AW (0<=(AA .sub .i64 (r1.1.length:Int) 1)/\(AA .sub .i64 (r1.1.length:Int) 1)+1<=(r1.1.length:Int)) (
  AX r1.1 (AA .sub .i64 (r1.1.length:Int) 1) fun x2=>
  AJ (Yl a0 x2) fun r3=>
  AE (!(r3==a3)) (
   some (([]:List Int),false)) (
   AJ (VV a2 r1.2.1 r1.2.2 x2 ([]:List Int)) fun o4=>
   AJ (Zc o4) fun r5=>
   some (r5,true)))
def IT(s0:List X0)(w3:X0)(s5:Int):Option ((Int)⊕(Int)):=
 AE (decide (0<s5)) (
  AX s0 (AA .sub .i64 s5 1) fun x1=>
  AJ (Zm w3 x1) fun r2=>
  AE (r2) (
   some (.inl (AA .sub .i64 s5 1))) (
   some (.inr s5))) (
  some (.inr s5))
def aLp(s0:List X0)(w3:X0)(s5:Int):Option (Int):=AR (fun s:Int=>IT s0 w3 s) s5
def Yd(a0:List X0)(a1:X0):Option (List X0):=
 AJ (aLp a0 a1 (a0.length:Int)) fun o3=>
 AE (decide (0<o3)) (
  AX a0 (AA .sub .i64 o3 1) fun x4=>
  AE ((X0.eqb x4 a1)) (
   some a0) (
   AW ((0:Int)<=0/\(0:Int)<=o3/\o3<=(a0.length:Int)) (
    AW (fit ([]:List X0).length (sub a0 0 o3).length 40) (
     AW (fit (([]:List X0)++(sub a0 0 o3)).length [a1].length 40) (
      AW ((0:Int)<=o3/\(o3:Int)<=(a0.length:Int)/\(a0.length:Int)<=(a0.length:Int)) (
       AW (fit ((([]:List X0)++(sub a0 0 o3))++[a1]).length (sub a0 o3 (a0.length:Int)).length 40) (
        some (((([]:List X0)++(sub a0 0 o3))++[a1])++(sub a0 o3 (a0.length:Int)))))))))) (
  AW ((0:Int)<=0/\(0:Int)<=o3/\o3<=(a0.length:Int)) (
   AW (fit ([]:List X0).length (sub a0 0 o3).length 40) (
    AW (fit (([]:List X0)++(sub a0 0 o3)).length [a1].length 40) (
     AW ((0:Int)<=o3/\(o3:Int)<=(a0.length:Int)/\(a0.length:Int)<=(a0.length:Int)) (
      AW (fit ((([]:List X0)++(sub a0 0 o3))++[a1]).length (sub a0 o3 (a0.length:Int)).length 40) (
       some (((([]:List X0)++(sub a0 0 o3))++[a1])++(sub a0 o3 (a0.length:Int)))))))))
def TK(s1:Int)(s10:Bool)(w2:AD):Option ((List X0)):=
 AE (s10) (
  some ([X0.mk 3 0 ([]:List UInt8) false,X0.mk 3 0 ([]:List UInt8) true])) (
  some ([]:List X0))
def TL(s1:Int)(s5:List X0)(s6 s7:Int)(s50:Bool)(w2:AD)(w8:CH):Option ((List X0)):=
 AE (s50) (
  AJ (Yd s5 w8.value) fun r12=>
  some r12) (
  some s5)
def aB9(s1:Int)(s5:List X0)(s6 s7:Int)(w2:AD):Option ((List X0)):=
 AX w2.symbols s6 fun x10=>
 AX x10.args s7 fun x11=>
 AE (decide (x11.kind=1)) (
  AJ (TL s1 s5 s6 s7 (decide (x11.value.kind=s1)) w2 x11) fun o13=>
  some o13) (
  AJ (TL s1 s5 s6 s7 false w2 x11) fun o14=>
  some o14)
def H6(s1 s6:Int)(w2:AD)(s5:List X0)(s7:Int):Option ((List X0×Int)⊕((List X0))):=
 AX w2.symbols s6 fun x17=>
 AE (decide (s7<(x17.args.length:Int))) (
  AJ (aB9 s1 s5 s6 s7 w2) fun o18=>
  some (.inl (o18,(AA .add .i64 s7 1)))) (
  some (.inr s5))
def aCc(s1 s6:Int)(w2:AD)(s5:List X0)(s7:Int):Option ((List X0)):=AR (fun s:List X0×Int=>H6 s1 s6 w2 s.1 s.2) (s5,s7)
def H5(s1:Int)(w2:AD)(s5:List X0)(s6:Int):Option ((List X0×Int)⊕((List X0))):=
 AE (decide (s6<(w2.symbols.length:Int))) (
  AJ (aCc s1 s6 w2 s5 0) fun o19=>
  some (.inl (o19,(AA .add .i64 s6 1)))) (
  some (.inr s5))
def aKx(s1:Int)(w2:AD)(s5:List X0)(s6:Int):Option ((List X0)):=AR (fun s:List X0×Int=>H5 s1 w2 s.1 s.2) (s5,s6)
def Xj(a0:AD)(a1:Int):Option (List X0):=
 AJ (TK a1 (decide (a1=3)) a0) fun o1=>
 AJ (aKx a1 a0 o1 0) fun o20=>
 some o20
def aLs(s0:List X0)(s1:Int)(s5:List X0)(s6:Int)(s19:Bool):Option ((List X0)):=
 AE (s19) (
  AX s0 s6 fun x7=>
  AJ (Yd s5 x7) fun r8=>
  some r8) (
  some s5)
def aLr(s0:List X0)(s1:Int)(s5:List X0)(s6:Int):Option ((List X0)):=
 AX s0 s6 fun x6=>
 AJ (aLs s0 s1 s5 s6 (decide (x6.kind=s1))) fun o9=>
 some o9
def Kf(s0:List X0)(s1:Int)(s5:List X0)(s6:Int):Option ((List X0×Int)⊕((List X0))):=
 AE (decide (s6<(s0.length:Int))) (
  AJ (aLr s0 s1 s5 s6) fun o10=>
  some (.inl (o10,(AA .add .i64 s6 1)))) (
  some (.inr s5))
def aFn(s0:List X0)(s1:Int)(s5:List X0)(s6:Int):Option ((List X0)):=AR (fun s:List X0×Int=>Kf s0 s1 s.1 s.2) (s5,s6)
theorem aFo(s0:List X0)(s1:Int)(s5:List X0)(s6:Int):aFn s0 s1 s5 s6=CS (Kf s0 s1 s5 s6) (fun s:List X0×Int=>aFn s0 s1 s.1 s.2):=Ah _ _
def Yg(a0:List X0)(a1:Int):Option (List X0):=
 AJ (aFn a0 a1 ([]:List X0) 0) fun o11=>
 some o11
def Ki(s1 s5:List X0)(s6:Int):Option ((List X0×Int)⊕((List X0))):=
 AE (decide (s6<(s1.length:Int))) (
  AX s1 s6 fun x1=>
  AJ (Yd s5 x1) fun r2=>
  some (.inl (r2,(AA .add .i64 s6 1)))) (
  some (.inr s5))
def aGc(s1 s5:List X0)(s6:Int):Option ((List X0)):=AR (fun s:List X0×Int=>Ki s1 s.1 s.2) (s5,s6)
theorem aGd(s1 s5:List X0)(s6:Int):aGc s1 s5 s6=CS (Ki s1 s5 s6) (fun s:List X0×Int=>aGc s1 s.1 s.2):=Ah _ _
def Yy(a0 a1:List X0):Option (List X0):=
 AJ (aGc a1 a0 0) fun o3=>
 some o3
def Qg(a0:List X0)(a1:X0):Option (Bool):=
 AJ (Yd a0 a1) fun r1=>
 some (decide ((r1.length:Int)=(a0.length:Int)))
def aEr(s0:Int)(s1:List X0)(s12:Bool)(w4 w5:X0):Option (X0):=
 AE (s12) (
  some (X0.mk w5.kind (AA .add .i64 w5.int 1) w5.str w5.bool)) (
  AW (w5.str.length+([97]:List UInt8).length<=9223372036854775807) (
   some (X0.mk w5.kind w5.int (w5.str++([97]:List UInt8)) w5.bool)))
def Uk(s0:Int)(s1:List X0)(w4 w5:X0):Option (X0):=
 AJ (aEr s0 s1 (decide (s0=1)) w4 w5) fun o2=>
 some o2
def IO(s0:Int)(s1:List X0)(w4 w5:X0):Option ((X0)⊕(X0)):=
 AJ (Qg s1 w5) fun r1=>
 AE (r1) (
  AJ (Uk s0 s1 w4 w5) fun o3=>
  some (.inl o3)) (
  some (.inr w5))
def Ul(s0:Int)(s1:List X0)(w4 w5:X0):Option (X0):=AR (fun s:X0=>IO s0 s1 w4 s) w5
theorem On(s0:Int)(s1:List X0)(w4 w5:X0):Ul s0 s1 w4 w5=CS (IO s0 s1 w4 w5) (fun s:X0=>Ul s0 s1 w4 s):=Ah _ _
def Y5(a0:Int)(a1:List X0):Option (X0):=
 AJ (Ul a0 a1 (X0.mk 0 0 ([]:List UInt8) false) (X0.mk a0 0 ([]:List UInt8) false)) fun o4=>
 some o4
def aEx(s1:Int)(s2:List X2)(s3 s9:List X0)(s10:Int)(s27:Bool):Option ((List X0)):=
 AE (s27) (
  AX s2 s10 fun x3=>
  AJ (Yd s9 x3.value) fun r4=>
  some r4) (
  some s9)
def aEv(s1:Int)(s2:List X2)(s3 s9:List X0)(s10:Int):Option ((List X0)):=
 AX s2 s10 fun x2=>
 AJ (aEx s1 s2 s3 s9 s10 (decide (x2.value.kind=s1))) fun o5=>
 some o5
def IQ(s1:Int)(s2:List X2)(s3 s9:List X0)(s10:Int):Option ((List X0×Int)⊕((List X0))):=
 AE (decide (s10<(s2.length:Int))) (
  AJ (aEv s1 s2 s3 s9 s10) fun o6=>
  some (.inl (o6,(AA .add .i64 s10 1)))) (
  some (.inr s9))
def aEz(s1:Int)(s2:List X2)(s3 s9:List X0)(s10:Int):Option ((List X0)):=AR (fun s:List X0×Int=>IQ s1 s2 s3 s.1 s.2) (s9,s10)
def Y8(a0:AD)(a1:Int)(a2:List X2)(a3:List X0):Option (List X0):=
 AJ (Xj a0 a1) fun r1=>
 AJ (aEz a1 a2 a3 r1 0) fun o7=>
 AE (decide (a1=3)) (
  some o7) (
  AJ (Yg a3 a1) fun r8=>
  AJ (Yy o7 r8) fun r9=>
  AJ (Y5 a1 r9) fun r10=>
  AJ (Yd o7 r10) fun r11=>
  some r11)
def IP(self:AD->Int->(List X2)->(List X0)->(List X0)->Option (List X8))(s1:Int)(s2:List X2)(s3 s4 s12:List X0)(w5:AD)(s13:Int)(w11:List X8):Option ((Int×List X8)⊕((List X8))):=
 AE (decide (s13<(s12.length:Int))) (
  AW (fit ([]:List X0).length s4.length 40) (
   AX s12 s13 fun x8=>
   AW (fit (([]:List X0)++s4).length [x8].length 40) (
    AJ (self w5 s1 s2 s3 ((([]:List X0)++s4)++[x8])) fun r9=>
    AW (fit w11.length r9.length 40) (
     some (.inl ((AA .add .i64 s13 1),w11++r9)))))) (
  some (.inr w11))
def aLl(self:AD->Int->(List X2)->(List X0)->(List X0)->Option (List X8))(s1:Int)(s2:List X2)(s3 s4 s12:List X0)(w5:AD)(s13:Int)(w11:List X8):Option ((List X8)):=AR (fun s:Int×List X8=>IP self s1 s2 s3 s4 s12 w5 s.1 s.2) (s13,w11)
def aPf(self:AD->Int->(List X2)->(List X0)->(List X0)->Option (List X8))(a0:AD)(a1:Int)(a2:List X2)(a3 a4:List X0):Option (List X8):=
 AX a0.decls a1 fun x1=>
 AE (decide ((a4.length:Int)=(x1.types.length:Int))) (
  AX a0.decls a1 fun x2=>
  some [X8.mk x2.name a4]) (
  AX a0.decls a1 fun x3=>
  AX x3.types (a4.length:Int) fun x4=>
  AJ (Y8 a0 x4 a2 a3) fun r5=>
  AJ (aLl self a1 a2 a3 a4 r5 a0 0 ([]:List X8)) fun o10=>
  some o10)
def aI3:Nat->AD->Int->(List X2)->(List X0)->(List X0)->Option (List X8)
 |0=>fun _ _ _ _ _=>none
 |n+1=>fun a0 a1 a2 a3 a4=>aPf (aI3 n) a0 a1 a2 a3 a4
def Y6(a0:AD)(a1:Int)(a2:List X2)(a3 a4:List X0):Option (List X8):=aI3 100000 a0 a1 a2 a3 a4
def Kg(s0:List X2)(s1:Int)(w4:X0)(s6:Int):Option ((Int)⊕(Unit⊕X0)):=
 AE (decide (s6<(s0.length:Int))) (
  AX s0 s6 fun x1=>
  AE (decide (x1.var=s1)) (
   AX s0 s6 fun x2=>
   some (.inr (.inr x2.value))) (
   some (.inl (AA .add .i64 s6 1)))) (
  some (.inr (.inl ())))
def aLt(s0:List X2)(s1:Int)(w4:X0)(s6:Int):Option (Unit⊕X0):=AR (fun s:Int=>Kg s0 s1 w4 s) s6
def Yh(a0:List X2)(a1:Int):Option (X0×Bool):=
 AJ (aLt a0 a1 (X0.mk 0 0 ([]:List UInt8) false) 0) fun o3=>
 CQ o3 (fun o4=>
  some (X0.mk 0 0 ([]:List UInt8) false,false)) (fun o5=>
  some (o5,true))
def Kk(s0 s1:List X2)(s5:Int):Option ((Int)⊕(Unit⊕Unit)):=
 AE (decide (s5<(s0.length:Int))) (
  AX s0 s5 fun x1=>
  AJ (Yh s1 x1.var) fun r2=>
  AE (r2.2) (
   AX s0 s5 fun x3=>
   AE (!(X0.eqb r2.1 x3.value)) (
    some (.inr (.inr ()))) (
    some (.inl (AA .add .i64 s5 1)))) (
   some (.inl (AA .add .i64 s5 1)))) (
  some (.inr (.inl ())))
def aL5(s0 s1:List X2)(s5:Int):Option (Unit⊕Unit):=AR (fun s:Int=>Kk s0 s1 s) s5
def Z4(a0 a1:List X2):Option (Bool):=
 AJ (aL5 a0 a1 0) fun o4=>
 CQ o4 (fun o5=>
  some true) (fun o6=>
  some false)
def aEi(s0 s1:List X2)(s6:Int)(s34:Bool)(w5:List X2)(w9:X0):Option ((List X2)):=
 AE (s34) (
  AW (fit w5.length [X2.mk s6 w9].length 48) (
   some (w5++[X2.mk s6 w9]))) (
  some w5)
def aEg(s0 s1:List X2)(s6:Int)(s10 s27:Bool)(w5:List X2)(w7 w9:X0):Option ((List X2)):=
 AE (s27) (
  AW (fit w5.length [X2.mk s6 w7].length 48) (
   some (w5++[X2.mk s6 w7]))) (
  AJ (aEi s0 s1 s6 s10 w5 w9) fun o8=>
  some o8)
def aEe(s0 s1:List X2)(s6:Int)(w5:List X2):Option ((List X2)):=
 AJ (Yh s0 s6) fun r6=>
 AJ (Yh s1 s6) fun r7=>
 AJ (aEg s0 s1 s6 r7.2 r6.2 w5 r6.1 r7.1) fun o9=>
 some o9
def IN(s0 s1:List X2)(s6:Int)(w5:List X2):Option ((Int×List X2)⊕((List X2))):=
 AE (decide (s6<8)) (
  AJ (aEe s0 s1 s6 w5) fun o10=>
  some (.inl ((AA .add .i64 s6 1),o10))) (
  some (.inr w5))
def aLj(s0 s1:List X2)(s6:Int)(w5:List X2):Option ((List X2)):=AR (fun s:Int×List X2=>IN s0 s1 s.1 s.2) (s6,w5)
def Y3(a0 a1:List X2):Option (List X2):=
 AJ (aLj a0 a1 0 ([]:List X2)) fun o11=>
 some o11
def Ie(s0:List X2)(w3:X2)(s5:Int):Option ((Int)⊕(Int)):=
 AE (decide (0<s5)) (
  AX s0 (AA .sub .i64 s5 1) fun x1=>
  AE (decide (w3.var<x1.var)) (
   some (.inl (AA .sub .i64 s5 1))) (
   some (.inr s5))) (
  some (.inr s5))
def aL2(s0:List X2)(w3:X2)(s5:Int):Option (Int):=AR (fun s:Int=>Ie s0 w3 s) s5
def Yz(a0:List X2)(a1:X2):Option (List X2):=
 AJ (aL2 a0 a1 (a0.length:Int)) fun o2=>
 AW ((0:Int)<=0/\(0:Int)<=o2/\o2<=(a0.length:Int)) (
  AW (fit ([]:List X2).length (sub a0 0 o2).length 48) (
   AW (fit (([]:List X2)++(sub a0 0 o2)).length [a1].length 48) (
    AW ((0:Int)<=o2/\(o2:Int)<=(a0.length:Int)/\(a0.length:Int)<=(a0.length:Int)) (
     AW (fit ((([]:List X2)++(sub a0 0 o2))++[a1]).length (sub a0 o2 (a0.length:Int)).length 48) (
      some (((([]:List X2)++(sub a0 0 o2))++[a1])++(sub a0 o2 (a0.length:Int))))))))
def Th(s1:Int)(s10 s11:List X2)(s12:Int)(s80:Bool)(w5:X8)(w6:Int)(w8:X3)(w9:Aq)(w13:CH)(w14:List X2):Option ((List X2)⊕Unit):=
 AE (s80) (
  AJ (Z4 s10 w14) fun r32=>
  AE (!r32) (
   some (.inr ())) (
   AJ (Y3 s10 w14) fun r33=>
   some (.inl r33))) (
  some (.inl s10))
def Tj(s1:Int)(s10 s11:List X2)(s12:Int)(s111:Bool)(w5:X8)(w6:Int)(w8:X3)(w9:Aq)(w14:List X2):Option ((List X2)):=
 AE (s111) (
  AX w14 0 fun x39=>
  AJ (Yz s11 x39) fun r40=>
  some r40) (
  some s11)
def Ti(s1:Int)(s10 s11:List X2)(s12:Int)(s91:Bool)(w5:X8)(w6:Int)(w8:X3)(w9:Aq)(w13:CH)(w14:List X2):Option ((List X2)⊕Unit):=
 AE (s91) (
  AJ (Yh s11 w13.n) fun r37=>
  AE (r37.2) (
   AX w5.args s12 fun x38=>
   AE (!(X0.eqb r37.1 x38)) (
    some (.inr ())) (
    AJ (Tj s1 s10 s11 s12 (!r37.2) w5 w6 w8 w9 w14) fun o41=>
    some (.inl o41))) (
   AJ (Tj s1 s10 s11 s12 (!r37.2) w5 w6 w8 w9 w14) fun o42=>
   some (.inl o42))) (
  some (.inl s11))
def aCv(s1:Int)(s10 s11:List X2)(s12:Int)(w5:X8)(w6:Int)(w8:X3)(w9:Aq):Option ((List X2×List X2)⊕Unit):=
 AX w8.args s12 fun x29=>
 AX w5.args s12 fun x30=>
 AE (decide (x29.kind=1)) (
  AX w5.args s12 fun x31=>
  AE (!(X0.eqb x29.value x31)) (
   some (.inr ())) (
   AJ (Th s1 s10 s11 s12 (decide (x29.kind=2)) w5 w6 w8 w9 x29 [X2.mk x29.n x30]) fun o34=>
   CQ o34 (fun o35=>
    AJ (Ti s1 o35 s11 s12 (decide (x29.kind=3)) w5 w6 w8 w9 x29 [X2.mk x29.n x30]) fun o43=>
    CQ o43 (fun o44=>
     some (.inl (o35,o44))) (fun o45=>
     some (.inr ()))) (fun o36=>
    some (.inr ())))) (
  AJ (Th s1 s10 s11 s12 (decide (x29.kind=2)) w5 w6 w8 w9 x29 [X2.mk x29.n x30]) fun o46=>
  CQ o46 (fun o47=>
   AJ (Ti s1 o47 s11 s12 (decide (x29.kind=3)) w5 w6 w8 w9 x29 [X2.mk x29.n x30]) fun o49=>
   CQ o49 (fun o50=>
    some (.inl (o47,o50))) (fun o51=>
    some (.inr ()))) (fun o48=>
   some (.inr ())))
def IB(s1:Int)(w5:X8)(w6:Int)(w8:X3)(w9:Aq)(s10 s11:List X2)(s12:Int):Option ((List X2×List X2×Int)⊕((List X2×List X2)⊕Unit)):=
 AE (decide (s12<(w8.args.length:Int))) (
  AJ (aCv s1 s10 s11 s12 w5 w6 w8 w9) fun o52=>
  CQ o52 (fun o53=>
   some (.inl (o53.1,o53.2,(AA .add .i64 s12 1)))) (fun o54=>
   some (.inr (.inr ())))) (
  some (.inr (.inl (s10,s11))))
def Py(s1:Int)(w5:X8)(w6:Int)(w8:X3)(w9:Aq)(s10 s11:List X2)(s12:Int):Option ((List X2×List X2)⊕Unit):=AR (fun s:List X2×List X2×Int=>IB s1 w5 w6 w8 w9 s.1 s.2.1 s.2.2) (s10,s11,s12)
theorem Od(s1:Int)(w5:X8)(w6:Int)(w8:X3)(w9:Aq)(s10 s11:List X2)(s12:Int):Py s1 w5 w6 w8 w9 s10 s11 s12=CS (IB s1 w5 w6 w8 w9 s10 s11 s12) (fun s:List X2×List X2×Int=>Py s1 w5 w6 w8 w9 s.1 s.2.1 s.2.2):=Ah _ _
def Xo(a0:AD)(a1:Int)(a2:X8):Option (Aq×Bool):=
 AX a0.symbols a1 fun x1=>
 AX a0.decls x1.event fun x2=>
 AE (!decide (x2.name=a2.name)) (
  some (Aq.mk 0 ([]:List X2) ([]:List X2),false)) (
  AE (!decide ((x1.args.length:Int)=(a2.args.length:Int))) (
   some (Aq.mk 0 ([]:List X2) ([]:List X2),false)) (
   AJ (Py a1 a2 0 x1 (Aq.mk 0 ([]:List X2) ([]:List X2)) ([]:List X2) ([]:List X2) 0) fun o55=>
   CQ o55 (fun o56=>
    some (Aq.mk a1 o56.1 o56.2,true)) (fun o57=>
    some ((Aq.mk 0 ([]:List X2) ([]:List X2)),false))))
def aE3(s6:Int)(s23:Bool)(w2:AD)(w3:X8)(w5:List Aq)(w7:Aq):Option ((List Aq)):=
 AE (s23) (
  AW (fit w5.length [w7].length 56) (
   some (w5++[w7]))) (
  some w5)
def aE1(s6:Int)(w2:AD)(w3:X8)(w5:List Aq):Option ((List Aq)):=
 AJ (Xo w2 s6 w3) fun r4=>
 AJ (aE3 s6 r4.2 w2 w3 w5 r4.1) fun o5=>
 some o5
def IR(w2:AD)(w3:X8)(s6:Int)(w5:List Aq):Option ((Int×List Aq)⊕((List Aq))):=
 AE (decide (s6<(w2.symbols.length:Int))) (
  AJ (aE1 s6 w2 w3 w5) fun o6=>
  some (.inl ((AA .add .i64 s6 1),o6))) (
  some (.inr w5))
def aLm(w2:AD)(w3:X8)(s6:Int)(w5:List Aq):Option ((List Aq)):=AR (fun s:Int×List Aq=>IR w2 w3 s.1 s.2) (s6,w5)
def Y9(a0:AD)(a1:X8):Option (List Aq):=
 AJ (aLm a0 a1 0 ([]:List Aq)) fun o7=>
 some o7
def Kl(s0 s1:List X2)(s5:Int):Option ((Int)⊕(Unit⊕Unit)):=
 AE (decide (s5<(s0.length:Int))) (
  AX s0 s5 fun x1=>
  AJ (Yh s1 x1.var) fun r2=>
  AE (!r2.2) (
   some (.inr (.inr ()))) (
   AX s0 s5 fun x3=>
   AE (!(X0.eqb r2.1 x3.value)) (
    some (.inr (.inr ()))) (
    some (.inl (AA .add .i64 s5 1))))) (
  some (.inr (.inl ())))
def aL6(s0 s1:List X2)(s5:Int):Option (Unit⊕Unit):=AR (fun s:Int=>Kl s0 s1 s) s5
def Z5(a0 a1:List X2):Option (Bool):=
 AJ (aL6 a0 a1 0) fun o4=>
 CQ o4 (fun o5=>
  some true) (fun o6=>
  some false)
def aFb(s0:List Aq)(s1:List X2)(s6:Int)(s19:Bool)(w5:List Aq):Option ((List Aq)):=
 AE (s19) (
  AX s0 s6 fun x8=>
  AW (fit w5.length [x8].length 56) (
   some (w5++[x8]))) (
  some w5)
def aE9(s0:List Aq)(s1:List X2)(s6:Int)(w5:List Aq):Option ((List Aq)):=
 AX s0 s6 fun x6=>
 AJ (Z5 x6.bind s1) fun r7=>
 AJ (aFb s0 s1 s6 r7 w5) fun o9=>
 some o9
def Ke(s0:List Aq)(s1:List X2)(s6:Int)(w5:List Aq):Option ((Int×List Aq)⊕((List Aq))):=
 AE (decide (s6<(s0.length:Int))) (
  AJ (aE9 s0 s1 s6 w5) fun o10=>
  some (.inl ((AA .add .i64 s6 1),o10))) (
  some (.inr w5))
def aLo(s0:List Aq)(s1:List X2)(s6:Int)(w5:List Aq):Option ((List Aq)):=AR (fun s:Int×List Aq=>Ke s0 s1 s.1 s.2) (s6,w5)
def Yb(a0:List Aq)(a1:List X2):Option (List Aq):=
 AJ (aLo a0 a1 0 ([]:List Aq)) fun o11=>
 some o11
def If(s0:List Aq)(s3 s4:Int):Option ((Int×Int)⊕(Int)):=
 AE (decide (s4<(s0.length:Int))) (
  AX s0 s4 fun x1=>
  AW (0<=(IntKind.wrap .u64 x1.symbol)) (
   some (.inl ((AA .add .u64 s3 (AA .shl .u64 1 (IntKind.wrap .u64 x1.symbol))),(AA .add .i64 s4 1))))) (
  some (.inr s3))
def aL3(s0:List Aq)(s3 s4:Int):Option (Int):=AR (fun s:Int×Int=>If s0 s.1 s.2) (s3,s4)
def Z0(a0:List Aq):Option (Int):=
 AJ (aL3 a0 0 0) fun o2=>
 some o2
def IZ(s0:List Int)(s1 s5:Int):Option ((Int)⊕(Int)):=
 AE (decide (0<s5)) (
  AX s0 (AA .sub .i64 s5 1) fun x1=>
  AE (decide (s1<x1)) (
   some (.inl (AA .sub .i64 s5 1))) (
   some (.inr s5))) (
  some (.inr s5))
def VR(s0:List Int)(s1 s5:Int):Option (Int):=AR (fun s:Int=>IZ s0 s1 s) s5
theorem Ot(s0:List Int)(s1 s5:Int):VR s0 s1 s5=CS (IZ s0 s1 s5) (fun s:Int=>VR s0 s1 s):=Ah _ _
def Yq(a0:List Int)(a1:Int):Option (List Int):=
 AJ (VR a0 a1 (a0.length:Int)) fun o2=>
 AE (decide (0<o2)) (
  AX a0 (AA .sub .i64 o2 1) fun x3=>
  AE (decide (x3=a1)) (
   some a0) (
   AW ((0:Int)<=0/\(0:Int)<=o2/\o2<=(a0.length:Int)) (
    AW (fit ([]:List Int).length (sub a0 0 o2).length 8) (
     AW (fit (([]:List Int)++(sub a0 0 o2)).length [a1].length 8) (
      AW ((0:Int)<=o2/\(o2:Int)<=(a0.length:Int)/\(a0.length:Int)<=(a0.length:Int)) (
       AW (fit ((([]:List Int)++(sub a0 0 o2))++[a1]).length (sub a0 o2 (a0.length:Int)).length 8) (
        some (((([]:List Int)++(sub a0 0 o2))++[a1])++(sub a0 o2 (a0.length:Int)))))))))) (
  AW ((0:Int)<=0/\(0:Int)<=o2/\o2<=(a0.length:Int)) (
   AW (fit ([]:List Int).length (sub a0 0 o2).length 8) (
    AW (fit (([]:List Int)++(sub a0 0 o2)).length [a1].length 8) (
     AW ((0:Int)<=o2/\(o2:Int)<=(a0.length:Int)/\(a0.length:Int)<=(a0.length:Int)) (
      AW (fit ((([]:List Int)++(sub a0 0 o2))++[a1]).length (sub a0 o2 (a0.length:Int)).length 8) (
       some (((([]:List Int)++(sub a0 0 o2))++[a1])++(sub a0 o2 (a0.length:Int)))))))))
def Pw(s1:List X2)(s5:List Int)(s6:Int)(s7:List X8)(s8 s9:Int)(s37:Bool)(w2:AD):Option ((List Int)):=
 AE (s37) (
  AJ (Yq s5 s9) fun r13=>
  some r13) (
  some s5)
def aCo(s1:List X2)(s5:List Int)(s6:Int)(s7:List X8)(s8:Int)(w2:AD):Option ((List Int)):=
 AX s7 s8 fun x9=>
 AJ (Y9 w2 x9) fun r10=>
 AJ (Yb r10 s1) fun r11=>
 AJ (Z0 r11) fun r12=>
 AJ (Pw s1 s5 s6 s7 s8 r12 (!decide (r12=0)) w2) fun o14=>
 some o14
def Gi(s1:List X2)(s6:Int)(s7:List X8)(w2:AD)(s5:List Int)(s8:Int):Option ((List Int×Int)⊕((List Int))):=
 AE (decide (s8<(s7.length:Int))) (
  AJ (aCo s1 s5 s6 s7 s8 w2) fun o18=>
  some (.inl (o18,(AA .add .i64 s8 1)))) (
  some (.inr s5))
def aK3(s1:List X2)(s6:Int)(s7:List X8)(w2:AD)(s5:List Int)(s8:Int):Option ((List Int)):=AR (fun s:List Int×Int=>Gi s1 s6 s7 w2 s.1 s.2) (s5,s8)
def IA(s1:List X2)(w2:AD)(s5:List Int)(s6:Int):Option ((List Int×Int)⊕((List Int))):=
 AE (decide (s6<(w2.decls.length:Int))) (
  AJ (Y6 w2 s6 s1 ([]:List X0) ([]:List X0)) fun r17=>
  AJ (aK3 s1 s6 r17 w2 s5 0) fun o19=>
  some (.inl (o19,(AA .add .i64 s6 1)))) (
  some (.inr s5))
def aK2(s1:List X2)(w2:AD)(s5:List Int)(s6:Int):Option ((List Int)):=AR (fun s:List Int×Int=>IA s1 w2 s.1 s.2) (s5,s6)
def Xm(a0:AD)(a1:List X2):Option (List Int):=
 AJ (aK2 a1 a0 ([]:List Int) 0) fun o20=>
 some o20
def Ib(s1:Int)(w2:AD)(s5:Int):Option ((Int)⊕(Unit⊕Unit)):=
 AE (decide (s5<(w2.states.length:Int))) (
  AW (0<=(IntKind.wrap .u64 s5)) (
   AE (decide ((AA .rem .u32 (AA .shr .u32 s1 (IntKind.wrap .u64 s5)) 2)=1)) (
    AX w2.states s5 fun x1=>
    AE (x1.accept) (
     some (.inr (.inr ()))) (
     some (.inl (AA .add .i64 s5 1)))) (
    some (.inl (AA .add .i64 s5 1))))) (
  some (.inr (.inl ())))
def aLx(s1:Int)(w2:AD)(s5:Int):Option (Unit⊕Unit):=AR (fun s:Int=>Ib s1 w2 s) s5
def Yu(a0:AD)(a1:Int):Option (Bool):=
 AJ (aLx a1 a0 0) fun o2=>
 CQ o2 (fun o3=>
  some false) (fun o4=>
  some true)
def Sp(s1 s2:Int)(s7 s8:Int)(s9 s10:Int)(s49:Bool)(w3:AD)(w11:Xc):Option (Int):=
 AE (s49) (
  AW (0<=(IntKind.wrap .u64 w11.to)) (
   some (AA .or .u32 s9 (AA .shl .u32 1 (IntKind.wrap .u64 w11.to))))) (
  some s9)
def aBo(s1 s2:Int)(s7 s8:Int)(s9 s10:Int)(w3:AD):Option (Int):=
 AX w3.trans s10 fun x1=>
 AE (decide (x1.from_=s8)) (
  AW (0<=(IntKind.wrap .u64 x1.symbol)) (
   AJ (Sp s1 s2 s7 s8 s9 s10 (decide ((AA .rem .u64 (AA .shr .u64 s2 (IntKind.wrap .u64 x1.symbol)) 2)=1)) w3 x1) fun o2=>
   some o2)) (
  AJ (Sp s1 s2 s7 s8 s9 s10 false w3 x1) fun o3=>
  some o3)
def Hx(s1 s2:Int)(s7 s8:Int)(w3:AD)(s9 s10:Int):Option ((Int×Int)⊕(Int)):=
 AE (decide (s10<(w3.trans.length:Int))) (
  AJ (aBo s1 s2 s7 s8 s9 s10 w3) fun o4=>
  some (.inl (o4,(AA .add .i64 s10 1)))) (
  some (.inr s9))
def aBr(s1 s2:Int)(s7 s8:Int)(w3:AD)(s9 s10:Int):Option (Int):=AR (fun s:Int×Int=>Hx s1 s2 s7 s8 w3 s.1 s.2) (s9,s10)
def ND(s1 s2:Int)(s7 s8 s9:Int)(s66:Bool)(w3:AD):Option (Int):=
 AE (s66) (
  AW (0<=(IntKind.wrap .u64 s8)) (
   some (AA .shl .u32 1 (IntKind.wrap .u64 s8)))) (
  some s9)
def aBm(s1 s2:Int)(s7 s8:Int)(w3:AD):Option (Int):=
 AW (0<=(IntKind.wrap .u64 s8)) (
  AE (decide ((AA .rem .u32 (AA .shr .u32 s1 (IntKind.wrap .u64 s8)) 2)=0)) (
   some s7) (
   AJ (aBr s1 s2 s7 s8 w3 0 0) fun o5=>
   AE (decide (o5=0)) (
    AX w3.states s8 fun x6=>
    AJ (ND s1 s2 s7 s8 o5 (!x6.next) w3) fun o7=>
    some (AA .or .u32 s7 o7)) (
    AJ (ND s1 s2 s7 s8 o5 false w3) fun o8=>
    some (AA .or .u32 s7 o8))))
def Gb(s1 s2:Int)(w3:AD)(s7 s8:Int):Option ((Int×Int)⊕(Int)):=
 AE (decide (s8<(w3.states.length:Int))) (
  AJ (aBm s1 s2 s7 s8 w3) fun o9=>
  some (.inl (o9,(AA .add .i64 s8 1)))) (
  some (.inr s7))
def aKt(s1 s2:Int)(w3:AD)(s7 s8:Int):Option (Int):=AR (fun s:Int×Int=>Gb s1 s2 w3 s.1 s.2) (s7,s8)
def Xf(a0:AD)(a1 a2:Int):Option (Int):=
 AJ (aKt a1 a2 a0 0 0) fun o10=>
 some o10
def Ip(s0:List Int)(s1 s5:Int):Option ((Int)⊕(Unit⊕Unit)):=
 AE (decide (s5<(s0.length:Int))) (
  AX s0 s5 fun x1=>
  AE (decide (x1=s1)) (
   some (.inr (.inr ()))) (
   some (.inl (AA .add .i64 s5 1)))) (
  some (.inr (.inl ())))
def aMd(s0:List Int)(s1 s5:Int):Option (Unit⊕Unit):=AR (fun s:Int=>Ip s0 s1 s) s5
def Zd(a0:List Int)(a1:Int):Option (Bool):=
 AJ (aMd a0 a1 0) fun o2=>
 CQ o2 (fun o3=>
  some false) (fun o4=>
  some true)
def aDg(s3:Bool)(s9:List Int)(s12 s13 s14:Int)(s58:Bool)(w4:AD)(w10 w11:List Int):Option ((List Int×List Int)):=
 AE (s58) (
  AW (fit w10.length [s14].length 4) (
   AX w11 s12 fun x9=>
   AW (fit w11.length [(AA .add .i64 x9 1)].length 8) (
    some (w10++[s14],w11++[(AA .add .i64 x9 1)])))) (
  some (w10,w11))
def aDe(s3:Bool)(s9:List Int)(s12 s13:Int)(w4:AD)(w10 w11:List Int):Option ((List Int×List Int)):=
 AX w10 s12 fun x5=>
 AX s9 s13 fun x6=>
 AJ (Xf w4 x5 x6) fun r7=>
 AJ (Zd w10 r7) fun r8=>
 AJ (aDg s3 s9 s12 s13 r7 (!r8) w4 w10 w11) fun o10=>
 some (o10.1,o10.2)
def IE(s3:Bool)(s9:List Int)(s12:Int)(w4:AD)(s13:Int)(w10 w11:List Int):Option ((Int×List Int×List Int)⊕((List Int×List Int))):=
 AE (decide (s13<(s9.length:Int))) (
  AJ (aDe s3 s9 s12 s13 w4 w10 w11) fun o11=>
  some (.inl ((AA .add .i64 s13 1),o11.1,o11.2))) (
  some (.inr (w10,w11)))
def aK8(s3:Bool)(s9:List Int)(s12:Int)(w4:AD)(s13:Int)(w10 w11:List Int):Option ((List Int×List Int)):=AR (fun s:Int×List Int×List Int=>IE s3 s9 s12 w4 s.1 s.2.1 s.2.2) (s13,w10,w11)
def Gn(s3:Bool)(s9:List Int)(w4:AD)(s12:Int)(w10 w11:List Int):Option ((Int×List Int×List Int)⊕(Unit⊕Int)):=
 AE (decide (s12<(w10.length:Int))) (
  AX w10 s12 fun x2=>
  AJ (Yu w4 x2) fun r3=>
  AE ((r3==s3)) (
   AX w11 s12 fun x4=>
   some (.inr (.inr x4))) (
   AJ (aK8 s3 s9 s12 w4 0 w10 w11) fun o12=>
   some (.inl ((AA .add .i64 s12 1),o12.1,o12.2)))) (
  some (.inr (.inl ())))
def aK7(s3:Bool)(s9:List Int)(w4:AD)(s12:Int)(w10 w11:List Int):Option (Unit⊕Int):=AR (fun s:Int×List Int×List Int=>Gn s3 s9 w4 s.1 s.2.1 s.2.2) (s12,w10,w11)
def Xu(a0:AD)(a1:List X2)(a2:Int)(a3:Bool):Option (Int):=
 AJ (Xm a0 a1) fun r1=>
 AJ (aK7 a3 r1 a0 0 [a2] [0]) fun o13=>
 CQ o13 (fun o14=>
  some (-1)) (fun o15=>
  some o15)
def IK(s1:List X2)(s3:Bool)(s9:List Int)(s10:Bool)(s11:Int)(s12:List Int)(s13 s14:Int)(w4:AD)(s15:Bool)(s16:Int):Option ((Bool×Int)⊕(Bool⊕Unit)):=
 AE (decide (s16<(s12.length:Int))) (
  AX s12 s16 fun x8=>
  AX s9 s14 fun x9=>
  AE (decide (x8<x9)) (
   AX s12 s16 fun x10=>
   AJ (Xf w4 s13 x10) fun r11=>
   AJ (Xu w4 s1 r11 s3) fun r12=>
   AE (decide (r12=(AA .sub .i64 (AA .sub .i64 s11 s14) 1))) (
    some (.inr (.inr ()))) (
    AE (s15) (
     some (.inl (true,(AA .add .i64 s16 1)))) (
     AX s12 s16 fun x13=>
     AX s9 s14 fun x14=>
     some (.inl (decide (x13=x14),(AA .add .i64 s16 1)))))) (
   AE (s15) (
    some (.inl (true,(AA .add .i64 s16 1)))) (
    AX s12 s16 fun x15=>
    AX s9 s14 fun x16=>
    some (.inl (decide (x15=x16),(AA .add .i64 s16 1)))))) (
  some (.inr (.inl s15)))
def aLi(s1:List X2)(s3:Bool)(s9:List Int)(s10:Bool)(s11:Int)(s12:List Int)(s13 s14:Int)(w4:AD)(s15:Bool)(s16:Int):Option (Bool⊕Unit):=AR (fun s:Bool×Int=>IK s1 s3 s9 s10 s11 s12 s13 s14 w4 s.1 s.2) (s15,s16)
def IJ(s1:List X2)(s3:Bool)(s9:List Int)(s10:Bool)(s11:Int)(s12:List Int)(w4:AD)(s13 s14:Int):Option ((Int×Int)⊕(Int⊕Unit)):=
 AE (decide (s14<(s9.length:Int))) (
  AJ (aLi s1 s3 s9 s10 s11 s12 s13 s14 w4 false 0) fun o17=>
  CQ o17 (fun o18=>
   AE (!o18) (
    some (.inr (.inr ()))) (
    AX s9 s14 fun x20=>
    AJ (Xf w4 s13 x20) fun r21=>
    some (.inl (r21,(AA .add .i64 s14 1))))) (fun o19=>
   some (.inr (.inr ())))) (
  some (.inr (.inl s13)))
def aLh(s1:List X2)(s3:Bool)(s9:List Int)(s10:Bool)(s11:Int)(s12:List Int)(w4:AD)(s13 s14:Int):Option (Int⊕Unit):=AR (fun s:Int×Int=>IJ s1 s3 s9 s10 s11 s12 w4 s.1 s.2) (s13,s14)
def Y0(a0:AD)(a1:List X2)(a2:Int)(a3:Bool):Option (Bool):=
 AJ (Qk a0 a1) fun r1=>
 AE (!r1) (
  AJ (Zp) fun r2=>
  some r2) (
  AW (0<=(IntKind.wrap .u64 (a0.states.length:Int))) (
   AE (decide ((AA .shl .u32 1 (IntKind.wrap .u64 (a0.states.length:Int)))<=a2)) (
    AJ (Zp) fun r3=>
    some r3) (
    AJ (Yr a0 a1 a2 a3) fun r4=>
    AJ (Xu a0 a1 a2 a3) fun r5=>
    AE (decide (r5<0)) (
     AE (decide ((r4.1.length:Int)=0)) (
      AE (!r4.2) (
       AJ (Zp) fun r6=>
       some r6) (
       some false)) (
      some false)) (
     AJ (Xm a0 a1) fun r7=>
     AJ (aLh a1 a3 r4.1 r4.2 r5 r7 a0 a2 0) fun o22=>
     CQ o22 (fun o23=>
      AE (r4.2) (
       AE (decide ((r4.1.length:Int)=r5)) (
        AJ (Yu a0 o23) fun r25=>
        AE ((r25==a3)) (
         AJ (Zp) fun r26=>
         some r26) (
         some false)) (
        some false)) (
       some false)) (fun o24=>
      some false)))))
end
end Go.Ac
