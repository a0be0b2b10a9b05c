/- Own work, printed: the functions as Lean functions. -/
import Derived.Test.YthaljpcbnneidaaGreatAcC
set_option linter.unusedVariables false
set_option linter.unusedSimpArgs false
namespace Go.Ac
noncomputable section
abbrev aQ7(P:Program)(rd:Option Nat)(root:Code)(p:List Nat)(s:St)(x:Ex×St):Prop:=C4 P rd root p s x.1 x.2
abbrev dI(x:Int):A:=.d (D.i .i64 x)
abbrev sI(n:Nat)(x:Int):Nat×A:=(n,dI x)
abbrev sD{α:Type}(n:Nat)(f:α->D)(x:α):Nat×A:=(n,.d (f x))
abbrev bx(n:Nat):Nat×A:=(n,.box n 0)
abbrev rx(n:Nat):Nat×A:=(n,.row n)
abbrev cL{α:Type}(n:Nat)(f:α->D)(x:α):Nat×Bk:=(n,.cells (aLw (f x)))
abbrev rW{α:Type}(n e k:Nat)(f:α->D)(x:List α):Nat×Bk:=(n,.rw e k (x.map f))
abbrev eP{α:Type}(n:Nat)(f:α->D)(x:α):Nat×A:=(n,.eptr (D.cells (f x)))
abbrev dU:Int->D:=D.i .u64
abbrev dW:Int->D:=D.i .u32
abbrev dZ:Int->D:=D.i .i64
abbrev bT(n:Nat):Nat×W:=(n,.bit true)
abbrev bF(n:Nat):Nat×W:=(n,.bit false)
structure X7 where
 name:List UInt8
 types:List Int
 deriving DecidableEq
def X7.D(v:X7):D:=.agg ([D.s v.name]++[(D.l (D.i .i64)) v.types])
instance :Bp X7.D 2:=⟨fun _=>rfl⟩
structure Xt where
 all:Bool
 name:List UInt8
 type:Int
def Xt.D(v:Xt):D:=.agg ([D.b v.all]++[D.s v.name]++[(D.i .i64) v.type])
instance :Bp Xt.D 3:=⟨fun _=>rfl⟩
def Xt.eqb(a b:Xt):Bool:=((a.all==b.all)&&(decide (a.name=b.name)&&(decide (a.type=b.type)&&true)))
theorem Xt.eqb_iff(a b:Xt):Xt.eqb a b=true↔a=b:=by cases a;cases b;simp[Xt.eqb]
instance :DecidableEq Xt:=fun a b=>decidable_of_iff (Xt.eqb a b=true) (Xt.eqb_iff a b)
structure X0 where
 kind:Int
 int:Int
 str:List UInt8
 bool:Bool
def X0.D(v:X0):D:=.agg ([(D.i .i64) v.kind]++[(D.i .i64) v.int]++[D.s v.str]++[D.b v.bool])
instance :Bp X0.D 4:=⟨fun _=>rfl⟩
def X0.eqb(a b:X0):Bool:=(decide (a.kind=b.kind)&&(decide (a.int=b.int)&&(decide (a.str=b.str)&&((a.bool==b.bool)&&true))))
theorem X0.eqb_iff(a b:X0):X0.eqb a b=true↔a=b:=by cases a;cases b;simp[X0.eqb]
instance :DecidableEq X0:=fun a b=>decidable_of_iff (X0.eqb a b=true) (X0.eqb_iff a b)
structure Xw where
 name:List UInt8
 init_:X0
def Xw.D(v:Xw):D:=.agg ([D.s v.name]++(X0.D v.init_).cells)
instance :Bp Xw.D 5:=⟨fun _=>rfl⟩
def Xw.eqb(a b:Xw):Bool:=(decide (a.name=b.name)&&(X0.eqb a.init_ b.init_&&true))
theorem Xw.eqb_iff(a b:Xw):Xw.eqb a b=true↔a=b:=by cases a;cases b;simp[Xw.eqb,X0.eqb_iff]
instance :DecidableEq Xw:=fun a b=>decidable_of_iff (Xw.eqb a b=true) (Xw.eqb_iff a b)
structure Xd where
 name:List UInt8
 next:Bool
 accept:Bool
def Xd.D(v:Xd):D:=.agg ([D.s v.name]++[D.b v.next]++[D.b v.accept])
instance :Bp Xd.D 3:=⟨fun _=>rfl⟩
def Xd.eqb(a b:Xd):Bool:=(decide (a.name=b.name)&&((a.next==b.next)&&((a.accept==b.accept)&&true)))
theorem Xd.eqb_iff(a b:Xd):Xd.eqb a b=true↔a=b:=by cases a;cases b;simp[Xd.eqb]
instance :DecidableEq Xd:=fun a b=>decidable_of_iff (Xd.eqb a b=true) (Xd.eqb_iff a b)
structure BJ where
 kind:Int
 n:Int
 value:X0
def BJ.D(v:BJ):D:=.agg ([(D.i .i64) v.kind]++[(D.i .i64) v.n]++(X0.D v.value).cells)
instance :Bp BJ.D 6:=⟨fun _=>rfl⟩
def BJ.eqb(a b:BJ):Bool:=(decide (a.kind=b.kind)&&(decide (a.n=b.n)&&(X0.eqb a.value b.value&&true)))
theorem BJ.eqb_iff(a b:BJ):BJ.eqb a b=true↔a=b:=by cases a;cases b;simp[BJ.eqb,X0.eqb_iff]
instance :DecidableEq BJ:=fun a b=>decidable_of_iff (BJ.eqb a b=true) (BJ.eqb_iff a b)
structure X8 where
 event:Int
 args:List BJ
 deriving DecidableEq
def X8.D(v:X8):D:=.agg ([(D.i .i64) v.event]++[(D.l BJ.D) v.args])
instance :Bp X8.D 2:=⟨fun _=>rfl⟩
structure Yc where
 op:Int
 a:Int
 b:Int
 value:X0
def Yc.D(v:Yc):D:=.agg ([(D.i .i64) v.op]++[(D.i .i64) v.a]++[(D.i .i64) v.b]++(X0.D v.value).cells)
instance :Bp Yc.D 7:=⟨fun _=>rfl⟩
def Yc.eqb(a b:Yc):Bool:=(decide (a.op=b.op)&&(decide (a.a=b.a)&&(decide (a.b=b.b)&&(X0.eqb a.value b.value&&true))))
theorem Yc.eqb_iff(a b:Yc):Yc.eqb a b=true↔a=b:=by cases a;cases b;simp[Yc.eqb,X0.eqb_iff]
instance :DecidableEq Yc:=fun a b=>decidable_of_iff (Yc.eqb a b=true) (Yc.eqb_iff a b)
structure DN where
 free:Int
 expr:Int
def DN.D(v:DN):D:=.agg ([(D.i .i64) v.free]++[(D.i .i64) v.expr])
instance :Bp DN.D 2:=⟨fun _=>rfl⟩
def DN.eqb(a b:DN):Bool:=(decide (a.free=b.free)&&(decide (a.expr=b.expr)&&true))
theorem DN.eqb_iff(a b:DN):DN.eqb a b=true↔a=b:=by cases a;cases b;simp[DN.eqb]
instance :DecidableEq DN:=fun a b=>decidable_of_iff (DN.eqb a b=true) (DN.eqb_iff a b)
structure Xe where
 from_:Int
 symbol:Int
 to:Int
 guard:Int
 sets:List DN
 deriving DecidableEq
def Xe.D(v:Xe):D:=.agg ([(D.i .i64) v.from_]++[(D.i .i64) v.symbol]++[(D.i .i64) v.to]++[(D.i .i64) v.guard]++[(D.l DN.D) v.sets])
instance :Bp Xe.D 5:=⟨fun _=>rfl⟩
structure AA where
 name:List UInt8
 decls:List X7
 quants:List Xt
 frees:List Xw
 states:List Xd
 start:Int
 symbols:List X8
 nodes:List Yc
 trans:List Xe
 deriving DecidableEq
def AA.D(v:AA):D:=.agg ([D.s v.name]++[(D.l X7.D) v.decls]++[(D.l Xt.D) v.quants]++[(D.l Xw.D) v.frees]++[(D.l Xd.D) v.states]++[(D.i .i64) v.start]++[(D.l X8.D) v.symbols]++[(D.l Yc.D) v.nodes]++[(D.l Xe.D) v.trans])
instance :Bp AA.D 9:=⟨fun _=>rfl⟩
structure X3 where
 name:List UInt8
 args:List X0
 deriving DecidableEq
def X3.D(v:X3):D:=.agg ([D.s v.name]++[(D.l X0.D) v.args])
instance :Bp X3.D 2:=⟨fun _=>rfl⟩
structure X2 where
 var:Int
 value:X0
def X2.D(v:X2):D:=.agg ([(D.i .i64) v.var]++(X0.D v.value).cells)
instance :Bp X2.D 5:=⟨fun _=>rfl⟩
def X2.eqb(a b:X2):Bool:=(decide (a.var=b.var)&&(X0.eqb a.value b.value&&true))
theorem X2.eqb_iff(a b:X2):X2.eqb a b=true↔a=b:=by cases a;cases b;simp[X2.eqb,X0.eqb_iff]
instance :DecidableEq X2:=fun a b=>decidable_of_iff (X2.eqb a b=true) (X2.eqb_iff a b)
structure AL where
 symbol:Int
 bind:List X2
 frees:List X2
 deriving DecidableEq
def AL.D(v:AL):D:=.agg ([(D.i .i64) v.symbol]++[(D.l X2.D) v.bind]++[(D.l X2.D) v.frees])
instance :Bp AL.D 3:=⟨fun _=>rfl⟩
structure X6 where
 p:Int
 q:Int
def X6.D(v:X6):D:=.agg ([(D.i .u32) v.p]++[(D.i .u32) v.q])
instance :Bp X6.D 2:=⟨fun _=>rfl⟩
def X6.eqb(a b:X6):Bool:=(decide (a.p=b.p)&&(decide (a.q=b.q)&&true))
theorem X6.eqb_iff(a b:X6):X6.eqb a b=true↔a=b:=by cases a;cases b;simp[X6.eqb]
instance :DecidableEq X6:=fun a b=>decidable_of_iff (X6.eqb a b=true) (X6.eqb_iff a b)
structure X5 where
 p:Int
 q:Int
def X5.D(v:X5):D:=.agg ([(D.i .u64) v.p]++[(D.i .u64) v.q])
instance :Bp X5.D 2:=⟨fun _=>rfl⟩
def X5.eqb(a b:X5):Bool:=(decide (a.p=b.p)&&(decide (a.q=b.q)&&true))
theorem X5.eqb_iff(a b:X5):X5.eqb a b=true↔a=b:=by cases a;cases b;simp[X5.eqb]
instance :DecidableEq X5:=fun a b=>decidable_of_iff (X5.eqb a b=true) (X5.eqb_iff a b)
structure Xf where
 p:Int
 q:Int
def Xf.D(v:Xf):D:=.agg ([(D.i .u32) v.p]++[(D.i .u32) v.q])
instance :Bp Xf.D 2:=⟨fun _=>rfl⟩
def Xf.eqb(a b:Xf):Bool:=(decide (a.p=b.p)&&(decide (a.q=b.q)&&true))
theorem Xf.eqb_iff(a b:Xf):Xf.eqb a b=true↔a=b:=by cases a;cases b;simp[Xf.eqb]
instance :DecidableEq Xf:=fun a b=>decidable_of_iff (Xf.eqb a b=true) (Xf.eqb_iff a b)
structure X4 where
 state:Int
 vals:List X0
 deriving DecidableEq
def X4.D(v:X4):D:=.agg ([(D.i .i64) v.state]++[(D.l X0.D) v.vals])
instance :Bp X4.D 2:=⟨fun _=>rfl⟩
structure Xc where
 from_:X6
 by_:X5
def Xc.D(v:Xc):D:=.agg ((X6.D v.from_).cells++(X5.D v.by_).cells)
instance :Bp Xc.D 4:=⟨fun _=>rfl⟩
def Xc.eqb(a b:Xc):Bool:=(X6.eqb a.from_ b.from_&&(X5.eqb a.by_ b.by_&&true))
theorem Xc.eqb_iff(a b:Xc):Xc.eqb a b=true↔a=b:=by cases a;cases b;simp[Xc.eqb,X6.eqb_iff,X5.eqb_iff]
instance :DecidableEq Xc:=fun a b=>decidable_of_iff (Xc.eqb a b=true) (Xc.eqb_iff a b)
def GF(w1:AA)(s3:Int):Option ((Int)⊕(Unit⊕Unit)):=
 AE (decide (s3<(w1.decls.length:Int))) (
  AZ w1.decls s3 fun x1=>
  AE (decide (12<(x1.types.length:Int))) (
   some (.inr (.inr ()))) (
   AZ w1.decls s3 fun x2=>
   AE (decide (100<(x2.name.length:Int))) (
    some (.inr (.inr ()))) (
    some (.inl (AB .add .i64 s3 1))))) (
  some (.inr (.inl ())))
def aGq(w1:AA)(s3:Int):Option (Unit⊕Unit):=AT (fun s:Int=>GF w1 s) s3
def GH(s4:Int)(w1:AA)(s5:Int):Option ((Int)⊕(Unit⊕Unit)):=
 AZ w1.symbols s4 fun x7=>
 AE (decide (s5<(x7.args.length:Int))) (
  AZ w1.symbols s4 fun x8=>
  AZ x8.args s5 fun x9=>
  AE (decide (100<(x9.value.str.length:Int))) (
   some (.inr (.inr ()))) (
   some (.inl (AB .add .i64 s5 1)))) (
  some (.inr (.inl ())))
def aGs(s4:Int)(w1:AA)(s5:Int):Option (Unit⊕Unit):=AT (fun s:Int=>GH s4 w1 s) s5
def GG(w1:AA)(s4:Int):Option ((Int)⊕(Unit⊕Unit)):=
 AE (decide (s4<(w1.symbols.length:Int))) (
  AZ w1.symbols s4 fun x6=>
  AE (decide (12<(x6.args.length:Int))) (
   some (.inr (.inr ()))) (
   AH (aGs s4 w1 0) fun o10=>
   Ax o10 (fun o11=>
    some (.inl (AB .add .i64 s4 1))) (fun o12=>
    some (.inr (.inr ()))))) (
  some (.inr (.inl ())))
def aGr(w1:AA)(s4:Int):Option (Unit⊕Unit):=AT (fun s:Int=>GG w1 s) s4
def GI(w1:AA)(s6:Int):Option ((Int)⊕(Unit⊕Unit)):=
 AE (decide (s6<(w1.frees.length:Int))) (
  AZ w1.frees s6 fun x16=>
  AE (decide (100<(x16.init_.str.length:Int))) (
   some (.inr (.inr ()))) (
   some (.inl (AB .add .i64 s6 1)))) (
  some (.inr (.inl ())))
def aGt(w1:AA)(s6:Int):Option (Unit⊕Unit):=AT (fun s:Int=>GI w1 s) s6
def GJ(w1:AA)(s7:Int):Option ((Int)⊕(Unit⊕Unit)):=
 AE (decide (s7<(w1.nodes.length:Int))) (
  AZ w1.nodes s7 fun x20=>
  AE (decide (100<(x20.value.str.length:Int))) (
   some (.inr (.inr ()))) (
   some (.inl (AB .add .i64 s7 1)))) (
  some (.inr (.inl ())))
def aGu(w1:AA)(s7:Int):Option (Unit⊕Unit):=AT (fun s:Int=>GJ w1 s) s7
def GK(w1:AA)(s8:Int):Option ((Int)⊕(Unit⊕Unit)):=
 AE (decide (s8<(w1.trans.length:Int))) (
  AZ w1.trans s8 fun x24=>
  AE (decide (12<(x24.sets.length:Int))) (
   some (.inr (.inr ()))) (
   some (.inl (AB .add .i64 s8 1)))) (
  some (.inr (.inl ())))
def aGv(w1:AA)(s8:Int):Option (Unit⊕Unit):=AT (fun s:Int=>GK w1 s) s8
def Xg(a0:AA):Option (Int):=
 AE (decide (12<(a0.decls.length:Int))) (
  some 0) (
  AE (decide (9<(a0.quants.length:Int))) (
   some 0) (
   AE (decide (12<(a0.frees.length:Int))) (
    some 0) (
    AE (decide (12<(a0.states.length:Int))) (
     some 0) (
     AE (decide (12<(a0.symbols.length:Int))) (
      some 0) (
      AE (decide (12<(a0.trans.length:Int))) (
       some 0) (
       AE (decide (40<(a0.nodes.length:Int))) (
        some 0) (
        AE (decide (100<(a0.name.length:Int))) (
         some 0) (
         AH (aGq a0 0) fun o3=>
         Ax o3 (fun o4=>
          AH (aGr a0 0) fun o13=>
          Ax o13 (fun o14=>
           AH (aGt a0 0) fun o17=>
           Ax o17 (fun o18=>
            AH (aGu a0 0) fun o21=>
            Ax o21 (fun o22=>
             AH (aGv a0 0) fun o25=>
             Ax o25 (fun o26=>
              some 1) (fun o27=>
              some 0)) (fun o23=>
             some 0)) (fun o19=>
            some 0)) (fun o15=>
           some 0)) (fun o5=>
          some 0)))))))))
def Qv:Option (List (List UInt8)):=
 some ([([97,99,99,101,112,116]:List UInt8),([97,108,115,111]:List UInt8),([97,110,100]:List UInt8),([98,111,111,108]:List UInt8),([100,111]:List UInt8),([101,118,101,110,116]:List UInt8),([101,120,105,115,116,115]:List UInt8),([102,97,108,115,101]:List UInt8),([102,111,114,97,108,108]:List UInt8),([102,114,101,101]:List UInt8),([105,102]:List UInt8),([105,110,116]:List UInt8),([110,101,120,116]:List UInt8),([110,111,116]:List UInt8),([111,110]:List UInt8),([111,114]:List UInt8),([113,101,97]:List UInt8),([115,107,105,112]:List UInt8),([115,116,97,114,116]:List UInt8),([115,116,114,105,110,103]:List UInt8),([116,111]:List UInt8),([116,114,117,101]:List UInt8)])
def Gz(s0:List UInt8)(s3:Int):Option ((Int)⊕(Unit⊕Unit)):=
 AE (decide (s3<(s0.length:Int))) (
  AZ s0 s3 fun x1=>
  AE (decide (((65:UInt8).toNat:Int)<=(x1.toNat:Int))) (
   AE (decide ((x1.toNat:Int)<=((90:UInt8).toNat:Int))) (
    some (.inl (AB .add .i64 s3 1))) (
    AE (decide (((97:UInt8).toNat:Int)<=(x1.toNat:Int))) (
     AE (decide ((x1.toNat:Int)<=((122:UInt8).toNat:Int))) (
      some (.inl (AB .add .i64 s3 1))) (
      AE (!(decide ((x1.toNat:Int)=((95:UInt8).toNat:Int)))) (
       AE (decide (s3=0)) (
        some (.inr (.inr ()))) (
        AE (decide ((x1.toNat:Int)<((48:UInt8).toNat:Int))) (
         some (.inr (.inr ()))) (
         AE (decide (((57:UInt8).toNat:Int)<(x1.toNat:Int))) (
          some (.inr (.inr ()))) (
          some (.inl (AB .add .i64 s3 1)))))) (
       some (.inl (AB .add .i64 s3 1))))) (
     AE (!(decide ((x1.toNat:Int)=((95:UInt8).toNat:Int)))) (
      AE (decide (s3=0)) (
       some (.inr (.inr ()))) (
       AE (decide ((x1.toNat:Int)<((48:UInt8).toNat:Int))) (
        some (.inr (.inr ()))) (
        AE (decide (((57:UInt8).toNat:Int)<(x1.toNat:Int))) (
         some (.inr (.inr ()))) (
         some (.inl (AB .add .i64 s3 1)))))) (
      some (.inl (AB .add .i64 s3 1)))))) (
   AE (decide (((97:UInt8).toNat:Int)<=(x1.toNat:Int))) (
    AE (decide ((x1.toNat:Int)<=((122:UInt8).toNat:Int))) (
     some (.inl (AB .add .i64 s3 1))) (
     AE (!(decide ((x1.toNat:Int)=((95:UInt8).toNat:Int)))) (
      AE (decide (s3=0)) (
       some (.inr (.inr ()))) (
       AE (decide ((x1.toNat:Int)<((48:UInt8).toNat:Int))) (
        some (.inr (.inr ()))) (
        AE (decide (((57:UInt8).toNat:Int)<(x1.toNat:Int))) (
         some (.inr (.inr ()))) (
         some (.inl (AB .add .i64 s3 1)))))) (
      some (.inl (AB .add .i64 s3 1))))) (
    AE (!(decide ((x1.toNat:Int)=((95:UInt8).toNat:Int)))) (
     AE (decide (s3=0)) (
      some (.inr (.inr ()))) (
      AE (decide ((x1.toNat:Int)<((48:UInt8).toNat:Int))) (
       some (.inr (.inr ()))) (
       AE (decide (((57:UInt8).toNat:Int)<(x1.toNat:Int))) (
        some (.inr (.inr ()))) (
        some (.inl (AB .add .i64 s3 1)))))) (
     some (.inl (AB .add .i64 s3 1)))))) (
  some (.inr (.inl ())))
def aHw(s0:List UInt8)(s3:Int):Option (Unit⊕Unit):=AT (fun s:Int=>Gz s0 s) s3
def Z0(a0:List UInt8):Option (Bool):=
 AE (decide ((a0.length:Int)<1)) (
  some false) (
  AE (decide (32<(a0.length:Int))) (
   some false) (
   AH (aHw a0 0) fun o2=>
   Ax o2 (fun o3=>
    some true) (fun o4=>
    some false)))
def Gp(s0:List UInt8)(s3:List (List UInt8))(s4:Int):Option ((Int)⊕(Unit⊕Unit)):=
 AE (decide (s4<(s3.length:Int))) (
  AZ s3 s4 fun x2=>
  AE (decide (x2=s0)) (
   some (.inr (.inr ()))) (
   some (.inl (AB .add .i64 s4 1)))) (
  some (.inr (.inl ())))
def aHl(s0:List UInt8)(s3:List (List UInt8))(s4:Int):Option (Unit⊕Unit):=AT (fun s:Int=>Gp s0 s3 s) s4
def Yk(a0:List UInt8):Option (Bool):=
 AH (Qv) fun r1=>
 AH (aHl a0 r1 0) fun o3=>
 Ax o3 (fun o4=>
  AH (Z0 a0) fun r6=>
  AE (r6) (
   some (!decide (a0=([95]:List UInt8)))) (
   some false)) (fun o5=>
  some false)
def JJ(s0:List X7)(s1:List UInt8)(s5:Int):Option ((Int)⊕(Unit⊕Int)):=
 AE (decide (s5<(s0.length:Int))) (
  AZ s0 s5 fun x1=>
  AE (decide (x1.name=s1)) (
   some (.inr (.inr s5))) (
   some (.inl (AB .add .i64 s5 1)))) (
  some (.inr (.inl ())))
def aHr(s0:List X7)(s1:List UInt8)(s5:Int):Option (Unit⊕Int):=AT (fun s:Int=>JJ s0 s1 s) s5
def Yu(a0:List X7)(a1:List UInt8):Option (Int):=
 AH (aHr a0 a1 0) fun o2=>
 Ax o2 (fun o3=>
  some (-1)) (fun o4=>
  some o4)
def Da(s0:List X7)(s4 s5:Int):Option ((Int)⊕(Unit⊕Unit)):=
 AZ s0 s4 fun x6=>
 AE (decide (s5<(x6.types.length:Int))) (
  AZ s0 s4 fun x7=>
  AZ x7.types s5 fun x8=>
  AE (decide (x8<1)) (
   some (.inr (.inr ()))) (
   AZ s0 s4 fun x9=>
   AZ x9.types s5 fun x10=>
   AE (decide (3<x10)) (
    some (.inr (.inr ()))) (
    some (.inl (AB .add .i64 s5 1))))) (
  some (.inr (.inl ())))
def ZS(s0:List X7)(s4 s5:Int):Option (Unit⊕Unit):=AT (fun s:Int=>Da s0 s4 s) s5
def DZ(s0:List X7)(s4:Int):Option ((Int)⊕(Unit⊕(Int×Int))):=
 AE (decide (s4<(s0.length:Int))) (
  AZ s0 s4 fun x1=>
  AH (Yk x1.name) fun r2=>
  AE (!r2) (
   some (.inr (.inr (11,s4)))) (
   AZ s0 s4 fun x3=>
   AH (Yu s0 x3.name) fun r4=>
   AE (decide (r4<s4)) (
    some (.inr (.inr (10,s4)))) (
    AZ s0 s4 fun x5=>
    AE (decide (8<(x5.types.length:Int))) (
     some (.inr (.inr (14,s4)))) (
     AH (ZS s0 s4 0) fun o11=>
     Ax o11 (fun o12=>
      some (.inl (AB .add .i64 s4 1))) (fun o13=>
      some (.inr (.inr (8,s4)))))))) (
  some (.inr (.inl ())))
def ZQ(s0:List X7)(s4:Int):Option (Unit⊕(Int×Int)):=AT (fun s:Int=>DZ s0 s) s4
def Xu(a0:List X7):Option (Int×Int):=
 AE (decide (32<(a0.length:Int))) (
  some (14,32)) (
  AH (ZQ a0 0) fun o14=>
  Ax o14 (fun o15=>
   some (0,(-1))) (fun o16=>
   some (o16.1,o16.2)))
def Zi(a0:X0):Option (Bool):=
 AE (decide (a0.kind=1)) (
  AE (decide (a0.str=([]:List UInt8))) (
   some (!a0.bool)) (
   some false)) (
  AE (decide (a0.kind=2)) (
   AE (decide (a0.int=0)) (
    AE (!a0.bool) (
     some (decide ((a0.str.length:Int)<=4096))) (
     some false)) (
    some false)) (
   AE (decide (a0.kind=3)) (
    AE (decide (a0.int=0)) (
     some (decide (a0.str=([]:List UInt8)))) (
     some false)) (
    some false)))
def G2(s0:List (List UInt8))(s1 s5:Int):Option ((Int)⊕(Unit⊕Unit)):=
 AE (decide (s5<s1)) (
  AZ s0 s5 fun x1=>
  AZ s0 s1 fun x2=>
  AE (decide (x1=x2)) (
   some (.inr (.inr ()))) (
   some (.inl (AB .add .i64 s5 1)))) (
  some (.inr (.inl ())))
def aLf(s0:List (List UInt8))(s1 s5:Int):Option (Unit⊕Unit):=AT (fun s:Int=>G2 s0 s1 s) s5
def Z4(a0:List (List UInt8))(a1:Int):Option (Bool):=
 AH (aLf a0 a1 0) fun o3=>
 Ax o3 (fun o4=>
  some false) (fun o5=>
  some true)
def GP(w1:AA)(s4:Int)(w3:List (List UInt8)):Option ((Int×List (List UInt8))⊕((List (List UInt8))⊕Unit)):=
 AE (decide (s4<(w1.quants.length:Int))) (
  AZ w1.quants s4 fun x4=>
  Ai (fit w3.length [x4.name].length 16) (
   AZ w1.quants s4 fun x5=>
   AE (decide (x5.type<1)) (
    some (.inr (.inr ()))) (
    AZ w1.quants s4 fun x6=>
    AE (decide (3<x6.type)) (
     some (.inr (.inr ()))) (
     some (.inl ((AB .add .i64 s4 1),w3++[x4.name])))))) (
  some (.inr (.inl w3)))
def aKh(w1:AA)(s4:Int)(w3:List (List UInt8)):Option ((List (List UInt8))⊕Unit):=AT (fun s:Int×List (List UInt8)=>GP w1 s.1 s.2) (s4,w3)
def GQ(w1:AA)(s5:Int)(w3:List (List UInt8)):Option ((Int×List (List UInt8))⊕((List (List UInt8))⊕Unit)):=
 AE (decide (s5<(w1.frees.length:Int))) (
  AZ w1.frees s5 fun x10=>
  Ai (fit w3.length [x10.name].length 16) (
   AZ w1.frees s5 fun x11=>
   AH (Zi x11.init_) fun r12=>
   AE (!r12) (
    some (.inr (.inr ()))) (
    some (.inl ((AB .add .i64 s5 1),w3++[x10.name]))))) (
  some (.inr (.inl w3)))
def aKi(w1:AA)(s5:Int)(w3:List (List UInt8)):Option ((List (List UInt8))⊕Unit):=AT (fun s:Int×List (List UInt8)=>GQ w1 s.1 s.2) (s5,w3)
def GR(w1:AA)(w3:List (List UInt8))(s6:Int):Option ((Int)⊕(Unit⊕Unit)):=
 AE (decide (s6<(w3.length:Int))) (
  AZ w3 s6 fun x16=>
  AH (Yk x16) fun r17=>
  AE (!r17) (
   some (.inr (.inr ()))) (
   AH (Z4 w3 s6) fun r18=>
   AE (r18) (
    some (.inr (.inr ()))) (
    some (.inl (AB .add .i64 s6 1))))) (
  some (.inr (.inl ())))
def aKj(w1:AA)(w3:List (List UInt8))(s6:Int):Option (Unit⊕Unit):=AT (fun s:Int=>GR w1 w3 s) s6
def GS(w1:AA)(s8:Int)(w7:List (List UInt8)):Option ((Int×List (List UInt8))⊕(Unit⊕Unit)):=
 AE (decide (s8<(w1.states.length:Int))) (
  AZ w1.states s8 fun x26=>
  Ai (fit w7.length [x26.name].length 16) (
   AZ (w7++[x26.name]) s8 fun x27=>
   AH (Yk x27) fun r28=>
   AE (!r28) (
    some (.inr (.inr ()))) (
    AH (Z4 (w7++[x26.name]) s8) fun r29=>
    AE (r29) (
     some (.inr (.inr ()))) (
     some (.inl ((AB .add .i64 s8 1),w7++[x26.name])))))) (
  some (.inr (.inl ())))
def aKk(w1:AA)(s8:Int)(w7:List (List UInt8)):Option (Unit⊕Unit):=AT (fun s:Int×List (List UInt8)=>GS w1 s.1 s.2) (s8,w7)
def Xk(a0:AA):Option (Bool):=
 AH (aKh a0 0 ([]:List (List UInt8))) fun o7=>
 Ax o7 (fun o8=>
  AH (aKi a0 0 o8) fun o13=>
  Ax o13 (fun o14=>
   AH (aKj a0 o14 0) fun o19=>
   Ax o19 (fun o20=>
    AH (aKk a0 0 ([]:List (List UInt8))) fun o30=>
    Ax o30 (fun o31=>
     AH (Yk a0.name) fun r33=>
     some r33) (fun o32=>
     some false)) (fun o21=>
    some false)) (fun o15=>
   some false)) (fun o9=>
  some false)
def Zn(a0:Bool):Option (X0×Int):=
 some (X0.mk 3 0 ([]:List UInt8) a0,0)
def Qo(a0 a1:Int):Option (Int×Bool):=
 AE (decide (0<a1)) (
  AE (decide ((AB .sub .i64 9223372036854775807 a1)<a0)) (
   some (0,false)) (
   AE (decide (a1<0)) (
    AE (decide (a0<(AB .sub .i64 (-9223372036854775808) a1))) (
     some (0,false)) (
     some ((AB .add .i64 a0 a1),true))) (
    some ((AB .add .i64 a0 a1),true)))) (
  AE (decide (a1<0)) (
   AE (decide (a0<(AB .sub .i64 (-9223372036854775808) a1))) (
    some (0,false)) (
    some ((AB .add .i64 a0 a1),true))) (
   some ((AB .add .i64 a0 a1),true)))
def Q7(a0:Int)(a1:Bool):Option (X0×Int):=
 AE (!a1) (
  some (X0.mk 0 0 ([]:List UInt8) false,6)) (
  some (X0.mk 1 a0 ([]:List UInt8) false,0))
def Q4(a0 a1:Int):Option (Int×Bool):=
 AE (decide (a1<0)) (
  AE (decide ((AB .add .i64 9223372036854775807 a1)<a0)) (
   some (0,false)) (
   AE (decide (0<a1)) (
    AE (decide (a0<(AB .add .i64 (-9223372036854775808) a1))) (
     some (0,false)) (
     some ((AB .sub .i64 a0 a1),true))) (
    some ((AB .sub .i64 a0 a1),true)))) (
  AE (decide (0<a1)) (
   AE (decide (a0<(AB .add .i64 (-9223372036854775808) a1))) (
    some (0,false)) (
    some ((AB .sub .i64 a0 a1),true))) (
   some ((AB .sub .i64 a0 a1),true)))
def Qp(a0 a1:Int):Option (Int×Bool):=
 AE (decide (a0=0)) (
  some (0,true)) (
  AE (decide (a1=0)) (
   some (0,true)) (
   AE (decide (a0=(-1))) (
    AH (Q4 0 a1) fun r1=>
    some (r1.1,r1.2)) (
    AE (decide (a1=(-1))) (
     AH (Q4 0 a0) fun r2=>
     some (r2.1,r2.2)) (
     AE (decide (0<a0)) (
      AE (decide (0<a1)) (
       Ai (a1≠0) (
        AE (decide ((AB .quo .i64 9223372036854775807 a1)<a0)) (
         some (0,false)) (
         AE (decide (a1<0)) (
          Ai (a0≠0) (
           AE (decide (a1<(AB .quo .i64 (-9223372036854775808) a0))) (
            some (0,false)) (
            AE (decide (a0<0)) (
             Ai (a1≠0) (
              AE (decide (a0<(AB .quo .i64 (-9223372036854775808) a1))) (
               some (0,false)) (
               Ai (a1≠0) (
                AE (decide (a0<(AB .quo .i64 9223372036854775807 a1))) (
                 some (0,false)) (
                 some ((AB .mul .i64 a0 a1),true)))))) (
             some ((AB .mul .i64 a0 a1),true))))) (
          AE (decide (a0<0)) (
           Ai (a1≠0) (
            AE (decide (a0<(AB .quo .i64 (-9223372036854775808) a1))) (
             some (0,false)) (
             some ((AB .mul .i64 a0 a1),true)))) (
           some ((AB .mul .i64 a0 a1),true)))))) (
       AE (decide (a1<0)) (
        Ai (a0≠0) (
         AE (decide (a1<(AB .quo .i64 (-9223372036854775808) a0))) (
          some (0,false)) (
          AE (decide (a0<0)) (
           Ai (a1≠0) (
            AE (decide (a0<(AB .quo .i64 9223372036854775807 a1))) (
             some (0,false)) (
             some ((AB .mul .i64 a0 a1),true)))) (
           some ((AB .mul .i64 a0 a1),true))))) (
        AE (decide (a0<0)) (
         some ((AB .mul .i64 a0 a1),true)) (
         some ((AB .mul .i64 a0 a1),true))))) (
      AE (decide (a0<0)) (
       AE (decide (0<a1)) (
        Ai (a1≠0) (
         AE (decide (a0<(AB .quo .i64 (-9223372036854775808) a1))) (
          some (0,false)) (
          AE (decide (a1<0)) (
           Ai (a1≠0) (
            AE (decide (a0<(AB .quo .i64 9223372036854775807 a1))) (
             some (0,false)) (
             some ((AB .mul .i64 a0 a1),true)))) (
           some ((AB .mul .i64 a0 a1),true))))) (
        AE (decide (a1<0)) (
         Ai (a1≠0) (
          AE (decide (a0<(AB .quo .i64 9223372036854775807 a1))) (
           some (0,false)) (
           some ((AB .mul .i64 a0 a1),true)))) (
         some ((AB .mul .i64 a0 a1),true)))) (
       some ((AB .mul .i64 a0 a1),true)))))))
def Qq(a0 a1:Int):Option (Int×Int×Int):=
 AE (decide (a1=0)) (
  some (0,0,7)) (
  AE (decide (a1=(-1))) (
   AH (Q4 0 a0) fun r1=>
   AE (!r1.2) (
    some (0,0,6)) (
    some (r1.1,0,0))) (
   Ai (a1≠0) (
    Ai (a1≠0) (
     some ((AB .quo .i64 a0 a1),(AB .rem .i64 a0 a1),0)))))
def Q5(a0 a1 a2:Int):Option (X0×Int):=
 AE (decide (a0=8)) (
  AH (Qo a1 a2) fun r1=>
  AH (Q7 r1.1 r1.2) fun r2=>
  some (r2.1,r2.2)) (
  AE (decide (a0=9)) (
   AH (Q4 a1 a2) fun r3=>
   AH (Q7 r3.1 r3.2) fun r4=>
   some (r4.1,r4.2)) (
   AE (decide (a0=10)) (
    AH (Qp a1 a2) fun r5=>
    AH (Q7 r5.1 r5.2) fun r6=>
    some (r6.1,r6.2)) (
    AH (Qq a1 a2) fun r7=>
    AE (decide (r7.2.2=7)) (
     some (X0.mk 0 0 ([]:List UInt8) false,7)) (
     AE (decide (a0=12)) (
      some (X0.mk 1 r7.2.1 ([]:List UInt8) false,0)) (
      AH (Q7 r7.1 (decide (r7.2.2=0))) fun r8=>
      some (r8.1,r8.2))))))
def E6(s0 s1:List UInt8)(s5:Int):Option ((Int)⊕(Unit⊕Bool)):=
 AE (decide (s5<(s0.length:Int))) (
  AE (decide (s5<(s1.length:Int))) (
   AZ s0 s5 fun x1=>
   AZ s1 s5 fun x2=>
   AE (!decide ((x1.toNat:Int)=(x2.toNat:Int))) (
    AZ s0 s5 fun x3=>
    AZ s1 s5 fun x4=>
    some (.inr (.inr (decide ((x3.toNat:Int)<(x4.toNat:Int)))))) (
    some (.inl (AB .add .i64 s5 1)))) (
   some (.inr (.inl ())))) (
  some (.inr (.inl ())))
def aB6(s0 s1:List UInt8)(s5:Int):Option (Unit⊕Bool):=AT (fun s:Int=>E6 s0 s1 s) s5
def Yr(a0 a1:List UInt8):Option (Bool):=
 AH (aB6 a0 a1 0) fun o5=>
 Ax o5 (fun o6=>
  some (decide ((a0.length:Int)<(a1.length:Int)))) (fun o7=>
  some o7)
def Zq(a0 a1:X0):Option (Bool):=
 AE (!decide (a0.kind=a1.kind)) (
  some (decide (a0.kind<a1.kind))) (
  AE (decide (a0.kind=1)) (
   some (decide (a0.int<a1.int))) (
   AE (decide (a0.kind=2)) (
    AH (Yr a0.str a1.str) fun r1=>
    some r1) (
    AE (!a0.bool) (
     some a1.bool) (
     some false))))
def Zt(a0:Int)(a1 a2:X0):Option (X0×Int):=
 AE (decide (a0<4)) (
  some (X0.mk 0 0 ([]:List UInt8) false,1)) (
  AE (decide (16<a0)) (
   some (X0.mk 0 0 ([]:List UInt8) false,1)) (
   AE (decide (a0=4)) (
    AE (!decide (a1.kind=3)) (
     some (X0.mk 0 0 ([]:List UInt8) false,8)) (
     AH (Zn (!a1.bool)) fun r1=>
     some (r1.1,r1.2))) (
    AE (decide (a0=5)) (
     AE (!decide (a1.kind=1)) (
      some (X0.mk 0 0 ([]:List UInt8) false,8)) (
      AH (Q5 9 0 a1.int) fun r2=>
      some (r2.1,r2.2))) (
     AE (!decide (a1.kind=a2.kind)) (
      some (X0.mk 0 0 ([]:List UInt8) false,8)) (
      AE (decide (a0=13)) (
       AH (Zn (X0.eqb a1 a2)) fun r3=>
       some (r3.1,r3.2)) (
       AE (decide (a0=14)) (
        AH (Zn (!(X0.eqb a1 a2))) fun r4=>
        some (r4.1,r4.2)) (
        AE (decide (a1.kind=3)) (
         AE (decide (a0=6)) (
          AE (a1.bool) (
           AH (Zn a2.bool) fun r5=>
           some (r5.1,r5.2)) (
           AH (Zn false) fun r6=>
           some (r6.1,r6.2))) (
          AE (decide (a0=7)) (
           AE (a1.bool) (
            AH (Zn true) fun r7=>
            some (r7.1,r7.2)) (
            AH (Zn a2.bool) fun r8=>
            some (r8.1,r8.2))) (
           some (X0.mk 0 0 ([]:List UInt8) false,8)))) (
         AE (decide (a0=15)) (
          AH (Zq a1 a2) fun r9=>
          AH (Zn r9) fun r10=>
          some (r10.1,r10.2)) (
          AE (decide (a0=16)) (
           AH (Zq a2 a1) fun r11=>
           AH (Zn (!r11)) fun r12=>
           some (r12.1,r12.2)) (
           AE (decide (a1.kind=1)) (
            AE (decide (8<=a0)) (
             AE (decide (a0<=12)) (
              AH (Q5 a0 a1.int a2.int) fun r13=>
              some (r13.1,r13.2)) (
              AE (decide (a1.kind=2)) (
               AE (decide (a0=8)) (
                AE (decide (4096<(AB .add .i64 (a1.str.length:Int) (a2.str.length:Int)))) (
                 some (X0.mk 0 0 ([]:List UInt8) false,3)) (
                 Ai (a1.str.length+a2.str.length<=9223372036854775807) (
                  some (X0.mk 2 0 (a1.str++a2.str) false,0)))) (
                some (X0.mk 0 0 ([]:List UInt8) false,8))) (
               some (X0.mk 0 0 ([]:List UInt8) false,8)))) (
             AE (decide (a1.kind=2)) (
              AE (decide (a0=8)) (
               AE (decide (4096<(AB .add .i64 (a1.str.length:Int) (a2.str.length:Int)))) (
                some (X0.mk 0 0 ([]:List UInt8) false,3)) (
                Ai (a1.str.length+a2.str.length<=9223372036854775807) (
                 some (X0.mk 2 0 (a1.str++a2.str) false,0)))) (
               some (X0.mk 0 0 ([]:List UInt8) false,8))) (
              some (X0.mk 0 0 ([]:List UInt8) false,8)))) (
            AE (decide (a1.kind=2)) (
             AE (decide (a0=8)) (
              AE (decide (4096<(AB .add .i64 (a1.str.length:Int) (a2.str.length:Int)))) (
               some (X0.mk 0 0 ([]:List UInt8) false,3)) (
               Ai (a1.str.length+a2.str.length<=9223372036854775807) (
                some (X0.mk 2 0 (a1.str++a2.str) false,0)))) (
              some (X0.mk 0 0 ([]:List UInt8) false,8))) (
             some (X0.mk 0 0 ([]:List UInt8) false,8)))))))))))))
def Q8(a0 a1 a2:Int):Option (Int):=
 AE (decide (a1<1)) (
  some 0) (
  AE (!decide (a1=a2)) (
   some 0) (
   AH (Zt a0 (X0.mk a1 0 ([]:List UInt8) false) (X0.mk a2 0 ([]:List UInt8) false)) fun r1=>
   AE (decide (r1.2=7)) (
    some 1) (
    AE (!decide (r1.2=0)) (
     some 0) (
     some r1.1.kind))))
def aHx(self:AA->Int->Option (Int×Int×Int))(a0:AA)(a1:Int):Option (Int×Int×Int):=
 AE (decide (a1<0)) (
  some (0,0,0)) (
  AE (decide ((a0.nodes.length:Int)<=a1)) (
   some (0,0,0)) (
   AZ a0.nodes a1 fun x1=>
   AE (decide (x1.op=1)) (
    AE (!decide (x1.a=0)) (
     some (0,0,0)) (
     AE (!decide (x1.b=0)) (
      some (0,0,0)) (
      AH (Zi x1.value) fun r2=>
      AE (!r2) (
       some (0,0,0)) (
       some (x1.value.kind,1,a1))))) (
    AE (!(X0.eqb x1.value (X0.mk 0 0 ([]:List UInt8) false))) (
     some (0,0,0)) (
     AE (decide (x1.op=2)) (
      AE (decide (x1.a<0)) (
       some (0,0,0)) (
       AE (decide ((a0.quants.length:Int)<=x1.a)) (
        some (0,0,0)) (
        AE (!decide (x1.b=0)) (
         some (0,0,0)) (
         AZ a0.quants x1.a fun x3=>
         some (x3.type,1,a1))))) (
      AE (decide (x1.op=3)) (
       AE (decide (x1.a<0)) (
        some (0,0,0)) (
        AE (decide ((a0.frees.length:Int)<=x1.a)) (
         some (0,0,0)) (
         AE (!decide (x1.b=0)) (
          some (0,0,0)) (
          AZ a0.frees x1.a fun x4=>
          some (x4.init_.kind,1,a1))))) (
       AE (decide (x1.op<4)) (
        some (0,0,0)) (
        AE (decide (16<x1.op)) (
         some (0,0,0)) (
         AH (self a0 (AB .sub .i64 a1 1)) fun r5=>
         AE (decide (x1.op<=5)) (
          AE (decide (r5.1=0)) (
           some (0,0,0)) (
           AE (!decide (x1.a=(AB .sub .i64 a1 1))) (
            some (0,0,0)) (
            AE (!decide (x1.b=0)) (
             some (0,0,0)) (
             AH (Q8 x1.op r5.1 r5.1) fun r6=>
             some (r6,(AB .add .i64 r5.2.1 1),r5.2.2))))) (
          AE (decide (r5.1=0)) (
           some (0,0,0)) (
           AE (!decide (x1.b=(AB .sub .i64 a1 1))) (
            some (0,0,0)) (
            AE (!decide (x1.a=(AB .sub .i64 r5.2.2 1))) (
             some (0,0,0)) (
             AH (self a0 (AB .sub .i64 r5.2.2 1)) fun r7=>
             AH (Q8 x1.op r7.1 r5.1) fun r8=>
             some (r8,(AB .add .i64 (K5 r5.2.1 r7.2.1) 1),r7.2.2)))))))))))))
def aFd:Nat->AA->Int->Option (Int×Int×Int)
 |0=>fun _ _=>none
 |n+1=>fun a0 a1=>aHx (aFd n) a0 a1
def Z1(a0:AA)(a1:Int):Option (Int×Int×Int):=aFd 100000 a0 a1
def Qa(a0:AA)(a1 a2:Int):Option (Int×Int):=
 AH (Z1 a0 a2) fun r1=>
 AE (decide (r1.1=0)) (
  some (0,0)) (
  AE (!decide (r1.2.2=a1)) (
   some (0,0)) (
   some (r1.1,r1.2.1)))
def Gv(s1:Int)(w2:X8)(s5:Int):Option ((Int)⊕(Unit⊕Unit)):=
 AE (decide (s5<(w2.args.length:Int))) (
  AZ w2.args s5 fun x1=>
  AE (decide (x1.kind=2)) (
   AZ w2.args s5 fun x2=>
   AE (decide (x2.n=s1)) (
    some (.inr (.inr ()))) (
    some (.inl (AB .add .i64 s5 1)))) (
   some (.inl (AB .add .i64 s5 1)))) (
  some (.inr (.inl ())))
def aHs(s1:Int)(w2:X8)(s5:Int):Option (Unit⊕Unit):=AT (fun s:Int=>Gv s1 w2 s) s5
def Yw(a0:X8)(a1:Int):Option (Bool):=
 AH (aHs a1 a0 0) fun o3=>
 Ax o3 (fun o4=>
  some false) (fun o5=>
  some true)
def G4(s3:Int)(w4:AA)(w5:X8)(s9:Int):Option ((Int)⊕(Unit⊕Unit)):=
 AE (decide (s9<s3)) (
  AZ w4.nodes s9 fun x1=>
  AE (decide (x1.op=2)) (
   AZ w4.nodes s9 fun x2=>
   AH (Yw w5 x2.a) fun r3=>
   AE (!r3) (
    some (.inr (.inr ()))) (
    some (.inl (AB .add .i64 s9 1)))) (
   some (.inl (AB .add .i64 s9 1)))) (
  some (.inr (.inl ())))
def aH4(s3:Int)(w4:AA)(w5:X8)(s9:Int):Option (Unit⊕Unit):=AT (fun s:Int=>G4 s3 w4 w5 s) s9
def Z9(a0:AA)(a1:X8)(a2 a3:Int):Option (Bool):=
 AH (aH4 a3 a0 a1 a2) fun o4=>
 Ax o4 (fun o5=>
  some true) (fun o6=>
  some false)
def R6(s2 s8:Int)(s56:Bool)(w3:AA)(w4:Xe):Option (Int⊕Unit):=
 AE (s56) (
  AH (Qa w3 s8 w4.guard) fun r1=>
  AE (!decide (r1.1=3)) (
   some (.inr ())) (
   AE (decide (64<r1.2)) (
    some (.inr ())) (
    some (.inl (AB .add .i64 w4.guard 1))))) (
  some (.inl s8))
def Ga(s2 s11:Int)(w3:AA)(w4:Xe)(w12:DN)(s15:Int):Option ((Int)⊕(Unit⊕Unit)):=
 AE (decide (s15<s11)) (
  AZ w4.sets s15 fun x8=>
  AE (decide (x8.free=w12.free)) (
   some (.inr (.inr ()))) (
   some (.inl (AB .add .i64 s15 1)))) (
  some (.inr (.inl ())))
def aG6(s2 s11:Int)(w3:AA)(w4:Xe)(w12:DN)(s15:Int):Option (Unit⊕Unit):=AT (fun s:Int=>Ga s2 s11 w3 w4 w12 s) s15
def EJ(s2:Int)(w3:AA)(w4:Xe)(s8 s11:Int):Option ((Int×Int)⊕(Int⊕Unit)):=
 AE (decide (s11<(w4.sets.length:Int))) (
  AZ w4.sets s11 fun x5=>
  AH (Qa w3 s8 x5.expr) fun r6=>
  AE (decide (x5.free<0)) (
   some (.inr (.inr ()))) (
   AE (decide ((w3.frees.length:Int)<=x5.free)) (
    some (.inr (.inr ()))) (
    AE (decide (r6.1=0)) (
     some (.inr (.inr ()))) (
     AE (decide (64<r6.2)) (
      some (.inr (.inr ()))) (
      AZ w3.frees x5.free fun x7=>
      AE (!decide (r6.1=x7.init_.kind)) (
       some (.inr (.inr ()))) (
       AH (aG6 s2 s11 w3 w4 x5 0) fun o9=>
       Ax o9 (fun o10=>
        some (.inl ((AB .add .i64 x5.expr 1),(AB .add .i64 s11 1)))) (fun o11=>
        some (.inr (.inr ()))))))))) (
  some (.inr (.inl s8)))
def OT(s2:Int)(w3:AA)(w4:Xe)(s8 s11:Int):Option (Int⊕Unit):=AT (fun s:Int×Int=>EJ s2 w3 w4 s.1 s.2) (s8,s11)
theorem ZN(s2:Int)(w3:AA)(w4:Xe)(s8 s11:Int):OT s2 w3 w4 s8 s11=BP (EJ s2 w3 w4 s8 s11) (fun s:Int×Int=>OT s2 w3 w4 s.1 s.2):=BE _ _
def Xs(a0:AA)(a1:Xe)(a2:Int):Option (Int×Bool):=
 AE (decide (a1.from_<0)) (
  some (0,false)) (
  AE (decide ((a0.states.length:Int)<=a1.from_)) (
   some (0,false)) (
   AE (decide (a1.to<0)) (
    some (0,false)) (
    AE (decide ((a0.states.length:Int)<=a1.to)) (
     some (0,false)) (
     AE (decide (a1.symbol<0)) (
      some (0,false)) (
      AE (decide ((a0.symbols.length:Int)<=a1.symbol)) (
       some (0,false)) (
       AH (R6 a2 a2 (!decide (a1.guard=(-1))) a0 a1) fun o2=>
       Ax o2 (fun o3=>
        AH (OT a2 a0 a1 o3 0) fun o12=>
        Ax o12 (fun o13=>
         AZ a0.symbols a1.symbol fun x15=>
         AH (Z9 a0 x15 a2 o13) fun r16=>
         some (o13,r16)) (fun o14=>
         some (0,false))) (fun o4=>
        some (0,false))))))))
def Qe(a0:AA)(a1:BJ)(a2:Int):Option (Bool):=
 AE (decide (a1.kind=1)) (
  AE (decide (a1.n=0)) (
   AH (Zi a1.value) fun r1=>
   AE (r1) (
    some (decide (a1.value.kind=a2))) (
    some false)) (
   some false)) (
  AE (!(X0.eqb a1.value (X0.mk 0 0 ([]:List UInt8) false))) (
   some false) (
   AE (decide (a1.kind=2)) (
    AE (decide (0<=a1.n)) (
     AE (decide (a1.n<(a0.quants.length:Int))) (
      AZ a0.quants a1.n fun x2=>
      some (decide (x2.type=a2))) (
      some false)) (
     some false)) (
    AE (decide (a1.kind=3)) (
     AE (decide (0<=a1.n)) (
      AE (decide (a1.n<(a0.frees.length:Int))) (
       AZ a0.frees a1.n fun x3=>
       some (decide (x3.init_.kind=a2))) (
       some false)) (
      some false)) (
     AE (decide (a1.kind=4)) (
      some (decide (a1.n=0))) (
      some false)))))
def G3(w2:AA)(w3:X8)(s5:Int):Option ((Int)⊕(Unit⊕Unit)):=
 AE (decide (s5<(w3.args.length:Int))) (
  AZ w3.args s5 fun x2=>
  AZ w2.decls w3.event fun x3=>
  AZ x3.types s5 fun x4=>
  AH (Qe w2 x2 x4) fun r5=>
  AE (!r5) (
   some (.inr (.inr ()))) (
   some (.inl (AB .add .i64 s5 1)))) (
  some (.inr (.inl ())))
def aLh(w2:AA)(w3:X8)(s5:Int):Option (Unit⊕Unit):=AT (fun s:Int=>G3 w2 w3 s) s5
def Z5(a0:AA)(a1:X8):Option (Bool):=
 AE (decide (a1.event<0)) (
  some false) (
  AE (decide ((a0.decls.length:Int)<=a1.event)) (
   some false) (
   AZ a0.decls a1.event fun x1=>
   AE (!decide ((a1.args.length:Int)=(x1.types.length:Int))) (
    some false) (
    AH (aLh a0 a1 0) fun o6=>
    Ax o6 (fun o7=>
     some true) (fun o8=>
     some false))))
def HB(w2 w3:X8)(s5:Int):Option ((Int)⊕(Unit⊕Unit)):=
 AE (decide (s5<(w2.args.length:Int))) (
  AZ w2.args s5 fun x1=>
  AZ w3.args s5 fun x2=>
  AE (!(BJ.eqb x1 x2)) (
   some (.inr (.inr ()))) (
   some (.inl (AB .add .i64 s5 1)))) (
  some (.inr (.inl ())))
def aLi(w2 w3:X8)(s5:Int):Option (Unit⊕Unit):=AT (fun s:Int=>HB w2 w3 s) s5
def Zg(a0 a1:X8):Option (Bool):=
 AE (!decide (a0.event=a1.event)) (
  some false) (
  AE (!decide ((a0.args.length:Int)=(a1.args.length:Int))) (
   some false) (
   AH (aLi a0 a1 0) fun o3=>
   Ax o3 (fun o4=>
    some true) (fun o5=>
    some false)))
def P0(s5 s6:Int)(s34:Bool)(w1:AA)(w3:List Bool)(w4:List Int):Option ((List Int)):=
 AE (s34) (
  Ai (fit w4.length [s6].length 8) (
   some (w4++[s6]))) (
  some w4)
def Wx(s5:Int)(w1:AA)(w3:List Bool)(w4:List Int):Option ((List Bool×List Int)):=
 AZ w1.trans s5 fun x5=>
 Ai (0<=x5.symbol/\x5.symbol+1<=(w3.length:Int)) (
  AZ w3 x5.symbol fun x6=>
  AH (P0 s5 x5.symbol (!x6) w1 w3 w4) fun o7=>
  Ai (0<=x5.symbol/\x5.symbol+1<=(w3.length:Int)) (
   Ai (0<=x5.symbol/\x5.symbol+1<=(w3.length:Int)) (
    some (w3.set x5.symbol.toNat true,o7))))
def GA(w1:AA)(s5:Int)(w3:List Bool)(w4:List Int):Option ((Int×List Bool×List Int)⊕((List Int))):=
 AE (decide (s5<(w1.trans.length:Int))) (
  AH (Wx s5 w1 w3 w4) fun o8=>
  some (.inl ((AB .add .i64 s5 1),o8.1,o8.2))) (
  some (.inr w4))
def aKc(w1:AA)(s5:Int)(w3:List Bool)(w4:List Int):Option ((List Int)):=AT (fun s:Int×List Bool×List Int=>GA w1 s.1 s.2.1 s.2.2) (s5,w3,w4)
def GB(w1:AA)(w4:List Int)(s7:Int):Option ((Int)⊕(Unit⊕Unit)):=
 AE (decide (s7<(w4.length:Int))) (
  AZ w4 s7 fun x10=>
  AE (!decide (x10=(AB .add .i64 (AB .sub .i64 (w1.symbols.length:Int) (w4.length:Int)) s7))) (
   some (.inr (.inr ()))) (
   some (.inl (AB .add .i64 s7 1)))) (
  some (.inr (.inl ())))
def aKd(w1:AA)(w4:List Int)(s7:Int):Option (Unit⊕Unit):=AT (fun s:Int=>GB w1 w4 s) s7
def GD(s8:Int)(w1:AA)(s9:Int):Option ((Int)⊕(Unit⊕Unit)):=
 AE (decide (s9<s8)) (
  AZ w1.symbols s8 fun x16=>
  AZ w1.symbols s9 fun x17=>
  AH (Zg x16 x17) fun r18=>
  AE (r18) (
   some (.inr (.inr ()))) (
   some (.inl (AB .add .i64 s9 1)))) (
  some (.inr (.inl ())))
def aGp(s8:Int)(w1:AA)(s9:Int):Option (Unit⊕Unit):=AT (fun s:Int=>GD s8 w1 s) s9
def GC(w1:AA)(s8:Int):Option ((Int)⊕(Unit⊕Unit)):=
 AE (decide (s8<(w1.symbols.length:Int))) (
  AZ w1.symbols s8 fun x14=>
  AH (Z5 w1 x14) fun r15=>
  AE (!r15) (
   some (.inr (.inr ()))) (
   AH (aGp s8 w1 0) fun o19=>
   Ax o19 (fun o20=>
    some (.inl (AB .add .i64 s8 1))) (fun o21=>
    some (.inr (.inr ()))))) (
  some (.inr (.inl ())))
def aKe(w1:AA)(s8:Int):Option (Unit⊕Unit):=AT (fun s:Int=>GC w1 s) s8
def Dt(s10:Int)(w1:AA)(s11:Bool)(s12:Int):Option ((Bool×Int)⊕(Bool)):=
 AE (decide (s12<(w1.symbols.length:Int))) (
  AE (s11) (
   some (.inl (true,(AB .add .i64 s12 1)))) (
   AZ w1.symbols s12 fun x25=>
   AH (Yw x25 s10) fun r26=>
   some (.inl (r26,(AB .add .i64 s12 1))))) (
  some (.inr s11))
def P1(s10:Int)(w1:AA)(s11:Bool)(s12:Int):Option (Bool):=AT (fun s:Bool×Int=>Dt s10 w1 s.1 s.2) (s11,s12)
def GE(w1:AA)(s10:Int):Option ((Int)⊕(Unit⊕Unit)):=
 AE (decide (s10<(w1.quants.length:Int))) (
  AH (P1 s10 w1 false 0) fun o27=>
  AE (!o27) (
   some (.inr (.inr ()))) (
   some (.inl (AB .add .i64 s10 1)))) (
  some (.inr (.inl ())))
def aKf(w1:AA)(s10:Int):Option (Unit⊕Unit):=AT (fun s:Int=>GE w1 s) s10
def Xb(a0:AA):Option (Bool):=
 Ai (0<=(a0.symbols.length:Int)/\fit 0 (a0.symbols.length:Int).toNat 1) (
  AH (aKc a0 0 (List.replicate (a0.symbols.length:Int).toNat false) ([]:List Int)) fun o9=>
  AH (aKd a0 o9 0) fun o11=>
  Ax o11 (fun o12=>
   AH (aKe a0 0) fun o22=>
   Ax o22 (fun o23=>
    AH (aKf a0 0) fun o28=>
    Ax o28 (fun o29=>
     some true) (fun o30=>
     some false)) (fun o24=>
    some false)) (fun o13=>
   some false))
def Gs(w1:AA)(s5 s6:Int):Option ((Int×Int)⊕(Int⊕Unit)):=
 AE (decide (s6<(w1.trans.length:Int))) (
  AZ w1.trans s6 fun x3=>
  AH (Xs w1 x3 s5) fun r4=>
  AE (!r4.2) (
   some (.inr (.inr ()))) (
   some (.inl (r4.1,(AB .add .i64 s6 1))))) (
  some (.inr (.inl s5)))
def aK6(w1:AA)(s5 s6:Int):Option (Int⊕Unit):=AT (fun s:Int×Int=>Gs w1 s.1 s.2) (s5,s6)
def Yo(a0:AA):Option (Bool):=
 AH (Xu a0.decls) fun r1=>
 AE (!decide (r1.1=0)) (
  some false) (
  AE (decide (8<(a0.quants.length:Int))) (
   some false) (
   AE (decide (16<(a0.frees.length:Int))) (
    some false) (
    AE (decide (32<(a0.states.length:Int))) (
     some false) (
     AE (decide (64<(a0.symbols.length:Int))) (
      some false) (
      AE (decide (2048<(a0.nodes.length:Int))) (
       some false) (
       AE (decide (256<(a0.trans.length:Int))) (
        some false) (
        AE (decide (a0.start<0)) (
         some false) (
         AE (decide ((a0.states.length:Int)<=a0.start)) (
          some false) (
          AH (Xk a0) fun r2=>
          AE (!r2) (
           some false) (
           AH (aK6 a0 0 0) fun o5=>
           Ax o5 (fun o6=>
            AE (decide (o6=(a0.nodes.length:Int))) (
             AH (Xb a0) fun r8=>
             some r8) (
             some false)) (fun o7=>
            some false)))))))))))
def G0(w1:AA)(s3:Int):Option ((Int)⊕(Unit⊕Unit)):=
 AE (decide (s3<(w1.decls.length:Int))) (
  AZ w1.decls s3 fun x3=>
  AE (decide (3<(x3.types.length:Int))) (
   some (.inr (.inr ()))) (
   some (.inl (AB .add .i64 s3 1)))) (
  some (.inr (.inl ())))
def aHz(w1:AA)(s3:Int):Option (Unit⊕Unit):=AT (fun s:Int=>G0 w1 s) s3
def Z2(a0:AA):Option (Bool):=
 AH (Xg a0) fun r1=>
 AE (decide (r1=0)) (
  some false) (
  AH (Yo a0) fun r2=>
  AE (!r2) (
   some false) (
   AH (aHz a0 0) fun o4=>
   Ax o4 (fun o5=>
    some true) (fun o6=>
    some false)))
def Qw(a0:Xe):Option (Bool):=
 some (decide (0<=a0.guard))
def E2(s0:List Xe)(s7 s8:Int):Option ((Int)⊕(Unit⊕Int)):=
 AE (decide (s8<s7)) (
  AZ s0 s8 fun x1=>
  AH (Qw x1) fun r2=>
  AE (r2) (
   some (.inr (.inr s8))) (
   some (.inl (AB .add .i64 s8 1)))) (
  some (.inr (.inl ())))
def OX(s0:List Xe)(s7 s8:Int):Option (Unit⊕Int):=AT (fun s:Int=>E2 s0 s7 s) s8
def Y8(a0:List Xe):Option (Int):=
 AH (OX a0 (a0.length:Int) 0) fun o3=>
 Ax o3 (fun o4=>
  some (-1)) (fun o5=>
  some o5)
def Zw(a0:List Xe):Option (Bool):=
 AH (Y8 a0) fun r1=>
 some (decide (0<=r1))
def Zz(a0:AA):Option (Bool):=
 AE (decide ((a0.frees.length:Int)=0)) (
  AH (Zw a0.trans) fun r1=>
  some (!r1)) (
  some false)
def Zu(a0:AA):Option (Bool):=
 AH (Zz a0) fun r1=>
 AE (r1) (
  AE (decide ((a0.quants.length:Int)<=1)) (
   AE (decide ((a0.states.length:Int)<=8)) (
    some (decide ((a0.symbols.length:Int)<=8))) (
    some false)) (
   some false)) (
  some false)
def E3(s0 s1:List Int)(s12 s13:Int):Option ((Int)⊕(Unit⊕Unit)):=
 AE (decide (s13<s12)) (
  AZ s0 s13 fun x1=>
  AZ s1 s13 fun x2=>
  AE (!decide (x1=x2)) (
   some (.inr (.inr ()))) (
   some (.inl (AB .add .i64 s13 1)))) (
  some (.inr (.inl ())))
def Sp(s0 s1:List Int)(s12 s13:Int):Option (Unit⊕Unit):=AT (fun s:Int=>E3 s0 s1 s12 s) s13
def Y9(a0 a1:List Int):Option (Bool):=
 AE (!decide ((a0.length:Int)=(a1.length:Int))) (
  some false) (
  AH (Sp a0 a1 (a0.length:Int) 0) fun o3=>
  Ax o3 (fun o4=>
   some true) (fun o5=>
   some false))
def Zx(a0 a1:X7):Option (Bool):=
 AE (decide (a0.name=a1.name)) (
  AH (Y9 a0.types a1.types) fun r1=>
  some r1) (
  some false)
def EK(s1 s15:List X7)(s16 s17:Int):Option ((Int)⊕(Unit⊕Unit)):=
 AE (decide (s17<s16)) (
  AZ s15 s17 fun x1=>
  AZ s1 s17 fun x2=>
  AH (Zx x1 x2) fun r3=>
  AE (!r3) (
   some (.inr (.inr ()))) (
   some (.inl (AB .add .i64 s17 1)))) (
  some (.inr (.inl ())))
def SI(s1 s15:List X7)(s16 s17:Int):Option (Unit⊕Unit):=AT (fun s:Int=>EK s1 s15 s16 s) s17
def Xx(a0 a1:List X7):Option (Bool):=
 AE (!decide ((a0.length:Int)=(a1.length:Int))) (
  some false) (
  AH (SI a1 a0 (a0.length:Int) 0) fun o4=>
  Ax o4 (fun o5=>
   some true) (fun o6=>
   some false))
def Zy(a0 a1:List X7):Option (Bool):=
 AH (Xx a0 a1) fun r1=>
 some r1
def Ys(a0 a1:AA):Option (Bool):=
 AH (Zu a0) fun r1=>
 AE (r1) (
  AH (Zu a1) fun r2=>
  AE (r2) (
   AE (decide ((AB .add .i64 (a0.quants.length:Int) (a1.quants.length:Int))=0)) (
    AH (Zy a0.decls a1.decls) fun r3=>
    some r3) (
    some false)) (
   some false)) (
  some false)
def U7(l:List X0):Option (List X0):=Fa 40 l
def Ql(a0:AA)(a1:X3):Option (AA×X3):=
 some (a0,a1)
def Qx(a0:X7)(a1:List UInt8):Option (Bool):=
 some (decide (a0.name=a1))
def JO(s0:List X7)(s1:List UInt8)(s7 s8:Int):Option ((Int)⊕(Unit⊕Int)):=
 AE (decide (s8<s7)) (
  AZ s0 s8 fun x1=>
  AH (Qx x1 s1) fun r2=>
  AE (r2) (
   some (.inr (.inr s8))) (
   some (.inl (AB .add .i64 s8 1)))) (
  some (.inr (.inl ())))
def aIc(s0:List X7)(s1:List UInt8)(s7 s8:Int):Option (Unit⊕Int):=AT (fun s:Int=>JO s0 s1 s7 s) s8
def Zj(a0:List X7)(a1:List UInt8):Option (Int):=
 AH (aIc a0 a1 (a0.length:Int) 0) fun o3=>
 Ax o3 (fun o4=>
  some (-1)) (fun o5=>
  some o5)
def Qy(a0:List X7)(a1:List UInt8):Option (Int×Bool):=
 AH (Zj a0 a1) fun r1=>
 some ((K5 r1 0),decide (0<=r1))
def Qz(a0:Int):Option (X0):=
 some (X0.mk 1 a0 ([]:List UInt8) false)
def U0(a0:List UInt8):Option (X0):=
 some (X0.mk 2 0 a0 false)
def U1(a0:Bool):Option (X0):=
 some (X0.mk 3 0 ([]:List UInt8) a0)
def Qf(a0:X0):Option (Bool):=
 AE (decide (a0.kind=1)) (
  AH (Qz a0.int) fun r1=>
  some (X0.eqb a0 r1)) (
  AE (decide (a0.kind=2)) (
   AH (U0 a0.str) fun r2=>
   AE ((X0.eqb a0 r2)) (
    some (decide ((a0.str.length:Int)<=4096))) (
    some false)) (
   AE (decide (a0.kind=3)) (
    AH (U1 a0.bool) fun r3=>
    some (X0.eqb a0 r3)) (
    some false)))
def U2(a0:X0)(a1:Int):Option (Bool):=
 AE (decide (a0.kind=a1)) (
  AH (Qf a0) fun r1=>
  some r1) (
  some false)
def JN(s1:List Int)(s15:List X0)(s16 s17:Int):Option ((Int)⊕(Unit⊕Unit)):=
 AE (decide (s17<s16)) (
  AZ s15 s17 fun x1=>
  AZ s1 s17 fun x2=>
  AH (U2 x1 x2) fun r3=>
  AE (!r3) (
   some (.inr (.inr ()))) (
   some (.inl (AB .add .i64 s17 1)))) (
  some (.inr (.inl ())))
def aIa(s1:List Int)(s15:List X0)(s16 s17:Int):Option (Unit⊕Unit):=AT (fun s:Int=>JN s1 s15 s16 s) s17
def Zh(a0:List X0)(a1:List Int):Option (Bool):=
 AE (!decide ((a0.length:Int)=(a1.length:Int))) (
  some false) (
  AH (aIa a1 a0 (a0.length:Int) 0) fun o4=>
  Ax o4 (fun o5=>
   some true) (fun o6=>
   some false))
def Qg(a0:List X7)(a1:X3):Option (Bool):=
 AH (Qy a0 a1.name) fun r1=>
 AE (!r1.2) (
  some false) (
  AZ a0 r1.1 fun x2=>
  AH (Zh a1.args x2.types) fun r3=>
  some r3)
def Qh(a0:X2)(a1:Int):Option (Int):=
 some (AB .sub .i64 a0.var a1)
def aBh(s0:List X2)(s1 s8:Int)(s9 s10 s11:Int)(s31:Bool):Option ((Int×Int)):=
 AE (s31) (
  some ((AB .add .i64 s11 1),s10)) (
  some (s9,s11))
def aBf(s0:List X2)(s1 s8:Int)(s9 s10:Int):Option ((Int×Int)):=
 AZ s0 (IntKind.wrap .i64 (AB .shr .u64 (IntKind.wrap .u64 (AB .add .i64 s9 s10)) 1)) fun x1=>
 AH (Qh x1 s1) fun r2=>
 AH (aBh s0 s1 s8 s9 s10 (IntKind.wrap .i64 (AB .shr .u64 (IntKind.wrap .u64 (AB .add .i64 s9 s10)) 1)) (decide (r2<0))) fun o3=>
 some (o3.1,o3.2)
def Gk(s0:List X2)(s1 s8:Int)(s9 s10:Int):Option ((Int×Int)⊕(Int)):=
 AE (decide (s9<s10)) (
  AH (aBf s0 s1 s8 s9 s10) fun o4=>
  some (.inl (o4.1,o4.2))) (
  some (.inr s9))
def aHi(s0:List X2)(s1 s8:Int)(s9 s10:Int):Option (Int):=AT (fun s:Int×Int=>Gk s0 s1 s8 s.1 s.2) (s9,s10)
def Yf(a0:List X2)(a1:Int):Option (Int×Bool):=
 AH (aHi a0 a1 (a0.length:Int) 0 (a0.length:Int)) fun o5=>
 AE (decide (o5<(a0.length:Int))) (
  AZ a0 o5 fun x6=>
  AH (Qh x6 a1) fun r7=>
  some (o5,decide (r7=0))) (
  some (o5,false))
def U9(i:Int)(ys:List X2):Option (List X2):=aQp 48 i ys
def Ua(a1:X2):Option (Bool×List X2):=
 AH (Yf ([]:List X2) a1.var) fun r1=>
 AE (r1.2) (
  AZ ([]:List X2) r1.1 fun x2=>
  some ((X2.eqb x2 a1),([]:List X2))) (
  AH (U9 r1.1 [a1]) fun r3=>
  some (true,r3))
def U3(i:Int)(xs ys:List X2):Option (List X2):=aMq 48 i xs ys
def Zv(a1:X2)(w1:List X2):Option (Bool×List X2):=
 AH (Yf w1 a1.var) fun r1=>
 AE (r1.2) (
  Ai (0<=r1.1/\r1.1+1<=(w1.length:Int)) (
   AZ w1 r1.1 fun x2=>
   some ((X2.eqb x2 a1),w1))) (
  AH (U3 r1.1 w1 [a1]) fun r3=>
  some (true,r3))
def Gu(s13:List BJ)(s14:Int)(w5:X3)(s15:Int)(w600 w601:List X2):Option ((Int×List X2×List X2)⊕((List X2×List X2)⊕(List X2×List X2))):=
 AE (decide (s15<s14)) (
  AZ s13 s15 fun x9=>
  AZ w5.args s15 fun x10=>
  AE (decide (x9.kind=1)) (
   AE (!(X0.eqb x9.value ((X2.mk x9.n x10).value))) (
    some (.inr (.inr (w600,w601)))) (
    AE (decide (x9.kind=2)) (
     AH (Zv (X2.mk x9.n x10) w600) fun r11=>
     AE (!r11.1) (
      some (.inr (.inr (r11.2,w601)))) (
      AE (decide (x9.kind=3)) (
       AH (Zv (X2.mk x9.n x10) w601) fun r12=>
       AE (!r12.1) (
        some (.inr (.inr (r11.2,r12.2)))) (
        some (.inl ((AB .add .i64 s15 1),r11.2,r12.2)))) (
       some (.inl ((AB .add .i64 s15 1),r11.2,w601))))) (
     AE (decide (x9.kind=3)) (
      AH (Zv (X2.mk x9.n x10) w601) fun r13=>
      AE (!r13.1) (
       some (.inr (.inr (w600,r13.2)))) (
       some (.inl ((AB .add .i64 s15 1),w600,r13.2)))) (
      some (.inl ((AB .add .i64 s15 1),w600,w601)))))) (
   AE (decide (x9.kind=2)) (
    AH (Zv (X2.mk x9.n x10) w600) fun r14=>
    AE (!r14.1) (
     some (.inr (.inr (r14.2,w601)))) (
     AE (decide (x9.kind=3)) (
      AH (Zv (X2.mk x9.n x10) w601) fun r15=>
      AE (!r15.1) (
       some (.inr (.inr (r14.2,r15.2)))) (
       some (.inl ((AB .add .i64 s15 1),r14.2,r15.2)))) (
      some (.inl ((AB .add .i64 s15 1),r14.2,w601))))) (
    AE (decide (x9.kind=3)) (
     AH (Zv (X2.mk x9.n x10) w601) fun r16=>
     AE (!r16.1) (
      some (.inr (.inr (w600,r16.2)))) (
      some (.inl ((AB .add .i64 s15 1),w600,r16.2)))) (
     some (.inl ((AB .add .i64 s15 1),w600,w601)))))) (
  some (.inr (.inl (w600,w601))))
def Tg(s13:List BJ)(s14:Int)(w5:X3)(s15:Int)(w600 w601:List X2):Option ((List X2×List X2)⊕(List X2×List X2)):=AT (fun s:Int×List X2×List X2=>Gu s13 s14 w5 s.1 s.2.1 s.2.2) (s15,w600,w601)
theorem NM(s13:List BJ)(s14:Int)(w5:X3)(s15:Int)(w600 w601:List X2):Tg s13 s14 w5 s15 w600 w601=BP (Gu s13 s14 w5 s15 w600 w601) (fun s:Int×List X2×List X2=>Tg s13 s14 w5 s.1 s.2.1 s.2.2):=BE _ _
def Yv(a0:X8)(a1:X3):Option (Bool×List X2×List X2):=
 AH (Tg a0.args (a0.args.length:Int) a1 0 ([]:List X2) ([]:List X2)) fun o17=>
 Ax o17 (fun o18=>
  some (true,o18.1,o18.2)) (fun o19=>
  some (false,o19.1,o19.2))
def Qi(a0:AA)(a1:Int)(a2:X3):Option (AL×Bool):=
 AZ a0.symbols a1 fun x1=>
 AZ a0.decls x1.event fun x2=>
 AE (!decide (x2.name=a2.name)) (
  some (AL.mk 0 ([]:List X2) ([]:List X2),false)) (
  AH (Yv x1 a2) fun r3=>
  AE (!r3.1) (
   some (AL.mk 0 ([]:List X2) ([]:List X2),false)) (
   some (AL.mk a1 r3.2.1 r3.2.2,true)))
def Gq{φ:Type}(step:φ->AL->Option (φ×Bool))(s1:AA)(s2:X3)(s14:Int)(f0:φ)(s15:Int):Option ((φ×Int)⊕(φ⊕φ)):=
 AE (decide (s15<s14)) (
  AH (Qi s1 s15 s2) fun r2=>
  AE (r2.2) (
   WQ (step f0 r2.1) (fun f3=>
    some (.inl (f3,(AB .add .i64 s15 1)))) (fun f4=>
    some (.inr (.inr f4)))) (
   some (.inl (f0,(AB .add .i64 s15 1))))) (
  some (.inr (.inl f0)))
def TJ{φ:Type}(step:φ->AL->Option (φ×Bool))(s1:AA)(s2:X3)(s14:Int)(f0:φ)(s15:Int):Option (φ⊕φ):=AT (fun s:φ×Int=>Gq step s1 s2 s14 s.1 s.2) (f0,s15)
theorem NK{φ:Type}(step:φ->AL->Option (φ×Bool))(s1:AA)(s2:X3)(s14:Int)(f0:φ)(s15:Int):TJ step s1 s2 s14 f0 s15=BP (Gq step s1 s2 s14 f0 s15) (fun s:φ×Int=>TJ step s1 s2 s14 s.1 s.2):=BE _ _
def Yl{φ:Type}(step:φ->AL->Option (φ×Bool))(a1:AA)(a2:X3)(f0:φ):Option φ:=
 AH (Qg a1.decls a2) fun r1=>
 AE (!r1) (
  some f0) (
  AH (TJ step a1 a2 (a1.symbols.length:Int) f0 0) fun o5=>
  Ax o5 (fun o6=>
   some o6) (fun o7=>
   some o7))
def YZ(s6_1:AA)(s6_2:X3)(s7:AL)(w600:List AL)(w998_1:AA)(w998_2:X3):Option (Unit):=
 some ()
def ZB(s6_1:AA)(s6_2:X3)(w5:AL)(w600:List AL)(w998_1:AA)(w998_2:X3):Option (Unit):=
 Ai (fit w600.length [w5].length 56) (
  some ())
def CU(s6_1:AA)(s6_2:X3)(s:List AL)(x:AL):Option ((List AL)⊕(Empty)):=
 AH (YZ s6_1 s6_2 x s s6_1 s6_2) fun o5=>
 AH (ZB s6_1 s6_2 x s s6_1 s6_2) fun o6=>
 some (.inl (s++[x]))
def Xp(a1_1:AA)(a1_2:X3):Option (List AL):=
 AH (Yl (CQ (CU a1_1 a1_2)) a1_1 a1_2 (.inl ([]:List AL))) fun o7=>
 Ax o7 (fun o8=>
  some o8) (fun o9=>
  none)
def U4(a0_1:AA)(a0_2:X3):Option (List AL):=
 AH (Xp a0_1 a0_2) fun r1=>
 some r1
def Qj(a0:AA)(a1:X3):Option (List AL):=
 AH (Ql a0 a1) fun r1=>
 AH (U4 r1.1 r1.2) fun r2=>
 some r2
def U5(a0 a1:List X2):Option (List X2×List X2):=
 some (a0,a1)
def JK(s1:Int)(s8:List X2)(s9:Int)(w4:X0)(s10:Int):Option ((Int)⊕(Unit⊕X0)):=
 AE (decide (s10<s9)) (
  AZ s8 s10 fun x1=>
  AE (decide (x1.var=s1)) (
   some (.inr (.inr x1.value))) (
   some (.inl (AB .add .i64 s10 1)))) (
  some (.inr (.inl ())))
def aH1(s1:Int)(s8:List X2)(s9:Int)(w4:X0)(s10:Int):Option (Unit⊕X0):=AT (fun s:Int=>JK s1 s8 s9 w4 s) s10
def Z6(a0:List X2)(a1:Int):Option (X0×Bool):=
 AH (aH1 a1 a0 (a0.length:Int) (X0.mk 0 0 ([]:List UInt8) false) 0) fun o2=>
 Ax o2 (fun o3=>
  some (X0.mk 0 0 ([]:List UInt8) false,false)) (fun o4=>
  some (o4,true))
def aBa{φ:Type}(step:φ->((X2×X0)⊕X2)->Option (φ×Bool))(f0:φ)(s2 s9:List X2)(s10 s11:Int):Option (φ⊕φ):=
 AZ s9 s11 fun x1=>
 AH (Z6 s2 x1.var) fun r2=>
 AE (r2.2) (
  WQ (step f0 (.inl (x1,r2.1))) (fun f3=>
   some (.inl f3)) (fun f4=>
   some (.inr f4))) (
  WQ (step f0 (.inr x1)) (fun f5=>
   some (.inl f5)) (fun f6=>
   some (.inr f6)))
def Gj{φ:Type}(step:φ->((X2×X0)⊕X2)->Option (φ×Bool))(s2 s9:List X2)(s10:Int)(f0:φ)(s11:Int):Option ((φ×Int)⊕(φ⊕φ)):=
 AE (decide (s11<s10)) (
  AH (aBa step f0 s2 s9 s10 s11) fun o7=>
  Ax o7 (fun o8=>
   some (.inl (o8,(AB .add .i64 s11 1)))) (fun o9=>
   some (.inr (.inr o9)))) (
  some (.inr (.inl f0)))
def aHg{φ:Type}(step:φ->((X2×X0)⊕X2)->Option (φ×Bool))(s2 s9:List X2)(s10:Int)(f0:φ)(s11:Int):Option (φ⊕φ):=AT (fun s:φ×Int=>Gj step s2 s9 s10 s.1 s.2) (f0,s11)
def Yd{φ:Type}(step:φ->((X2×X0)⊕X2)->Option (φ×Bool))(a1 a2:List X2)(f0:φ):Option φ:=
 AH (aHg step a2 a1 (a1.length:Int) f0 0) fun o10=>
 Ax o10 (fun o11=>
  some o11) (fun o12=>
  some o12)
def XD(s9_1 s9_2:List X2)(s10:X2)(s11:X0)(w4:Bool)(w998_1 w998_2:List X2):Option (Unit):=
 some ()
def XE(s9_1 s9_2:List X2)(s10:X2)(w4:Bool)(w998_1 w998_2:List X2):Option (Unit):=
 some ()
def XH(s6:X0)(s9_1 s9_2:List X2)(w4:Bool)(w5:X2)(w998_1 w998_2:List X2):Option (Unit⊕Unit):=
 AE (!(X0.eqb s6 w5.value)) (
  some (.inr ())) (
  some (.inl ()))
def XI(s9_1 s9_2:List X2)(w4:Bool)(w5:X2)(w998_1 w998_2:List X2):Option (Unit):=
 some ()
def CT(s9_1 s9_2:List X2)(s:Bool)(x:(X2×X0)⊕X2):Option ((Bool)⊕(Bool)):=
 Ax x (fun z13=>
  AH (XD s9_1 s9_2 z13.1 z13.2 s s9_1 s9_2) fun o6=>
  AH (XH z13.2 s9_1 s9_2 s z13.1 s9_1 s9_2) fun o7=>
  Ax o7 (fun o15=>
   some (.inl s)) (fun o16=>
   some (.inr false))) (fun z14=>
  AH (XE s9_1 s9_2 z14 s s9_1 s9_2) fun o8=>
  AH (XI s9_1 s9_2 s z14 s9_1 s9_2) fun o9=>
  some (.inr false))
def Xh(a0 a1:List X2):Option (Bool):=
 AH (U5 a0 a1) fun r1=>
 AH (Yd (CQ (CT r1.1 r1.2)) r1.1 r1.2 (.inl false)) fun o10=>
 Ax o10 (fun o11=>
  some true) (fun o12=>
  some o12)
def U6(a0:AL)(a1:List X2):Option (Bool):=
 AH (Xh a0.bind a1) fun r1=>
 some r1
def aBm(s1:List X2)(s8:List AL)(s9 s10:Int)(s16:Bool)(w4 w5:List AL)(w7:AL):Option ((List AL×List AL)):=
 AE (s16) (
  Ai (fit w4.length [w7].length 56) (
   some (w4++[w7],w5))) (
  Ai (fit w5.length [w7].length 56) (
   some (w4,w5++[w7])))
def aBk(s1:List X2)(s8:List AL)(s9 s10:Int)(w4 w5:List AL):Option ((List AL×List AL)):=
 AZ s8 s10 fun x5=>
 AH (U6 x5 s1) fun r6=>
 AH (aBm s1 s8 s9 s10 r6 w4 w5 x5) fun o7=>
 some (o7.1,o7.2)
def Gm(s1:List X2)(s8:List AL)(s9 s10:Int)(w4 w5:List AL):Option ((Int×List AL×List AL)⊕((List AL×List AL))):=
 AE (decide (s10<s9)) (
  AH (aBk s1 s8 s9 s10 w4 w5) fun o8=>
  some (.inl ((AB .add .i64 s10 1),o8.1,o8.2))) (
  some (.inr (w4,w5)))
def aHj(s1:List X2)(s8:List AL)(s9 s10:Int)(w4 w5:List AL):Option ((List AL×List AL)):=AT (fun s:Int×List AL×List AL=>Gm s1 s8 s9 s.1 s.2.1 s.2.2) (s10,w4,w5)
def Yg(a0:List AL)(a1:List X2):Option (List AL×List AL):=
 AH (aHj a1 a0 (a0.length:Int) 0 ([]:List AL) ([]:List AL)) fun o9=>
 some (o9.1,o9.2)
def Qd(a0:List AL)(a1:List X2):Option (List AL):=
 AH (Yg a0 a1) fun r1=>
 some r1.1
def Gw(s14:List AL)(s15 s7 s16:Int):Option ((Int×Int)⊕(Int)):=
 AE (decide (s16<s15)) (
  AZ s14 s16 fun x3=>
  Ai (0<=(IntKind.wrap .u64 x3.symbol)) (
   some (.inl ((AB .or .u64 s7 (AB .shl .u64 1 (IntKind.wrap .u64 x3.symbol))),(AB .add .i64 s16 1))))) (
  some (.inr s7))
def aHt(s14:List AL)(s15 s7 s16:Int):Option (Int):=AT (fun s:Int×Int=>Gw s14 s15 s.1 s.2) (s7,s16)
def Yx(a0:AA)(a1:List X2)(a2:X3):Option (Int):=
 AH (Qj a0 a2) fun r1=>
 AH (Qd r1 a1) fun r2=>
 AH (aHt r2 (r2.length:Int) 0 0) fun o4=>
 some o4
def WT(s30:Bool)(w7:X3)(w8:X5)(w502:MP X5 X3)(w503:List X5):Option ((MP X5 X3×List X5)):=
 AE (s30) (
  Ai (fit w503.length [w8].length 16) (
   some (Cs w502 w8 w7,w503++[w8]))) (
  some (w502,w503))
def Q0(a0:List X0)(a1:X7)(a2 a3:AA)(w2:MP X5 X3)(w3:List X5):Option (MP X5 X3×List X5):=
 AH (U7 a0) fun r1=>
 AH (Yx a2 ([]:List X2) (X3.mk a1.name r1)) fun r2=>
 AH (Yx a3 ([]:List X2) (X3.mk a1.name r1)) fun r3=>
 AH (WT (!((BB (X3.mk ([]:List UInt8) ([]:List X0)) w2 (X5.mk r2 r3)).2)) (X3.mk a1.name r1) (X5.mk r2 r3) w2 w3) fun o4=>
 some (o4.1,o4.2)
def G5(s0:List X0)(s7:Int)(w3:X0)(s8:Int):Option ((Int)⊕(Unit⊕Int)):=
 AE (decide (s8<s7)) (
  AZ s0 s8 fun x1=>
  AE ((X0.eqb w3 x1)) (
   some (.inr (.inr s8))) (
   some (.inl (AB .add .i64 s8 1)))) (
  some (.inr (.inl ())))
def aCo(s0:List X0)(s7:Int)(w3:X0)(s8:Int):Option (Unit⊕Int):=AT (fun s:Int=>G5 s0 s7 w3 s) s8
def Za(a0:List X0)(a1:X0):Option (Int):=
 AH (aCo a0 (a0.length:Int) a1 0) fun o2=>
 Ax o2 (fun o3=>
  some (-1)) (fun o4=>
  some o4)
def Qb(a0:List X0)(a1:X0):Option (Bool):=
 AH (Za a0 a1) fun r1=>
 some (decide (0<=r1))
def IC(s1 s2:Int)(s12:List X8)(s13 s14:Int)(s41:Bool)(w3:List X0)(w10:X8):Option ((List X0)):=
 AE (s41) (
  AZ w10.args s2 fun x5=>
  Ai (fit w3.length [x5.value].length 40) (
   some (w3++[x5.value]))) (
  some w3)
def OU(s1 s2:Int)(s12:List X8)(s13 s14:Int)(w3:List X0):Option ((List X0)):=
 AZ s12 s14 fun x1=>
 AE (decide (x1.event=s1)) (
  AZ x1.args s2 fun x2=>
  AE (decide (x2.kind=1)) (
   AZ x1.args s2 fun x3=>
   AH (Qb w3 x3.value) fun r4=>
   AH (IC s1 s2 s12 s13 s14 (!r4) w3 x1) fun o6=>
   some o6) (
   AH (IC s1 s2 s12 s13 s14 false w3 x1) fun o7=>
   some o7)) (
  AH (IC s1 s2 s12 s13 s14 false w3 x1) fun o8=>
  some o8)
def Ey(s1 s2:Int)(s12:List X8)(s13 s14:Int)(w3:List X0):Option ((Int×List X0)⊕((List X0))):=
 AE (decide (s14<s13)) (
  AH (OU s1 s2 s12 s13 s14 w3) fun o9=>
  some (.inl ((AB .add .i64 s14 1),o9))) (
  some (.inr w3))
def SF(s1 s2:Int)(s12:List X8)(s13 s14:Int)(w3:List X0):Option ((List X0)):=AT (fun s:Int×List X0=>Ey s1 s2 s12 s13 s.1 s.2) (s14,w3)
def Xv(a0:AA)(a1 a2:Int):Option (List X0):=
 AH (SF a1 a2 a0.symbols (a0.symbols.length:Int) 0 ([]:List X0)) fun o10=>
 some o10
def Zp(a0:AA)(a1 a2:Int)(w0:List X0):Option (List X0):=
 AH (SF a1 a2 a0.symbols (a0.symbols.length:Int) 0 w0) fun o10=>
 some o10
def aAe(s0:Int)(s1:List X0)(s20:Bool)(w4 w6:X0):Option (X0):=
 AE (s20) (
  some (X0.mk w6.kind (AB .add .i64 w6.int 1) w6.str w6.bool)) (
  Ai (w6.str.length+([97]:List UInt8).length<=9223372036854775807) (
   some (X0.mk w6.kind w6.int (w6.str++([97]:List UInt8)) w6.bool)))
def SO(s0:Int)(s1:List X0)(w4 w6:X0):Option (X0):=
 AH (aAe s0 s1 (decide (s0=1)) w4 w6) fun o2=>
 some o2
def Gd(s0:Int)(s1:List X0)(w4 w6:X0):Option ((X0)⊕(X0)):=
 AH (Qb s1 w6) fun r1=>
 AE (r1) (
  AH (SO s0 s1 w4 w6) fun o3=>
  some (.inl o3)) (
  some (.inr w6))
def OV(s0:Int)(s1:List X0)(w4 w6:X0):Option (X0):=AT (fun s:X0=>Gd s0 s1 w4 s) w6
theorem M7(s0:Int)(s1:List X0)(w4 w6:X0):OV s0 s1 w4 w6=BP (Gd s0 s1 w4 w6) (fun s:X0=>OV s0 s1 w4 s):=BE _ _
def Xz(a0:Int)(a1:List X0):Option (X0×Bool):=
 AE (!decide (a0=1)) (
  AE (!decide (a0=2)) (
   some (X0.mk 0 0 ([]:List UInt8) false,false)) (
   AH (OV a0 a1 (X0.mk 0 0 ([]:List UInt8) false) (X0.mk a0 0 ([]:List UInt8) false)) fun o4=>
   some (o4,true))) (
  AH (OV a0 a1 (X0.mk 0 0 ([]:List UInt8) false) (X0.mk a0 0 ([]:List UInt8) false)) fun o5=>
  some (o5,true))
def U8(l:List X0):Option (List X0):=Fa 40 l
def Rw(self:AA->AA->Int->(List X0)->X7->AA->AA->(MP X5 X3)->(List X5)->Option (MP X5 X3×List X5))(s2:Int)(s3:List X0)(s4_1:X7)(s4_2 s4_3:AA)(s10:Int)(s51:Bool)(w5 w6:AA)(w12:List X0)(w502:MP X5 X3)(w503:List X5)(w997_1:X7)(w997_2 w997_3:AA):Option ((List X0)):=
 AE (s51) (
  some ([X0.mk 3 0 ([]:List UInt8) false,X0.mk 3 0 ([]:List UInt8) true])) (
  some w12)
def Rx(self:AA->AA->Int->(List X0)->X7->AA->AA->(MP X5 X3)->(List X5)->Option (MP X5 X3×List X5))(s2:Int)(s3:List X0)(s4_1:X7)(s4_2 s4_3:AA)(s61:Bool)(w5 w6:AA)(w12:List X0)(w13:X0)(w502:MP X5 X3)(w503:List X5)(w997_1:X7)(w997_2 w997_3:AA):Option ((List X0)):=
 AE (s61) (
  Ai (fit w12.length [w13].length 40) (
   some (w12++[w13]))) (
  some w12)
def GZ(self:AA->AA->Int->(List X0)->X7->AA->AA->(MP X5 X3)->(List X5)->Option (MP X5 X3×List X5))(s2:Int)(s3:List X0)(s4_1:X7)(s4_2 s4_3:AA)(s67:Int)(w5 w6:AA)(w66:List X0)(w997_1:X7)(w997_2 w997_3:AA)(s68:Int)(w502:MP X5 X3)(w503:List X5):Option ((Int×MP X5 X3×List X5)⊕((MP X5 X3×List X5))):=
 AE (decide (s68<s67)) (
  Ai (0<=s68/\s68+1<=(w66.length:Int)) (
   AZ w66 s68 fun x10=>
   AH (U8 s3) fun r11=>
   Ai (fit r11.length [x10].length 40) (
    AH (self w5 w6 s2 (r11++[x10]) s4_1 s4_2 s4_3 w502 w503) fun r12=>
    some (.inl ((AB .add .i64 s68 1),r12.1,r12.2))))) (
  some (.inr (w502,w503)))
def ZG(self:AA->AA->Int->(List X0)->X7->AA->AA->(MP X5 X3)->(List X5)->Option (MP X5 X3×List X5))(s2:Int)(s3:List X0)(s4_1:X7)(s4_2 s4_3:AA)(s67:Int)(w5 w6:AA)(w66:List X0)(w997_1:X7)(w997_2 w997_3:AA)(s68:Int)(w502:MP X5 X3)(w503:List X5):Option ((MP X5 X3×List X5)):=AT (fun s:Int×MP X5 X3×List X5=>GZ self s2 s3 s4_1 s4_2 s4_3 s67 w5 w6 w66 w997_1 w997_2 w997_3 s.1 s.2.1 s.2.2) (s68,w502,w503)
def aKo(self:AA->AA->Int->(List X0)->X7->AA->AA->(MP X5 X3)->(List X5)->Option (MP X5 X3×List X5))(a0 a1:AA)(a2:Int)(a3:List X0)(a4_1:X7)(a4_2 a4_3:AA)(w2:MP X5 X3)(w3:List X5):Option (MP X5 X3×List X5):=
 AZ a0.decls a2 fun x1=>
 AE (decide ((a3.length:Int)=(x1.types.length:Int))) (
  AH (Q0 a3 a4_1 a4_2 a4_3 w2 w3) fun r2=>
  some (r2.1,r2.2)) (
  AZ a0.decls a2 fun x3=>
  AZ x3.types (a3.length:Int) fun x4=>
  AH (Xv a1 a2 (a3.length:Int)) fun r5=>
  AH (Zp a0 a2 (a3.length:Int) r5) fun r6=>
  AH (Rw self a2 a3 a4_1 a4_2 a4_3 x4 (decide (x4=3)) a0 a1 r6 w2 w3 a4_1 a4_2 a4_3) fun o7=>
  AH (Xz x4 o7) fun r8=>
  AH (Rx self a2 a3 a4_1 a4_2 a4_3 r8.2 a0 a1 o7 r8.1 w2 w3 a4_1 a4_2 a4_3) fun o9=>
  AH (ZG self a2 a3 a4_1 a4_2 a4_3 (o9.length:Int) a0 a1 o9 a4_1 a4_2 a4_3 0 w2 w3) fun o13=>
  some (o13.1,o13.2))
def PJ:Nat->AA->AA->Int->(List X0)->X7->AA->AA->(MP X5 X3)->(List X5)->Option (MP X5 X3×List X5)
 |0=>fun _ _ _ _ _ _ _ _ _=>none
 |n+1=>fun a0 a1 a2 a3 a4_1 a4_2 a4_3 w2 w3=>aKo (PJ n) a0 a1 a2 a3 a4_1 a4_2 a4_3 w2 w3
def Xq(a0 a1:AA)(a2:Int)(a3:List X0)(a4_1:X7)(a4_2 a4_3:AA)(w2:MP X5 X3)(w3:List X5):Option (MP X5 X3×List X5):=PJ 100000 a0 a1 a2 a3 a4_1 a4_2 a4_3 w2 w3
def E4(s2 s3:AA)(s10:List X7)(s11 s12:Int)(w508:MP X5 X3)(w750:List X5):Option ((Int×MP X5 X3×List X5)⊕((MP X5 X3×List X5))):=
 AE (decide (s12<s11)) (
  AZ s10 s12 fun x1=>
  AH (Xq s2 s3 s12 ([]:List X0) x1 s2 s3 w508 w750) fun r2=>
  some (.inl ((AB .add .i64 s12 1),r2.1,r2.2))) (
  some (.inr (w508,w750)))
def Ss(s2 s3:AA)(s10:List X7)(s11 s12:Int)(w508:MP X5 X3)(w750:List X5):Option ((MP X5 X3×List X5)):=AT (fun s:Int×MP X5 X3×List X5=>E4 s2 s3 s10 s11 s.1 s.2.1 s.2.2) (s12,w508,w750)
def Ya(a0 a1:AA):Option (List X5×MP X5 X3):=
 AH (Ss a0 a1 a0.decls (a0.decls.length:Int) 0 (Ek:MP X5 X3) ([]:List X5)) fun o3=>
 some (o3.2,o3.1)
def Ez(s1:Int)(s8:List Xd)(s9 s10:Int):Option ((Int)⊕(Unit⊕Unit)):=
 AE (decide (s10<s9)) (
  AZ s8 s10 fun x1=>
  AE (x1.accept) (
   Ai (0<=(IntKind.wrap .u64 s10)) (
    AE (!decide ((AB .and .u32 s1 (AB .shl .u32 1 (IntKind.wrap .u64 s10)))=0)) (
     some (.inr (.inr ()))) (
     some (.inl (AB .add .i64 s10 1))))) (
   some (.inl (AB .add .i64 s10 1)))) (
  some (.inr (.inl ())))
def SR(s1:Int)(s8:List Xd)(s9 s10:Int):Option (Unit⊕Unit):=AT (fun s:Int=>Ez s1 s8 s9 s) s10
def Y1(a0:AA)(a1:Int):Option (Bool):=
 AH (SR a1 a0.states (a0.states.length:Int) 0) fun o2=>
 Ax o2 (fun o3=>
  some false) (fun o4=>
  some true)
def E0(s2 s3:Int)(w0:List X3):Option ((Int×Int×List X3)⊕((List X3))):=
 AE (decide (s2<s3)) (
  Ai (0<=s3/\s3+1<=(w0.length:Int)) (
   AZ w0 s3 fun x1=>
   Ai (0<=s2/\s2+1<=(w0.length:Int)) (
    AZ w0 s2 fun x2=>
    Ai (0<=s2/\s2+1<=(w0.length:Int)) (
     Ai (0<=s2/\s2+1<=(w0.length:Int)) (
      Ai (0<=s3/\s3+1<=((w0.set s2.toNat x1).length:Int)) (
       Ai (0<=s3/\s3+1<=((w0.set s2.toNat x1).length:Int)) (
        some (.inl ((AB .add .i64 s2 1),(AB .sub .i64 s3 1),(w0.set s2.toNat x1).set s3.toNat x2))))))))) (
  some (.inr w0))
def Sc(s2 s3:Int)(w0:List X3):Option ((List X3)):=AT (fun s:Int×Int×List X3=>E0 s.1 s.2.1 s.2.2) (s2,s3,w0)
def Y5(w0:List X3):Option (List X3):=
 AH (Sc 0 (AB .sub .i64 (w0.length:Int) 1) w0) fun o3=>
 some o3
def Pu(s1 s2:Int)(s7 s8 s10:Int)(s14:List Xd)(s15 s16:Int)(s28:List Xe)(s29 s30:Int)(s46:Bool)(w3:AA)(w9:Xd)(w12:Xe):Option (Int):=
 AE (s46) (
  Ai (0<=(IntKind.wrap .u64 w12.to)) (
   some (AB .or .u32 s10 (AB .shl .u32 1 (IntKind.wrap .u64 w12.to))))) (
  some s10)
def Wr(s1 s2:Int)(s7 s8 s10:Int)(s14:List Xd)(s15 s16:Int)(s28:List Xe)(s29 s30:Int)(w3:AA)(w9:Xd):Option (Int):=
 AZ s28 s30 fun x2=>
 AE (decide (x2.from_=s8)) (
  Ai (0<=(IntKind.wrap .u64 x2.symbol)) (
   AH (Pu s1 s2 s7 s8 s10 s14 s15 s16 s28 s29 s30 (!decide ((AB .and .u64 s2 (AB .shl .u64 1 (IntKind.wrap .u64 x2.symbol)))=0)) w3 w9 x2) fun o3=>
   some o3)) (
  AH (Pu s1 s2 s7 s8 s10 s14 s15 s16 s28 s29 s30 false w3 w9 x2) fun o4=>
  some o4)
def Eu(s1 s2:Int)(s7 s8:Int)(s14:List Xd)(s15 s16:Int)(s28:List Xe)(s29:Int)(w3:AA)(w9:Xd)(s10 s30:Int):Option ((Int×Int)⊕(Int)):=
 AE (decide (s30<s29)) (
  AH (Wr s1 s2 s7 s8 s10 s14 s15 s16 s28 s29 s30 w3 w9) fun o5=>
  some (.inl (o5,(AB .add .i64 s30 1)))) (
  some (.inr s10))
def OR(s1 s2:Int)(s7 s8:Int)(s14:List Xd)(s15 s16:Int)(s28:List Xe)(s29:Int)(w3:AA)(w9:Xd)(s10 s30:Int):Option (Int):=AT (fun s:Int×Int=>Eu s1 s2 s7 s8 s14 s15 s16 s28 s29 w3 w9 s.1 s.2) (s10,s30)
def I9(s1 s2:Int)(s7 s8 s10:Int)(s14:List Xd)(s15 s16:Int)(s60:Bool)(w3:AA):Option (Int):=
 AE (s60) (
  Ai (0<=(IntKind.wrap .u64 s8)) (
   some (AB .shl .u32 1 (IntKind.wrap .u64 s8)))) (
  some s10)
def OQ(s1 s2 s7:Int)(s14:List Xd)(s15 s16:Int)(w3:AA):Option (Int):=
 AZ s14 s16 fun x1=>
 Ai (0<=(IntKind.wrap .u64 s16)) (
  AE (decide ((AB .and .u32 s1 (AB .shl .u32 1 (IntKind.wrap .u64 s16)))=0)) (
   some s7) (
   AH (OR s1 s2 s7 s16 s14 s15 s16 w3.trans (w3.trans.length:Int) w3 x1 0 0) fun o6=>
   AE (decide (o6=0)) (
    AH (I9 s1 s2 s7 s16 o6 s14 s15 s16 (!x1.next) w3) fun o7=>
    some (AB .or .u32 s7 o7)) (
    AH (I9 s1 s2 s7 s16 o6 s14 s15 s16 false w3) fun o8=>
    some (AB .or .u32 s7 o8))))
def DY(s1 s2:Int)(s14:List Xd)(s15:Int)(w3:AA)(s7 s16:Int):Option ((Int×Int)⊕(Int)):=
 AE (decide (s16<s15)) (
  AH (OQ s1 s2 s7 s14 s15 s16 w3) fun o9=>
  some (.inl (o9,(AB .add .i64 s16 1)))) (
  some (.inr s7))
def Pv(s1 s2:Int)(s14:List Xd)(s15:Int)(w3:AA)(s7 s16:Int):Option (Int):=AT (fun s:Int×Int=>DY s1 s2 s14 s15 w3 s.1 s.2) (s7,s16)
def Xa(a0:AA)(a1 a2:Int):Option (Int):=
 AH (Pv a1 a2 a0.states (a0.states.length:Int) a0 0 0) fun o10=>
 some o10
def OW(s11:Bool)(w4 w5:AA)(w6:X6)(w7:X5)(w8:X6):Option (X6):=
 AE (s11) (
  AH (Xa w4 w6.p w7.p) fun r1=>
  some (X6.mk r1 w6.q)) (
  some w6)
def LV(s21:Bool)(w5:AA)(w6:X6)(w7:X5)(w8:X6):Option (X6):=
 AE (s21) (
  AH (Xa w5 w6.q w7.q) fun r3=>
  some (X6.mk w6.p r3)) (
  some w6)
def Y0(a0 a1:AA)(a2:X6)(a3:X5):Option (X6):=
 AH (OW (!decide (a3.p=0)) a0 a1 a2 a3 (X6.mk 0 0)) fun o2=>
 AH (LV (!decide (a3.q=0)) a1 o2 a3 (X6.mk 0 0)) fun o4=>
 some o4
def F7(w7:MP X5 X3)(w8:X6)(w10:MP X6 Xc)(w12:X6)(w13:List X3):Option ((X6×List X3)⊕((List X3))):=
 AE (!(X6.eqb w12 w8)) (
  Ai (fit w13.length ([(BB (X3.mk ([]:List UInt8) ([]:List X0)) w7 (((BB (Xc.mk (X6.mk 0 0) (X5.mk 0 0)) w10 w12).1).by_)).1]).length 40) (
   some (.inl (((BB (Xc.mk (X6.mk 0 0) (X5.mk 0 0)) w10 w12).1).from_,w13++([(BB (X3.mk ([]:List UInt8) ([]:List X0)) w7 (((BB (Xc.mk (X6.mk 0 0) (X5.mk 0 0)) w10 w12).1).by_)).1]))))) (
  some (.inr w13))
def KC(w7:MP X5 X3)(w8:X6)(w10:MP X6 Xc)(w12:X6)(w13:List X3):Option ((List X3)):=AT (fun s:X6×List X3=>F7 w7 w8 w10 s.1 s.2) (w12,w13)
theorem Wm(w7:MP X5 X3)(w8:X6)(w10:MP X6 Xc)(w12:X6)(w13:List X3):KC w7 w8 w10 w12 w13=BP (F7 w7 w8 w10 w12 w13) (fun s:X6×List X3=>KC w7 w8 w10 s.1 s.2):=BE _ _
def Pm(s11 s83 s84:Int)(s100:Bool)(w2 w3:AA)(w6:List X5)(w7:MP X5 X3)(w8:X6)(w9:List X6)(w10:MP X6 Xc)(w12:X6)(w15:X5)(w16:X6):Option ((List X6×MP X6 Xc)):=
 AE (s100) (
  Ai (fit w9.length [w16].length 8) (
   some (w9++[w16],Cs w10 w16 (Xc.mk w12 w15)))) (
  some (w9,w10))
def OP(s11 s83 s84:Int)(w2 w3:AA)(w6:List X5)(w7:MP X5 X3)(w8:X6)(w9:List X6)(w10:MP X6 Xc)(w12:X6):Option ((List X6×MP X6 Xc)):=
 Ai (0<=s84/\s84+1<=(w6.length:Int)) (
  AZ w6 s84 fun x8=>
  AH (Y0 w2 w3 w12 x8) fun r9=>
  AH (Pm s11 s83 s84 (!((BB (Xc.mk (X6.mk 0 0) (X5.mk 0 0)) w10 r9).2)) w2 w3 w6 w7 w8 w9 w10 w12 x8 r9) fun o10=>
  some (o10.1,o10.2))
def EI(s11 s83:Int)(w2 w3:AA)(w6:List X5)(w7:MP X5 X3)(w8 w12:X6)(s84:Int)(w9:List X6)(w10:MP X6 Xc):Option ((Int×List X6×MP X6 Xc)⊕((List X6×MP X6 Xc))):=
 AE (decide (s84<s83)) (
  AH (OP s11 s83 s84 w2 w3 w6 w7 w8 w9 w10 w12) fun o11=>
  some (.inl ((AB .add .i64 s84 1),o11.1,o11.2))) (
  some (.inr (w9,w10)))
def LH(s11 s83:Int)(w2 w3:AA)(w6:List X5)(w7:MP X5 X3)(w8 w12:X6)(s84:Int)(w9:List X6)(w10:MP X6 Xc):Option ((List X6×MP X6 Xc)):=AT (fun s:Int×List X6×MP X6 Xc=>EI s11 s83 w2 w3 w6 w7 w8 w12 s.1 s.2.1 s.2.2) (s84,w9,w10)
def DX(w2 w3:AA)(w6:List X5)(w7:MP X5 X3)(w8:X6)(s11:Int)(w9:List X6)(w10:MP X6 Xc):Option ((Int×List X6×MP X6 Xc)⊕(Unit⊕(List X3))):=
 AE (decide (s11<(w9.length:Int))) (
  AZ w9 s11 fun x3=>
  AH (Y1 w2 x3.p) fun r4=>
  AH (Y1 w3 x3.q) fun r5=>
  AE (!(r4==r5)) (
   AH (KC w7 w8 w10 x3 ([]:List X3)) fun o6=>
   AH (Y5 o6) fun r7=>
   some (.inr (.inr r7))) (
   AH (LH s11 (w6.length:Int) w2 w3 w6 w7 w8 x3 0 w9 w10) fun o12=>
   some (.inl ((AB .add .i64 s11 1),o12.1,o12.2)))) (
  some (.inr (.inl ())))
def Pn(w2 w3:AA)(w6:List X5)(w7:MP X5 X3)(w8:X6)(s11:Int)(w9:List X6)(w10:MP X6 Xc):Option (Unit⊕(List X3)):=AT (fun s:Int×List X6×MP X6 Xc=>DX w2 w3 w6 w7 w8 s.1 s.2.1 s.2.2) (s11,w9,w10)
def X9(a0 a1:AA):Option (List X3×Bool):=
 AH (Ys a0 a1) fun r1=>
 AE (!r1) (
  some (([]:List X3),false)) (
  AH (Ya a0 a1) fun r2=>
  Ai (0<=(IntKind.wrap .u64 a0.start)) (
   Ai (0<=(IntKind.wrap .u64 a1.start)) (
    AH (Pn a0 a1 r2.1 r2.2 (X6.mk (AB .shl .u32 1 (IntKind.wrap .u64 a0.start)) (AB .shl .u32 1 (IntKind.wrap .u64 a1.start))) 0 [X6.mk (AB .shl .u32 1 (IntKind.wrap .u64 a0.start)) (AB .shl .u32 1 (IntKind.wrap .u64 a1.start))] (Cs (Ek:MP X6 Xc) (X6.mk (AB .shl .u32 1 (IntKind.wrap .u64 a0.start)) (AB .shl .u32 1 (IntKind.wrap .u64 a1.start))) (Xc.mk (X6.mk 0 0) (X5.mk 0 0)))) fun o13=>
    Ax o13 (fun o14=>
     some (([]:List X3),false)) (fun o15=>
     some (o15,true)))))
def Zr(a0 a1:AA):Option (Bool×Int):=
 AH (Ys a0 a1) fun r1=>
 AE (!r1) (
  some (false,1)) (
  AH (X9 a0 a1) fun r2=>
  some (!r2.2,0))
def Zk:Option (Bool):=
 AH (X9 (AA.mk ([112]:List UInt8) ([]:List X7) ([]:List Xt) ([]:List Xw) ([Xd.mk ([115]:List UInt8) false false]) 0 ([]:List X8) ([]:List Yc) ([]:List Xe)) (AA.mk ([113]:List UInt8) ([]:List X7) ([]:List Xt) ([]:List Xw) ([Xd.mk ([115]:List UInt8) false true]) 0 ([]:List X8) ([]:List Yc) ([]:List Xe))) fun r1=>
 AH (Zr (AA.mk ([112]:List UInt8) ([]:List X7) ([]:List Xt) ([]:List Xw) ([Xd.mk ([115]:List UInt8) false false]) 0 ([]:List X8) ([]:List Yc) ([]:List Xe)) (AA.mk ([112]:List UInt8) ([]:List X7) ([]:List Xt) ([]:List Xw) ([Xd.mk ([115]:List UInt8) false false]) 0 ([]:List X8) ([]:List Yc) ([]:List Xe))) fun r2=>
 AE (r1.2) (
  AE (decide ((r1.1.length:Int)=0)) (
   AE (r2.1) (
    AE (decide (r2.2=0)) (
     AH (Ys (AA.mk ([112]:List UInt8) ([]:List X7) ([]:List Xt) ([]:List Xw) ([Xd.mk ([115]:List UInt8) false false]) 0 ([]:List X8) ([]:List Yc) ([]:List Xe)) (AA.mk ([113]:List UInt8) ([]:List X7) ([]:List Xt) ([]:List Xw) ([Xd.mk ([115]:List UInt8) false true]) 0 ([]:List X8) ([]:List Yc) ([]:List Xe))) fun r3=>
     some r3) (
     some false)) (
    some false)) (
   some false)) (
  some false)
def Db(w1:AA)(s3:Int):Option ((Int)⊕(Unit⊕Unit)):=
 AE (decide (s3<(w1.trans.length:Int))) (
  AZ w1.trans s3 fun x1=>
  AE (!decide (x1.guard=(-1))) (
   some (.inr (.inr ()))) (
   some (.inl (AB .add .i64 s3 1)))) (
  some (.inr (.inl ())))
def TE(w1:AA)(s3:Int):Option (Unit⊕Unit):=AT (fun s:Int=>Db w1 s) s3
def Yj(a0:AA):Option (Bool):=
 AE (decide (0<(a0.frees.length:Int))) (
  some false) (
  AE (decide (1<(a0.quants.length:Int))) (
   some false) (
   AE (decide (8<(a0.states.length:Int))) (
    some false) (
    AE (decide (8<(a0.symbols.length:Int))) (
     some false) (
     AH (TE a0 0) fun o2=>
     Ax o2 (fun o3=>
      some true) (fun o4=>
      some false)))))
def Gg(s5:Int)(w2 w3:AA)(s6:Int):Option ((Int)⊕(Unit⊕Unit)):=
 AZ w2.decls s5 fun x7=>
 AE (decide (s6<(x7.types.length:Int))) (
  AZ w2.decls s5 fun x8=>
  AZ x8.types s6 fun x9=>
  AZ w3.decls s5 fun x10=>
  AZ x10.types s6 fun x11=>
  AE (!decide (x9=x11)) (
   some (.inr (.inr ()))) (
   some (.inl (AB .add .i64 s6 1)))) (
  some (.inr (.inl ())))
def aA0(s5:Int)(w2 w3:AA)(s6:Int):Option (Unit⊕Unit):=AT (fun s:Int=>Gg s5 w2 w3 s) s6
def Gf(w2 w3:AA)(s5:Int):Option ((Int)⊕(Unit⊕Unit)):=
 AE (decide (s5<(w2.decls.length:Int))) (
  AZ w2.decls s5 fun x3=>
  AZ w3.decls s5 fun x4=>
  AE (!decide (x3.name=x4.name)) (
   some (.inr (.inr ()))) (
   AZ w2.decls s5 fun x5=>
   AZ w3.decls s5 fun x6=>
   AE (!decide ((x5.types.length:Int)=(x6.types.length:Int))) (
    some (.inr (.inr ()))) (
    AH (aA0 s5 w2 w3 0) fun o12=>
    Ax o12 (fun o13=>
     some (.inl (AB .add .i64 s5 1))) (fun o14=>
     some (.inr (.inr ())))))) (
  some (.inr (.inl ())))
def aAy(w2 w3:AA)(s5:Int):Option (Unit⊕Unit):=AT (fun s:Int=>Gf w2 w3 s) s5
def Y6(a0 a1:AA):Option (Bool):=
 AH (Yj a0) fun r1=>
 AE (!r1) (
  some false) (
  AH (Yj a1) fun r2=>
  AE (!r2) (
   some false) (
   AE (decide (0<(a0.quants.length:Int))) (
    some false) (
    AE (decide (0<(a1.quants.length:Int))) (
     some false) (
     AE (!decide ((a0.decls.length:Int)=(a1.decls.length:Int))) (
      some false) (
      AH (aAy a0 a1 0) fun o15=>
      Ax o15 (fun o16=>
       some true) (fun o17=>
       some false))))))
def Gn(s0:List X0)(w3:X0)(s5:Int):Option ((Int)⊕(Int)):=
 AE (decide (0<s5)) (
  AZ s0 (AB .sub .i64 s5 1) fun x1=>
  AH (Zq w3 x1) fun r2=>
  AE (r2) (
   some (.inl (AB .sub .i64 s5 1))) (
   some (.inr s5))) (
  some (.inr s5))
def aHk(s0:List X0)(w3:X0)(s5:Int):Option (Int):=AT (fun s:Int=>Gn s0 w3 s) s5
def Yh(a0:List X0)(a1:X0):Option (List X0):=
 AH (aHk a0 a1 (a0.length:Int)) fun o3=>
 AE (decide (0<o3)) (
  AZ a0 (AB .sub .i64 o3 1) fun x4=>
  AE ((X0.eqb x4 a1)) (
   some a0) (
   Ai ((0:Int)<=0/\(0:Int)<=o3/\o3<=(a0.length:Int)) (
    Ai (fit ([]:List X0).length (sub a0 0 o3).length 40) (
     Ai (fit (([]:List X0)++(sub a0 0 o3)).length [a1].length 40) (
      Ai ((0:Int)<=o3/\(o3:Int)<=(a0.length:Int)/\(a0.length:Int)<=(a0.length:Int)) (
       Ai (fit ((([]:List X0)++(sub a0 0 o3))++[a1]).length (sub a0 o3 (a0.length:Int)).length 40) (
        some (((([]:List X0)++(sub a0 0 o3))++[a1])++(sub a0 o3 (a0.length:Int)))))))))) (
  Ai ((0:Int)<=0/\(0:Int)<=o3/\o3<=(a0.length:Int)) (
   Ai (fit ([]:List X0).length (sub a0 0 o3).length 40) (
    Ai (fit (([]:List X0)++(sub a0 0 o3)).length [a1].length 40) (
     Ai ((0:Int)<=o3/\(o3:Int)<=(a0.length:Int)/\(a0.length:Int)<=(a0.length:Int)) (
      Ai (fit ((([]:List X0)++(sub a0 0 o3))++[a1]).length (sub a0 o3 (a0.length:Int)).length 40) (
       some (((([]:List X0)++(sub a0 0 o3))++[a1])++(sub a0 o3 (a0.length:Int)))))))))
def RX(s1:Int)(s10:Bool)(w2:AA):Option ((List X0)):=
 AE (s10) (
  some ([X0.mk 3 0 ([]:List UInt8) false,X0.mk 3 0 ([]:List UInt8) true])) (
  some ([]:List X0))
def RY(s1:Int)(s5:List X0)(s6 s7:Int)(s50:Bool)(w2:AA)(w8:BJ):Option ((List X0)):=
 AE (s50) (
  AH (Yh s5 w8.value) fun r12=>
  some r12) (
  some s5)
def YL(s1:Int)(s5:List X0)(s6 s7:Int)(w2:AA):Option ((List X0)):=
 AZ w2.symbols s6 fun x10=>
 AZ x10.args s7 fun x11=>
 AE (decide (x11.kind=1)) (
  AH (RY s1 s5 s6 s7 (decide (x11.value.kind=s1)) w2 x11) fun o13=>
  some o13) (
  AH (RY s1 s5 s6 s7 false w2 x11) fun o14=>
  some o14)
def GW(s1 s6:Int)(w2:AA)(s5:List X0)(s7:Int):Option ((List X0×Int)⊕((List X0))):=
 AZ w2.symbols s6 fun x17=>
 AE (decide (s7<(x17.args.length:Int))) (
  AH (YL s1 s5 s6 s7 w2) fun o18=>
  some (.inl (o18,(AB .add .i64 s7 1)))) (
  some (.inr s5))
def YO(s1 s6:Int)(w2:AA)(s5:List X0)(s7:Int):Option ((List X0)):=AT (fun s:List X0×Int=>GW s1 s6 w2 s.1 s.2) (s5,s7)
def GV(s1:Int)(w2:AA)(s5:List X0)(s6:Int):Option ((List X0×Int)⊕((List X0))):=
 AE (decide (s6<(w2.symbols.length:Int))) (
  AH (YO s1 s6 w2 s5 0) fun o19=>
  some (.inl (o19,(AB .add .i64 s6 1)))) (
  some (.inr s5))
def aG2(s1:Int)(w2:AA)(s5:List X0)(s6:Int):Option ((List X0)):=AT (fun s:List X0×Int=>GV s1 w2 s.1 s.2) (s5,s6)
def Xm(a0:AA)(a1:Int):Option (List X0):=
 AH (RX a1 (decide (a1=3)) a0) fun o1=>
 AH (aG2 a1 a0 o1 0) fun o20=>
 some o20
def G6(s1 s5:List X0)(s6:Int):Option ((List X0×Int)⊕((List X0))):=
 AE (decide (s6<(s1.length:Int))) (
  AZ s1 s6 fun x1=>
  AH (Yh s5 x1) fun r2=>
  some (.inl (r2,(AB .add .i64 s6 1)))) (
  some (.inr s5))
def aH5(s1 s5:List X0)(s6:Int):Option ((List X0)):=AT (fun s:List X0×Int=>G6 s1 s.1 s.2) (s5,s6)
def Zb(a0 a1:List X0):Option (List X0):=
 AH (aH5 a1 a0 0) fun o3=>
 some o3
def Qm(a0:List X0)(a1:X0):Option (Bool):=
 AH (Yh a0 a1) fun r1=>
 some (decide ((r1.length:Int)=(a0.length:Int)))
def aA3(s0:Int)(s1:List X0)(s12:Bool)(w4 w5:X0):Option (X0):=
 AE (s12) (
  some (X0.mk w5.kind (AB .add .i64 w5.int 1) w5.str w5.bool)) (
  Ai (w5.str.length+([97]:List UInt8).length<=9223372036854775807) (
   some (X0.mk w5.kind w5.int (w5.str++([97]:List UInt8)) w5.bool)))
def Sj(s0:Int)(s1:List X0)(w4 w5:X0):Option (X0):=
 AH (aA3 s0 s1 (decide (s0=1)) w4 w5) fun o2=>
 some o2
def Gh(s0:Int)(s1:List X0)(w4 w5:X0):Option ((X0)⊕(X0)):=
 AH (Qm s1 w5) fun r1=>
 AE (r1) (
  AH (Sj s0 s1 w4 w5) fun o3=>
  some (.inl o3)) (
  some (.inr w5))
def Sk(s0:Int)(s1:List X0)(w4 w5:X0):Option (X0):=AT (fun s:X0=>Gh s0 s1 w4 s) w5
theorem ND(s0:Int)(s1:List X0)(w4 w5:X0):Sk s0 s1 w4 w5=BP (Gh s0 s1 w4 w5) (fun s:X0=>Sk s0 s1 w4 s):=BE _ _
def Y7(a0:Int)(a1:List X0):Option (X0):=
 AH (Sk a0 a1 (X0.mk 0 0 ([]:List UInt8) false) (X0.mk a0 0 ([]:List UInt8) false)) fun o4=>
 some o4
def WV(s2:Int)(s7:List X0)(s16:Bool):Option ((List X0)):=
 AE (s16) (
  AH (Y7 s2 s7) fun r4=>
  AH (Yh s7 r4) fun r5=>
  some r5) (
  some s7)
def Q3(a0 a1:AA)(a2:Int):Option (List X0):=
 AH (Xm a0 a2) fun r1=>
 AH (Xm a1 a2) fun r2=>
 AH (Zb r1 r2) fun r3=>
 AH (WV a2 r3 (!decide (a2=3))) fun o6=>
 some o6
def Gi(self:AA->AA->Int->(List X0)->Option (List X3))(s2:Int)(s3 s10:List X0)(w4 w5:AA)(s11:Int)(w9:List X3):Option ((Int×List X3)⊕((List X3))):=
 AE (decide (s11<(s10.length:Int))) (
  Ai (fit ([]:List X0).length s3.length 40) (
   AZ s10 s11 fun x8=>
   Ai (fit (([]:List X0)++s3).length [x8].length 40) (
    AH (self w4 w5 s2 ((([]:List X0)++s3)++[x8])) fun r9=>
    Ai (fit w9.length r9.length 40) (
     some (.inl ((AB .add .i64 s11 1),w9++r9)))))) (
  some (.inr w9))
def aHd(self:AA->AA->Int->(List X0)->Option (List X3))(s2:Int)(s3 s10:List X0)(w4 w5:AA)(s11:Int)(w9:List X3):Option ((List X3)):=AT (fun s:Int×List X3=>Gi self s2 s3 s10 w4 w5 s.1 s.2) (s11,w9)
def aKy(self:AA->AA->Int->(List X0)->Option (List X3))(a0 a1:AA)(a2:Int)(a3:List X0):Option (List X3):=
 AZ a0.decls a2 fun x1=>
 AE (decide ((a3.length:Int)=(x1.types.length:Int))) (
  AZ a0.decls a2 fun x2=>
  some [X3.mk x2.name a3]) (
  AZ a0.decls a2 fun x3=>
  AZ x3.types (a3.length:Int) fun x4=>
  AH (Q3 a0 a1 x4) fun r5=>
  AH (aHd self a2 a3 r5 a0 a1 0 ([]:List X3)) fun o10=>
  some o10)
def aFc:Nat->AA->AA->Int->(List X0)->Option (List X3)
 |0=>fun _ _ _ _=>none
 |n+1=>fun a0 a1 a2 a3=>aKy (aFc n) a0 a1 a2 a3
def Yb(a0 a1:AA)(a2:Int)(a3:List X0):Option (List X3):=aFc 100000 a0 a1 a2 a3
def Gx(s1:Int)(w2:AA)(s5:Int):Option ((Int)⊕(Unit⊕Unit)):=
 AE (decide (s5<(w2.states.length:Int))) (
  Ai (0<=(IntKind.wrap .u64 s5)) (
   AE (decide ((AB .rem .u32 (AB .shr .u32 s1 (IntKind.wrap .u64 s5)) 2)=1)) (
    AZ w2.states s5 fun x1=>
    AE (x1.accept) (
     some (.inr (.inr ()))) (
     some (.inl (AB .add .i64 s5 1)))) (
    some (.inl (AB .add .i64 s5 1))))) (
  some (.inr (.inl ())))
def aHu(s1:Int)(w2:AA)(s5:Int):Option (Unit⊕Unit):=AT (fun s:Int=>Gx s1 w2 s) s5
def Yy(a0:AA)(a1:Int):Option (Bool):=
 AH (aHu a1 a0 0) fun o2=>
 Ax o2 (fun o3=>
  some false) (fun o4=>
  some true)
def JI(s0:List X7)(s5:Int)(w3:X3)(s6:Int):Option ((Int)⊕(Unit⊕Unit)):=
 AE (decide (s6<(w3.args.length:Int))) (
  AZ w3.args s6 fun x3=>
  AZ s0 s5 fun x4=>
  AZ x4.types s6 fun x5=>
  AE (!decide (x3.kind=x5)) (
   some (.inr (.inr ()))) (
   AZ w3.args s6 fun x6=>
   AH (Zi x6) fun r7=>
   AE (!r7) (
    some (.inr (.inr ()))) (
    some (.inl (AB .add .i64 s6 1))))) (
  some (.inr (.inl ())))
def aHp(s0:List X7)(s5:Int)(w3:X3)(s6:Int):Option (Unit⊕Unit):=AT (fun s:Int=>JI s0 s5 w3 s) s6
def Yq(a0:List X7)(a1:X3):Option (Bool):=
 AH (Yu a0 a1.name) fun r1=>
 AE (decide (r1<0)) (
  some false) (
  AZ a0 r1 fun x2=>
  AE (!decide ((x2.types.length:Int)=(a1.args.length:Int))) (
   some false) (
   AH (aHp a0 r1 a1 0) fun o8=>
   Ax o8 (fun o9=>
    some true) (fun o10=>
    some false)))
def JF(s0:List X2)(s1:Int)(w4:X0)(s6:Int):Option ((Int)⊕(Unit⊕X0)):=
 AE (decide (s6<(s0.length:Int))) (
  AZ s0 s6 fun x1=>
  AE (decide (x1.var=s1)) (
   AZ s0 s6 fun x2=>
   some (.inr (.inr x2.value))) (
   some (.inl (AB .add .i64 s6 1)))) (
  some (.inr (.inl ())))
def aHh(s0:List X2)(s1:Int)(w4:X0)(s6:Int):Option (Unit⊕X0):=AT (fun s:Int=>JF s0 s1 w4 s) s6
def Ye(a0:List X2)(a1:Int):Option (X0×Bool):=
 AH (aHh a0 a1 (X0.mk 0 0 ([]:List UInt8) false) 0) fun o3=>
 Ax o3 (fun o4=>
  some (X0.mk 0 0 ([]:List UInt8) false,false)) (fun o5=>
  some (o5,true))
def JL(s0 s1:List X2)(s5:Int):Option ((Int)⊕(Unit⊕Unit)):=
 AE (decide (s5<(s0.length:Int))) (
  AZ s0 s5 fun x1=>
  AH (Ye s1 x1.var) fun r2=>
  AE (r2.2) (
   AZ s0 s5 fun x3=>
   AE (!(X0.eqb r2.1 x3.value)) (
    some (.inr (.inr ()))) (
    some (.inl (AB .add .i64 s5 1)))) (
   some (.inl (AB .add .i64 s5 1)))) (
  some (.inr (.inl ())))
def aH2(s0 s1:List X2)(s5:Int):Option (Unit⊕Unit):=AT (fun s:Int=>JL s0 s1 s) s5
def Z7(a0 a1:List X2):Option (Bool):=
 AH (aH2 a0 a1 0) fun o4=>
 Ax o4 (fun o5=>
  some true) (fun o6=>
  some false)
def aAn(s0 s1:List X2)(s6:Int)(s34:Bool)(w5:List X2)(w9:X0):Option ((List X2)):=
 AE (s34) (
  Ai (fit w5.length [X2.mk s6 w9].length 48) (
   some (w5++[X2.mk s6 w9]))) (
  some w5)
def aAl(s0 s1:List X2)(s6:Int)(s10 s27:Bool)(w5:List X2)(w7 w9:X0):Option ((List X2)):=
 AE (s27) (
  Ai (fit w5.length [X2.mk s6 w7].length 48) (
   some (w5++[X2.mk s6 w7]))) (
  AH (aAn s0 s1 s6 s10 w5 w9) fun o8=>
  some o8)
def aAj(s0 s1:List X2)(s6:Int)(w5:List X2):Option ((List X2)):=
 AH (Ye s0 s6) fun r6=>
 AH (Ye s1 s6) fun r7=>
 AH (aAl s0 s1 s6 r7.2 r6.2 w5 r6.1 r7.1) fun o9=>
 some o9
def Ge(s0 s1:List X2)(s6:Int)(w5:List X2):Option ((Int×List X2)⊕((List X2))):=
 AE (decide (s6<8)) (
  AH (aAj s0 s1 s6 w5) fun o10=>
  some (.inl ((AB .add .i64 s6 1),o10))) (
  some (.inr w5))
def aG9(s0 s1:List X2)(s6:Int)(w5:List X2):Option ((List X2)):=AT (fun s:Int×List X2=>Ge s0 s1 s.1 s.2) (s6,w5)
def Y2(a0 a1:List X2):Option (List X2):=
 AH (aG9 a0 a1 0 ([]:List X2)) fun o11=>
 some o11
def G1(s0:List X2)(w3:X2)(s5:Int):Option ((Int)⊕(Int)):=
 AE (decide (0<s5)) (
  AZ s0 (AB .sub .i64 s5 1) fun x1=>
  AE (decide (w3.var<x1.var)) (
   some (.inl (AB .sub .i64 s5 1))) (
   some (.inr s5))) (
  some (.inr s5))
def aH0(s0:List X2)(w3:X2)(s5:Int):Option (Int):=AT (fun s:Int=>G1 s0 w3 s) s5
def Z3(a0:List X2)(a1:X2):Option (List X2):=
 AH (aH0 a0 a1 (a0.length:Int)) fun o2=>
 Ai ((0:Int)<=0/\(0:Int)<=o2/\o2<=(a0.length:Int)) (
  Ai (fit ([]:List X2).length (sub a0 0 o2).length 48) (
   Ai (fit (([]:List X2)++(sub a0 0 o2)).length [a1].length 48) (
    Ai ((0:Int)<=o2/\(o2:Int)<=(a0.length:Int)/\(a0.length:Int)<=(a0.length:Int)) (
     Ai (fit ((([]:List X2)++(sub a0 0 o2))++[a1]).length (sub a0 o2 (a0.length:Int)).length 48) (
      some (((([]:List X2)++(sub a0 0 o2))++[a1])++(sub a0 o2 (a0.length:Int))))))))
def Rm(s1:Int)(s10 s11:List X2)(s12:Int)(s80:Bool)(w5:X3)(w6:Int)(w8:X8)(w9:AL)(w13:BJ)(w14:List X2):Option ((List X2)⊕Unit):=
 AE (s80) (
  AH (Z7 s10 w14) fun r32=>
  AE (!r32) (
   some (.inr ())) (
   AH (Y2 s10 w14) fun r33=>
   some (.inl r33))) (
  some (.inl s10))
def Ro(s1:Int)(s10 s11:List X2)(s12:Int)(s111:Bool)(w5:X3)(w6:Int)(w8:X8)(w9:AL)(w14:List X2):Option ((List X2)):=
 AE (s111) (
  AZ w14 0 fun x39=>
  AH (Z3 s11 x39) fun r40=>
  some r40) (
  some s11)
def Rn(s1:Int)(s10 s11:List X2)(s12:Int)(s91:Bool)(w5:X3)(w6:Int)(w8:X8)(w9:AL)(w13:BJ)(w14:List X2):Option ((List X2)⊕Unit):=
 AE (s91) (
  AH (Ye s11 w13.n) fun r37=>
  AE (r37.2) (
   AZ w5.args s12 fun x38=>
   AE (!(X0.eqb r37.1 x38)) (
    some (.inr ())) (
    AH (Ro s1 s10 s11 s12 (!r37.2) w5 w6 w8 w9 w14) fun o41=>
    some (.inl o41))) (
   AH (Ro s1 s10 s11 s12 (!r37.2) w5 w6 w8 w9 w14) fun o42=>
   some (.inl o42))) (
  some (.inl s11))
def YW(s1:Int)(s10 s11:List X2)(s12:Int)(w5:X3)(w6:Int)(w8:X8)(w9:AL):Option ((List X2×List X2)⊕Unit):=
 AZ w8.args s12 fun x29=>
 AZ w5.args s12 fun x30=>
 AE (decide (x29.kind=1)) (
  AZ w5.args s12 fun x31=>
  AE (!(X0.eqb x29.value x31)) (
   some (.inr ())) (
   AH (Rm s1 s10 s11 s12 (decide (x29.kind=2)) w5 w6 w8 w9 x29 [X2.mk x29.n x30]) fun o34=>
   Ax o34 (fun o35=>
    AH (Rn s1 o35 s11 s12 (decide (x29.kind=3)) w5 w6 w8 w9 x29 [X2.mk x29.n x30]) fun o43=>
    Ax o43 (fun o44=>
     some (.inl (o35,o44))) (fun o45=>
     some (.inr ()))) (fun o36=>
    some (.inr ())))) (
  AH (Rm s1 s10 s11 s12 (decide (x29.kind=2)) w5 w6 w8 w9 x29 [X2.mk x29.n x30]) fun o46=>
  Ax o46 (fun o47=>
   AH (Rn s1 o47 s11 s12 (decide (x29.kind=3)) w5 w6 w8 w9 x29 [X2.mk x29.n x30]) fun o49=>
   Ax o49 (fun o50=>
    some (.inl (o47,o50))) (fun o51=>
    some (.inr ()))) (fun o48=>
   some (.inr ())))
def GX(s1:Int)(w5:X3)(w6:Int)(w8:X8)(w9:AL)(s10 s11:List X2)(s12:Int):Option ((List X2×List X2×Int)⊕((List X2×List X2)⊕Unit)):=
 AE (decide (s12<(w8.args.length:Int))) (
  AH (YW s1 s10 s11 s12 w5 w6 w8 w9) fun o52=>
  Ax o52 (fun o53=>
   some (.inl (o53.1,o53.2,(AB .add .i64 s12 1)))) (fun o54=>
   some (.inr (.inr ())))) (
  some (.inr (.inl (s10,s11))))
def OS(s1:Int)(w5:X3)(w6:Int)(w8:X8)(w9:AL)(s10 s11:List X2)(s12:Int):Option ((List X2×List X2)⊕Unit):=AT (fun s:List X2×List X2×Int=>GX s1 w5 w6 w8 w9 s.1 s.2.1 s.2.2) (s10,s11,s12)
theorem M4(s1:Int)(w5:X3)(w6:Int)(w8:X8)(w9:AL)(s10 s11:List X2)(s12:Int):OS s1 w5 w6 w8 w9 s10 s11 s12=BP (GX s1 w5 w6 w8 w9 s10 s11 s12) (fun s:List X2×List X2×Int=>OS s1 w5 w6 w8 w9 s.1 s.2.1 s.2.2):=BE _ _
def Xo(a0:AA)(a1:Int)(a2:X3):Option (AL×Bool):=
 AZ a0.symbols a1 fun x1=>
 AZ a0.decls x1.event fun x2=>
 AE (!decide (x2.name=a2.name)) (
  some (AL.mk 0 ([]:List X2) ([]:List X2),false)) (
  AE (!decide ((x1.args.length:Int)=(a2.args.length:Int))) (
   some (AL.mk 0 ([]:List X2) ([]:List X2),false)) (
   AH (OS a1 a2 0 x1 (AL.mk 0 ([]:List X2) ([]:List X2)) ([]:List X2) ([]:List X2) 0) fun o55=>
   Ax o55 (fun o56=>
    some (AL.mk a1 o56.1 o56.2,true)) (fun o57=>
    some ((AL.mk 0 ([]:List X2) ([]:List X2)),false))))
def ZZ(s6:Int)(s23:Bool)(w2:AA)(w3:X3)(w5:List AL)(w7:AL):Option ((List AL)):=
 AE (s23) (
  Ai (fit w5.length [w7].length 56) (
   some (w5++[w7]))) (
  some w5)
def ZX(s6:Int)(w2:AA)(w3:X3)(w5:List AL):Option ((List AL)):=
 AH (Xo w2 s6 w3) fun r4=>
 AH (ZZ s6 r4.2 w2 w3 w5 r4.1) fun o5=>
 some o5
def Gc(w2:AA)(w3:X3)(s6:Int)(w5:List AL):Option ((Int×List AL)⊕((List AL))):=
 AE (decide (s6<(w2.symbols.length:Int))) (
  AH (ZX s6 w2 w3 w5) fun o6=>
  some (.inl ((AB .add .i64 s6 1),o6))) (
  some (.inr w5))
def aG7(w2:AA)(w3:X3)(s6:Int)(w5:List AL):Option ((List AL)):=AT (fun s:Int×List AL=>Gc w2 w3 s.1 s.2) (s6,w5)
def Xy(a0:AA)(a1:X3):Option (List AL):=
 AH (aG7 a0 a1 0 ([]:List AL)) fun o7=>
 some o7
def JM(s0 s1:List X2)(s5:Int):Option ((Int)⊕(Unit⊕Unit)):=
 AE (decide (s5<(s0.length:Int))) (
  AZ s0 s5 fun x1=>
  AH (Ye s1 x1.var) fun r2=>
  AE (!r2.2) (
   some (.inr (.inr ()))) (
   AZ s0 s5 fun x3=>
   AE (!(X0.eqb r2.1 x3.value)) (
    some (.inr (.inr ()))) (
    some (.inl (AB .add .i64 s5 1))))) (
  some (.inr (.inl ())))
def aH3(s0 s1:List X2)(s5:Int):Option (Unit⊕Unit):=AT (fun s:Int=>JM s0 s1 s) s5
def Z8(a0 a1:List X2):Option (Bool):=
 AH (aH3 a0 a1 0) fun o4=>
 Ax o4 (fun o5=>
  some true) (fun o6=>
  some false)
def aAu(s0:List AL)(s1:List X2)(s6:Int)(s19:Bool)(w5:List AL):Option ((List AL)):=
 AE (s19) (
  AZ s0 s6 fun x8=>
  Ai (fit w5.length [x8].length 56) (
   some (w5++[x8]))) (
  some w5)
def aAs(s0:List AL)(s1:List X2)(s6:Int)(w5:List AL):Option ((List AL)):=
 AZ s0 s6 fun x6=>
 AH (Z8 x6.bind s1) fun r7=>
 AH (aAu s0 s1 s6 r7 w5) fun o9=>
 some o9
def JE(s0:List AL)(s1:List X2)(s6:Int)(w5:List AL):Option ((Int×List AL)⊕((List AL))):=
 AE (decide (s6<(s0.length:Int))) (
  AH (aAs s0 s1 s6 w5) fun o10=>
  some (.inl ((AB .add .i64 s6 1),o10))) (
  some (.inr w5))
def aHb(s0:List AL)(s1:List X2)(s6:Int)(w5:List AL):Option ((List AL)):=AT (fun s:Int×List AL=>JE s0 s1 s.1 s.2) (s6,w5)
def Y4(a0:List AL)(a1:List X2):Option (List AL):=
 AH (aHb a0 a1 0 ([]:List AL)) fun o11=>
 some o11
def Gy(s0:List AL)(s3 s4:Int):Option ((Int×Int)⊕(Int)):=
 AE (decide (s4<(s0.length:Int))) (
  AZ s0 s4 fun x1=>
  Ai (0<=(IntKind.wrap .u64 x1.symbol)) (
   some (.inl ((AB .add .u64 s3 (AB .shl .u64 1 (IntKind.wrap .u64 x1.symbol))),(AB .add .i64 s4 1))))) (
  some (.inr s3))
def aHv(s0:List AL)(s3 s4:Int):Option (Int):=AT (fun s:Int×Int=>Gy s0 s.1 s.2) (s3,s4)
def Yz(a0:List AL):Option (Int):=
 AH (aHv a0 0 0) fun o2=>
 some o2
def Qk(a0:AA)(a1:List X2)(a2:X3):Option (Int):=
 AH (Yq a0.decls a2) fun r1=>
 AE (!r1) (
  some 0) (
  AH (Xy a0 a2) fun r2=>
  AH (Y4 r2 a1) fun r3=>
  AH (Yz r3) fun r4=>
  some r4)
def QU(s1 s2:Int)(s7 s8:Int)(s9 s10:Int)(s49:Bool)(w3:AA)(w11:Xe):Option (Int):=
 AE (s49) (
  Ai (0<=(IntKind.wrap .u64 w11.to)) (
   some (AB .or .u32 s9 (AB .shl .u32 1 (IntKind.wrap .u64 w11.to))))) (
  some s9)
def XM(s1 s2:Int)(s7 s8:Int)(s9 s10:Int)(w3:AA):Option (Int):=
 AZ w3.trans s10 fun x1=>
 AE (decide (x1.from_=s8)) (
  Ai (0<=(IntKind.wrap .u64 x1.symbol)) (
   AH (QU s1 s2 s7 s8 s9 s10 (decide ((AB .rem .u64 (AB .shr .u64 s2 (IntKind.wrap .u64 x1.symbol)) 2)=1)) w3 x1) fun o2=>
   some o2)) (
  AH (QU s1 s2 s7 s8 s9 s10 false w3 x1) fun o3=>
  some o3)
def GM(s1 s2:Int)(s7 s8:Int)(w3:AA)(s9 s10:Int):Option ((Int×Int)⊕(Int)):=
 AE (decide (s10<(w3.trans.length:Int))) (
  AH (XM s1 s2 s7 s8 s9 s10 w3) fun o4=>
  some (.inl (o4,(AB .add .i64 s10 1)))) (
  some (.inr s9))
def XP(s1 s2:Int)(s7 s8:Int)(w3:AA)(s9 s10:Int):Option (Int):=AT (fun s:Int×Int=>GM s1 s2 s7 s8 w3 s.1 s.2) (s9,s10)
def LR(s1 s2:Int)(s7 s8 s9:Int)(s66:Bool)(w3:AA):Option (Int):=
 AE (s66) (
  Ai (0<=(IntKind.wrap .u64 s8)) (
   some (AB .shl .u32 1 (IntKind.wrap .u64 s8)))) (
  some s9)
def XK(s1 s2:Int)(s7 s8:Int)(w3:AA):Option (Int):=
 Ai (0<=(IntKind.wrap .u64 s8)) (
  AE (decide ((AB .rem .u32 (AB .shr .u32 s1 (IntKind.wrap .u64 s8)) 2)=0)) (
   some s7) (
   AH (XP s1 s2 s7 s8 w3 0 0) fun o5=>
   AE (decide (o5=0)) (
    AZ w3.states s8 fun x6=>
    AH (LR s1 s2 s7 s8 o5 (!x6.next) w3) fun o7=>
    some (AB .or .u32 s7 o7)) (
    AH (LR s1 s2 s7 s8 o5 false w3) fun o8=>
    some (AB .or .u32 s7 o8))))
def Ev(s1 s2:Int)(w3:AA)(s7 s8:Int):Option ((Int×Int)⊕(Int)):=
 AE (decide (s8<(w3.states.length:Int))) (
  AH (XK s1 s2 s7 s8 w3) fun o9=>
  some (.inl (o9,(AB .add .i64 s8 1)))) (
  some (.inr s7))
def aGw(s1 s2:Int)(w3:AA)(s7 s8:Int):Option (Int):=AT (fun s:Int×Int=>Ev s1 s2 w3 s.1 s.2) (s7,s8)
def Xi(a0:AA)(a1 a2:Int):Option (Int):=
 AH (aGw a1 a2 a0 0 0) fun o10=>
 some o10
def aC1(s9 s10:Int)(s18:Bool)(w4 w5:AA)(w6 w8:Xf):Option (Xf):=
 AE (s18) (
  AH (Xi w4 w6.p s9) fun r3=>
  some (Xf.mk r3 w6.q)) (
  some w6)
def UX(s10:Int)(s26:Bool)(w5:AA)(w6 w8:Xf):Option (Xf):=
 AE (s26) (
  AH (Xi w5 w6.q s10) fun r5=>
  some (Xf.mk w6.p r5)) (
  some w6)
def Zo(a0 a1:AA)(a2:Xf)(a3:X3):Option (Xf):=
 AH (Qk a0 ([]:List X2) a3) fun r1=>
 AH (Qk a1 ([]:List X2) a3) fun r2=>
 AH (aC1 r1 r2 (!decide (r1=0)) a0 a1 a2 (Xf.mk 0 0)) fun o4=>
 AH (UX r2 (!decide (r2=0)) a1 o4 (Xf.mk 0 0)) fun o6=>
 some o6
def G7(s0:List Xf)(w3:Xf)(s5:Int):Option ((Int)⊕(Unit⊕Unit)):=
 AE (decide (s5<(s0.length:Int))) (
  AZ s0 s5 fun x1=>
  AE ((Xf.eqb x1 w3)) (
   some (.inr (.inr ()))) (
   some (.inl (AB .add .i64 s5 1)))) (
  some (.inr (.inl ())))
def aH6(s0:List Xf)(w3:Xf)(s5:Int):Option (Unit⊕Unit):=AT (fun s:Int=>G7 s0 w3 s) s5
def Zc(a0:List Xf)(a1:Xf):Option (Bool):=
 AH (aH6 a0 a1 0) fun o2=>
 Ax o2 (fun o3=>
  some false) (fun o4=>
  some true)
def GN(w2 w3:AA)(s6:Int)(w5:List X3):Option ((Int×List X3)⊕((List X3))):=
 AE (decide (s6<(w2.decls.length:Int))) (
  AH (Yb w2 w3 s6 ([]:List X0)) fun r2=>
  Ai (fit w5.length r2.length 40) (
   some (.inl ((AB .add .i64 s6 1),w5++r2)))) (
  some (.inr w5))
def aGx(w2 w3:AA)(s6:Int)(w5:List X3):Option ((List X3)):=AT (fun s:Int×List X3=>GN w2 w3 s.1 s.2) (s6,w5)
def XT(s9 s10:Int)(s81:Bool)(w2 w3:AA)(w5:List X3)(w7:List Xf)(w8:List Int)(w11:Xf):Option ((List Xf×List Int)):=
 AE (s81) (
  Ai (fit w7.length [w11].length 8) (
   AZ w8 s9 fun x13=>
   Ai (fit w8.length [(AB .add .i64 x13 1)].length 8) (
    some (w7++[w11],w8++[(AB .add .i64 x13 1)])))) (
  some (w7,w8))
def XR(s9 s10:Int)(w2 w3:AA)(w5:List X3)(w7:List Xf)(w8:List Int):Option ((List Xf×List Int)):=
 AZ w7 s9 fun x9=>
 AZ w5 s10 fun x10=>
 AH (Zo w2 w3 x9 x10) fun r11=>
 AH (Zc w7 r11) fun r12=>
 AH (XT s9 s10 (!r12) w2 w3 w5 w7 w8 r11) fun o14=>
 some (o14.1,o14.2)
def GO(s9:Int)(w2 w3:AA)(w5:List X3)(s10:Int)(w7:List Xf)(w8:List Int):Option ((Int×List Xf×List Int)⊕((List Xf×List Int))):=
 AE (decide (s10<(w5.length:Int))) (
  AH (XR s9 s10 w2 w3 w5 w7 w8) fun o15=>
  some (.inl ((AB .add .i64 s10 1),o15.1,o15.2))) (
  some (.inr (w7,w8)))
def RG(s9:Int)(w2 w3:AA)(w5:List X3)(s10:Int)(w7:List Xf)(w8:List Int):Option ((List Xf×List Int)):=AT (fun s:Int×List Xf×List Int=>GO s9 w2 w3 w5 s.1 s.2.1 s.2.2) (s10,w7,w8)
def Ew(w2 w3:AA)(w5:List X3)(s9:Int)(w7:List Xf)(w8:List Int):Option ((Int×List Xf×List Int)⊕(Unit⊕Int)):=
 AE (decide (s9<(w7.length:Int))) (
  AZ w7 s9 fun x4=>
  AH (Yy w2 x4.p) fun r5=>
  AZ w7 s9 fun x6=>
  AH (Yy w3 x6.q) fun r7=>
  AE (!(r5==r7)) (
   AZ w8 s9 fun x8=>
   some (.inr (.inr x8))) (
   AH (RG s9 w2 w3 w5 0 w7 w8) fun o16=>
   some (.inl ((AB .add .i64 s9 1),o16.1,o16.2)))) (
  some (.inr (.inl ())))
def aGy(w2 w3:AA)(w5:List X3)(s9:Int)(w7:List Xf)(w8:List Int):Option (Unit⊕Int):=AT (fun s:Int×List Xf×List Int=>Ew w2 w3 w5 s.1 s.2.1 s.2.2) (s9,w7,w8)
def Xj(a0 a1:AA):Option (Int):=
 AH (aGx a0 a1 0 ([]:List X3)) fun o3=>
 Ai (0<=(IntKind.wrap .u64 a0.start)) (
  Ai (0<=(IntKind.wrap .u64 a1.start)) (
   AH (aGy a0 a1 o3 0 [Xf.mk (AB .shl .u32 1 (IntKind.wrap .u64 a0.start)) (AB .shl .u32 1 (IntKind.wrap .u64 a1.start))] [0]) fun o17=>
   Ax o17 (fun o18=>
    some (-1)) (fun o19=>
    some o19)))
def Re(s1:List (List X0))(s17:Bool)(w3:AA)(w5:X3):Option ((List AL)):=
 AE (s17) (
  AH (Xy w3 w5) fun r2=>
  some r2) (
  some ([]:List AL))
def aG4(s1:List (List X0))(s8:List AL)(s9:Int)(s31:Bool)(w3:AA)(w7:List (List X0)):Option ((List X0)):=
 AE (s31) (
  AZ s1 s9 fun x13=>
  some x13) (
  some ([]:List X0))
def Rh(s1:List (List X0))(s8:List AL)(s9:Int)(s10:List X0)(s11:Int)(s52:Bool)(w3:AA)(w7:List (List X0))(w12:X0):Option ((List X0)):=
 AE (s52) (
  AH (Yh s10 w12) fun r17=>
  some r17) (
  some s10)
def Rf(s1:List (List X0))(s8:List AL)(s9:Int)(s10:List X0)(s11:Int)(w3:AA)(w7:List (List X0)):Option ((List X0)):=
 AZ s8 s11 fun x15=>
 AH (Ye x15.bind s9) fun r16=>
 AH (Rh s1 s8 s9 s10 s11 r16.2 w3 w7 r16.1) fun o18=>
 some o18
def M0(s1:List (List X0))(s8:List AL)(s9:Int)(w3:AA)(w7:List (List X0))(s10:List X0)(s11:Int):Option ((List X0×Int)⊕((List X0))):=
 AE (decide (s11<(s8.length:Int))) (
  AH (Rf s1 s8 s9 s10 s11 w3 w7) fun o19=>
  some (.inl (o19,(AB .add .i64 s11 1)))) (
  some (.inr s10))
def aFb(s1:List (List X0))(s8:List AL)(s9:Int)(w3:AA)(w7:List (List X0))(s10:List X0)(s11:Int):Option ((List X0)):=AT (fun s:List X0×Int=>M0 s1 s8 s9 w3 w7 s.1 s.2) (s10,s11)
def aG3(s1:List (List X0))(s8:List AL)(s9:Int)(w3:AA)(w7:List (List X0)):Option ((List (List X0))):=
 AH (aG4 s1 s8 s9 (decide (s9<(s1.length:Int))) w3 w7) fun o14=>
 AH (aFb s1 s8 s9 w3 w7 o14 0) fun o20=>
 Ai (fit w7.length [o20].length 24) (
  some (w7++[o20]))
def JB(s1:List (List X0))(s8:List AL)(w3:AA)(s9:Int)(w7:List (List X0)):Option ((Int×List (List X0))⊕((List (List X0)))):=
 AE (decide (s9<(w3.quants.length:Int))) (
  AH (aG3 s1 s8 s9 w3 w7) fun o21=>
  some (.inl ((AB .add .i64 s9 1),o21))) (
  some (.inr w7))
def YT(s1:List (List X0))(s8:List AL)(w3:AA)(s9:Int)(w7:List (List X0)):Option ((List (List X0))):=AT (fun s:Int×List (List X0)=>JB s1 s8 w3 s.1 s.2) (s9,w7)
theorem YU(s1:List (List X0))(s8:List AL)(w3:AA)(s9:Int)(w7:List (List X0)):YT s1 s8 w3 s9 w7=BP (JB s1 s8 w3 s9 w7) (fun s:Int×List (List X0)=>YT s1 s8 w3 s.1 s.2):=BE _ _
def Xn(a0:AA)(a1:List (List X0))(a2:X3):Option (List (List X0)):=
 AH (Yq a0.decls a2) fun r1=>
 AH (Re a1 r1 a0 a2) fun o3=>
 AH (YT a1 o3 a0 0 ([]:List (List X0))) fun o22=>
 some o22
def G8(s1:List X3)(w2:AA)(s5:List (List X0))(s6:Int):Option ((List (List X0)×Int)⊕((List (List X0)))):=
 AE (decide (s6<(s1.length:Int))) (
  AZ s1 s6 fun x3=>
  AH (Xn w2 s5 x3) fun r4=>
  some (.inl (r4,(AB .add .i64 s6 1)))) (
  some (.inr s5))
def aH7(s1:List X3)(w2:AA)(s5:List (List X0))(s6:Int):Option ((List (List X0))):=AT (fun s:List (List X0)×Int=>G8 s1 w2 s.1 s.2) (s5,s6)
def Zd(a0:AA)(a1:List X3):Option (List (List X0)):=
 Ai (0<=(a0.quants.length:Int)/\fit 0 (a0.quants.length:Int).toNat 24) (
  AH (aH7 a1 a0 (List.replicate (a0.quants.length:Int).toNat ([]:List X0)) 0) fun o5=>
  some o5)
def G9(w1:AA)(w3 s4:Int)(w600:List X0):Option ((Int×List X0)⊕((List X0))):=
 AE (decide (s4<(w1.frees.length:Int))) (
  AZ w1.frees s4 fun x2=>
  Ai (fit w600.length [x2.init_].length 40) (
   some (.inl ((AB .add .i64 s4 1),w600++[x2.init_])))) (
  some (.inr w600))
def aH8(w1:AA)(w3 s4:Int)(w600:List X0):Option ((List X0)):=AT (fun s:Int×List X0=>G9 w1 w3 s.1 s.2) (s4,w600)
def Ze(a0:AA):Option (List X4):=
 AH (aH8 a0 a0.start 0 ([]:List X0)) fun o3=>
 some [X4.mk a0.start o3]
def Lg(s1:List X2)(s6:Int)(w5:List X0):Option ((Int×List X0)⊕((List X0))):=
 AE (decide (s6<(s1.length:Int))) (
  AZ s1 s6 fun x1=>
  AZ s1 s6 fun x2=>
  Ai (0<=x1.var/\x1.var+1<=(w5.length:Int)) (
   Ai (0<=x1.var/\x1.var+1<=(w5.length:Int)) (
    some (.inl ((AB .add .i64 s6 1),w5.set x1.var.toNat x2.value))))) (
  some (.inr w5))
def aId(s1:List X2)(s6:Int)(w5:List X0):Option ((List X0)):=AT (fun s:Int×List X0=>Lg s1 s.1 s.2) (s6,w5)
def Zl(a0:List X0)(a1:List X2):Option (List X0):=
 Ai (fit ([]:List X0).length a0.length 40) (
  AH (aId a1 0 a0) fun o3=>
  some o3)
def aQd(self:AA->Int->(List X2)->(List X0)->Option (X0×Int))(a0:AA)(a1:Int)(a2:List X2)(a3:List X0):Option (X0×Int):=
 AZ a0.nodes a1 fun x1=>
 AE (decide (x1.op=1)) (
  some (x1.value,0)) (
  AE (decide (x1.op=2)) (
   AH (Ye a2 x1.a) fun r2=>
   AE (!r2.2) (
    some (X0.mk 0 0 ([]:List UInt8) false,9)) (
    AZ a0.quants x1.a fun x3=>
    AE (!decide (r2.1.kind=x3.type)) (
     some (X0.mk 0 0 ([]:List UInt8) false,9)) (
     some (r2.1,0)))) (
   AE (decide (x1.op=3)) (
    AZ a3 x1.a fun x4=>
    some (x4,0)) (
    AH (self a0 x1.a a2 a3) fun r5=>
    AE (!decide (r5.2=0)) (
     some (X0.mk 0 0 ([]:List UInt8) false,r5.2)) (
     AE (decide (x1.op<=5)) (
      AH (Zt x1.op r5.1 (X0.mk 0 0 ([]:List UInt8) false)) fun r6=>
      some (r6.1,r6.2)) (
      AE (decide (x1.op=6)) (
       AE (!r5.1.bool) (
        some (r5.1,0)) (
        AE (decide (x1.op=7)) (
         AE (r5.1.bool) (
          some (r5.1,0)) (
          AH (self a0 x1.b a2 a3) fun r7=>
          AE (!decide (r7.2=0)) (
           some (X0.mk 0 0 ([]:List UInt8) false,r7.2)) (
           AH (Zt x1.op r5.1 r7.1) fun r8=>
           some (r8.1,r8.2)))) (
         AH (self a0 x1.b a2 a3) fun r9=>
         AE (!decide (r9.2=0)) (
          some (X0.mk 0 0 ([]:List UInt8) false,r9.2)) (
          AH (Zt x1.op r5.1 r9.1) fun r10=>
          some (r10.1,r10.2))))) (
       AE (decide (x1.op=7)) (
        AE (r5.1.bool) (
         some (r5.1,0)) (
         AH (self a0 x1.b a2 a3) fun r11=>
         AE (!decide (r11.2=0)) (
          some (X0.mk 0 0 ([]:List UInt8) false,r11.2)) (
          AH (Zt x1.op r5.1 r11.1) fun r12=>
          some (r12.1,r12.2)))) (
        AH (self a0 x1.b a2 a3) fun r13=>
        AE (!decide (r13.2=0)) (
         some (X0.mk 0 0 ([]:List UInt8) false,r13.2)) (
         AH (Zt x1.op r5.1 r13.1) fun r14=>
         some (r14.1,r14.2)))))))))
def aMn:Nat->AA->Int->(List X2)->(List X0)->Option (X0×Int)
 |0=>fun _ _ _ _=>none
 |n+1=>fun a0 a1 a2 a3=>aQd (aMn n) a0 a1 a2 a3
def Zs(a0:AA)(a1:Int)(a2:List X2)(a3:List X0):Option (X0×Int):=aMn 100000 a0 a1 a2 a3
def Qr(a0:AA)(a1:Int)(a2:List X2)(a3:List X0):Option (Bool×Int):=
 AZ a0.trans a1 fun x1=>
 AE (decide (x1.guard<0)) (
  some (true,0)) (
  AH (Zs a0 x1.guard a2 a3) fun r2=>
  some (r2.1.bool,r2.2))
def Lh(s2:List X2)(s11:List DN)(w3:List X0)(w4:AA)(s12:Int)(w10:List X0):Option ((Int×List X0)⊕((List X0)⊕Int)):=
 AE (decide (s12<(s11.length:Int))) (
  AZ s11 s12 fun x2=>
  AH (Zs w4 x2.expr s2 w3) fun r3=>
  AE (!decide (r3.2=0)) (
   some (.inr (.inr r3.2))) (
   AZ s11 s12 fun x4=>
   Ai (0<=x4.free/\x4.free+1<=(w10.length:Int)) (
    Ai (0<=x4.free/\x4.free+1<=(w10.length:Int)) (
     some (.inl ((AB .add .i64 s12 1),w10.set x4.free.toNat r3.1)))))) (
  some (.inr (.inl w10)))
def aIe(s2:List X2)(s11:List DN)(w3:List X0)(w4:AA)(s12:Int)(w10:List X0):Option ((List X0)⊕Int):=AT (fun s:Int×List X0=>Lh s2 s11 w3 w4 s.1 s.2) (s12,w10)
def Zm(a0:AA)(a1:Int)(a2:List X2)(w0:List X0):Option (List X0×Int):=
 Ai (fit ([]:List X0).length w0.length 40) (
  AZ a0.trans a1 fun x1=>
  AH (aIe a2 x1.sets w0 a0 0 w0) fun o5=>
  Ax o5 (fun o6=>
   some (o6,0)) (fun o7=>
   some (([]:List X0),o7)))
def Qs(a0:AA)(a1:Int)(a2:X4)(a3:AL):Option (X4×Bool×Int):=
 AH (Zl a2.vals a3.frees) fun r1=>
 AH (Qr a0 a1 a3.bind r1) fun r2=>
 AE (!decide (r2.2=0)) (
  some (X4.mk 0 ([]:List X0),false,r2.2)) (
  AE (!r2.1) (
   some (X4.mk 0 ([]:List X0),false,r2.2)) (
   AH (Zm a0 a1 a3.bind r1) fun r3=>
   AE (!decide (r3.2=0)) (
    some (X4.mk 0 ([]:List X0),false,r3.2)) (
    AZ a0.trans a1 fun x4=>
    some (X4.mk x4.to r3.1,true,0))))
def Qn(a0 a1:Int):Option (Int):=
 AE (decide (a0=0)) (
  some a1) (
  AE (!decide (a1=0)) (
   AE (decide (a1<a0)) (
    some a1) (
    some a0)) (
   some a0))
def JG(w2 w3:X4)(s5:Int):Option ((Int)⊕(Unit⊕Bool)):=
 AE (decide (s5<(w2.vals.length:Int))) (
  AE (decide (s5<(w3.vals.length:Int))) (
   AZ w2.vals s5 fun x1=>
   AZ w3.vals s5 fun x2=>
   AE (!(X0.eqb x1 x2)) (
    AZ w2.vals s5 fun x3=>
    AZ w3.vals s5 fun x4=>
    AH (Zq x3 x4) fun r5=>
    some (.inr (.inr r5))) (
    some (.inl (AB .add .i64 s5 1)))) (
   some (.inr (.inl ())))) (
  some (.inr (.inl ())))
def aBs(w2 w3:X4)(s5:Int):Option (Unit⊕Bool):=AT (fun s:Int=>JG w2 w3 s) s5
theorem aBt(w2 w3:X4)(s5:Int):aBs w2 w3 s5=BP (JG w2 w3 s5) (fun s:Int=>aBs w2 w3 s):=BE _ _
def Yi(a0 a1:X4):Option (Bool):=
 AE (!decide (a0.state=a1.state)) (
  some (decide (a0.state<a1.state))) (
  AH (aBs a0 a1 0) fun o6=>
  Ax o6 (fun o7=>
   some (decide ((a0.vals.length:Int)<(a1.vals.length:Int)))) (fun o8=>
   some o8))
def Q9(a0 a1:X4):Option (Bool):=
 AH (Yi a0 a1) fun r1=>
 AE (!r1) (
  AH (Yi a1 a0) fun r2=>
  some (!r2)) (
  some false)
def E5(w0:List X4)(w3:X4)(s5:Int):Option ((Int)⊕(Int)):=
 AE (decide (0<s5)) (
  Ai (0<=(AB .sub .i64 s5 1)/\(AB .sub .i64 s5 1)+1<=(w0.length:Int)) (
   AZ w0 (AB .sub .i64 s5 1) fun x1=>
   AH (Yi w3 x1) fun r2=>
   AE (r2) (
    some (.inl (AB .sub .i64 s5 1))) (
    some (.inr s5)))) (
  some (.inr s5))
def OY(w0:List X4)(w3:X4)(s5:Int):Option (Int):=AT (fun s:Int=>E5 w0 w3 s) s5
theorem JH(w0:List X4)(w3:X4)(s5:Int):OY w0 w3 s5=BP (E5 w0 w3 s5) (fun s:Int=>OY w0 w3 s):=BE _ _
def Yp(a1:X4)(w0:List X4):Option (List X4):=
 AH (OY w0 a1 (w0.length:Int)) fun o3=>
 AE (decide (0<o3)) (
  Ai (0<=(AB .sub .i64 o3 1)/\(AB .sub .i64 o3 1)+1<=(w0.length:Int)) (
   AZ w0 (AB .sub .i64 o3 1) fun x4=>
   AH (Q9 x4 a1) fun r5=>
   AE (r5) (
    some w0) (
    Ai ((0:Int)<=0/\(0:Int)<=o3/\o3<=(w0.length:Int)) (
     Ai (fit ([]:List X4).length (sub w0 0 o3).length 32) (
      Ai (fit (sub w0 0 o3).length [a1].length 32) (
       Ai ((0:Int)<=o3/\(o3:Int)<=(w0.length:Int)/\(w0.length:Int)<=(w0.length:Int)) (
        Ai (fit ((sub w0 0 o3)++[a1]).length (sub w0 o3 (w0.length:Int)).length 32) (
         some (((sub w0 0 o3)++[a1])++(sub w0 o3 (w0.length:Int))))))))))) (
  Ai ((0:Int)<=0/\(0:Int)<=o3/\o3<=(w0.length:Int)) (
   Ai (fit ([]:List X4).length (sub w0 0 o3).length 32) (
    Ai (fit (sub w0 0 o3).length [a1].length 32) (
     Ai ((0:Int)<=o3/\(o3:Int)<=(w0.length:Int)/\(w0.length:Int)<=(w0.length:Int)) (
      Ai (fit ((sub w0 0 o3)++[a1]).length (sub w0 o3 (w0.length:Int)).length 32) (
       some (((sub w0 0 o3)++[a1])++(sub w0 o3 (w0.length:Int)))))))))
def YG(s2:List AL)(s9 s10 s11:Int)(s64:Bool)(w3:AA)(w4:X4)(w8:List X4)(w12:X4):Option ((List X4)):=
 AE (s64) (
  AH (Yp w12 w8) fun r7=>
  some r7) (
  some w8)
def YE(s2:List AL)(s9 s10 s11:Int)(w3:AA)(w4:X4)(w8:List X4):Option ((Int×List X4)):=
 AZ s2 s11 fun x2=>
 AZ w3.trans s10 fun x3=>
 AE (!decide (x2.symbol=x3.symbol)) (
  some (s9,w8)) (
  AZ s2 s11 fun x4=>
  AH (Qs w3 s10 w4 x4) fun r5=>
  AH (Qn s9 r5.2.2) fun r6=>
  AH (YG s2 r6 s10 s11 r5.2.1 w3 w4 w8 r5.1) fun o8=>
  some (r6,o8))
def GU(s2:List AL)(s10:Int)(w3:AA)(w4:X4)(s9 s11:Int)(w8:List X4):Option ((Int×Int×List X4)⊕((Int×List X4))):=
 AE (decide (s11<(s2.length:Int))) (
  AH (YE s2 s9 s10 s11 w3 w4 w8) fun o9=>
  some (.inl (o9.1,(AB .add .i64 s11 1),o9.2))) (
  some (.inr (s9,w8)))
def aG1(s2:List AL)(s10:Int)(w3:AA)(w4:X4)(s9 s11:Int)(w8:List X4):Option ((Int×List X4)):=AT (fun s:Int×Int×List X4=>GU s2 s10 w3 w4 s.1 s.2.1 s.2.2) (s9,s11,w8)
def YC(s2:List AL)(s9 s10:Int)(w3:AA)(w4:X4)(w8:List X4):Option ((Int×List X4)):=
 AZ w3.trans s10 fun x1=>
 AE (!decide (x1.from_=w4.state)) (
  some (s9,w8)) (
  AH (aG1 s2 s10 w3 w4 s9 0 w8) fun o10=>
  some (o10.1,o10.2))
def GT(s2:List AL)(w3:AA)(w4:X4)(s9 s10:Int)(w8:List X4):Option ((Int×Int×List X4)⊕((Int×List X4))):=
 AE (decide (s10<(w3.trans.length:Int))) (
  AH (YC s2 s9 s10 w3 w4 w8) fun o11=>
  some (.inl (o11.1,(AB .add .i64 s10 1),o11.2))) (
  some (.inr (s9,w8)))
def aG0(s2:List AL)(w3:AA)(w4:X4)(s9 s10:Int)(w8:List X4):Option ((Int×List X4)):=AT (fun s:Int×Int×List X4=>GT s2 w3 w4 s.1 s.2.1 s.2.2) (s9,s10,w8)
def RS(s83:Bool)(w4:X4)(w8:List X4):Option ((List X4)):=
 AE (s83) (
  Ai (fit w8.length [w4].length 32) (
   some (w8++[w4]))) (
  some w8)
def Xl(a0:AA)(a1:X4)(a2:List AL):Option (List X4×Int):=
 AH (aG0 a2 a0 a1 0 0 ([]:List X4)) fun o12=>
 AE (!decide (o12.1=0)) (
  some (([]:List X4),o12.1)) (
  AE (decide ((o12.2.length:Int)=0)) (
   AZ a0.states a1.state fun x13=>
   AH (RS (!x13.next) a1 o12.2) fun o14=>
   some (o14,0)) (
   AH (RS false a1 o12.2) fun o15=>
   some (o15,0)))
def DP(s0:List X4)(w3:X4)(s5:Int):Option ((Int)⊕(Int)):=
 AE (decide (0<s5)) (
  AZ s0 (AB .sub .i64 s5 1) fun x1=>
  AH (Yi w3 x1) fun r2=>
  AE (r2) (
   some (.inl (AB .sub .i64 s5 1))) (
   some (.inr s5))) (
  some (.inr s5))
def LY(s0:List X4)(w3:X4)(s5:Int):Option (Int):=AT (fun s:Int=>DP s0 w3 s) s5
theorem Du(s0:List X4)(w3:X4)(s5:Int):LY s0 w3 s5=BP (DP s0 w3 s5) (fun s:Int=>LY s0 w3 s):=BE _ _
def Y3(a0:List X4)(a1:X4):Option (List X4):=
 AH (LY a0 a1 (a0.length:Int)) fun o3=>
 AE (decide (0<o3)) (
  AZ a0 (AB .sub .i64 o3 1) fun x4=>
  AH (Q9 x4 a1) fun r5=>
  AE (r5) (
   some a0) (
   Ai ((0:Int)<=0/\(0:Int)<=o3/\o3<=(a0.length:Int)) (
    Ai (fit ([]:List X4).length (sub a0 0 o3).length 32) (
     Ai (fit (([]:List X4)++(sub a0 0 o3)).length [a1].length 32) (
      Ai ((0:Int)<=o3/\(o3:Int)<=(a0.length:Int)/\(a0.length:Int)<=(a0.length:Int)) (
       Ai (fit ((([]:List X4)++(sub a0 0 o3))++[a1]).length (sub a0 o3 (a0.length:Int)).length 32) (
        some (((([]:List X4)++(sub a0 0 o3))++[a1])++(sub a0 o3 (a0.length:Int)))))))))) (
  Ai ((0:Int)<=0/\(0:Int)<=o3/\o3<=(a0.length:Int)) (
   Ai (fit ([]:List X4).length (sub a0 0 o3).length 32) (
    Ai (fit (([]:List X4)++(sub a0 0 o3)).length [a1].length 32) (
     Ai ((0:Int)<=o3/\(o3:Int)<=(a0.length:Int)/\(a0.length:Int)<=(a0.length:Int)) (
      Ai (fit ((([]:List X4)++(sub a0 0 o3))++[a1]).length (sub a0 o3 (a0.length:Int)).length 32) (
       some (((([]:List X4)++(sub a0 0 o3))++[a1])++(sub a0 o3 (a0.length:Int)))))))))
def C6(s1:List X4)(s2:List AL)(s9 s10:Int)(s11:List X4)(w3:AA)(s8:List X4)(s13:Int):Option ((List X4×Int)⊕((List X4))):=
 AE (decide (s13<(s11.length:Int))) (
  AZ s11 s13 fun x12=>
  AH (Y3 s8 x12) fun r13=>
  some (.inl (r13,(AB .add .i64 s13 1)))) (
  some (.inr s8))
def ZK(s1:List X4)(s2:List AL)(s9 s10:Int)(s11:List X4)(w3:AA)(s8:List X4)(s13:Int):Option ((List X4)):=AT (fun s:List X4×Int=>C6 s1 s2 s9 s10 s11 w3 s.1 s.2) (s8,s13)
def C5(s1:List X4)(s2:List AL)(w3:AA)(s8:List X4)(s9 s10:Int):Option ((List X4×Int×Int)⊕((List X4×Int))):=
 AE (decide (s10<(s1.length:Int))) (
  AZ s1 s10 fun x9=>
  AH (Xl w3 x9 s2) fun r10=>
  AH (Qn s9 r10.2) fun r11=>
  AH (ZK s1 s2 r11 s10 r10.1 w3 s8 0) fun o14=>
  some (.inl (o14,r11,(AB .add .i64 s10 1)))) (
  some (.inr (s8,s9)))
def ZI(s1:List X4)(s2:List AL)(w3:AA)(s8:List X4)(s9 s10:Int):Option ((List X4×Int)):=AT (fun s:List X4×Int×Int=>C5 s1 s2 w3 s.1 s.2.1 s.2.2) (s8,s9,s10)
def R1(s8:List X4)(s9:Int)(s51:Bool):Option (Int):=
 AE (s51) (
  some 14) (
  some s9)
def Xr(a0:AA)(a1:List X4)(a2:List AL):Option (List X4×Int):=
 AH (ZI a1 a2 a0 ([]:List X4) 0 0) fun o15=>
 AE (decide (o15.2=0)) (
  AH (R1 o15.1 o15.2 (decide (256<(o15.1.length:Int)))) fun o16=>
  AE (!decide (o16=0)) (
   some (([]:List X4),o16)) (
   some (o15.1,0))) (
  AH (R1 o15.1 o15.2 false) fun o17=>
  AE (!decide (o17=0)) (
   some (([]:List X4),o17)) (
   some (o15.1,0)))
def Qt(a0:AA)(a1:List X2)(a2:List X4)(a3:X3):Option (List X4×Int):=
 AH (Xy a0 a3) fun r1=>
 AH (Y4 r1 a1) fun r2=>
 AE (decide ((r2.length:Int)=0)) (
  some (a2,0)) (
  AH (Xr a0 a2 r2) fun r3=>
  some (r3.1,r3.2))
def Gt(s1:List X2)(s3:List X3)(w4:AA)(s2:List X4)(s11:Int):Option ((List X4×Int)⊕((List X4)⊕(Int×Int))):=
 AE (decide (s11<(s3.length:Int))) (
  AZ s3 s11 fun x1=>
  AH (Qt w4 s1 s2 x1) fun r2=>
  AE (!decide (r2.2=0)) (
   some (.inr (.inr (r2.2,(AB .add .i64 s11 1))))) (
   some (.inl (r2.1,(AB .add .i64 s11 1))))) (
  some (.inr (.inl s2)))
def Oa(s1:List X2)(s3:List X3)(w4:AA)(s2:List X4)(s11:Int):Option ((List X4)⊕(Int×Int)):=AT (fun s:List X4×Int=>Gt s1 s3 w4 s.1 s.2) (s2,s11)
theorem NL(s1:List X2)(s3:List X3)(w4:AA)(s2:List X4)(s11:Int):Oa s1 s3 w4 s2 s11=BP (Gt s1 s3 w4 s2 s11) (fun s:List X4×Int=>Oa s1 s3 w4 s.1 s.2):=BE _ _
def Yt(a0:AA)(a1:List X2)(a2:List X4)(a3:List X3):Option (List X4×Int×Int):=
 AH (Oa a1 a3 a0 a2 0) fun o3=>
 Ax o3 (fun o4=>
  some (o4,0,0)) (fun o5=>
  some (([]:List X4),o5.1,o5.2))
def HA(s1:List X4)(w2:AA)(s5:Int):Option ((Int)⊕(Unit⊕Unit)):=
 AE (decide (s5<(s1.length:Int))) (
  AZ s1 s5 fun x1=>
  AZ w2.states x1.state fun x2=>
  AE (x2.accept) (
   some (.inr (.inr ()))) (
   some (.inl (AB .add .i64 s5 1)))) (
  some (.inr (.inl ())))
def aH9(s1:List X4)(w2:AA)(s5:Int):Option (Unit⊕Unit):=AT (fun s:Int=>HA s1 w2 s) s5
def Zf(a0:AA)(a1:List X4):Option (Bool):=
 AH (aH9 a1 a0 0) fun o3=>
 Ax o3 (fun o4=>
  some false) (fun o5=>
  some true)
def Qu(a0:AA)(a1:List X2)(a2:List X3):Option (Bool):=
 AH (Ze a0) fun r1=>
 AH (Yt a0 a1 r1 a2) fun r2=>
 AH (Zf a0 r2.1) fun r3=>
 some r3
def TO(self:AA->(List (List X0))->Int->(List X2)->(List X3)->Option Bool)(s1:List (List X0))(s2:Int)(s3:List X2)(s4:List X3)(s11:Bool)(w5:AA)(s12:Int):Option ((Int)⊕(Unit⊕Unit)):=
 AZ s1 s2 fun x3=>
 AE (decide (s12<(x3.length:Int))) (
  Ai (fit ([]:List X2).length s3.length 48) (
   AZ s1 s2 fun x4=>
   AZ x4 s12 fun x5=>
   Ai (fit (([]:List X2)++s3).length [X2.mk s2 x5].length 48) (
    AH (self w5 s1 (AB .add .i64 s2 1) ((([]:List X2)++s3)++[X2.mk s2 x5]) s4) fun r6=>
    AE (!(r6==s11)) (
     some (.inr (.inr ()))) (
     some (.inl (AB .add .i64 s12 1)))))) (
  some (.inr (.inl ())))
def aK3(self:AA->(List (List X0))->Int->(List X2)->(List X3)->Option Bool)(s1:List (List X0))(s2:Int)(s3:List X2)(s4:List X3)(s11:Bool)(w5:AA)(s12:Int):Option (Unit⊕Unit):=AT (fun s:Int=>TO self s1 s2 s3 s4 s11 w5 s) s12
def aK2(self:AA->(List (List X0))->Int->(List X2)->(List X3)->Option Bool)(a0:AA)(a1:List (List X0))(a2:Int)(a3:List X2)(a4:List X3):Option (Bool):=
 AE (decide ((a1.length:Int)<=a2)) (
  AH (Qu a0 a3 a4) fun r1=>
  some r1) (
  AZ a0.quants a2 fun x2=>
  AH (aK3 self a1 a2 a3 a4 x2.all a0 0) fun o7=>
  Ax o7 (fun o8=>
   some x2.all) (fun o9=>
   some (!x2.all)))
def aK4:Nat->AA->(List (List X0))->Int->(List X2)->(List X3)->Option Bool
 |0=>fun _ _ _ _ _=>none
 |n+1=>fun a0 a1 a2 a3 a4=>aK2 (aK4 n) a0 a1 a2 a3 a4
def Ym(a0:AA)(a1:List (List X0))(a2:Int)(a3:List X2)(a4:List X3):Option (Bool):=aK4 100000 a0 a1 a2 a3 a4
def Qc(a0:AA)(a1:List X3):Option (Bool):=
 AH (Zd a0 a1) fun r1=>
 AH (Ym a0 r1 0 ([]:List X2) a1) fun r2=>
 some r2
def Gr(s5:List X3)(s6:Bool)(w2 w3:AA)(s10:Int):Option ((Int)⊕(Unit⊕Unit)):=
 AE (decide (s10<(s5.length:Int))) (
  AZ s5 s10 fun x12=>
  AH (Yq w2.decls x12) fun r13=>
  AE (!r13) (
   some (.inr (.inr ()))) (
   some (.inl (AB .add .i64 s10 1)))) (
  some (.inr (.inl ())))
def aHn(s5:List X3)(s6:Bool)(w2 w3:AA)(s10:Int):Option (Unit⊕Unit):=AT (fun s:Int=>Gr s5 s6 w2 w3 s) s10
def Yn(a0 a1:AA):Option (Bool):=
 AH (Z2 a0) fun r1=>
 AE (!r1) (
  AH (Zk) fun r2=>
  some r2) (
  AH (Z2 a1) fun r3=>
  AE (!r3) (
   AH (Zk) fun r4=>
   some r4) (
   AH (X9 a0 a1) fun r5=>
   AH (Zr a0 a1) fun r6=>
   AH (Y6 a0 a1) fun r7=>
   AE (!r7) (
    AH (Ys a0 a1) fun r8=>
    AE (!r8) (
     AE (decide ((r5.1.length:Int)=0)) (
      AE (!r5.2) (
       AE (!r6.1) (
        AE (decide (r6.2=1)) (
         AH (Zk) fun r9=>
         some r9) (
         some false)) (
        some false)) (
       some false)) (
      some false)) (
     some false)) (
    AH (Xj a0 a1) fun r10=>
    AH (Ys a0 a1) fun r11=>
    AE (!r11) (
     some false) (
     AE (!(r5.2==(decide (0<=r10)))) (
      some false) (
      AE ((r6.1==r5.2)) (
       some false) (
       AE (!decide (r6.2=0)) (
        some false) (
        AE (!decide ((r5.1.length:Int)=(K5 r10 0))) (
         some false) (
         AH (aHn r5.1 r5.2 a0 a1 0) fun o14=>
         Ax o14 (fun o15=>
          AE (!r5.2) (
           AH (Zk) fun r17=>
           some r17) (
           AH (Qc a0 r5.1) fun r18=>
           AH (Qc a1 r5.1) fun r19=>
           AE (!(r18==r19)) (
            AH (Zk) fun r20=>
            some r20) (
            some false))) (fun o16=>
          some false)))))))))
end
end Go.Ac
