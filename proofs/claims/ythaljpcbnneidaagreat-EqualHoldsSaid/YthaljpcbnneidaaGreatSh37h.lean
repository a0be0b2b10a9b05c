/- Own work, printed: the functions as Lean functions. -/
import Derived.Test.YthaljpcbnneidaaGreatAcC
set_option linter.unusedVariables false
set_option linter.unusedSimpArgs false
namespace Go.Ac
noncomputable section
abbrev aPh(P:Program)(rd:Option Nat)(root:Code)(p:List Nat)(s:St)(x:Ex×St):Prop:=C6 P rd root p s x.1 x.2
abbrev dI(x:Int):A:=.d (D.i .i64 x)
abbrev sI(n:Nat)(x:Int):Nat×A:=(n,dI x)
abbrev sD{α:Type}(n:Nat)(f:α->D)(x:α):Nat×A:=(n,.d (f x))
abbrev bx(n:Nat):Nat×A:=(n,.box n 0)
abbrev rx(n:Nat):Nat×A:=(n,.row n)
abbrev cL{α:Type}(n:Nat)(f:α->D)(x:α):Nat×Bk:=(n,.cells (aKd (f x)))
abbrev rW{α:Type}(n e k:Nat)(f:α->D)(x:List α):Nat×Bk:=(n,.rw e k (x.map f))
abbrev eP{α:Type}(n:Nat)(f:α->D)(x:α):Nat×A:=(n,.eptr (D.cells (f x)))
abbrev dU:Int->D:=D.i .u64
abbrev dW:Int->D:=D.i .u32
abbrev dZ:Int->D:=D.i .i64
abbrev bT(n:Nat):Nat×W:=(n,.bit true)
abbrev bF(n:Nat):Nat×W:=(n,.bit false)
structure X7 where
 name:List UInt8
 types:List Int
 deriving DecidableEq
def X7.D(v:X7):D:=.agg ([D.s v.name]++[(D.l (D.i .i64)) v.types])
instance :Bp X7.D 2:=⟨fun _=>rfl⟩
structure Xq where
 all:Bool
 name:List UInt8
 type:Int
def Xq.D(v:Xq):D:=.agg ([D.b v.all]++[D.s v.name]++[(D.i .i64) v.type])
instance :Bp Xq.D 3:=⟨fun _=>rfl⟩
def Xq.eqb(a b:Xq):Bool:=((a.all==b.all)&&(decide (a.name=b.name)&&(decide (a.type=b.type)&&true)))
theorem Xq.eqb_iff(a b:Xq):Xq.eqb a b=true↔a=b:=by cases a;cases b;simp[Xq.eqb]
instance :DecidableEq Xq:=fun a b=>decidable_of_iff (Xq.eqb a b=true) (Xq.eqb_iff a b)
structure X0 where
 kind:Int
 int:Int
 str:List UInt8
 bool:Bool
def X0.D(v:X0):D:=.agg ([(D.i .i64) v.kind]++[(D.i .i64) v.int]++[D.s v.str]++[D.b v.bool])
instance :Bp X0.D 4:=⟨fun _=>rfl⟩
def X0.eqb(a b:X0):Bool:=(decide (a.kind=b.kind)&&(decide (a.int=b.int)&&(decide (a.str=b.str)&&((a.bool==b.bool)&&true))))
theorem X0.eqb_iff(a b:X0):X0.eqb a b=true↔a=b:=by cases a;cases b;simp[X0.eqb]
instance :DecidableEq X0:=fun a b=>decidable_of_iff (X0.eqb a b=true) (X0.eqb_iff a b)
structure Xt where
 name:List UInt8
 init_:X0
def Xt.D(v:Xt):D:=.agg ([D.s v.name]++(X0.D v.init_).cells)
instance :Bp Xt.D 5:=⟨fun _=>rfl⟩
def Xt.eqb(a b:Xt):Bool:=(decide (a.name=b.name)&&(X0.eqb a.init_ b.init_&&true))
theorem Xt.eqb_iff(a b:Xt):Xt.eqb a b=true↔a=b:=by cases a;cases b;simp[Xt.eqb,X0.eqb_iff]
instance :DecidableEq Xt:=fun a b=>decidable_of_iff (Xt.eqb a b=true) (Xt.eqb_iff a b)
structure Xd where
 name:List UInt8
 next:Bool
 accept:Bool
def Xd.D(v:Xd):D:=.agg ([D.s v.name]++[D.b v.next]++[D.b v.accept])
instance :Bp Xd.D 3:=⟨fun _=>rfl⟩
def Xd.eqb(a b:Xd):Bool:=(decide (a.name=b.name)&&((a.next==b.next)&&((a.accept==b.accept)&&true)))
theorem Xd.eqb_iff(a b:Xd):Xd.eqb a b=true↔a=b:=by cases a;cases b;simp[Xd.eqb]
instance :DecidableEq Xd:=fun a b=>decidable_of_iff (Xd.eqb a b=true) (Xd.eqb_iff a b)
structure BQ where
 kind:Int
 n:Int
 value:X0
def BQ.D(v:BQ):D:=.agg ([(D.i .i64) v.kind]++[(D.i .i64) v.n]++(X0.D v.value).cells)
instance :Bp BQ.D 6:=⟨fun _=>rfl⟩
def BQ.eqb(a b:BQ):Bool:=(decide (a.kind=b.kind)&&(decide (a.n=b.n)&&(X0.eqb a.value b.value&&true)))
theorem BQ.eqb_iff(a b:BQ):BQ.eqb a b=true↔a=b:=by cases a;cases b;simp[BQ.eqb,X0.eqb_iff]
instance :DecidableEq BQ:=fun a b=>decidable_of_iff (BQ.eqb a b=true) (BQ.eqb_iff a b)
structure X8 where
 event:Int
 args:List BQ
 deriving DecidableEq
def X8.D(v:X8):D:=.agg ([(D.i .i64) v.event]++[(D.l BQ.D) v.args])
instance :Bp X8.D 2:=⟨fun _=>rfl⟩
structure Y7 where
 op:Int
 a:Int
 b:Int
 value:X0
def Y7.D(v:Y7):D:=.agg ([(D.i .i64) v.op]++[(D.i .i64) v.a]++[(D.i .i64) v.b]++(X0.D v.value).cells)
instance :Bp Y7.D 7:=⟨fun _=>rfl⟩
def Y7.eqb(a b:Y7):Bool:=(decide (a.op=b.op)&&(decide (a.a=b.a)&&(decide (a.b=b.b)&&(X0.eqb a.value b.value&&true))))
theorem Y7.eqb_iff(a b:Y7):Y7.eqb a b=true↔a=b:=by cases a;cases b;simp[Y7.eqb,X0.eqb_iff]
instance :DecidableEq Y7:=fun a b=>decidable_of_iff (Y7.eqb a b=true) (Y7.eqb_iff a b)
structure DN where
 free:Int
 expr:Int
def DN.D(v:DN):D:=.agg ([(D.i .i64) v.free]++[(D.i .i64) v.expr])
instance :Bp DN.D 2:=⟨fun _=>rfl⟩
def DN.eqb(a b:DN):Bool:=(decide (a.free=b.free)&&(decide (a.expr=b.expr)&&true))
theorem DN.eqb_iff(a b:DN):DN.eqb a b=true↔a=b:=by cases a;cases b;simp[DN.eqb]
instance :DecidableEq DN:=fun a b=>decidable_of_iff (DN.eqb a b=true) (DN.eqb_iff a b)
structure Xe where
 from_:Int
 symbol:Int
 to:Int
 guard:Int
 sets:List DN
 deriving DecidableEq
def Xe.D(v:Xe):D:=.agg ([(D.i .i64) v.from_]++[(D.i .i64) v.symbol]++[(D.i .i64) v.to]++[(D.i .i64) v.guard]++[(D.l DN.D) v.sets])
instance :Bp Xe.D 5:=⟨fun _=>rfl⟩
structure AA where
 name:List UInt8
 decls:List X7
 quants:List Xq
 frees:List Xt
 states:List Xd
 start:Int
 symbols:List X8
 nodes:List Y7
 trans:List Xe
 deriving DecidableEq
def AA.D(v:AA):D:=.agg ([D.s v.name]++[(D.l X7.D) v.decls]++[(D.l Xq.D) v.quants]++[(D.l Xt.D) v.frees]++[(D.l Xd.D) v.states]++[(D.i .i64) v.start]++[(D.l X8.D) v.symbols]++[(D.l Y7.D) v.nodes]++[(D.l Xe.D) v.trans])
instance :Bp AA.D 9:=⟨fun _=>rfl⟩
structure X3 where
 name:List UInt8
 args:List X0
 deriving DecidableEq
def X3.D(v:X3):D:=.agg ([D.s v.name]++[(D.l X0.D) v.args])
instance :Bp X3.D 2:=⟨fun _=>rfl⟩
structure X2 where
 var:Int
 value:X0
def X2.D(v:X2):D:=.agg ([(D.i .i64) v.var]++(X0.D v.value).cells)
instance :Bp X2.D 5:=⟨fun _=>rfl⟩
def X2.eqb(a b:X2):Bool:=(decide (a.var=b.var)&&(X0.eqb a.value b.value&&true))
theorem X2.eqb_iff(a b:X2):X2.eqb a b=true↔a=b:=by cases a;cases b;simp[X2.eqb,X0.eqb_iff]
instance :DecidableEq X2:=fun a b=>decidable_of_iff (X2.eqb a b=true) (X2.eqb_iff a b)
structure AL where
 symbol:Int
 bind:List X2
 frees:List X2
 deriving DecidableEq
def AL.D(v:AL):D:=.agg ([(D.i .i64) v.symbol]++[(D.l X2.D) v.bind]++[(D.l X2.D) v.frees])
instance :Bp AL.D 3:=⟨fun _=>rfl⟩
structure X6 where
 p:Int
 q:Int
def X6.D(v:X6):D:=.agg ([(D.i .u32) v.p]++[(D.i .u32) v.q])
instance :Bp X6.D 2:=⟨fun _=>rfl⟩
def X6.eqb(a b:X6):Bool:=(decide (a.p=b.p)&&(decide (a.q=b.q)&&true))
theorem X6.eqb_iff(a b:X6):X6.eqb a b=true↔a=b:=by cases a;cases b;simp[X6.eqb]
instance :DecidableEq X6:=fun a b=>decidable_of_iff (X6.eqb a b=true) (X6.eqb_iff a b)
structure X5 where
 p:Int
 q:Int
def X5.D(v:X5):D:=.agg ([(D.i .u64) v.p]++[(D.i .u64) v.q])
instance :Bp X5.D 2:=⟨fun _=>rfl⟩
def X5.eqb(a b:X5):Bool:=(decide (a.p=b.p)&&(decide (a.q=b.q)&&true))
theorem X5.eqb_iff(a b:X5):X5.eqb a b=true↔a=b:=by cases a;cases b;simp[X5.eqb]
instance :DecidableEq X5:=fun a b=>decidable_of_iff (X5.eqb a b=true) (X5.eqb_iff a b)
structure Xp where
 p:Int
 q:Int
def Xp.D(v:Xp):D:=.agg ([(D.i .u32) v.p]++[(D.i .u32) v.q])
instance :Bp Xp.D 2:=⟨fun _=>rfl⟩
def Xp.eqb(a b:Xp):Bool:=(decide (a.p=b.p)&&(decide (a.q=b.q)&&true))
theorem Xp.eqb_iff(a b:Xp):Xp.eqb a b=true↔a=b:=by cases a;cases b;simp[Xp.eqb]
instance :DecidableEq Xp:=fun a b=>decidable_of_iff (Xp.eqb a b=true) (Xp.eqb_iff a b)
structure X4 where
 state:Int
 vals:List X0
 deriving DecidableEq
def X4.D(v:X4):D:=.agg ([(D.i .i64) v.state]++[(D.l X0.D) v.vals])
instance :Bp X4.D 2:=⟨fun _=>rfl⟩
structure Xc where
 from_:X6
 by_:X5
def Xc.D(v:Xc):D:=.agg ((X6.D v.from_).cells++(X5.D v.by_).cells)
instance :Bp Xc.D 4:=⟨fun _=>rfl⟩
def Xc.eqb(a b:Xc):Bool:=(X6.eqb a.from_ b.from_&&(X5.eqb a.by_ b.by_&&true))
theorem Xc.eqb_iff(a b:Xc):Xc.eqb a b=true↔a=b:=by cases a;cases b;simp[Xc.eqb,X6.eqb_iff,X5.eqb_iff]
instance :DecidableEq Xc:=fun a b=>decidable_of_iff (Xc.eqb a b=true) (Xc.eqb_iff a b)
def GD(w1:AA)(s3:Int):Option ((Int)⊕(Unit⊕Unit)):=
 AE (decide (s3<(w1.decls.length:Int))) (
  AW w1.decls s3 fun x1=>
  AE (decide (12<(x1.types.length:Int))) (
   some (.inr (.inr ()))) (
   AW w1.decls s3 fun x2=>
   AE (decide (100<(x2.name.length:Int))) (
    some (.inr (.inr ()))) (
    some (.inl (AB .add .i64 s3 1))))) (
  some (.inr (.inl ())))
def aEv(w1:AA)(s3:Int):Option (Unit⊕Unit):=AU (fun s:Int=>GD w1 s) s3
def GF(s4:Int)(w1:AA)(s5:Int):Option ((Int)⊕(Unit⊕Unit)):=
 AW w1.symbols s4 fun x7=>
 AE (decide (s5<(x7.args.length:Int))) (
  AW w1.symbols s4 fun x8=>
  AW x8.args s5 fun x9=>
  AE (decide (100<(x9.value.str.length:Int))) (
   some (.inr (.inr ()))) (
   some (.inl (AB .add .i64 s5 1)))) (
  some (.inr (.inl ())))
def aEx(s4:Int)(w1:AA)(s5:Int):Option (Unit⊕Unit):=AU (fun s:Int=>GF s4 w1 s) s5
def GE(w1:AA)(s4:Int):Option ((Int)⊕(Unit⊕Unit)):=
 AE (decide (s4<(w1.symbols.length:Int))) (
  AW w1.symbols s4 fun x6=>
  AE (decide (12<(x6.args.length:Int))) (
   some (.inr (.inr ()))) (
   AG (aEx s4 w1 0) fun o10=>
   Ay o10 (fun o11=>
    some (.inl (AB .add .i64 s4 1))) (fun o12=>
    some (.inr (.inr ()))))) (
  some (.inr (.inl ())))
def aEw(w1:AA)(s4:Int):Option (Unit⊕Unit):=AU (fun s:Int=>GE w1 s) s4
def GG(w1:AA)(s6:Int):Option ((Int)⊕(Unit⊕Unit)):=
 AE (decide (s6<(w1.frees.length:Int))) (
  AW w1.frees s6 fun x16=>
  AE (decide (100<(x16.init_.str.length:Int))) (
   some (.inr (.inr ()))) (
   some (.inl (AB .add .i64 s6 1)))) (
  some (.inr (.inl ())))
def aEy(w1:AA)(s6:Int):Option (Unit⊕Unit):=AU (fun s:Int=>GG w1 s) s6
def GH(w1:AA)(s7:Int):Option ((Int)⊕(Unit⊕Unit)):=
 AE (decide (s7<(w1.nodes.length:Int))) (
  AW w1.nodes s7 fun x20=>
  AE (decide (100<(x20.value.str.length:Int))) (
   some (.inr (.inr ()))) (
   some (.inl (AB .add .i64 s7 1)))) (
  some (.inr (.inl ())))
def aEz(w1:AA)(s7:Int):Option (Unit⊕Unit):=AU (fun s:Int=>GH w1 s) s7
def GI(w1:AA)(s8:Int):Option ((Int)⊕(Unit⊕Unit)):=
 AE (decide (s8<(w1.trans.length:Int))) (
  AW w1.trans s8 fun x24=>
  AE (decide (12<(x24.sets.length:Int))) (
   some (.inr (.inr ()))) (
   some (.inl (AB .add .i64 s8 1)))) (
  some (.inr (.inl ())))
def aE0(w1:AA)(s8:Int):Option (Unit⊕Unit):=AU (fun s:Int=>GI w1 s) s8
def Xf(a0:AA):Option (Int):=
 AE (decide (12<(a0.decls.length:Int))) (
  some 0) (
  AE (decide (9<(a0.quants.length:Int))) (
   some 0) (
   AE (decide (12<(a0.frees.length:Int))) (
    some 0) (
    AE (decide (12<(a0.states.length:Int))) (
     some 0) (
     AE (decide (12<(a0.symbols.length:Int))) (
      some 0) (
      AE (decide (12<(a0.trans.length:Int))) (
       some 0) (
       AE (decide (40<(a0.nodes.length:Int))) (
        some 0) (
        AE (decide (100<(a0.name.length:Int))) (
         some 0) (
         AG (aEv a0 0) fun o3=>
         Ay o3 (fun o4=>
          AG (aEw a0 0) fun o13=>
          Ay o13 (fun o14=>
           AG (aEy a0 0) fun o17=>
           Ay o17 (fun o18=>
            AG (aEz a0 0) fun o21=>
            Ay o21 (fun o22=>
             AG (aE0 a0 0) fun o25=>
             Ay o25 (fun o26=>
              some 1) (fun o27=>
              some 0)) (fun o23=>
             some 0)) (fun o19=>
            some 0)) (fun o15=>
           some 0)) (fun o5=>
          some 0)))))))))
def Qs:Option (List (List UInt8)):=
 some ([([97,99,99,101,112,116]:List UInt8),([97,108,115,111]:List UInt8),([97,110,100]:List UInt8),([98,111,111,108]:List UInt8),([100,111]:List UInt8),([101,118,101,110,116]:List UInt8),([101,120,105,115,116,115]:List UInt8),([102,97,108,115,101]:List UInt8),([102,111,114,97,108,108]:List UInt8),([102,114,101,101]:List UInt8),([105,102]:List UInt8),([105,110,116]:List UInt8),([110,101,120,116]:List UInt8),([110,111,116]:List UInt8),([111,110]:List UInt8),([111,114]:List UInt8),([113,101,97]:List UInt8),([115,107,105,112]:List UInt8),([115,116,97,114,116]:List UInt8),([115,116,114,105,110,103]:List UInt8),([116,111]:List UInt8),([116,114,117,101]:List UInt8)])
def Gr(s0:List UInt8)(s3:Int):Option ((Int)⊕(Unit⊕Unit)):=
 AE (decide (s3<(s0.length:Int))) (
  AW s0 s3 fun x1=>
  AE (decide (((65:UInt8).toNat:Int)<=(x1.toNat:Int))) (
   AE (decide ((x1.toNat:Int)<=((90:UInt8).toNat:Int))) (
    some (.inl (AB .add .i64 s3 1))) (
    AE (decide (((97:UInt8).toNat:Int)<=(x1.toNat:Int))) (
     AE (decide ((x1.toNat:Int)<=((122:UInt8).toNat:Int))) (
      some (.inl (AB .add .i64 s3 1))) (
      AE (!(decide ((x1.toNat:Int)=((95:UInt8).toNat:Int)))) (
       AE (decide (s3=0)) (
        some (.inr (.inr ()))) (
        AE (decide ((x1.toNat:Int)<((48:UInt8).toNat:Int))) (
         some (.inr (.inr ()))) (
         AE (decide (((57:UInt8).toNat:Int)<(x1.toNat:Int))) (
          some (.inr (.inr ()))) (
          some (.inl (AB .add .i64 s3 1)))))) (
       some (.inl (AB .add .i64 s3 1))))) (
     AE (!(decide ((x1.toNat:Int)=((95:UInt8).toNat:Int)))) (
      AE (decide (s3=0)) (
       some (.inr (.inr ()))) (
       AE (decide ((x1.toNat:Int)<((48:UInt8).toNat:Int))) (
        some (.inr (.inr ()))) (
        AE (decide (((57:UInt8).toNat:Int)<(x1.toNat:Int))) (
         some (.inr (.inr ()))) (
         some (.inl (AB .add .i64 s3 1)))))) (
      some (.inl (AB .add .i64 s3 1)))))) (
   AE (decide (((97:UInt8).toNat:Int)<=(x1.toNat:Int))) (
    AE (decide ((x1.toNat:Int)<=((122:UInt8).toNat:Int))) (
     some (.inl (AB .add .i64 s3 1))) (
     AE (!(decide ((x1.toNat:Int)=((95:UInt8).toNat:Int)))) (
      AE (decide (s3=0)) (
       some (.inr (.inr ()))) (
       AE (decide ((x1.toNat:Int)<((48:UInt8).toNat:Int))) (
        some (.inr (.inr ()))) (
        AE (decide (((57:UInt8).toNat:Int)<(x1.toNat:Int))) (
         some (.inr (.inr ()))) (
         some (.inl (AB .add .i64 s3 1)))))) (
      some (.inl (AB .add .i64 s3 1))))) (
    AE (!(decide ((x1.toNat:Int)=((95:UInt8).toNat:Int)))) (
     AE (decide (s3=0)) (
      some (.inr (.inr ()))) (
      AE (decide ((x1.toNat:Int)<((48:UInt8).toNat:Int))) (
       some (.inr (.inr ()))) (
       AE (decide (((57:UInt8).toNat:Int)<(x1.toNat:Int))) (
        some (.inr (.inr ()))) (
        some (.inl (AB .add .i64 s3 1)))))) (
     some (.inl (AB .add .i64 s3 1)))))) (
  some (.inr (.inl ())))
def aFy(s0:List UInt8)(s3:Int):Option (Unit⊕Unit):=AU (fun s:Int=>Gr s0 s) s3
def Yy(a0:List UInt8):Option (Bool):=
 AE (decide ((a0.length:Int)<1)) (
  some false) (
  AE (decide (32<(a0.length:Int))) (
   some false) (
   AG (aFy a0 0) fun o2=>
   Ay o2 (fun o3=>
    some true) (fun o4=>
    some false)))
def Gf(s0:List UInt8)(s3:List (List UInt8))(s4:Int):Option ((Int)⊕(Unit⊕Unit)):=
 AE (decide (s4<(s3.length:Int))) (
  AW s3 s4 fun x2=>
  AE (decide (x2=s0)) (
   some (.inr (.inr ()))) (
   some (.inl (AB .add .i64 s4 1)))) (
  some (.inr (.inl ())))
def aFk(s0:List UInt8)(s3:List (List UInt8))(s4:Int):Option (Unit⊕Unit):=AU (fun s:Int=>Gf s0 s3 s) s4
def Yg(a0:List UInt8):Option (Bool):=
 AG (Qs) fun r1=>
 AG (aFk a0 r1 0) fun o3=>
 Ay o3 (fun o4=>
  AG (Yy a0) fun r6=>
  AE (r6) (
   some (!decide (a0=([95]:List UInt8)))) (
   some false)) (fun o5=>
  some false)
def JE(s0:List X7)(s1:List UInt8)(s5:Int):Option ((Int)⊕(Unit⊕Int)):=
 AE (decide (s5<(s0.length:Int))) (
  AW s0 s5 fun x1=>
  AE (decide (x1.name=s1)) (
   some (.inr (.inr s5))) (
   some (.inl (AB .add .i64 s5 1)))) (
  some (.inr (.inl ())))
def aFt(s0:List X7)(s1:List UInt8)(s5:Int):Option (Unit⊕Int):=AU (fun s:Int=>JE s0 s1 s) s5
def Ys(a0:List X7)(a1:List UInt8):Option (Int):=
 AG (aFt a0 a1 0) fun o2=>
 Ay o2 (fun o3=>
  some (-1)) (fun o4=>
  some o4)
def Da(s0:List X7)(s4 s5:Int):Option ((Int)⊕(Unit⊕Unit)):=
 AW s0 s4 fun x6=>
 AE (decide (s5<(x6.types.length:Int))) (
  AW s0 s4 fun x7=>
  AW x7.types s5 fun x8=>
  AE (decide (x8<1)) (
   some (.inr (.inr ()))) (
   AW s0 s4 fun x9=>
   AW x9.types s5 fun x10=>
   AE (decide (3<x10)) (
    some (.inr (.inr ()))) (
    some (.inl (AB .add .i64 s5 1))))) (
  some (.inr (.inl ())))
def XL(s0:List X7)(s4 s5:Int):Option (Unit⊕Unit):=AU (fun s:Int=>Da s0 s4 s) s5
def DZ(s0:List X7)(s4:Int):Option ((Int)⊕(Unit⊕(Int×Int))):=
 AE (decide (s4<(s0.length:Int))) (
  AW s0 s4 fun x1=>
  AG (Yg x1.name) fun r2=>
  AE (!r2) (
   some (.inr (.inr (11,s4)))) (
   AW s0 s4 fun x3=>
   AG (Ys s0 x3.name) fun r4=>
   AE (decide (r4<s4)) (
    some (.inr (.inr (10,s4)))) (
    AW s0 s4 fun x5=>
    AE (decide (8<(x5.types.length:Int))) (
     some (.inr (.inr (14,s4)))) (
     AG (XL s0 s4 0) fun o11=>
     Ay o11 (fun o12=>
      some (.inl (AB .add .i64 s4 1))) (fun o13=>
      some (.inr (.inr (8,s4)))))))) (
  some (.inr (.inl ())))
def XJ(s0:List X7)(s4:Int):Option (Unit⊕(Int×Int)):=AU (fun s:Int=>DZ s0 s) s4
def Xr(a0:List X7):Option (Int×Int):=
 AE (decide (32<(a0.length:Int))) (
  some (14,32)) (
  AG (XJ a0 0) fun o14=>
  Ay o14 (fun o15=>
   some (0,(-1))) (fun o16=>
   some (o16.1,o16.2)))
def Zd(a0:X0):Option (Bool):=
 AE (decide (a0.kind=1)) (
  AE (decide (a0.str=([]:List UInt8))) (
   some (!a0.bool)) (
   some false)) (
  AE (decide (a0.kind=2)) (
   AE (decide (a0.int=0)) (
    AE (!a0.bool) (
     some (decide ((a0.str.length:Int)<=4096))) (
     some false)) (
    some false)) (
   AE (decide (a0.kind=3)) (
    AE (decide (a0.int=0)) (
     some (decide (a0.str=([]:List UInt8)))) (
     some false)) (
    some false)))
def Gt(s0:List (List UInt8))(s1 s5:Int):Option ((Int)⊕(Unit⊕Unit)):=
 AE (decide (s5<s1)) (
  AW s0 s5 fun x1=>
  AW s0 s1 fun x2=>
  AE (decide (x1=x2)) (
   some (.inr (.inr ()))) (
   some (.inl (AB .add .i64 s5 1)))) (
  some (.inr (.inl ())))
def aJr(s0:List (List UInt8))(s1 s5:Int):Option (Unit⊕Unit):=AU (fun s:Int=>Gt s0 s1 s) s5
def Z1(a0:List (List UInt8))(a1:Int):Option (Bool):=
 AG (aJr a0 a1 0) fun o3=>
 Ay o3 (fun o4=>
  some false) (fun o5=>
  some true)
def GK(w1:AA)(s4:Int)(w3:List (List UInt8)):Option ((Int×List (List UInt8))⊕((List (List UInt8))⊕Unit)):=
 AE (decide (s4<(w1.quants.length:Int))) (
  AW w1.quants s4 fun x4=>
  Ai (fit w3.length [x4.name].length 16) (
   AW w1.quants s4 fun x5=>
   AE (decide (x5.type<1)) (
    some (.inr (.inr ()))) (
    AW w1.quants s4 fun x6=>
    AE (decide (3<x6.type)) (
     some (.inr (.inr ()))) (
     some (.inl ((AB .add .i64 s4 1),w3++[x4.name])))))) (
  some (.inr (.inl w3)))
def aIl(w1:AA)(s4:Int)(w3:List (List UInt8)):Option ((List (List UInt8))⊕Unit):=AU (fun s:Int×List (List UInt8)=>GK w1 s.1 s.2) (s4,w3)
def GL(w1:AA)(s5:Int)(w3:List (List UInt8)):Option ((Int×List (List UInt8))⊕((List (List UInt8))⊕Unit)):=
 AE (decide (s5<(w1.frees.length:Int))) (
  AW w1.frees s5 fun x10=>
  Ai (fit w3.length [x10.name].length 16) (
   AW w1.frees s5 fun x11=>
   AG (Zd x11.init_) fun r12=>
   AE (!r12) (
    some (.inr (.inr ()))) (
    some (.inl ((AB .add .i64 s5 1),w3++[x10.name]))))) (
  some (.inr (.inl w3)))
def aIm(w1:AA)(s5:Int)(w3:List (List UInt8)):Option ((List (List UInt8))⊕Unit):=AU (fun s:Int×List (List UInt8)=>GL w1 s.1 s.2) (s5,w3)
def GM(w1:AA)(w3:List (List UInt8))(s6:Int):Option ((Int)⊕(Unit⊕Unit)):=
 AE (decide (s6<(w3.length:Int))) (
  AW w3 s6 fun x16=>
  AG (Yg x16) fun r17=>
  AE (!r17) (
   some (.inr (.inr ()))) (
   AG (Z1 w3 s6) fun r18=>
   AE (r18) (
    some (.inr (.inr ()))) (
    some (.inl (AB .add .i64 s6 1))))) (
  some (.inr (.inl ())))
def aIn(w1:AA)(w3:List (List UInt8))(s6:Int):Option (Unit⊕Unit):=AU (fun s:Int=>GM w1 w3 s) s6
def GN(w1:AA)(s8:Int)(w7:List (List UInt8)):Option ((Int×List (List UInt8))⊕(Unit⊕Unit)):=
 AE (decide (s8<(w1.states.length:Int))) (
  AW w1.states s8 fun x26=>
  Ai (fit w7.length [x26.name].length 16) (
   AW (w7++[x26.name]) s8 fun x27=>
   AG (Yg x27) fun r28=>
   AE (!r28) (
    some (.inr (.inr ()))) (
    AG (Z1 (w7++[x26.name]) s8) fun r29=>
    AE (r29) (
     some (.inr (.inr ()))) (
     some (.inl ((AB .add .i64 s8 1),w7++[x26.name])))))) (
  some (.inr (.inl ())))
def aIo(w1:AA)(s8:Int)(w7:List (List UInt8)):Option (Unit⊕Unit):=AU (fun s:Int×List (List UInt8)=>GN w1 s.1 s.2) (s8,w7)
def Xh(a0:AA):Option (Bool):=
 AG (aIl a0 0 ([]:List (List UInt8))) fun o7=>
 Ay o7 (fun o8=>
  AG (aIm a0 0 o8) fun o13=>
  Ay o13 (fun o14=>
   AG (aIn a0 o14 0) fun o19=>
   Ay o19 (fun o20=>
    AG (aIo a0 0 ([]:List (List UInt8))) fun o30=>
    Ay o30 (fun o31=>
     AG (Yg a0.name) fun r33=>
     some r33) (fun o32=>
     some false)) (fun o21=>
    some false)) (fun o15=>
   some false)) (fun o9=>
  some false)
def Zi(a0:Bool):Option (X0×Int):=
 some (X0.mk 3 0 ([]:List UInt8) a0,0)
def Ql(a0 a1:Int):Option (Int×Bool):=
 AE (decide (0<a1)) (
  AE (decide ((AB .sub .i64 9223372036854775807 a1)<a0)) (
   some (0,false)) (
   AE (decide (a1<0)) (
    AE (decide (a0<(AB .sub .i64 (-9223372036854775808) a1))) (
     some (0,false)) (
     some ((AB .add .i64 a0 a1),true))) (
    some ((AB .add .i64 a0 a1),true)))) (
  AE (decide (a1<0)) (
   AE (decide (a0<(AB .sub .i64 (-9223372036854775808) a1))) (
    some (0,false)) (
    some ((AB .add .i64 a0 a1),true))) (
   some ((AB .add .i64 a0 a1),true)))
def Q3(a0:Int)(a1:Bool):Option (X0×Int):=
 AE (!a1) (
  some (X0.mk 0 0 ([]:List UInt8) false,6)) (
  some (X0.mk 1 a0 ([]:List UInt8) false,0))
def Zx(a0 a1:Int):Option (Int×Bool):=
 AE (decide (a1<0)) (
  AE (decide ((AB .add .i64 9223372036854775807 a1)<a0)) (
   some (0,false)) (
   AE (decide (0<a1)) (
    AE (decide (a0<(AB .add .i64 (-9223372036854775808) a1))) (
     some (0,false)) (
     some ((AB .sub .i64 a0 a1),true))) (
    some ((AB .sub .i64 a0 a1),true)))) (
  AE (decide (0<a1)) (
   AE (decide (a0<(AB .add .i64 (-9223372036854775808) a1))) (
    some (0,false)) (
    some ((AB .sub .i64 a0 a1),true))) (
   some ((AB .sub .i64 a0 a1),true)))
def Qm(a0 a1:Int):Option (Int×Bool):=
 AE (decide (a0=0)) (
  some (0,true)) (
  AE (decide (a1=0)) (
   some (0,true)) (
   AE (decide (a0=(-1))) (
    AG (Zx 0 a1) fun r1=>
    some (r1.1,r1.2)) (
    AE (decide (a1=(-1))) (
     AG (Zx 0 a0) fun r2=>
     some (r2.1,r2.2)) (
     AE (decide (0<a0)) (
      AE (decide (0<a1)) (
       Ai (a1≠0) (
        AE (decide ((AB .quo .i64 9223372036854775807 a1)<a0)) (
         some (0,false)) (
         AE (decide (a1<0)) (
          Ai (a0≠0) (
           AE (decide (a1<(AB .quo .i64 (-9223372036854775808) a0))) (
            some (0,false)) (
            AE (decide (a0<0)) (
             Ai (a1≠0) (
              AE (decide (a0<(AB .quo .i64 (-9223372036854775808) a1))) (
               some (0,false)) (
               Ai (a1≠0) (
                AE (decide (a0<(AB .quo .i64 9223372036854775807 a1))) (
                 some (0,false)) (
                 some ((AB .mul .i64 a0 a1),true)))))) (
             some ((AB .mul .i64 a0 a1),true))))) (
          AE (decide (a0<0)) (
           Ai (a1≠0) (
            AE (decide (a0<(AB .quo .i64 (-9223372036854775808) a1))) (
             some (0,false)) (
             some ((AB .mul .i64 a0 a1),true)))) (
           some ((AB .mul .i64 a0 a1),true)))))) (
       AE (decide (a1<0)) (
        Ai (a0≠0) (
         AE (decide (a1<(AB .quo .i64 (-9223372036854775808) a0))) (
          some (0,false)) (
          AE (decide (a0<0)) (
           Ai (a1≠0) (
            AE (decide (a0<(AB .quo .i64 9223372036854775807 a1))) (
             some (0,false)) (
             some ((AB .mul .i64 a0 a1),true)))) (
           some ((AB .mul .i64 a0 a1),true))))) (
        AE (decide (a0<0)) (
         some ((AB .mul .i64 a0 a1),true)) (
         some ((AB .mul .i64 a0 a1),true))))) (
      AE (decide (a0<0)) (
       AE (decide (0<a1)) (
        Ai (a1≠0) (
         AE (decide (a0<(AB .quo .i64 (-9223372036854775808) a1))) (
          some (0,false)) (
          AE (decide (a1<0)) (
           Ai (a1≠0) (
            AE (decide (a0<(AB .quo .i64 9223372036854775807 a1))) (
             some (0,false)) (
             some ((AB .mul .i64 a0 a1),true)))) (
           some ((AB .mul .i64 a0 a1),true))))) (
        AE (decide (a1<0)) (
         Ai (a1≠0) (
          AE (decide (a0<(AB .quo .i64 9223372036854775807 a1))) (
           some (0,false)) (
           some ((AB .mul .i64 a0 a1),true)))) (
         some ((AB .mul .i64 a0 a1),true)))) (
       some ((AB .mul .i64 a0 a1),true)))))))
def Qn(a0 a1:Int):Option (Int×Int×Int):=
 AE (decide (a1=0)) (
  some (0,0,7)) (
  AE (decide (a1=(-1))) (
   AG (Zx 0 a0) fun r1=>
   AE (!r1.2) (
    some (0,0,6)) (
    some (r1.1,0,0))) (
   Ai (a1≠0) (
    Ai (a1≠0) (
     some ((AB .quo .i64 a0 a1),(AB .rem .i64 a0 a1),0)))))
def Zy(a0 a1 a2:Int):Option (X0×Int):=
 AE (decide (a0=8)) (
  AG (Ql a1 a2) fun r1=>
  AG (Q3 r1.1 r1.2) fun r2=>
  some (r2.1,r2.2)) (
  AE (decide (a0=9)) (
   AG (Zx a1 a2) fun r3=>
   AG (Q3 r3.1 r3.2) fun r4=>
   some (r4.1,r4.2)) (
   AE (decide (a0=10)) (
    AG (Qm a1 a2) fun r5=>
    AG (Q3 r5.1 r5.2) fun r6=>
    some (r6.1,r6.2)) (
    AG (Qn a1 a2) fun r7=>
    AE (decide (r7.2.2=7)) (
     some (X0.mk 0 0 ([]:List UInt8) false,7)) (
     AE (decide (a0=12)) (
      some (X0.mk 1 r7.2.1 ([]:List UInt8) false,0)) (
      AG (Q3 r7.1 (decide (r7.2.2=0))) fun r8=>
      some (r8.1,r8.2))))))
def E4(s0 s1:List UInt8)(s5:Int):Option ((Int)⊕(Unit⊕Bool)):=
 AE (decide (s5<(s0.length:Int))) (
  AE (decide (s5<(s1.length:Int))) (
   AW s0 s5 fun x1=>
   AW s1 s5 fun x2=>
   AE (!decide ((x1.toNat:Int)=(x2.toNat:Int))) (
    AW s0 s5 fun x3=>
    AW s1 s5 fun x4=>
    some (.inr (.inr (decide ((x3.toNat:Int)<(x4.toNat:Int)))))) (
    some (.inl (AB .add .i64 s5 1)))) (
   some (.inr (.inl ())))) (
  some (.inr (.inl ())))
def aAf(s0 s1:List UInt8)(s5:Int):Option (Unit⊕Bool):=AU (fun s:Int=>E4 s0 s1 s) s5
def Yq(a0 a1:List UInt8):Option (Bool):=
 AG (aAf a0 a1 0) fun o5=>
 Ay o5 (fun o6=>
  some (decide ((a0.length:Int)<(a1.length:Int)))) (fun o7=>
  some o7)
def Zl(a0 a1:X0):Option (Bool):=
 AE (!decide (a0.kind=a1.kind)) (
  some (decide (a0.kind<a1.kind))) (
  AE (decide (a0.kind=1)) (
   some (decide (a0.int<a1.int))) (
   AE (decide (a0.kind=2)) (
    AG (Yq a0.str a1.str) fun r1=>
    some r1) (
    AE (!a0.bool) (
     some a1.bool) (
     some false))))
def Zn(a0:Int)(a1 a2:X0):Option (X0×Int):=
 AE (decide (a0<4)) (
  some (X0.mk 0 0 ([]:List UInt8) false,1)) (
  AE (decide (16<a0)) (
   some (X0.mk 0 0 ([]:List UInt8) false,1)) (
   AE (decide (a0=4)) (
    AE (!decide (a1.kind=3)) (
     some (X0.mk 0 0 ([]:List UInt8) false,8)) (
     AG (Zi (!a1.bool)) fun r1=>
     some (r1.1,r1.2))) (
    AE (decide (a0=5)) (
     AE (!decide (a1.kind=1)) (
      some (X0.mk 0 0 ([]:List UInt8) false,8)) (
      AG (Zy 9 0 a1.int) fun r2=>
      some (r2.1,r2.2))) (
     AE (!decide (a1.kind=a2.kind)) (
      some (X0.mk 0 0 ([]:List UInt8) false,8)) (
      AE (decide (a0=13)) (
       AG (Zi (X0.eqb a1 a2)) fun r3=>
       some (r3.1,r3.2)) (
       AE (decide (a0=14)) (
        AG (Zi (!(X0.eqb a1 a2))) fun r4=>
        some (r4.1,r4.2)) (
        AE (decide (a1.kind=3)) (
         AE (decide (a0=6)) (
          AE (a1.bool) (
           AG (Zi a2.bool) fun r5=>
           some (r5.1,r5.2)) (
           AG (Zi false) fun r6=>
           some (r6.1,r6.2))) (
          AE (decide (a0=7)) (
           AE (a1.bool) (
            AG (Zi true) fun r7=>
            some (r7.1,r7.2)) (
            AG (Zi a2.bool) fun r8=>
            some (r8.1,r8.2))) (
           some (X0.mk 0 0 ([]:List UInt8) false,8)))) (
         AE (decide (a0=15)) (
          AG (Zl a1 a2) fun r9=>
          AG (Zi r9) fun r10=>
          some (r10.1,r10.2)) (
          AE (decide (a0=16)) (
           AG (Zl a2 a1) fun r11=>
           AG (Zi (!r11)) fun r12=>
           some (r12.1,r12.2)) (
           AE (decide (a1.kind=1)) (
            AE (decide (8<=a0)) (
             AE (decide (a0<=12)) (
              AG (Zy a0 a1.int a2.int) fun r13=>
              some (r13.1,r13.2)) (
              AE (decide (a1.kind=2)) (
               AE (decide (a0=8)) (
                AE (decide (4096<(AB .add .i64 (a1.str.length:Int) (a2.str.length:Int)))) (
                 some (X0.mk 0 0 ([]:List UInt8) false,3)) (
                 Ai (a1.str.length+a2.str.length<=9223372036854775807) (
                  some (X0.mk 2 0 (a1.str++a2.str) false,0)))) (
                some (X0.mk 0 0 ([]:List UInt8) false,8))) (
               some (X0.mk 0 0 ([]:List UInt8) false,8)))) (
             AE (decide (a1.kind=2)) (
              AE (decide (a0=8)) (
               AE (decide (4096<(AB .add .i64 (a1.str.length:Int) (a2.str.length:Int)))) (
                some (X0.mk 0 0 ([]:List UInt8) false,3)) (
                Ai (a1.str.length+a2.str.length<=9223372036854775807) (
                 some (X0.mk 2 0 (a1.str++a2.str) false,0)))) (
               some (X0.mk 0 0 ([]:List UInt8) false,8))) (
              some (X0.mk 0 0 ([]:List UInt8) false,8)))) (
            AE (decide (a1.kind=2)) (
             AE (decide (a0=8)) (
              AE (decide (4096<(AB .add .i64 (a1.str.length:Int) (a2.str.length:Int)))) (
               some (X0.mk 0 0 ([]:List UInt8) false,3)) (
               Ai (a1.str.length+a2.str.length<=9223372036854775807) (
                some (X0.mk 2 0 (a1.str++a2.str) false,0)))) (
              some (X0.mk 0 0 ([]:List UInt8) false,8))) (
             some (X0.mk 0 0 ([]:List UInt8) false,8)))))))))))))
def Q4(a0 a1 a2:Int):Option (Int):=
 AE (decide (a1<1)) (
  some 0) (
  AE (!decide (a1=a2)) (
   some 0) (
   AG (Zn a0 (X0.mk a1 0 ([]:List UInt8) false) (X0.mk a2 0 ([]:List UInt8) false)) fun r1=>
   AE (decide (r1.2=7)) (
    some 1) (
    AE (!decide (r1.2=0)) (
     some 0) (
     some r1.1.kind))))
def aFz(self:AA->Int->Option (Int×Int×Int))(a0:AA)(a1:Int):Option (Int×Int×Int):=
 AE (decide (a1<0)) (
  some (0,0,0)) (
  AE (decide ((a0.nodes.length:Int)<=a1)) (
   some (0,0,0)) (
   AW a0.nodes a1 fun x1=>
   AE (decide (x1.op=1)) (
    AE (!decide (x1.a=0)) (
     some (0,0,0)) (
     AE (!decide (x1.b=0)) (
      some (0,0,0)) (
      AG (Zd x1.value) fun r2=>
      AE (!r2) (
       some (0,0,0)) (
       some (x1.value.kind,1,a1))))) (
    AE (!(X0.eqb x1.value (X0.mk 0 0 ([]:List UInt8) false))) (
     some (0,0,0)) (
     AE (decide (x1.op=2)) (
      AE (decide (x1.a<0)) (
       some (0,0,0)) (
       AE (decide ((a0.quants.length:Int)<=x1.a)) (
        some (0,0,0)) (
        AE (!decide (x1.b=0)) (
         some (0,0,0)) (
         AW a0.quants x1.a fun x3=>
         some (x3.type,1,a1))))) (
      AE (decide (x1.op=3)) (
       AE (decide (x1.a<0)) (
        some (0,0,0)) (
        AE (decide ((a0.frees.length:Int)<=x1.a)) (
         some (0,0,0)) (
         AE (!decide (x1.b=0)) (
          some (0,0,0)) (
          AW a0.frees x1.a fun x4=>
          some (x4.init_.kind,1,a1))))) (
       AE (decide (x1.op<4)) (
        some (0,0,0)) (
        AE (decide (16<x1.op)) (
         some (0,0,0)) (
         AG (self a0 (AB .sub .i64 a1 1)) fun r5=>
         AE (decide (x1.op<=5)) (
          AE (decide (r5.1=0)) (
           some (0,0,0)) (
           AE (!decide (x1.a=(AB .sub .i64 a1 1))) (
            some (0,0,0)) (
            AE (!decide (x1.b=0)) (
             some (0,0,0)) (
             AG (Q4 x1.op r5.1 r5.1) fun r6=>
             some (r6,(AB .add .i64 r5.2.1 1),r5.2.2))))) (
          AE (decide (r5.1=0)) (
           some (0,0,0)) (
           AE (!decide (x1.b=(AB .sub .i64 a1 1))) (
            some (0,0,0)) (
            AE (!decide (x1.a=(AB .sub .i64 r5.2.2 1))) (
             some (0,0,0)) (
             AG (self a0 (AB .sub .i64 r5.2.2 1)) fun r7=>
             AG (Q4 x1.op r7.1 r5.1) fun r8=>
             some (r8,(AB .add .i64 (VA r5.2.1 r7.2.1) 1),r7.2.2)))))))))))))
def aDg:Nat->AA->Int->Option (Int×Int×Int)
 |0=>fun _ _=>none
 |n+1=>fun a0 a1=>aFz (aDg n) a0 a1
def Yz(a0:AA)(a1:Int):Option (Int×Int×Int):=aDg 100000 a0 a1
def Q7(a0:AA)(a1 a2:Int):Option (Int×Int):=
 AG (Yz a0 a2) fun r1=>
 AE (decide (r1.1=0)) (
  some (0,0)) (
  AE (!decide (r1.2.2=a1)) (
   some (0,0)) (
   some (r1.1,r1.2.1)))
def Gp(s1:Int)(w2:X8)(s5:Int):Option ((Int)⊕(Unit⊕Unit)):=
 AE (decide (s5<(w2.args.length:Int))) (
  AW w2.args s5 fun x1=>
  AE (decide (x1.kind=2)) (
   AW w2.args s5 fun x2=>
   AE (decide (x2.n=s1)) (
    some (.inr (.inr ()))) (
    some (.inl (AB .add .i64 s5 1)))) (
   some (.inl (AB .add .i64 s5 1)))) (
  some (.inr (.inl ())))
def aFw(s1:Int)(w2:X8)(s5:Int):Option (Unit⊕Unit):=AU (fun s:Int=>Gp s1 w2 s) s5
def Yw(a0:X8)(a1:Int):Option (Bool):=
 AG (aFw a1 a0 0) fun o3=>
 Ay o3 (fun o4=>
  some false) (fun o5=>
  some true)
def Gv(s3:Int)(w4:AA)(w5:X8)(s9:Int):Option ((Int)⊕(Unit⊕Unit)):=
 AE (decide (s9<s3)) (
  AW w4.nodes s9 fun x1=>
  AE (decide (x1.op=2)) (
   AW w4.nodes s9 fun x2=>
   AG (Yw w5 x2.a) fun r3=>
   AE (!r3) (
    some (.inr (.inr ()))) (
    some (.inl (AB .add .i64 s9 1)))) (
   some (.inl (AB .add .i64 s9 1)))) (
  some (.inr (.inl ())))
def aF5(s3:Int)(w4:AA)(w5:X8)(s9:Int):Option (Unit⊕Unit):=AU (fun s:Int=>Gv s3 w4 w5 s) s9
def Z6(a0:AA)(a1:X8)(a2 a3:Int):Option (Bool):=
 AG (aF5 a3 a0 a1 a2) fun o4=>
 Ay o4 (fun o5=>
  some true) (fun o6=>
  some false)
def Rj(s2 s8:Int)(s56:Bool)(w3:AA)(w4:Xe):Option (Int⊕Unit):=
 AE (s56) (
  AG (Q7 w3 s8 w4.guard) fun r1=>
  AE (!decide (r1.1=3)) (
   some (.inr ())) (
   AE (decide (64<r1.2)) (
    some (.inr ())) (
    some (.inl (AB .add .i64 w4.guard 1))))) (
  some (.inl s8))
def GT(s2 s11:Int)(w3:AA)(w4:Xe)(w12:DN)(s15:Int):Option ((Int)⊕(Unit⊕Unit)):=
 AE (decide (s15<s11)) (
  AW w4.sets s15 fun x8=>
  AE (decide (x8.free=w12.free)) (
   some (.inr (.inr ()))) (
   some (.inl (AB .add .i64 s15 1)))) (
  some (.inr (.inl ())))
def aE7(s2 s11:Int)(w3:AA)(w4:Xe)(w12:DN)(s15:Int):Option (Unit⊕Unit):=AU (fun s:Int=>GT s2 s11 w3 w4 w12 s) s15
def EI(s2:Int)(w3:AA)(w4:Xe)(s8 s11:Int):Option ((Int×Int)⊕(Int⊕Unit)):=
 AE (decide (s11<(w4.sets.length:Int))) (
  AW w4.sets s11 fun x5=>
  AG (Q7 w3 s8 x5.expr) fun r6=>
  AE (decide (x5.free<0)) (
   some (.inr (.inr ()))) (
   AE (decide ((w3.frees.length:Int)<=x5.free)) (
    some (.inr (.inr ()))) (
    AE (decide (r6.1=0)) (
     some (.inr (.inr ()))) (
     AE (decide (64<r6.2)) (
      some (.inr (.inr ()))) (
      AW w3.frees x5.free fun x7=>
      AE (!decide (r6.1=x7.init_.kind)) (
       some (.inr (.inr ()))) (
       AG (aE7 s2 s11 w3 w4 x5 0) fun o9=>
       Ay o9 (fun o10=>
        some (.inl ((AB .add .i64 x5.expr 1),(AB .add .i64 s11 1)))) (fun o11=>
        some (.inr (.inr ()))))))))) (
  some (.inr (.inl s8)))
def OQ(s2:Int)(w3:AA)(w4:Xe)(s8 s11:Int):Option (Int⊕Unit):=AU (fun s:Int×Int=>EI s2 w3 w4 s.1 s.2) (s8,s11)
theorem XF(s2:Int)(w3:AA)(w4:Xe)(s8 s11:Int):OQ s2 w3 w4 s8 s11=BP (EI s2 w3 w4 s8 s11) (fun s:Int×Int=>OQ s2 w3 w4 s.1 s.2):=BG _ _
def Xo(a0:AA)(a1:Xe)(a2:Int):Option (Int×Bool):=
 AE (decide (a1.from_<0)) (
  some (0,false)) (
  AE (decide ((a0.states.length:Int)<=a1.from_)) (
   some (0,false)) (
   AE (decide (a1.to<0)) (
    some (0,false)) (
    AE (decide ((a0.states.length:Int)<=a1.to)) (
     some (0,false)) (
     AE (decide (a1.symbol<0)) (
      some (0,false)) (
      AE (decide ((a0.symbols.length:Int)<=a1.symbol)) (
       some (0,false)) (
       AG (Rj a2 a2 (!decide (a1.guard=(-1))) a0 a1) fun o2=>
       Ay o2 (fun o3=>
        AG (OQ a2 a0 a1 o3 0) fun o12=>
        Ay o12 (fun o13=>
         AW a0.symbols a1.symbol fun x15=>
         AG (Z6 a0 x15 a2 o13) fun r16=>
         some (o13,r16)) (fun o14=>
         some (0,false))) (fun o4=>
        some (0,false))))))))
def Qd(a0:AA)(a1:BQ)(a2:Int):Option (Bool):=
 AE (decide (a1.kind=1)) (
  AE (decide (a1.n=0)) (
   AG (Zd a1.value) fun r1=>
   AE (r1) (
    some (decide (a1.value.kind=a2))) (
    some false)) (
   some false)) (
  AE (!(X0.eqb a1.value (X0.mk 0 0 ([]:List UInt8) false))) (
   some false) (
   AE (decide (a1.kind=2)) (
    AE (decide (0<=a1.n)) (
     AE (decide (a1.n<(a0.quants.length:Int))) (
      AW a0.quants a1.n fun x2=>
      some (decide (x2.type=a2))) (
      some false)) (
     some false)) (
    AE (decide (a1.kind=3)) (
     AE (decide (0<=a1.n)) (
      AE (decide (a1.n<(a0.frees.length:Int))) (
       AW a0.frees a1.n fun x3=>
       some (decide (x3.init_.kind=a2))) (
       some false)) (
      some false)) (
     AE (decide (a1.kind=4)) (
      some (decide (a1.n=0))) (
      some false)))))
def Gu(w2:AA)(w3:X8)(s5:Int):Option ((Int)⊕(Unit⊕Unit)):=
 AE (decide (s5<(w3.args.length:Int))) (
  AW w3.args s5 fun x2=>
  AW w2.decls w3.event fun x3=>
  AW x3.types s5 fun x4=>
  AG (Qd w2 x2 x4) fun r5=>
  AE (!r5) (
   some (.inr (.inr ()))) (
   some (.inl (AB .add .i64 s5 1)))) (
  some (.inr (.inl ())))
def aJt(w2:AA)(w3:X8)(s5:Int):Option (Unit⊕Unit):=AU (fun s:Int=>Gu w2 w3 s) s5
def Z2(a0:AA)(a1:X8):Option (Bool):=
 AE (decide (a1.event<0)) (
  some false) (
  AE (decide ((a0.decls.length:Int)<=a1.event)) (
   some false) (
   AW a0.decls a1.event fun x1=>
   AE (!decide ((a1.args.length:Int)=(x1.types.length:Int))) (
    some false) (
    AG (aJt a0 a1 0) fun o6=>
    Ay o6 (fun o7=>
     some true) (fun o8=>
     some false))))
def G0(w2 w3:X8)(s5:Int):Option ((Int)⊕(Unit⊕Unit)):=
 AE (decide (s5<(w2.args.length:Int))) (
  AW w2.args s5 fun x1=>
  AW w3.args s5 fun x2=>
  AE (!(BQ.eqb x1 x2)) (
   some (.inr (.inr ()))) (
   some (.inl (AB .add .i64 s5 1)))) (
  some (.inr (.inl ())))
def aJu(w2 w3:X8)(s5:Int):Option (Unit⊕Unit):=AU (fun s:Int=>G0 w2 w3 s) s5
def Zb(a0 a1:X8):Option (Bool):=
 AE (!decide (a0.event=a1.event)) (
  some false) (
  AE (!decide ((a0.args.length:Int)=(a1.args.length:Int))) (
   some false) (
   AG (aJu a0 a1 0) fun o3=>
   Ay o3 (fun o4=>
    some true) (fun o5=>
    some false)))
def Pv(s5 s6:Int)(s34:Bool)(w1:AA)(w3:List Bool)(w4:List Int):Option ((List Int)):=
 AE (s34) (
  Ai (fit w4.length [s6].length 8) (
   some (w4++[s6]))) (
  some w4)
def WH(s5:Int)(w1:AA)(w3:List Bool)(w4:List Int):Option ((List Bool×List Int)):=
 AW w1.trans s5 fun x5=>
 Ai (0<=x5.symbol/\x5.symbol+1<=(w3.length:Int)) (
  AW w3 x5.symbol fun x6=>
  AG (Pv s5 x5.symbol (!x6) w1 w3 w4) fun o7=>
  Ai (0<=x5.symbol/\x5.symbol+1<=(w3.length:Int)) (
   Ai (0<=x5.symbol/\x5.symbol+1<=(w3.length:Int)) (
    some (w3.set x5.symbol.toNat true,o7))))
def F8(w1:AA)(s5:Int)(w3:List Bool)(w4:List Int):Option ((Int×List Bool×List Int)⊕((List Int))):=
 AE (decide (s5<(w1.trans.length:Int))) (
  AG (WH s5 w1 w3 w4) fun o8=>
  some (.inl ((AB .add .i64 s5 1),o8.1,o8.2))) (
  some (.inr w4))
def aIh(w1:AA)(s5:Int)(w3:List Bool)(w4:List Int):Option ((List Int)):=AU (fun s:Int×List Bool×List Int=>F8 w1 s.1 s.2.1 s.2.2) (s5,w3,w4)
def F9(w1:AA)(w4:List Int)(s7:Int):Option ((Int)⊕(Unit⊕Unit)):=
 AE (decide (s7<(w4.length:Int))) (
  AW w4 s7 fun x10=>
  AE (!decide (x10=(AB .add .i64 (AB .sub .i64 (w1.symbols.length:Int) (w4.length:Int)) s7))) (
   some (.inr (.inr ()))) (
   some (.inl (AB .add .i64 s7 1)))) (
  some (.inr (.inl ())))
def aIi(w1:AA)(w4:List Int)(s7:Int):Option (Unit⊕Unit):=AU (fun s:Int=>F9 w1 w4 s) s7
def GB(s8:Int)(w1:AA)(s9:Int):Option ((Int)⊕(Unit⊕Unit)):=
 AE (decide (s9<s8)) (
  AW w1.symbols s8 fun x16=>
  AW w1.symbols s9 fun x17=>
  AG (Zb x16 x17) fun r18=>
  AE (r18) (
   some (.inr (.inr ()))) (
   some (.inl (AB .add .i64 s9 1)))) (
  some (.inr (.inl ())))
def aEu(s8:Int)(w1:AA)(s9:Int):Option (Unit⊕Unit):=AU (fun s:Int=>GB s8 w1 s) s9
def GA(w1:AA)(s8:Int):Option ((Int)⊕(Unit⊕Unit)):=
 AE (decide (s8<(w1.symbols.length:Int))) (
  AW w1.symbols s8 fun x14=>
  AG (Z2 w1 x14) fun r15=>
  AE (!r15) (
   some (.inr (.inr ()))) (
   AG (aEu s8 w1 0) fun o19=>
   Ay o19 (fun o20=>
    some (.inl (AB .add .i64 s8 1))) (fun o21=>
    some (.inr (.inr ()))))) (
  some (.inr (.inl ())))
def aIj(w1:AA)(s8:Int):Option (Unit⊕Unit):=AU (fun s:Int=>GA w1 s) s8
def Dq(s10:Int)(w1:AA)(s11:Bool)(s12:Int):Option ((Bool×Int)⊕(Bool)):=
 AE (decide (s12<(w1.symbols.length:Int))) (
  AE (s11) (
   some (.inl (true,(AB .add .i64 s12 1)))) (
   AW w1.symbols s12 fun x25=>
   AG (Yw x25 s10) fun r26=>
   some (.inl (r26,(AB .add .i64 s12 1))))) (
  some (.inr s11))
def Pw(s10:Int)(w1:AA)(s11:Bool)(s12:Int):Option (Bool):=AU (fun s:Bool×Int=>Dq s10 w1 s.1 s.2) (s11,s12)
def GC(w1:AA)(s10:Int):Option ((Int)⊕(Unit⊕Unit)):=
 AE (decide (s10<(w1.quants.length:Int))) (
  AG (Pw s10 w1 false 0) fun o27=>
  AE (!o27) (
   some (.inr (.inr ()))) (
   some (.inl (AB .add .i64 s10 1)))) (
  some (.inr (.inl ())))
def aIk(w1:AA)(s10:Int):Option (Unit⊕Unit):=AU (fun s:Int=>GC w1 s) s10
def Xb(a0:AA):Option (Bool):=
 Ai (0<=(a0.symbols.length:Int)/\fit 0 (a0.symbols.length:Int).toNat 1) (
  AG (aIh a0 0 (List.replicate (a0.symbols.length:Int).toNat false) ([]:List Int)) fun o9=>
  AG (aIi a0 o9 0) fun o11=>
  Ay o11 (fun o12=>
   AG (aIj a0 0) fun o22=>
   Ay o22 (fun o23=>
    AG (aIk a0 0) fun o28=>
    Ay o28 (fun o29=>
     some true) (fun o30=>
     some false)) (fun o24=>
    some false)) (fun o13=>
   some false))
def Gj(w1:AA)(s5 s6:Int):Option ((Int×Int)⊕(Int⊕Unit)):=
 AE (decide (s6<(w1.trans.length:Int))) (
  AW w1.trans s6 fun x3=>
  AG (Xo w1 x3 s5) fun r4=>
  AE (!r4.2) (
   some (.inr (.inr ()))) (
   some (.inl (r4.1,(AB .add .i64 s6 1))))) (
  some (.inr (.inl s5)))
def aJi(w1:AA)(s5 s6:Int):Option (Int⊕Unit):=AU (fun s:Int×Int=>Gj w1 s.1 s.2) (s5,s6)
def Yn(a0:AA):Option (Bool):=
 AG (Xr a0.decls) fun r1=>
 AE (!decide (r1.1=0)) (
  some false) (
  AE (decide (8<(a0.quants.length:Int))) (
   some false) (
   AE (decide (16<(a0.frees.length:Int))) (
    some false) (
    AE (decide (32<(a0.states.length:Int))) (
     some false) (
     AE (decide (64<(a0.symbols.length:Int))) (
      some false) (
      AE (decide (2048<(a0.nodes.length:Int))) (
       some false) (
       AE (decide (256<(a0.trans.length:Int))) (
        some false) (
        AE (decide (a0.start<0)) (
         some false) (
         AE (decide ((a0.states.length:Int)<=a0.start)) (
          some false) (
          AG (Xh a0) fun r2=>
          AE (!r2) (
           some false) (
           AG (aJi a0 0 0) fun o5=>
           Ay o5 (fun o6=>
            AE (decide (o6=(a0.nodes.length:Int))) (
             AG (Xb a0) fun r8=>
             some r8) (
             some false)) (fun o7=>
            some false)))))))))))
def Gm(w1:AA)(s3:Int):Option ((Int)⊕(Unit⊕Unit)):=
 AE (decide (s3<(w1.decls.length:Int))) (
  AW w1.decls s3 fun x3=>
  AE (decide (3<(x3.types.length:Int))) (
   some (.inr (.inr ()))) (
   some (.inl (AB .add .i64 s3 1)))) (
  some (.inr (.inl ())))
def aFu(w1:AA)(s3:Int):Option (Unit⊕Unit):=AU (fun s:Int=>Gm w1 s) s3
def Yt(a0:AA):Option (Bool):=
 AG (Xf a0) fun r1=>
 AE (decide (r1=0)) (
  some false) (
  AG (Yn a0) fun r2=>
  AE (!r2) (
   some false) (
   AG (aFu a0 0) fun o4=>
   Ay o4 (fun o5=>
    some true) (fun o6=>
    some false)))
def Qt(a0:Xe):Option (Bool):=
 some (decide (0<=a0.guard))
def Ez(s0:List Xe)(s7 s8:Int):Option ((Int)⊕(Unit⊕Int)):=
 AE (decide (s8<s7)) (
  AW s0 s8 fun x1=>
  AG (Qt x1) fun r2=>
  AE (r2) (
   some (.inr (.inr s8))) (
   some (.inl (AB .add .i64 s8 1)))) (
  some (.inr (.inl ())))
def OU(s0:List Xe)(s7 s8:Int):Option (Unit⊕Int):=AU (fun s:Int=>Ez s0 s7 s) s8
def Y4(a0:List Xe):Option (Int):=
 AG (OU a0 (a0.length:Int) 0) fun o3=>
 Ay o3 (fun o4=>
  some (-1)) (fun o5=>
  some o5)
def Zr(a0:List Xe):Option (Bool):=
 AG (Y4 a0) fun r1=>
 some (decide (0<=r1))
def Zu(a0:AA):Option (Bool):=
 AE (decide ((a0.frees.length:Int)=0)) (
  AG (Zr a0.trans) fun r1=>
  some (!r1)) (
  some false)
def Zo(a0:AA):Option (Bool):=
 AG (Zu a0) fun r1=>
 AE (r1) (
  AE (decide ((a0.quants.length:Int)<=1)) (
   AE (decide ((a0.states.length:Int)<=8)) (
    some (decide ((a0.symbols.length:Int)<=8))) (
    some false)) (
   some false)) (
  some false)
def E0(s0 s1:List Int)(s12 s13:Int):Option ((Int)⊕(Unit⊕Unit)):=
 AE (decide (s13<s12)) (
  AW s0 s13 fun x1=>
  AW s1 s13 fun x2=>
  AE (!decide (x1=x2)) (
   some (.inr (.inr ()))) (
   some (.inl (AB .add .i64 s13 1)))) (
  some (.inr (.inl ())))
def SM(s0 s1:List Int)(s12 s13:Int):Option (Unit⊕Unit):=AU (fun s:Int=>E0 s0 s1 s12 s) s13
def Y5(a0 a1:List Int):Option (Bool):=
 AE (!decide ((a0.length:Int)=(a1.length:Int))) (
  some false) (
  AG (SM a0 a1 (a0.length:Int) 0) fun o3=>
  Ay o3 (fun o4=>
   some true) (fun o5=>
   some false))
def Zs(a0 a1:X7):Option (Bool):=
 AE (decide (a0.name=a1.name)) (
  AG (Y5 a0.types a1.types) fun r1=>
  some r1) (
  some false)
def EJ(s1 s15:List X7)(s16 s17:Int):Option ((Int)⊕(Unit⊕Unit)):=
 AE (decide (s17<s16)) (
  AW s15 s17 fun x1=>
  AW s1 s17 fun x2=>
  AG (Zs x1 x2) fun r3=>
  AE (!r3) (
   some (.inr (.inr ()))) (
   some (.inl (AB .add .i64 s17 1)))) (
  some (.inr (.inl ())))
def Rv(s1 s15:List X7)(s16 s17:Int):Option (Unit⊕Unit):=AU (fun s:Int=>EJ s1 s15 s16 s) s17
def Xu(a0 a1:List X7):Option (Bool):=
 AE (!decide ((a0.length:Int)=(a1.length:Int))) (
  some false) (
  AG (Rv a1 a0 (a0.length:Int) 0) fun o4=>
  Ay o4 (fun o5=>
   some true) (fun o6=>
   some false))
def Zt(a0 a1:List X7):Option (Bool):=
 AG (Xu a0 a1) fun r1=>
 some r1
def Yu(a0 a1:AA):Option (Bool):=
 AG (Zo a0) fun r1=>
 AE (r1) (
  AG (Zo a1) fun r2=>
  AE (r2) (
   AE (decide ((AB .add .i64 (a0.quants.length:Int) (a1.quants.length:Int))=0)) (
    AG (Zt a0.decls a1.decls) fun r3=>
    some r3) (
    some false)) (
   some false)) (
  some false)
def U5(l:List X0):Option (List X0):=FY 40 l
def Qj(a0:AA)(a1:X3):Option (AA×X3):=
 some (a0,a1)
def Qu(a0:X7)(a1:List UInt8):Option (Bool):=
 some (decide (a0.name=a1))
def JJ(s0:List X7)(s1:List UInt8)(s7 s8:Int):Option ((Int)⊕(Unit⊕Int)):=
 AE (decide (s8<s7)) (
  AW s0 s8 fun x1=>
  AG (Qu x1 s1) fun r2=>
  AE (r2) (
   some (.inr (.inr s8))) (
   some (.inl (AB .add .i64 s8 1)))) (
  some (.inr (.inl ())))
def aGb(s0:List X7)(s1:List UInt8)(s7 s8:Int):Option (Unit⊕Int):=AU (fun s:Int=>JJ s0 s1 s7 s) s8
def Ze(a0:List X7)(a1:List UInt8):Option (Int):=
 AG (aGb a0 a1 (a0.length:Int) 0) fun o3=>
 Ay o3 (fun o4=>
  some (-1)) (fun o5=>
  some o5)
def Qv(a0:List X7)(a1:List UInt8):Option (Int×Bool):=
 AG (Ze a0 a1) fun r1=>
 some ((VA r1 0),decide (0<=r1))
def Qw(a0:Int):Option (X0):=
 some (X0.mk 1 a0 ([]:List UInt8) false)
def Qx(a0:List UInt8):Option (X0):=
 some (X0.mk 2 0 a0 false)
def Qy(a0:Bool):Option (X0):=
 some (X0.mk 3 0 ([]:List UInt8) a0)
def Qe(a0:X0):Option (Bool):=
 AE (decide (a0.kind=1)) (
  AG (Qw a0.int) fun r1=>
  some (X0.eqb a0 r1)) (
  AE (decide (a0.kind=2)) (
   AG (Qx a0.str) fun r2=>
   AE ((X0.eqb a0 r2)) (
    some (decide ((a0.str.length:Int)<=4096))) (
    some false)) (
   AE (decide (a0.kind=3)) (
    AG (Qy a0.bool) fun r3=>
    some (X0.eqb a0 r3)) (
    some false)))
def Qz(a0:X0)(a1:Int):Option (Bool):=
 AE (decide (a0.kind=a1)) (
  AG (Qe a0) fun r1=>
  some r1) (
  some false)
def JI(s1:List Int)(s15:List X0)(s16 s17:Int):Option ((Int)⊕(Unit⊕Unit)):=
 AE (decide (s17<s16)) (
  AW s15 s17 fun x1=>
  AW s1 s17 fun x2=>
  AG (Qz x1 x2) fun r3=>
  AE (!r3) (
   some (.inr (.inr ()))) (
   some (.inl (AB .add .i64 s17 1)))) (
  some (.inr (.inl ())))
def aF9(s1:List Int)(s15:List X0)(s16 s17:Int):Option (Unit⊕Unit):=AU (fun s:Int=>JI s1 s15 s16 s) s17
def Zc(a0:List X0)(a1:List Int):Option (Bool):=
 AE (!decide ((a0.length:Int)=(a1.length:Int))) (
  some false) (
  AG (aF9 a1 a0 (a0.length:Int) 0) fun o4=>
  Ay o4 (fun o5=>
   some true) (fun o6=>
   some false))
def Qf(a0:List X7)(a1:X3):Option (Bool):=
 AG (Qv a0 a1.name) fun r1=>
 AE (!r1.2) (
  some false) (
  AW a0 r1.1 fun x2=>
  AG (Zc a1.args x2.types) fun r3=>
  some r3)
def Qg(a0:X2)(a1:Int):Option (Int):=
 some (AB .sub .i64 a0.var a1)
def ZF(s0:List X2)(s1 s8:Int)(s9 s10 s11:Int)(s31:Bool):Option ((Int×Int)):=
 AE (s31) (
  some ((AB .add .i64 s11 1),s10)) (
  some (s9,s11))
def ZD(s0:List X2)(s1 s8:Int)(s9 s10:Int):Option ((Int×Int)):=
 AW s0 (IntKind.wrap .i64 (AB .shr .u64 (IntKind.wrap .u64 (AB .add .i64 s9 s10)) 1)) fun x1=>
 AG (Qg x1 s1) fun r2=>
 AG (ZF s0 s1 s8 s9 s10 (IntKind.wrap .i64 (AB .shr .u64 (IntKind.wrap .u64 (AB .add .i64 s9 s10)) 1)) (decide (r2<0))) fun o3=>
 some (o3.1,o3.2)
def Gb(s0:List X2)(s1 s8:Int)(s9 s10:Int):Option ((Int×Int)⊕(Int)):=
 AE (decide (s9<s10)) (
  AG (ZD s0 s1 s8 s9 s10) fun o4=>
  some (.inl (o4.1,o4.2))) (
  some (.inr s9))
def aFg(s0:List X2)(s1 s8:Int)(s9 s10:Int):Option (Int):=AU (fun s:Int×Int=>Gb s0 s1 s8 s.1 s.2) (s9,s10)
def Ya(a0:List X2)(a1:Int):Option (Int×Bool):=
 AG (aFg a0 a1 (a0.length:Int) 0 (a0.length:Int)) fun o5=>
 AE (decide (o5<(a0.length:Int))) (
  AW a0 o5 fun x6=>
  AG (Qg x6 a1) fun r7=>
  some (o5,decide (r7=0))) (
  some (o5,false))
def U7(i:Int)(ys:List X2):Option (List X2):=aOz 48 i ys
def Ub(a1:X2):Option (Bool×List X2):=
 AG (Ya ([]:List X2) a1.var) fun r1=>
 AE (r1.2) (
  AW ([]:List X2) r1.1 fun x2=>
  some ((X2.eqb x2 a1),([]:List X2))) (
  AG (U7 r1.1 [a1]) fun r3=>
  some (true,r3))
def U0(i:Int)(xs ys:List X2):Option (List X2):=aK6 48 i xs ys
def Zq(a1:X2)(w1:List X2):Option (Bool×List X2):=
 AG (Ya w1 a1.var) fun r1=>
 AE (r1.2) (
  Ai (0<=r1.1/\r1.1+1<=(w1.length:Int)) (
   AW w1 r1.1 fun x2=>
   some ((X2.eqb x2 a1),w1))) (
  AG (U0 r1.1 w1 [a1]) fun r3=>
  some (true,r3))
def Gn(s13:List BQ)(s14:Int)(w5:X3)(s15:Int)(w600 w601:List X2):Option ((Int×List X2×List X2)⊕((List X2×List X2)⊕(List X2×List X2))):=
 AE (decide (s15<s14)) (
  AW s13 s15 fun x9=>
  AW w5.args s15 fun x10=>
  AE (decide (x9.kind=1)) (
   AE (!(X0.eqb x9.value ((X2.mk x9.n x10).value))) (
    some (.inr (.inr (w600,w601)))) (
    AE (decide (x9.kind=2)) (
     AG (Zq (X2.mk x9.n x10) w600) fun r11=>
     AE (!r11.1) (
      some (.inr (.inr (r11.2,w601)))) (
      AE (decide (x9.kind=3)) (
       AG (Zq (X2.mk x9.n x10) w601) fun r12=>
       AE (!r12.1) (
        some (.inr (.inr (r11.2,r12.2)))) (
        some (.inl ((AB .add .i64 s15 1),r11.2,r12.2)))) (
       some (.inl ((AB .add .i64 s15 1),r11.2,w601))))) (
     AE (decide (x9.kind=3)) (
      AG (Zq (X2.mk x9.n x10) w601) fun r13=>
      AE (!r13.1) (
       some (.inr (.inr (w600,r13.2)))) (
       some (.inl ((AB .add .i64 s15 1),w600,r13.2)))) (
      some (.inl ((AB .add .i64 s15 1),w600,w601)))))) (
   AE (decide (x9.kind=2)) (
    AG (Zq (X2.mk x9.n x10) w600) fun r14=>
    AE (!r14.1) (
     some (.inr (.inr (r14.2,w601)))) (
     AE (decide (x9.kind=3)) (
      AG (Zq (X2.mk x9.n x10) w601) fun r15=>
      AE (!r15.1) (
       some (.inr (.inr (r14.2,r15.2)))) (
       some (.inl ((AB .add .i64 s15 1),r14.2,r15.2)))) (
      some (.inl ((AB .add .i64 s15 1),r14.2,w601))))) (
    AE (decide (x9.kind=3)) (
     AG (Zq (X2.mk x9.n x10) w601) fun r16=>
     AE (!r16.1) (
      some (.inr (.inr (w600,r16.2)))) (
      some (.inl ((AB .add .i64 s15 1),w600,r16.2)))) (
     some (.inl ((AB .add .i64 s15 1),w600,w601)))))) (
  some (.inr (.inl (w600,w601))))
def TD(s13:List BQ)(s14:Int)(w5:X3)(s15:Int)(w600 w601:List X2):Option ((List X2×List X2)⊕(List X2×List X2)):=AU (fun s:Int×List X2×List X2=>Gn s13 s14 w5 s.1 s.2.1 s.2.2) (s15,w600,w601)
theorem NH(s13:List BQ)(s14:Int)(w5:X3)(s15:Int)(w600 w601:List X2):TD s13 s14 w5 s15 w600 w601=BP (Gn s13 s14 w5 s15 w600 w601) (fun s:Int×List X2×List X2=>TD s13 s14 w5 s.1 s.2.1 s.2.2):=BG _ _
def Yv(a0:X8)(a1:X3):Option (Bool×List X2×List X2):=
 AG (TD a0.args (a0.args.length:Int) a1 0 ([]:List X2) ([]:List X2)) fun o17=>
 Ay o17 (fun o18=>
  some (true,o18.1,o18.2)) (fun o19=>
  some (false,o19.1,o19.2))
def Qh(a0:AA)(a1:Int)(a2:X3):Option (AL×Bool):=
 AW a0.symbols a1 fun x1=>
 AW a0.decls x1.event fun x2=>
 AE (!decide (x2.name=a2.name)) (
  some (AL.mk 0 ([]:List X2) ([]:List X2),false)) (
  AG (Yv x1 a2) fun r3=>
  AE (!r3.1) (
   some (AL.mk 0 ([]:List X2) ([]:List X2),false)) (
   some (AL.mk a1 r3.2.1 r3.2.2,true)))
def Gg{φ:Type}(step:φ->AL->Option (φ×Bool))(s1:AA)(s2:X3)(s14:Int)(f0:φ)(s15:Int):Option ((φ×Int)⊕(φ⊕φ)):=
 AE (decide (s15<s14)) (
  AG (Qh s1 s15 s2) fun r2=>
  AE (r2.2) (
   Vp (step f0 r2.1) (fun f3=>
    some (.inl (f3,(AB .add .i64 s15 1)))) (fun f4=>
    some (.inr (.inr f4)))) (
   some (.inl (f0,(AB .add .i64 s15 1))))) (
  some (.inr (.inl f0)))
def Sk{φ:Type}(step:φ->AL->Option (φ×Bool))(s1:AA)(s2:X3)(s14:Int)(f0:φ)(s15:Int):Option (φ⊕φ):=AU (fun s:φ×Int=>Gg step s1 s2 s14 s.1 s.2) (f0,s15)
theorem NE{φ:Type}(step:φ->AL->Option (φ×Bool))(s1:AA)(s2:X3)(s14:Int)(f0:φ)(s15:Int):Sk step s1 s2 s14 f0 s15=BP (Gg step s1 s2 s14 f0 s15) (fun s:φ×Int=>Sk step s1 s2 s14 s.1 s.2):=BG _ _
def Yh{φ:Type}(step:φ->AL->Option (φ×Bool))(a1:AA)(a2:X3)(f0:φ):Option φ:=
 AG (Qf a1.decls a2) fun r1=>
 AE (!r1) (
  some f0) (
  AG (Sk step a1 a2 (a1.symbols.length:Int) f0 0) fun o5=>
  Ay o5 (fun o6=>
   some o6) (fun o7=>
   some o7))
def Wz(s6_1:AA)(s6_2:X3)(s7:AL)(w600:List AL)(w998_1:AA)(w998_2:X3):Option (Unit):=
 some ()
def W2(s6_1:AA)(s6_2:X3)(w5:AL)(w600:List AL)(w998_1:AA)(w998_2:X3):Option (Unit):=
 Ai (fit w600.length [w5].length 56) (
  some ())
def CZ(s6_1:AA)(s6_2:X3)(s:List AL)(x:AL):Option ((List AL)⊕(Empty)):=
 AG (Wz s6_1 s6_2 x s s6_1 s6_2) fun o5=>
 AG (W2 s6_1 s6_2 x s s6_1 s6_2) fun o6=>
 some (.inl (s++[x]))
def Xl(a1_1:AA)(a1_2:X3):Option (List AL):=
 AG (Yh (CP (CZ a1_1 a1_2)) a1_1 a1_2 (.inl ([]:List AL))) fun o7=>
 Ay o7 (fun o8=>
  some o8) (fun o9=>
  none)
def U1(a0_1:AA)(a0_2:X3):Option (List AL):=
 AG (Xl a0_1 a0_2) fun r1=>
 some r1
def Qi(a0:AA)(a1:X3):Option (List AL):=
 AG (Qj a0 a1) fun r1=>
 AG (U1 r1.1 r1.2) fun r2=>
 some r2
def U2(a0 a1:List X2):Option (List X2×List X2):=
 some (a0,a1)
def JF(s1:Int)(s8:List X2)(s9:Int)(w4:X0)(s10:Int):Option ((Int)⊕(Unit⊕X0)):=
 AE (decide (s10<s9)) (
  AW s8 s10 fun x1=>
  AE (decide (x1.var=s1)) (
   some (.inr (.inr x1.value))) (
   some (.inl (AB .add .i64 s10 1)))) (
  some (.inr (.inl ())))
def aF2(s1:Int)(s8:List X2)(s9:Int)(w4:X0)(s10:Int):Option (Unit⊕X0):=AU (fun s:Int=>JF s1 s8 s9 w4 s) s10
def Z3(a0:List X2)(a1:Int):Option (X0×Bool):=
 AG (aF2 a1 a0 (a0.length:Int) (X0.mk 0 0 ([]:List UInt8) false) 0) fun o2=>
 Ay o2 (fun o3=>
  some (X0.mk 0 0 ([]:List UInt8) false,false)) (fun o4=>
  some (o4,true))
def YY{φ:Type}(step:φ->((X2×X0)⊕X2)->Option (φ×Bool))(f0:φ)(s2 s9:List X2)(s10 s11:Int):Option (φ⊕φ):=
 AW s9 s11 fun x1=>
 AG (Z3 s2 x1.var) fun r2=>
 AE (r2.2) (
  Vp (step f0 (.inl (x1,r2.1))) (fun f3=>
   some (.inl f3)) (fun f4=>
   some (.inr f4))) (
  Vp (step f0 (.inr x1)) (fun f5=>
   some (.inl f5)) (fun f6=>
   some (.inr f6)))
def Ga{φ:Type}(step:φ->((X2×X0)⊕X2)->Option (φ×Bool))(s2 s9:List X2)(s10:Int)(f0:φ)(s11:Int):Option ((φ×Int)⊕(φ⊕φ)):=
 AE (decide (s11<s10)) (
  AG (YY step f0 s2 s9 s10 s11) fun o7=>
  Ay o7 (fun o8=>
   some (.inl (o8,(AB .add .i64 s11 1)))) (fun o9=>
   some (.inr (.inr o9)))) (
  some (.inr (.inl f0)))
def aFe{φ:Type}(step:φ->((X2×X0)⊕X2)->Option (φ×Bool))(s2 s9:List X2)(s10:Int)(f0:φ)(s11:Int):Option (φ⊕φ):=AU (fun s:φ×Int=>Ga step s2 s9 s10 s.1 s.2) (f0,s11)
def Y8{φ:Type}(step:φ->((X2×X0)⊕X2)->Option (φ×Bool))(a1 a2:List X2)(f0:φ):Option φ:=
 AG (aFe step a2 a1 (a1.length:Int) f0 0) fun o10=>
 Ay o10 (fun o11=>
  some o11) (fun o12=>
  some o12)
def WV(s9_1 s9_2:List X2)(s10:X2)(s11:X0)(w4:Bool)(w998_1 w998_2:List X2):Option (Unit):=
 some ()
def WW(s9_1 s9_2:List X2)(s10:X2)(w4:Bool)(w998_1 w998_2:List X2):Option (Unit):=
 some ()
def WY(s6:X0)(s9_1 s9_2:List X2)(w4:Bool)(w5:X2)(w998_1 w998_2:List X2):Option (Unit⊕Unit):=
 AE (!(X0.eqb s6 w5.value)) (
  some (.inr ())) (
  some (.inl ()))
def WZ(s9_1 s9_2:List X2)(w4:Bool)(w5:X2)(w998_1 w998_2:List X2):Option (Unit):=
 some ()
def CY(s9_1 s9_2:List X2)(s:Bool)(x:(X2×X0)⊕X2):Option ((Bool)⊕(Bool)):=
 Ay x (fun z13=>
  AG (WV s9_1 s9_2 z13.1 z13.2 s s9_1 s9_2) fun o6=>
  AG (WY z13.2 s9_1 s9_2 s z13.1 s9_1 s9_2) fun o7=>
  Ay o7 (fun o15=>
   some (.inl s)) (fun o16=>
   some (.inr false))) (fun z14=>
  AG (WW s9_1 s9_2 z14 s s9_1 s9_2) fun o8=>
  AG (WZ s9_1 s9_2 s z14 s9_1 s9_2) fun o9=>
  some (.inr false))
def Xg(a0 a1:List X2):Option (Bool):=
 AG (U2 a0 a1) fun r1=>
 AG (Y8 (CP (CY r1.1 r1.2)) r1.1 r1.2 (.inl false)) fun o10=>
 Ay o10 (fun o11=>
  some true) (fun o12=>
  some o12)
def U3(a0:AL)(a1:List X2):Option (Bool):=
 AG (Xg a0.bind a1) fun r1=>
 some r1
def ZK(s1:List X2)(s8:List AL)(s9 s10:Int)(s16:Bool)(w4 w5:List AL)(w7:AL):Option ((List AL×List AL)):=
 AE (s16) (
  Ai (fit w4.length [w7].length 56) (
   some (w4++[w7],w5))) (
  Ai (fit w5.length [w7].length 56) (
   some (w4,w5++[w7])))
def ZI(s1:List X2)(s8:List AL)(s9 s10:Int)(w4 w5:List AL):Option ((List AL×List AL)):=
 AW s8 s10 fun x5=>
 AG (U3 x5 s1) fun r6=>
 AG (ZK s1 s8 s9 s10 r6 w4 w5 x5) fun o7=>
 some (o7.1,o7.2)
def Gd(s1:List X2)(s8:List AL)(s9 s10:Int)(w4 w5:List AL):Option ((Int×List AL×List AL)⊕((List AL×List AL))):=
 AE (decide (s10<s9)) (
  AG (ZI s1 s8 s9 s10 w4 w5) fun o8=>
  some (.inl ((AB .add .i64 s10 1),o8.1,o8.2))) (
  some (.inr (w4,w5)))
def aFj(s1:List X2)(s8:List AL)(s9 s10:Int)(w4 w5:List AL):Option ((List AL×List AL)):=AU (fun s:Int×List AL×List AL=>Gd s1 s8 s9 s.1 s.2.1 s.2.2) (s10,w4,w5)
def Yc(a0:List AL)(a1:List X2):Option (List AL×List AL):=
 AG (aFj a1 a0 (a0.length:Int) 0 ([]:List AL) ([]:List AL)) fun o9=>
 some (o9.1,o9.2)
def Qb(a0:List AL)(a1:List X2):Option (List AL):=
 AG (Yc a0 a1) fun r1=>
 some r1.1
def Gq(s14:List AL)(s15 s7 s16:Int):Option ((Int×Int)⊕(Int)):=
 AE (decide (s16<s15)) (
  AW s14 s16 fun x3=>
  Ai (0<=(IntKind.wrap .u64 x3.symbol)) (
   some (.inl ((AB .or .u64 s7 (AB .shl .u64 1 (IntKind.wrap .u64 x3.symbol))),(AB .add .i64 s16 1))))) (
  some (.inr s7))
def aFx(s14:List AL)(s15 s7 s16:Int):Option (Int):=AU (fun s:Int×Int=>Gq s14 s15 s.1 s.2) (s7,s16)
def Yx(a0:AA)(a1:List X2)(a2:X3):Option (Int):=
 AG (Qi a0 a2) fun r1=>
 AG (Qb r1 a1) fun r2=>
 AG (aFx r2 (r2.length:Int) 0 0) fun o4=>
 some o4
def aBa(s30:Bool)(w7:X3)(w8:X5)(w502:MP X5 X3)(w503:List X5):Option ((MP X5 X3×List X5)):=
 AE (s30) (
  Ai (fit w503.length [w8].length 16) (
   some (Cs w502 w8 w7,w503++[w8]))) (
  some (w502,w503))
def Zv(a0:List X0)(a1:X7)(a2 a3:AA)(w2:MP X5 X3)(w3:List X5):Option (MP X5 X3×List X5):=
 AG (U5 a0) fun r1=>
 AG (Yx a2 ([]:List X2) (X3.mk a1.name r1)) fun r2=>
 AG (Yx a3 ([]:List X2) (X3.mk a1.name r1)) fun r3=>
 AG (aBa (!((BC (X3.mk ([]:List UInt8) ([]:List X0)) w2 (X5.mk r2 r3)).2)) (X3.mk a1.name r1) (X5.mk r2 r3) w2 w3) fun o4=>
 some (o4.1,o4.2)
def Gw(s0:List X0)(s7:Int)(w3:X0)(s8:Int):Option ((Int)⊕(Unit⊕Int)):=
 AE (decide (s8<s7)) (
  AW s0 s8 fun x1=>
  AE ((X0.eqb w3 x1)) (
   some (.inr (.inr s8))) (
   some (.inl (AB .add .i64 s8 1)))) (
  some (.inr (.inl ())))
def aAv(s0:List X0)(s7:Int)(w3:X0)(s8:Int):Option (Unit⊕Int):=AU (fun s:Int=>Gw s0 s7 w3 s) s8
def Z7(a0:List X0)(a1:X0):Option (Int):=
 AG (aAv a0 (a0.length:Int) a1 0) fun o2=>
 Ay o2 (fun o3=>
  some (-1)) (fun o4=>
  some o4)
def Q8(a0:List X0)(a1:X0):Option (Bool):=
 AG (Z7 a0 a1) fun r1=>
 some (decide (0<=r1))
def Hv(s1 s2:Int)(s12:List X8)(s13 s14:Int)(s41:Bool)(w3:List X0)(w10:X8):Option ((List X0)):=
 AE (s41) (
  AW w10.args s2 fun x5=>
  Ai (fit w3.length [x5.value].length 40) (
   some (w3++[x5.value]))) (
  some w3)
def OR(s1 s2:Int)(s12:List X8)(s13 s14:Int)(w3:List X0):Option ((List X0)):=
 AW s12 s14 fun x1=>
 AE (decide (x1.event=s1)) (
  AW x1.args s2 fun x2=>
  AE (decide (x2.kind=1)) (
   AW x1.args s2 fun x3=>
   AG (Q8 w3 x3.value) fun r4=>
   AG (Hv s1 s2 s12 s13 s14 (!r4) w3 x1) fun o6=>
   some o6) (
   AG (Hv s1 s2 s12 s13 s14 false w3 x1) fun o7=>
   some o7)) (
  AG (Hv s1 s2 s12 s13 s14 false w3 x1) fun o8=>
  some o8)
def Ev(s1 s2:Int)(s12:List X8)(s13 s14:Int)(w3:List X0):Option ((Int×List X0)⊕((List X0))):=
 AE (decide (s14<s13)) (
  AG (OR s1 s2 s12 s13 s14 w3) fun o9=>
  some (.inl ((AB .add .i64 s14 1),o9))) (
  some (.inr w3))
def Rs(s1 s2:Int)(s12:List X8)(s13 s14:Int)(w3:List X0):Option ((List X0)):=AU (fun s:Int×List X0=>Ev s1 s2 s12 s13 s.1 s.2) (s14,w3)
def Xs(a0:AA)(a1 a2:Int):Option (List X0):=
 AG (Rs a1 a2 a0.symbols (a0.symbols.length:Int) 0 ([]:List X0)) fun o10=>
 some o10
def Zj(a0:AA)(a1 a2:Int)(w0:List X0):Option (List X0):=
 AG (Rs a1 a2 a0.symbols (a0.symbols.length:Int) 0 w0) fun o10=>
 some o10
def XR(s0:Int)(s1:List X0)(s20:Bool)(w4 w6:X0):Option (X0):=
 AE (s20) (
  some (X0.mk w6.kind (AB .add .i64 w6.int 1) w6.str w6.bool)) (
  Ai (w6.str.length+([97]:List UInt8).length<=9223372036854775807) (
   some (X0.mk w6.kind w6.int (w6.str++([97]:List UInt8)) w6.bool)))
def Ry(s0:Int)(s1:List X0)(w4 w6:X0):Option (X0):=
 AG (XR s0 s1 (decide (s0=1)) w4 w6) fun o2=>
 some o2
def GV(s0:Int)(s1:List X0)(w4 w6:X0):Option ((X0)⊕(X0)):=
 AG (Q8 s1 w6) fun r1=>
 AE (r1) (
  AG (Ry s0 s1 w4 w6) fun o3=>
  some (.inl o3)) (
  some (.inr w6))
def OS(s0:Int)(s1:List X0)(w4 w6:X0):Option (X0):=AU (fun s:X0=>GV s0 s1 w4 s) w6
theorem M3(s0:Int)(s1:List X0)(w4 w6:X0):OS s0 s1 w4 w6=BP (GV s0 s1 w4 w6) (fun s:X0=>OS s0 s1 w4 s):=BG _ _
def Xv(a0:Int)(a1:List X0):Option (X0×Bool):=
 AE (!decide (a0=1)) (
  AE (!decide (a0=2)) (
   some (X0.mk 0 0 ([]:List UInt8) false,false)) (
   AG (OS a0 a1 (X0.mk 0 0 ([]:List UInt8) false) (X0.mk a0 0 ([]:List UInt8) false)) fun o4=>
   some (o4,true))) (
  AG (OS a0 a1 (X0.mk 0 0 ([]:List UInt8) false) (X0.mk a0 0 ([]:List UInt8) false)) fun o5=>
  some (o5,true))
def U6(l:List X0):Option (List X0):=FY 40 l
def RY(self:AA->AA->Int->(List X0)->X7->AA->AA->(MP X5 X3)->(List X5)->Option (MP X5 X3×List X5))(s2:Int)(s3:List X0)(s4_1:X7)(s4_2 s4_3:AA)(s10:Int)(s51:Bool)(w5 w6:AA)(w12:List X0)(w502:MP X5 X3)(w503:List X5)(w997_1:X7)(w997_2 w997_3:AA):Option ((List X0)):=
 AE (s51) (
  some ([X0.mk 3 0 ([]:List UInt8) false,X0.mk 3 0 ([]:List UInt8) true])) (
  some w12)
def RZ(self:AA->AA->Int->(List X0)->X7->AA->AA->(MP X5 X3)->(List X5)->Option (MP X5 X3×List X5))(s2:Int)(s3:List X0)(s4_1:X7)(s4_2 s4_3:AA)(s61:Bool)(w5 w6:AA)(w12:List X0)(w13:X0)(w502:MP X5 X3)(w503:List X5)(w997_1:X7)(w997_2 w997_3:AA):Option ((List X0)):=
 AE (s61) (
  Ai (fit w12.length [w13].length 40) (
   some (w12++[w13]))) (
  some w12)
def GS(self:AA->AA->Int->(List X0)->X7->AA->AA->(MP X5 X3)->(List X5)->Option (MP X5 X3×List X5))(s2:Int)(s3:List X0)(s4_1:X7)(s4_2 s4_3:AA)(s67:Int)(w5 w6:AA)(w66:List X0)(w997_1:X7)(w997_2 w997_3:AA)(s68:Int)(w502:MP X5 X3)(w503:List X5):Option ((Int×MP X5 X3×List X5)⊕((MP X5 X3×List X5))):=
 AE (decide (s68<s67)) (
  Ai (0<=s68/\s68+1<=(w66.length:Int)) (
   AW w66 s68 fun x10=>
   AG (U6 s3) fun r11=>
   Ai (fit r11.length [x10].length 40) (
    AG (self w5 w6 s2 (r11++[x10]) s4_1 s4_2 s4_3 w502 w503) fun r12=>
    some (.inl ((AB .add .i64 s68 1),r12.1,r12.2))))) (
  some (.inr (w502,w503)))
def W8(self:AA->AA->Int->(List X0)->X7->AA->AA->(MP X5 X3)->(List X5)->Option (MP X5 X3×List X5))(s2:Int)(s3:List X0)(s4_1:X7)(s4_2 s4_3:AA)(s67:Int)(w5 w6:AA)(w66:List X0)(w997_1:X7)(w997_2 w997_3:AA)(s68:Int)(w502:MP X5 X3)(w503:List X5):Option ((MP X5 X3×List X5)):=AU (fun s:Int×MP X5 X3×List X5=>GS self s2 s3 s4_1 s4_2 s4_3 s67 w5 w6 w66 w997_1 w997_2 w997_3 s.1 s.2.1 s.2.2) (s68,w502,w503)
def aIq(self:AA->AA->Int->(List X0)->X7->AA->AA->(MP X5 X3)->(List X5)->Option (MP X5 X3×List X5))(a0 a1:AA)(a2:Int)(a3:List X0)(a4_1:X7)(a4_2 a4_3:AA)(w2:MP X5 X3)(w3:List X5):Option (MP X5 X3×List X5):=
 AW a0.decls a2 fun x1=>
 AE (decide ((a3.length:Int)=(x1.types.length:Int))) (
  AG (Zv a3 a4_1 a4_2 a4_3 w2 w3) fun r2=>
  some (r2.1,r2.2)) (
  AW a0.decls a2 fun x3=>
  AW x3.types (a3.length:Int) fun x4=>
  AG (Xs a1 a2 (a3.length:Int)) fun r5=>
  AG (Zj a0 a2 (a3.length:Int) r5) fun r6=>
  AG (RY self a2 a3 a4_1 a4_2 a4_3 x4 (decide (x4=3)) a0 a1 r6 w2 w3 a4_1 a4_2 a4_3) fun o7=>
  AG (Xv x4 o7) fun r8=>
  AG (RZ self a2 a3 a4_1 a4_2 a4_3 r8.2 a0 a1 o7 r8.1 w2 w3 a4_1 a4_2 a4_3) fun o9=>
  AG (W8 self a2 a3 a4_1 a4_2 a4_3 (o9.length:Int) a0 a1 o9 a4_1 a4_2 a4_3 0 w2 w3) fun o13=>
  some (o13.1,o13.2))
def PG:Nat->AA->AA->Int->(List X0)->X7->AA->AA->(MP X5 X3)->(List X5)->Option (MP X5 X3×List X5)
 |0=>fun _ _ _ _ _ _ _ _ _=>none
 |n+1=>fun a0 a1 a2 a3 a4_1 a4_2 a4_3 w2 w3=>aIq (PG n) a0 a1 a2 a3 a4_1 a4_2 a4_3 w2 w3
def Xm(a0 a1:AA)(a2:Int)(a3:List X0)(a4_1:X7)(a4_2 a4_3:AA)(w2:MP X5 X3)(w3:List X5):Option (MP X5 X3×List X5):=PG 100000 a0 a1 a2 a3 a4_1 a4_2 a4_3 w2 w3
def E2(s2 s3:AA)(s10:List X7)(s11 s12:Int)(w508:MP X5 X3)(w750:List X5):Option ((Int×MP X5 X3×List X5)⊕((MP X5 X3×List X5))):=
 AE (decide (s12<s11)) (
  AW s10 s12 fun x1=>
  AG (Xm s2 s3 s12 ([]:List X0) x1 s2 s3 w508 w750) fun r2=>
  some (.inl ((AB .add .i64 s12 1),r2.1,r2.2))) (
  some (.inr (w508,w750)))
def SP(s2 s3:AA)(s10:List X7)(s11 s12:Int)(w508:MP X5 X3)(w750:List X5):Option ((MP X5 X3×List X5)):=AU (fun s:Int×MP X5 X3×List X5=>E2 s2 s3 s10 s11 s.1 s.2.1 s.2.2) (s12,w508,w750)
def Y6(a0 a1:AA):Option (List X5×MP X5 X3):=
 AG (SP a0 a1 a0.decls (a0.decls.length:Int) 0 (Ek:MP X5 X3) ([]:List X5)) fun o3=>
 some (o3.2,o3.1)
def Ew(s1:Int)(s8:List Xd)(s9 s10:Int):Option ((Int)⊕(Unit⊕Unit)):=
 AE (decide (s10<s9)) (
  AW s8 s10 fun x1=>
  AE (x1.accept) (
   Ai (0<=(IntKind.wrap .u64 s10)) (
    AE (!decide ((AB .and .u32 s1 (AB .shl .u32 1 (IntKind.wrap .u64 s10)))=0)) (
     some (.inr (.inr ()))) (
     some (.inl (AB .add .i64 s10 1))))) (
   some (.inl (AB .add .i64 s10 1)))) (
  some (.inr (.inl ())))
def R3(s1:Int)(s8:List Xd)(s9 s10:Int):Option (Unit⊕Unit):=AU (fun s:Int=>Ew s1 s8 s9 s) s10
def Xy(a0:AA)(a1:Int):Option (Bool):=
 AG (R3 a1 a0.states (a0.states.length:Int) 0) fun o2=>
 Ay o2 (fun o3=>
  some false) (fun o4=>
  some true)
def Ey(s2 s3:Int)(w0:List X3):Option ((Int×Int×List X3)⊕((List X3))):=
 AE (decide (s2<s3)) (
  Ai (0<=s3/\s3+1<=(w0.length:Int)) (
   AW w0 s3 fun x1=>
   Ai (0<=s2/\s2+1<=(w0.length:Int)) (
    AW w0 s2 fun x2=>
    Ai (0<=s2/\s2+1<=(w0.length:Int)) (
     Ai (0<=s2/\s2+1<=(w0.length:Int)) (
      Ai (0<=s3/\s3+1<=((w0.set s2.toNat x1).length:Int)) (
       Ai (0<=s3/\s3+1<=((w0.set s2.toNat x1).length:Int)) (
        some (.inl ((AB .add .i64 s2 1),(AB .sub .i64 s3 1),(w0.set s2.toNat x1).set s3.toNat x2))))))))) (
  some (.inr w0))
def SE(s2 s3:Int)(w0:List X3):Option ((List X3)):=AU (fun s:Int×Int×List X3=>Ey s.1 s.2.1 s.2.2) (s2,s3,w0)
def Y2(w0:List X3):Option (List X3):=
 AG (SE 0 (AB .sub .i64 (w0.length:Int) 1) w0) fun o3=>
 some o3
def Pp(s1 s2:Int)(s7 s8 s10:Int)(s14:List Xd)(s15 s16:Int)(s28:List Xe)(s29 s30:Int)(s46:Bool)(w3:AA)(w9:Xd)(w12:Xe):Option (Int):=
 AE (s46) (
  Ai (0<=(IntKind.wrap .u64 w12.to)) (
   some (AB .or .u32 s10 (AB .shl .u32 1 (IntKind.wrap .u64 w12.to))))) (
  some s10)
def WC(s1 s2:Int)(s7 s8 s10:Int)(s14:List Xd)(s15 s16:Int)(s28:List Xe)(s29 s30:Int)(w3:AA)(w9:Xd):Option (Int):=
 AW s28 s30 fun x2=>
 AE (decide (x2.from_=s8)) (
  Ai (0<=(IntKind.wrap .u64 x2.symbol)) (
   AG (Pp s1 s2 s7 s8 s10 s14 s15 s16 s28 s29 s30 (!decide ((AB .and .u64 s2 (AB .shl .u64 1 (IntKind.wrap .u64 x2.symbol)))=0)) w3 w9 x2) fun o3=>
   some o3)) (
  AG (Pp s1 s2 s7 s8 s10 s14 s15 s16 s28 s29 s30 false w3 w9 x2) fun o4=>
  some o4)
def Eu(s1 s2:Int)(s7 s8:Int)(s14:List Xd)(s15 s16:Int)(s28:List Xe)(s29:Int)(w3:AA)(w9:Xd)(s10 s30:Int):Option ((Int×Int)⊕(Int)):=
 AE (decide (s30<s29)) (
  AG (WC s1 s2 s7 s8 s10 s14 s15 s16 s28 s29 s30 w3 w9) fun o5=>
  some (.inl (o5,(AB .add .i64 s30 1)))) (
  some (.inr s10))
def OO(s1 s2:Int)(s7 s8:Int)(s14:List Xd)(s15 s16:Int)(s28:List Xe)(s29:Int)(w3:AA)(w9:Xd)(s10 s30:Int):Option (Int):=AU (fun s:Int×Int=>Eu s1 s2 s7 s8 s14 s15 s16 s28 s29 w3 w9 s.1 s.2) (s10,s30)
def Iz(s1 s2:Int)(s7 s8 s10:Int)(s14:List Xd)(s15 s16:Int)(s60:Bool)(w3:AA):Option (Int):=
 AE (s60) (
  Ai (0<=(IntKind.wrap .u64 s8)) (
   some (AB .shl .u32 1 (IntKind.wrap .u64 s8)))) (
  some s10)
def ON(s1 s2 s7:Int)(s14:List Xd)(s15 s16:Int)(w3:AA):Option (Int):=
 AW s14 s16 fun x1=>
 Ai (0<=(IntKind.wrap .u64 s16)) (
  AE (decide ((AB .and .u32 s1 (AB .shl .u32 1 (IntKind.wrap .u64 s16)))=0)) (
   some s7) (
   AG (OO s1 s2 s7 s16 s14 s15 s16 w3.trans (w3.trans.length:Int) w3 x1 0 0) fun o6=>
   AE (decide (o6=0)) (
    AG (Iz s1 s2 s7 s16 o6 s14 s15 s16 (!x1.next) w3) fun o7=>
    some (AB .or .u32 s7 o7)) (
    AG (Iz s1 s2 s7 s16 o6 s14 s15 s16 false w3) fun o8=>
    some (AB .or .u32 s7 o8))))
def DY(s1 s2:Int)(s14:List Xd)(s15:Int)(w3:AA)(s7 s16:Int):Option ((Int×Int)⊕(Int)):=
 AE (decide (s16<s15)) (
  AG (ON s1 s2 s7 s14 s15 s16 w3) fun o9=>
  some (.inl (o9,(AB .add .i64 s16 1)))) (
  some (.inr s7))
def Pq(s1 s2:Int)(s14:List Xd)(s15:Int)(w3:AA)(s7 s16:Int):Option (Int):=AU (fun s:Int×Int=>DY s1 s2 s14 s15 w3 s.1 s.2) (s7,s16)
def Xa(a0:AA)(a1 a2:Int):Option (Int):=
 AG (Pq a1 a2 a0.states (a0.states.length:Int) a0 0 0) fun o10=>
 some o10
def OT(s11:Bool)(w4 w5:AA)(w6:X6)(w7:X5)(w8:X6):Option (X6):=
 AE (s11) (
  AG (Xa w4 w6.p w7.p) fun r1=>
  some (X6.mk r1 w6.q)) (
  some w6)
def LV(s21:Bool)(w5:AA)(w6:X6)(w7:X5)(w8:X6):Option (X6):=
 AE (s21) (
  AG (Xa w5 w6.q w7.q) fun r3=>
  some (X6.mk w6.p r3)) (
  some w6)
def Xw(a0 a1:AA)(a2:X6)(a3:X5):Option (X6):=
 AG (OT (!decide (a3.p=0)) a0 a1 a2 a3 (X6.mk 0 0)) fun o2=>
 AG (LV (!decide (a3.q=0)) a1 o2 a3 (X6.mk 0 0)) fun o4=>
 some o4
def F5(w7:MP X5 X3)(w8:X6)(w10:MP X6 Xc)(w12:X6)(w13:List X3):Option ((X6×List X3)⊕((List X3))):=
 AE (!(X6.eqb w12 w8)) (
  Ai (fit w13.length ([(BC (X3.mk ([]:List UInt8) ([]:List X0)) w7 (((BC (Xc.mk (X6.mk 0 0) (X5.mk 0 0)) w10 w12).1).by_)).1]).length 40) (
   some (.inl (((BC (Xc.mk (X6.mk 0 0) (X5.mk 0 0)) w10 w12).1).from_,w13++([(BC (X3.mk ([]:List UInt8) ([]:List X0)) w7 (((BC (Xc.mk (X6.mk 0 0) (X5.mk 0 0)) w10 w12).1).by_)).1]))))) (
  some (.inr w13))
def KD(w7:MP X5 X3)(w8:X6)(w10:MP X6 Xc)(w12:X6)(w13:List X3):Option ((List X3)):=AU (fun s:X6×List X3=>F5 w7 w8 w10 s.1 s.2) (w12,w13)
theorem V7(w7:MP X5 X3)(w8:X6)(w10:MP X6 Xc)(w12:X6)(w13:List X3):KD w7 w8 w10 w12 w13=BP (F5 w7 w8 w10 w12 w13) (fun s:X6×List X3=>KD w7 w8 w10 s.1 s.2):=BG _ _
def Ph(s11 s83 s84:Int)(s100:Bool)(w2 w3:AA)(w6:List X5)(w7:MP X5 X3)(w8:X6)(w9:List X6)(w10:MP X6 Xc)(w12:X6)(w15:X5)(w16:X6):Option ((List X6×MP X6 Xc)):=
 AE (s100) (
  Ai (fit w9.length [w16].length 8) (
   some (w9++[w16],Cs w10 w16 (Xc.mk w12 w15)))) (
  some (w9,w10))
def OM(s11 s83 s84:Int)(w2 w3:AA)(w6:List X5)(w7:MP X5 X3)(w8:X6)(w9:List X6)(w10:MP X6 Xc)(w12:X6):Option ((List X6×MP X6 Xc)):=
 Ai (0<=s84/\s84+1<=(w6.length:Int)) (
  AW w6 s84 fun x8=>
  AG (Xw w2 w3 w12 x8) fun r9=>
  AG (Ph s11 s83 s84 (!((BC (Xc.mk (X6.mk 0 0) (X5.mk 0 0)) w10 r9).2)) w2 w3 w6 w7 w8 w9 w10 w12 x8 r9) fun o10=>
  some (o10.1,o10.2))
def EH(s11 s83:Int)(w2 w3:AA)(w6:List X5)(w7:MP X5 X3)(w8 w12:X6)(s84:Int)(w9:List X6)(w10:MP X6 Xc):Option ((Int×List X6×MP X6 Xc)⊕((List X6×MP X6 Xc))):=
 AE (decide (s84<s83)) (
  AG (OM s11 s83 s84 w2 w3 w6 w7 w8 w9 w10 w12) fun o11=>
  some (.inl ((AB .add .i64 s84 1),o11.1,o11.2))) (
  some (.inr (w9,w10)))
def LI(s11 s83:Int)(w2 w3:AA)(w6:List X5)(w7:MP X5 X3)(w8 w12:X6)(s84:Int)(w9:List X6)(w10:MP X6 Xc):Option ((List X6×MP X6 Xc)):=AU (fun s:Int×List X6×MP X6 Xc=>EH s11 s83 w2 w3 w6 w7 w8 w12 s.1 s.2.1 s.2.2) (s84,w9,w10)
def DX(w2 w3:AA)(w6:List X5)(w7:MP X5 X3)(w8:X6)(s11:Int)(w9:List X6)(w10:MP X6 Xc):Option ((Int×List X6×MP X6 Xc)⊕(Unit⊕(List X3))):=
 AE (decide (s11<(w9.length:Int))) (
  AW w9 s11 fun x3=>
  AG (Xy w2 x3.p) fun r4=>
  AG (Xy w3 x3.q) fun r5=>
  AE (!(r4==r5)) (
   AG (KD w7 w8 w10 x3 ([]:List X3)) fun o6=>
   AG (Y2 o6) fun r7=>
   some (.inr (.inr r7))) (
   AG (LI s11 (w6.length:Int) w2 w3 w6 w7 w8 x3 0 w9 w10) fun o12=>
   some (.inl ((AB .add .i64 s11 1),o12.1,o12.2)))) (
  some (.inr (.inl ())))
def Pi(w2 w3:AA)(w6:List X5)(w7:MP X5 X3)(w8:X6)(s11:Int)(w9:List X6)(w10:MP X6 Xc):Option (Unit⊕(List X3)):=AU (fun s:Int×List X6×MP X6 Xc=>DX w2 w3 w6 w7 w8 s.1 s.2.1 s.2.2) (s11,w9,w10)
def X9(a0 a1:AA):Option (List X3×Bool):=
 AG (Yu a0 a1) fun r1=>
 AE (!r1) (
  some (([]:List X3),false)) (
  AG (Y6 a0 a1) fun r2=>
  Ai (0<=(IntKind.wrap .u64 a0.start)) (
   Ai (0<=(IntKind.wrap .u64 a1.start)) (
    AG (Pi a0 a1 r2.1 r2.2 (X6.mk (AB .shl .u32 1 (IntKind.wrap .u64 a0.start)) (AB .shl .u32 1 (IntKind.wrap .u64 a1.start))) 0 [X6.mk (AB .shl .u32 1 (IntKind.wrap .u64 a0.start)) (AB .shl .u32 1 (IntKind.wrap .u64 a1.start))] (Cs (Ek:MP X6 Xc) (X6.mk (AB .shl .u32 1 (IntKind.wrap .u64 a0.start)) (AB .shl .u32 1 (IntKind.wrap .u64 a1.start))) (Xc.mk (X6.mk 0 0) (X5.mk 0 0)))) fun o13=>
    Ay o13 (fun o14=>
     some (([]:List X3),false)) (fun o15=>
     some (o15,true)))))
def Zp(a0 a1:AA):Option (Bool×Int):=
 AG (Yu a0 a1) fun r1=>
 AE (!r1) (
  some (false,1)) (
  AG (X9 a0 a1) fun r2=>
  some (!r2.2,0))
def Yj:Option (Bool):=
 AG (X9 (AA.mk ([112]:List UInt8) ([]:List X7) ([]:List Xq) ([]:List Xt) ([Xd.mk ([115]:List UInt8) false false]) 0 ([]:List X8) ([]:List Y7) ([]:List Xe)) (AA.mk ([113]:List UInt8) ([]:List X7) ([]:List Xq) ([]:List Xt) ([Xd.mk ([115]:List UInt8) false true]) 0 ([]:List X8) ([]:List Y7) ([]:List Xe))) fun r1=>
 AG (Zp (AA.mk ([112]:List UInt8) ([]:List X7) ([]:List Xq) ([]:List Xt) ([Xd.mk ([115]:List UInt8) false false]) 0 ([]:List X8) ([]:List Y7) ([]:List Xe)) (AA.mk ([112]:List UInt8) ([]:List X7) ([]:List Xq) ([]:List Xt) ([Xd.mk ([115]:List UInt8) false false]) 0 ([]:List X8) ([]:List Y7) ([]:List Xe))) fun r2=>
 AE (r1.2) (
  AE (decide ((r1.1.length:Int)=0)) (
   AE (r2.1) (
    AE (decide (r2.2=0)) (
     AG (Yu (AA.mk ([112]:List UInt8) ([]:List X7) ([]:List Xq) ([]:List Xt) ([Xd.mk ([115]:List UInt8) false false]) 0 ([]:List X8) ([]:List Y7) ([]:List Xe)) (AA.mk ([113]:List UInt8) ([]:List X7) ([]:List Xq) ([]:List Xt) ([Xd.mk ([115]:List UInt8) false true]) 0 ([]:List X8) ([]:List Y7) ([]:List Xe))) fun r3=>
     some r3) (
     some false)) (
    some false)) (
   some false)) (
  some false)
def Db(w1:AA)(s3:Int):Option ((Int)⊕(Unit⊕Unit)):=
 AE (decide (s3<(w1.trans.length:Int))) (
  AW w1.trans s3 fun x1=>
  AE (!decide (x1.guard=(-1))) (
   some (.inr (.inr ()))) (
   some (.inl (AB .add .i64 s3 1)))) (
  some (.inr (.inl ())))
def Sf(w1:AA)(s3:Int):Option (Unit⊕Unit):=AU (fun s:Int=>Db w1 s) s3
def Yf(a0:AA):Option (Bool):=
 AE (decide (0<(a0.frees.length:Int))) (
  some false) (
  AE (decide (1<(a0.quants.length:Int))) (
   some false) (
   AE (decide (8<(a0.states.length:Int))) (
    some false) (
    AE (decide (8<(a0.symbols.length:Int))) (
     some false) (
     AG (Sf a0 0) fun o2=>
     Ay o2 (fun o3=>
      some true) (fun o4=>
      some false)))))
def GZ(s5:Int)(w2 w3:AA)(s6:Int):Option ((Int)⊕(Unit⊕Unit)):=
 AW w2.decls s5 fun x7=>
 AE (decide (s6<(x7.types.length:Int))) (
  AW w2.decls s5 fun x8=>
  AW x8.types s6 fun x9=>
  AW w3.decls s5 fun x10=>
  AW x10.types s6 fun x11=>
  AE (!decide (x9=x11)) (
   some (.inr (.inr ()))) (
   some (.inl (AB .add .i64 s6 1)))) (
  some (.inr (.inl ())))
def YN(s5:Int)(w2 w3:AA)(s6:Int):Option (Unit⊕Unit):=AU (fun s:Int=>GZ s5 w2 w3 s) s6
def GY(w2 w3:AA)(s5:Int):Option ((Int)⊕(Unit⊕Unit)):=
 AE (decide (s5<(w2.decls.length:Int))) (
  AW w2.decls s5 fun x3=>
  AW w3.decls s5 fun x4=>
  AE (!decide (x3.name=x4.name)) (
   some (.inr (.inr ()))) (
   AW w2.decls s5 fun x5=>
   AW w3.decls s5 fun x6=>
   AE (!decide ((x5.types.length:Int)=(x6.types.length:Int))) (
    some (.inr (.inr ()))) (
    AG (YN s5 w2 w3 0) fun o12=>
    Ay o12 (fun o13=>
     some (.inl (AB .add .i64 s5 1))) (fun o14=>
     some (.inr (.inr ())))))) (
  some (.inr (.inl ())))
def YL(w2 w3:AA)(s5:Int):Option (Unit⊕Unit):=AU (fun s:Int=>GY w2 w3 s) s5
def Y1(a0 a1:AA):Option (Bool):=
 AG (Yf a0) fun r1=>
 AE (!r1) (
  some false) (
  AG (Yf a1) fun r2=>
  AE (!r2) (
   some false) (
   AE (decide (0<(a0.quants.length:Int))) (
    some false) (
    AE (decide (0<(a1.quants.length:Int))) (
     some false) (
     AE (!decide ((a0.decls.length:Int)=(a1.decls.length:Int))) (
      some false) (
      AG (YL a0 a1 0) fun o15=>
      Ay o15 (fun o16=>
       some true) (fun o17=>
       some false))))))
def Gi(s0:List X0)(w3:X0)(s5:Int):Option ((Int)⊕(Int)):=
 AE (decide (0<s5)) (
  AW s0 (AB .sub .i64 s5 1) fun x1=>
  AG (Zl w3 x1) fun r2=>
  AE (r2) (
   some (.inl (AB .sub .i64 s5 1))) (
   some (.inr s5))) (
  some (.inr s5))
def aFq(s0:List X0)(w3:X0)(s5:Int):Option (Int):=AU (fun s:Int=>Gi s0 w3 s) s5
def Ym(a0:List X0)(a1:X0):Option (List X0):=
 AG (aFq a0 a1 (a0.length:Int)) fun o3=>
 AE (decide (0<o3)) (
  AW a0 (AB .sub .i64 o3 1) fun x4=>
  AE ((X0.eqb x4 a1)) (
   some a0) (
   Ai ((0:Int)<=0/\(0:Int)<=o3/\o3<=(a0.length:Int)) (
    Ai (fit ([]:List X0).length (sub a0 0 o3).length 40) (
     Ai (fit (([]:List X0)++(sub a0 0 o3)).length [a1].length 40) (
      Ai ((0:Int)<=o3/\(o3:Int)<=(a0.length:Int)/\(a0.length:Int)<=(a0.length:Int)) (
       Ai (fit ((([]:List X0)++(sub a0 0 o3))++[a1]).length (sub a0 o3 (a0.length:Int)).length 40) (
        some (((([]:List X0)++(sub a0 0 o3))++[a1])++(sub a0 o3 (a0.length:Int)))))))))) (
  Ai ((0:Int)<=0/\(0:Int)<=o3/\o3<=(a0.length:Int)) (
   Ai (fit ([]:List X0).length (sub a0 0 o3).length 40) (
    Ai (fit (([]:List X0)++(sub a0 0 o3)).length [a1].length 40) (
     Ai ((0:Int)<=o3/\(o3:Int)<=(a0.length:Int)/\(a0.length:Int)<=(a0.length:Int)) (
      Ai (fit ((([]:List X0)++(sub a0 0 o3))++[a1]).length (sub a0 o3 (a0.length:Int)).length 40) (
       some (((([]:List X0)++(sub a0 0 o3))++[a1])++(sub a0 o3 (a0.length:Int)))))))))
def aFm(s1:Int)(s10:Bool)(w2:AA):Option ((List X0)):=
 AE (s10) (
  some ([X0.mk 3 0 ([]:List UInt8) false,X0.mk 3 0 ([]:List UInt8) true])) (
  some ([]:List X0))
def aFn(s1:Int)(s5:List X0)(s6 s7:Int)(s50:Bool)(w2:AA)(w8:BQ):Option ((List X0)):=
 AE (s50) (
  AG (Ym s5 w8.value) fun r12=>
  some r12) (
  some s5)
def aJe(s1:Int)(s5:List X0)(s6 s7:Int)(w2:AA):Option ((List X0)):=
 AW w2.symbols s6 fun x10=>
 AW x10.args s7 fun x11=>
 AE (decide (x11.kind=1)) (
  AG (aFn s1 s5 s6 s7 (decide (x11.value.kind=s1)) w2 x11) fun o13=>
  some o13) (
  AG (aFn s1 s5 s6 s7 false w2 x11) fun o14=>
  some o14)
def JB(s1 s6:Int)(w2:AA)(s5:List X0)(s7:Int):Option ((List X0×Int)⊕((List X0))):=
 AW w2.symbols s6 fun x17=>
 AE (decide (s7<(x17.args.length:Int))) (
  AG (aJe s1 s5 s6 s7 w2) fun o18=>
  some (.inl (o18,(AB .add .i64 s7 1)))) (
  some (.inr s5))
def aFo(s1 s6:Int)(w2:AA)(s5:List X0)(s7:Int):Option ((List X0)):=AU (fun s:List X0×Int=>JB s1 s6 w2 s.1 s.2) (s5,s7)
def JA(s1:Int)(w2:AA)(s5:List X0)(s6:Int):Option ((List X0×Int)⊕((List X0))):=
 AE (decide (s6<(w2.symbols.length:Int))) (
  AG (aFo s1 s6 w2 s5 0) fun o19=>
  some (.inl (o19,(AB .add .i64 s6 1)))) (
  some (.inr s5))
def aJg(s1:Int)(w2:AA)(s5:List X0)(s6:Int):Option ((List X0)):=AU (fun s:List X0×Int=>JA s1 w2 s.1 s.2) (s5,s6)
def Yk(a0:AA)(a1:Int):Option (List X0):=
 AG (aFm a1 (decide (a1=3)) a0) fun o1=>
 AG (aJg a1 a0 o1 0) fun o20=>
 some o20
def It(s1 s5:List X0)(s6:Int):Option ((List X0×Int)⊕((List X0))):=
 AE (decide (s6<(s1.length:Int))) (
  AW s1 s6 fun x1=>
  AG (Ym s5 x1) fun r2=>
  some (.inl (r2,(AB .add .i64 s6 1)))) (
  some (.inr s5))
def aH6(s1 s5:List X0)(s6:Int):Option ((List X0)):=AU (fun s:List X0×Int=>It s1 s.1 s.2) (s5,s6)
def Q9(a0 a1:List X0):Option (List X0):=
 AG (aH6 a1 a0 0) fun o3=>
 some o3
def U8(a0:List X0)(a1:X0):Option (Bool):=
 AG (Ym a0 a1) fun r1=>
 some (decide ((r1.length:Int)=(a0.length:Int)))
def aJv(s0:Int)(s1:List X0)(s12:Bool)(w4 w5:X0):Option (X0):=
 AE (s12) (
  some (X0.mk w5.kind (AB .add .i64 w5.int 1) w5.str w5.bool)) (
  Ai (w5.str.length+([97]:List UInt8).length<=9223372036854775807) (
   some (X0.mk w5.kind w5.int (w5.str++([97]:List UInt8)) w5.bool)))
def aGc(s0:Int)(s1:List X0)(w4 w5:X0):Option (X0):=
 AG (aJv s0 s1 (decide (s0=1)) w4 w5) fun o2=>
 some o2
def JK(s0:Int)(s1:List X0)(w4 w5:X0):Option ((X0)⊕(X0)):=
 AG (U8 s1 w5) fun r1=>
 AE (r1) (
  AG (aGc s0 s1 w4 w5) fun o3=>
  some (.inl o3)) (
  some (.inr w5))
def aA4(s0:Int)(s1:List X0)(w4 w5:X0):Option (X0):=AU (fun s:X0=>JK s0 s1 w4 s) w5
theorem NI(s0:Int)(s1:List X0)(w4 w5:X0):aA4 s0 s1 w4 w5=BP (JK s0 s1 w4 w5) (fun s:X0=>aA4 s0 s1 w4 s):=BG _ _
def Zf(a0:Int)(a1:List X0):Option (X0):=
 AG (aA4 a0 a1 (X0.mk 0 0 ([]:List UInt8) false) (X0.mk a0 0 ([]:List UInt8) false)) fun o4=>
 some o4
def aIe(s2:Int)(s7:List X0)(s16:Bool):Option ((List X0)):=
 AE (s16) (
  AG (Zf s2 s7) fun r4=>
  AG (Ym s7 r4) fun r5=>
  some r5) (
  some s7)
def U4(a0 a1:AA)(a2:Int):Option (List X0):=
 AG (Yk a0 a2) fun r1=>
 AG (Yk a1 a2) fun r2=>
 AG (Q9 r1 r2) fun r3=>
 AG (aIe a2 r3 (!decide (a2=3))) fun o6=>
 some o6
def JN(self:AA->AA->Int->(List X0)->Option (List X3))(s2:Int)(s3 s10:List X0)(w4 w5:AA)(s11:Int)(w9:List X3):Option ((Int×List X3)⊕((List X3))):=
 AE (decide (s11<(s10.length:Int))) (
  Ai (fit ([]:List X0).length s3.length 40) (
   AW s10 s11 fun x8=>
   Ai (fit (([]:List X0)++s3).length [x8].length 40) (
    AG (self w4 w5 s2 ((([]:List X0)++s3)++[x8])) fun r9=>
    Ai (fit w9.length r9.length 40) (
     some (.inl ((AB .add .i64 s11 1),w9++r9)))))) (
  some (.inr w9))
def aJw(self:AA->AA->Int->(List X0)->Option (List X3))(s2:Int)(s3 s10:List X0)(w4 w5:AA)(s11:Int)(w9:List X3):Option ((List X3)):=AU (fun s:Int×List X3=>JN self s2 s3 s10 w4 w5 s.1 s.2) (s11,w9)
def aOj(self:AA->AA->Int->(List X0)->Option (List X3))(a0 a1:AA)(a2:Int)(a3:List X0):Option (List X3):=
 AW a0.decls a2 fun x1=>
 AE (decide ((a3.length:Int)=(x1.types.length:Int))) (
  AW a0.decls a2 fun x2=>
  some [X3.mk x2.name a3]) (
  AW a0.decls a2 fun x3=>
  AW x3.types (a3.length:Int) fun x4=>
  AG (U4 a0 a1 x4) fun r5=>
  AG (aJw self a2 a3 r5 a0 a1 0 ([]:List X3)) fun o10=>
  some o10)
def aHm:Nat->AA->AA->Int->(List X0)->Option (List X3)
 |0=>fun _ _ _ _=>none
 |n+1=>fun a0 a1 a2 a3=>aOj (aHm n) a0 a1 a2 a3
def Zk(a0 a1:AA)(a2:Int)(a3:List X0):Option (List X3):=aHm 100000 a0 a1 a2 a3
def JP(s1:Int)(w2:AA)(s5:Int):Option ((Int)⊕(Unit⊕Unit)):=
 AE (decide (s5<(w2.states.length:Int))) (
  Ai (0<=(IntKind.wrap .u64 s5)) (
   AE (decide ((AB .rem .u32 (AB .shr .u32 s1 (IntKind.wrap .u64 s5)) 2)=1)) (
    AW w2.states s5 fun x1=>
    AE (x1.accept) (
     some (.inr (.inr ()))) (
     some (.inl (AB .add .i64 s5 1)))) (
    some (.inl (AB .add .i64 s5 1))))) (
  some (.inr (.inl ())))
def aJ8(s1:Int)(w2:AA)(s5:Int):Option (Unit⊕Unit):=AU (fun s:Int=>JP s1 w2 s) s5
def Zz(a0:AA)(a1:Int):Option (Bool):=
 AG (aJ8 a1 a0 0) fun o2=>
 Ay o2 (fun o3=>
  some false) (fun o4=>
  some true)
def JD(s0:List X7)(s5:Int)(w3:X3)(s6:Int):Option ((Int)⊕(Unit⊕Unit)):=
 AE (decide (s6<(w3.args.length:Int))) (
  AW w3.args s6 fun x3=>
  AW s0 s5 fun x4=>
  AW x4.types s6 fun x5=>
  AE (!decide (x3.kind=x5)) (
   some (.inr (.inr ()))) (
   AW w3.args s6 fun x6=>
   AG (Zd x6) fun r7=>
   AE (!r7) (
    some (.inr (.inr ()))) (
    some (.inl (AB .add .i64 s6 1))))) (
  some (.inr (.inl ())))
def aFs(s0:List X7)(s5:Int)(w3:X3)(s6:Int):Option (Unit⊕Unit):=AU (fun s:Int=>JD s0 s5 w3 s) s6
def Yp(a0:List X7)(a1:X3):Option (Bool):=
 AG (Ys a0 a1.name) fun r1=>
 AE (decide (r1<0)) (
  some false) (
  AW a0 r1 fun x2=>
  AE (!decide ((x2.types.length:Int)=(a1.args.length:Int))) (
   some false) (
   AG (aFs a0 r1 a1 0) fun o8=>
   Ay o8 (fun o9=>
    some true) (fun o10=>
    some false)))
def I5(s0:List X2)(s1:Int)(w4:X0)(s6:Int):Option ((Int)⊕(Unit⊕X0)):=
 AE (decide (s6<(s0.length:Int))) (
  AW s0 s6 fun x1=>
  AE (decide (x1.var=s1)) (
   AW s0 s6 fun x2=>
   some (.inr (.inr x2.value))) (
   some (.inl (AB .add .i64 s6 1)))) (
  some (.inr (.inl ())))
def aFf(s0:List X2)(s1:Int)(w4:X0)(s6:Int):Option (Unit⊕X0):=AU (fun s:Int=>I5 s0 s1 w4 s) s6
def Y9(a0:List X2)(a1:Int):Option (X0×Bool):=
 AG (aFf a0 a1 (X0.mk 0 0 ([]:List UInt8) false) 0) fun o3=>
 Ay o3 (fun o4=>
  some (X0.mk 0 0 ([]:List UInt8) false,false)) (fun o5=>
  some (o5,true))
def JG(s0 s1:List X2)(s5:Int):Option ((Int)⊕(Unit⊕Unit)):=
 AE (decide (s5<(s0.length:Int))) (
  AW s0 s5 fun x1=>
  AG (Y9 s1 x1.var) fun r2=>
  AE (r2.2) (
   AW s0 s5 fun x3=>
   AE (!(X0.eqb r2.1 x3.value)) (
    some (.inr (.inr ()))) (
    some (.inl (AB .add .i64 s5 1)))) (
   some (.inl (AB .add .i64 s5 1)))) (
  some (.inr (.inl ())))
def aF3(s0 s1:List X2)(s5:Int):Option (Unit⊕Unit):=AU (fun s:Int=>JG s0 s1 s) s5
def Z4(a0 a1:List X2):Option (Bool):=
 AG (aF3 a0 a1 0) fun o4=>
 Ay o4 (fun o5=>
  some true) (fun o6=>
  some false)
def YG(s0 s1:List X2)(s6:Int)(s34:Bool)(w5:List X2)(w9:X0):Option ((List X2)):=
 AE (s34) (
  Ai (fit w5.length [X2.mk s6 w9].length 48) (
   some (w5++[X2.mk s6 w9]))) (
  some w5)
def YE(s0 s1:List X2)(s6:Int)(s10 s27:Bool)(w5:List X2)(w7 w9:X0):Option ((List X2)):=
 AE (s27) (
  Ai (fit w5.length [X2.mk s6 w7].length 48) (
   some (w5++[X2.mk s6 w7]))) (
  AG (YG s0 s1 s6 s10 w5 w9) fun o8=>
  some o8)
def YC(s0 s1:List X2)(s6:Int)(w5:List X2):Option ((List X2)):=
 AG (Y9 s0 s6) fun r6=>
 AG (Y9 s1 s6) fun r7=>
 AG (YE s0 s1 s6 r7.2 r6.2 w5 r6.1 r7.1) fun o9=>
 some o9
def GX(s0 s1:List X2)(s6:Int)(w5:List X2):Option ((Int×List X2)⊕((List X2))):=
 AE (decide (s6<8)) (
  AG (YC s0 s1 s6 w5) fun o10=>
  some (.inl ((AB .add .i64 s6 1),o10))) (
  some (.inr w5))
def aE9(s0 s1:List X2)(s6:Int)(w5:List X2):Option ((List X2)):=AU (fun s:Int×List X2=>GX s0 s1 s.1 s.2) (s6,w5)
def Xz(a0 a1:List X2):Option (List X2):=
 AG (aE9 a0 a1 0 ([]:List X2)) fun o11=>
 some o11
def Gs(s0:List X2)(w3:X2)(s5:Int):Option ((Int)⊕(Int)):=
 AE (decide (0<s5)) (
  AW s0 (AB .sub .i64 s5 1) fun x1=>
  AE (decide (w3.var<x1.var)) (
   some (.inl (AB .sub .i64 s5 1))) (
   some (.inr s5))) (
  some (.inr s5))
def aF1(s0:List X2)(w3:X2)(s5:Int):Option (Int):=AU (fun s:Int=>Gs s0 w3 s) s5
def Z0(a0:List X2)(a1:X2):Option (List X2):=
 AG (aF1 a0 a1 (a0.length:Int)) fun o2=>
 Ai ((0:Int)<=0/\(0:Int)<=o2/\o2<=(a0.length:Int)) (
  Ai (fit ([]:List X2).length (sub a0 0 o2).length 48) (
   Ai (fit (([]:List X2)++(sub a0 0 o2)).length [a1].length 48) (
    Ai ((0:Int)<=o2/\(o2:Int)<=(a0.length:Int)/\(a0.length:Int)<=(a0.length:Int)) (
     Ai (fit ((([]:List X2)++(sub a0 0 o2))++[a1]).length (sub a0 o2 (a0.length:Int)).length 48) (
      some (((([]:List X2)++(sub a0 0 o2))++[a1])++(sub a0 o2 (a0.length:Int))))))))
def RO(s1:Int)(s10 s11:List X2)(s12:Int)(s80:Bool)(w5:X3)(w6:Int)(w8:X8)(w9:AL)(w13:BQ)(w14:List X2):Option ((List X2)⊕Unit):=
 AE (s80) (
  AG (Z4 s10 w14) fun r32=>
  AE (!r32) (
   some (.inr ())) (
   AG (Xz s10 w14) fun r33=>
   some (.inl r33))) (
  some (.inl s10))
def RQ(s1:Int)(s10 s11:List X2)(s12:Int)(s111:Bool)(w5:X3)(w6:Int)(w8:X8)(w9:AL)(w14:List X2):Option ((List X2)):=
 AE (s111) (
  AW w14 0 fun x39=>
  AG (Z0 s11 x39) fun r40=>
  some r40) (
  some s11)
def RP(s1:Int)(s10 s11:List X2)(s12:Int)(s91:Bool)(w5:X3)(w6:Int)(w8:X8)(w9:AL)(w13:BQ)(w14:List X2):Option ((List X2)⊕Unit):=
 AE (s91) (
  AG (Y9 s11 w13.n) fun r37=>
  AE (r37.2) (
   AW w5.args s12 fun x38=>
   AE (!(X0.eqb r37.1 x38)) (
    some (.inr ())) (
    AG (RQ s1 s10 s11 s12 (!r37.2) w5 w6 w8 w9 w14) fun o41=>
    some (.inl o41))) (
   AG (RQ s1 s10 s11 s12 (!r37.2) w5 w6 w8 w9 w14) fun o42=>
   some (.inl o42))) (
  some (.inl s11))
def Ww(s1:Int)(s10 s11:List X2)(s12:Int)(w5:X3)(w6:Int)(w8:X8)(w9:AL):Option ((List X2×List X2)⊕Unit):=
 AW w8.args s12 fun x29=>
 AW w5.args s12 fun x30=>
 AE (decide (x29.kind=1)) (
  AW w5.args s12 fun x31=>
  AE (!(X0.eqb x29.value x31)) (
   some (.inr ())) (
   AG (RO s1 s10 s11 s12 (decide (x29.kind=2)) w5 w6 w8 w9 x29 [X2.mk x29.n x30]) fun o34=>
   Ay o34 (fun o35=>
    AG (RP s1 o35 s11 s12 (decide (x29.kind=3)) w5 w6 w8 w9 x29 [X2.mk x29.n x30]) fun o43=>
    Ay o43 (fun o44=>
     some (.inl (o35,o44))) (fun o45=>
     some (.inr ()))) (fun o36=>
    some (.inr ())))) (
  AG (RO s1 s10 s11 s12 (decide (x29.kind=2)) w5 w6 w8 w9 x29 [X2.mk x29.n x30]) fun o46=>
  Ay o46 (fun o47=>
   AG (RP s1 o47 s11 s12 (decide (x29.kind=3)) w5 w6 w8 w9 x29 [X2.mk x29.n x30]) fun o49=>
   Ay o49 (fun o50=>
    some (.inl (o47,o50))) (fun o51=>
    some (.inr ()))) (fun o48=>
   some (.inr ())))
def GQ(s1:Int)(w5:X3)(w6:Int)(w8:X8)(w9:AL)(s10 s11:List X2)(s12:Int):Option ((List X2×List X2×Int)⊕((List X2×List X2)⊕Unit)):=
 AE (decide (s12<(w8.args.length:Int))) (
  AG (Ww s1 s10 s11 s12 w5 w6 w8 w9) fun o52=>
  Ay o52 (fun o53=>
   some (.inl (o53.1,o53.2,(AB .add .i64 s12 1)))) (fun o54=>
   some (.inr (.inr ())))) (
  some (.inr (.inl (s10,s11))))
def OP(s1:Int)(w5:X3)(w6:Int)(w8:X8)(w9:AL)(s10 s11:List X2)(s12:Int):Option ((List X2×List X2)⊕Unit):=AU (fun s:List X2×List X2×Int=>GQ s1 w5 w6 w8 w9 s.1 s.2.1 s.2.2) (s10,s11,s12)
theorem M0(s1:Int)(w5:X3)(w6:Int)(w8:X8)(w9:AL)(s10 s11:List X2)(s12:Int):OP s1 w5 w6 w8 w9 s10 s11 s12=BP (GQ s1 w5 w6 w8 w9 s10 s11 s12) (fun s:List X2×List X2×Int=>OP s1 w5 w6 w8 w9 s.1 s.2.1 s.2.2):=BG _ _
def Xk(a0:AA)(a1:Int)(a2:X3):Option (AL×Bool):=
 AW a0.symbols a1 fun x1=>
 AW a0.decls x1.event fun x2=>
 AE (!decide (x2.name=a2.name)) (
  some (AL.mk 0 ([]:List X2) ([]:List X2),false)) (
  AE (!decide ((x1.args.length:Int)=(a2.args.length:Int))) (
   some (AL.mk 0 ([]:List X2) ([]:List X2),false)) (
   AG (OP a1 a2 0 x1 (AL.mk 0 ([]:List X2) ([]:List X2)) ([]:List X2) ([]:List X2) 0) fun o55=>
   Ay o55 (fun o56=>
    some (AL.mk a1 o56.1 o56.2,true)) (fun o57=>
    some ((AL.mk 0 ([]:List X2) ([]:List X2)),false))))
def XX(s6:Int)(s23:Bool)(w2:AA)(w3:X3)(w5:List AL)(w7:AL):Option ((List AL)):=
 AE (s23) (
  Ai (fit w5.length [w7].length 56) (
   some (w5++[w7]))) (
  some w5)
def XV(s6:Int)(w2:AA)(w3:X3)(w5:List AL):Option ((List AL)):=
 AG (Xk w2 s6 w3) fun r4=>
 AG (XX s6 r4.2 w2 w3 w5 r4.1) fun o5=>
 some o5
def GW(w2:AA)(w3:X3)(s6:Int)(w5:List AL):Option ((Int×List AL)⊕((List AL))):=
 AE (decide (s6<(w2.symbols.length:Int))) (
  AG (XV s6 w2 w3 w5) fun o6=>
  some (.inl ((AB .add .i64 s6 1),o6))) (
  some (.inr w5))
def aE8(w2:AA)(w3:X3)(s6:Int)(w5:List AL):Option ((List AL)):=AU (fun s:Int×List AL=>GW w2 w3 s.1 s.2) (s6,w5)
def Xx(a0:AA)(a1:X3):Option (List AL):=
 AG (aE8 a0 a1 0 ([]:List AL)) fun o7=>
 some o7
def JH(s0 s1:List X2)(s5:Int):Option ((Int)⊕(Unit⊕Unit)):=
 AE (decide (s5<(s0.length:Int))) (
  AW s0 s5 fun x1=>
  AG (Y9 s1 x1.var) fun r2=>
  AE (!r2.2) (
   some (.inr (.inr ()))) (
   AW s0 s5 fun x3=>
   AE (!(X0.eqb r2.1 x3.value)) (
    some (.inr (.inr ()))) (
    some (.inl (AB .add .i64 s5 1))))) (
  some (.inr (.inl ())))
def aF4(s0 s1:List X2)(s5:Int):Option (Unit⊕Unit):=AU (fun s:Int=>JH s0 s1 s) s5
def Z5(a0 a1:List X2):Option (Bool):=
 AG (aF4 a0 a1 0) fun o4=>
 Ay o4 (fun o5=>
  some true) (fun o6=>
  some false)
def YS(s0:List AL)(s1:List X2)(s6:Int)(s19:Bool)(w5:List AL):Option ((List AL)):=
 AE (s19) (
  AW s0 s6 fun x8=>
  Ai (fit w5.length [x8].length 56) (
   some (w5++[x8]))) (
  some w5)
def YQ(s0:List AL)(s1:List X2)(s6:Int)(w5:List AL):Option ((List AL)):=
 AW s0 s6 fun x6=>
 AG (Z5 x6.bind s1) fun r7=>
 AG (YS s0 s1 s6 r7 w5) fun o9=>
 some o9
def I4(s0:List AL)(s1:List X2)(s6:Int)(w5:List AL):Option ((Int×List AL)⊕((List AL))):=
 AE (decide (s6<(s0.length:Int))) (
  AG (YQ s0 s1 s6 w5) fun o10=>
  some (.inl ((AB .add .i64 s6 1),o10))) (
  some (.inr w5))
def aFb(s0:List AL)(s1:List X2)(s6:Int)(w5:List AL):Option ((List AL)):=AU (fun s:Int×List AL=>I4 s0 s1 s.1 s.2) (s6,w5)
def Y3(a0:List AL)(a1:List X2):Option (List AL):=
 AG (aFb a0 a1 0 ([]:List AL)) fun o11=>
 some o11
def JO(s0:List AL)(s3 s4:Int):Option ((Int×Int)⊕(Int)):=
 AE (decide (s4<(s0.length:Int))) (
  AW s0 s4 fun x1=>
  Ai (0<=(IntKind.wrap .u64 x1.symbol)) (
   some (.inl ((AB .add .u64 s3 (AB .shl .u64 1 (IntKind.wrap .u64 x1.symbol))),(AB .add .i64 s4 1))))) (
  some (.inr s3))
def aJ6(s0:List AL)(s3 s4:Int):Option (Int):=AU (fun s:Int×Int=>JO s0 s.1 s.2) (s3,s4)
def Zw(a0:List AL):Option (Int):=
 AG (aJ6 a0 0 0) fun o2=>
 some o2
def U9(a0:AA)(a1:List X2)(a2:X3):Option (Int):=
 AG (Yp a0.decls a2) fun r1=>
 AE (!r1) (
  some 0) (
  AG (Xx a0 a2) fun r2=>
  AG (Y3 r2 a1) fun r3=>
  AG (Zw r3) fun r4=>
  some r4)
def aFh(s1 s2:Int)(s7 s8:Int)(s9 s10:Int)(s49:Bool)(w3:AA)(w11:Xe):Option (Int):=
 AE (s49) (
  Ai (0<=(IntKind.wrap .u64 w11.to)) (
   some (AB .or .u32 s9 (AB .shl .u32 1 (IntKind.wrap .u64 w11.to))))) (
  some s9)
def aI2(s1 s2:Int)(s7 s8:Int)(s9 s10:Int)(w3:AA):Option (Int):=
 AW w3.trans s10 fun x1=>
 AE (decide (x1.from_=s8)) (
  Ai (0<=(IntKind.wrap .u64 x1.symbol)) (
   AG (aFh s1 s2 s7 s8 s9 s10 (decide ((AB .rem .u64 (AB .shr .u64 s2 (IntKind.wrap .u64 x1.symbol)) 2)=1)) w3 x1) fun o2=>
   some o2)) (
  AG (aFh s1 s2 s7 s8 s9 s10 false w3 x1) fun o3=>
  some o3)
def I6(s1 s2:Int)(s7 s8:Int)(w3:AA)(s9 s10:Int):Option ((Int×Int)⊕(Int)):=
 AE (decide (s10<(w3.trans.length:Int))) (
  AG (aI2 s1 s2 s7 s8 s9 s10 w3) fun o4=>
  some (.inl (o4,(AB .add .i64 s10 1)))) (
  some (.inr s9))
def aFi(s1 s2:Int)(s7 s8:Int)(w3:AA)(s9 s10:Int):Option (Int):=AU (fun s:Int×Int=>I6 s1 s2 s7 s8 w3 s.1 s.2) (s9,s10)
def Sa(s1 s2:Int)(s7 s8 s9:Int)(s66:Bool)(w3:AA):Option (Int):=
 AE (s66) (
  Ai (0<=(IntKind.wrap .u64 s8)) (
   some (AB .shl .u32 1 (IntKind.wrap .u64 s8)))) (
  some s9)
def aI1(s1 s2:Int)(s7 s8:Int)(w3:AA):Option (Int):=
 Ai (0<=(IntKind.wrap .u64 s8)) (
  AE (decide ((AB .rem .u32 (AB .shr .u32 s1 (IntKind.wrap .u64 s8)) 2)=0)) (
   some s7) (
   AG (aFi s1 s2 s7 s8 w3 0 0) fun o5=>
   AE (decide (o5=0)) (
    AW w3.states s8 fun x6=>
    AG (Sa s1 s2 s7 s8 o5 (!x6.next) w3) fun o7=>
    some (AB .or .u32 s7 o7)) (
    AG (Sa s1 s2 s7 s8 o5 false w3) fun o8=>
    some (AB .or .u32 s7 o8))))
def Gc(s1 s2:Int)(w3:AA)(s7 s8:Int):Option ((Int×Int)⊕(Int)):=
 AE (decide (s8<(w3.states.length:Int))) (
  AG (aI1 s1 s2 s7 s8 w3) fun o9=>
  some (.inl (o9,(AB .add .i64 s8 1)))) (
  some (.inr s7))
def aI3(s1 s2:Int)(w3:AA)(s7 s8:Int):Option (Int):=AU (fun s:Int×Int=>Gc s1 s2 w3 s.1 s.2) (s7,s8)
def Yb(a0:AA)(a1 a2:Int):Option (Int):=
 AG (aI3 a1 a2 a0 0 0) fun o10=>
 some o10
def aH8(s9 s10:Int)(s18:Bool)(w4 w5:AA)(w6 w8:Xp):Option (Xp):=
 AE (s18) (
  AG (Yb w4 w6.p s9) fun r3=>
  some (Xp.mk r3 w6.q)) (
  some w6)
def aEp(s10:Int)(s26:Bool)(w5:AA)(w6 w8:Xp):Option (Xp):=
 AE (s26) (
  AG (Yb w5 w6.q s10) fun r5=>
  some (Xp.mk w6.p r5)) (
  some w6)
def Qc(a0 a1:AA)(a2:Xp)(a3:X3):Option (Xp):=
 AG (U9 a0 ([]:List X2) a3) fun r1=>
 AG (U9 a1 ([]:List X2) a3) fun r2=>
 AG (aH8 r1 r2 (!decide (r1=0)) a0 a1 a2 (Xp.mk 0 0)) fun o4=>
 AG (aEp r2 (!decide (r2=0)) a1 o4 (Xp.mk 0 0)) fun o6=>
 some o6
def Iu(s0:List Xp)(w3:Xp)(s5:Int):Option ((Int)⊕(Unit⊕Unit)):=
 AE (decide (s5<(s0.length:Int))) (
  AW s0 s5 fun x1=>
  AE ((Xp.eqb x1 w3)) (
   some (.inr (.inr ()))) (
   some (.inl (AB .add .i64 s5 1)))) (
  some (.inr (.inl ())))
def aH7(s0:List Xp)(w3:Xp)(s5:Int):Option (Unit⊕Unit):=AU (fun s:Int=>Iu s0 w3 s) s5
def Qa(a0:List Xp)(a1:Xp):Option (Bool):=
 AG (aH7 a0 a1 0) fun o2=>
 Ay o2 (fun o3=>
  some false) (fun o4=>
  some true)
def I7(w2 w3:AA)(s6:Int)(w5:List X3):Option ((Int×List X3)⊕((List X3))):=
 AE (decide (s6<(w2.decls.length:Int))) (
  AG (Zk w2 w3 s6 ([]:List X0)) fun r2=>
  Ai (fit w5.length r2.length 40) (
   some (.inl ((AB .add .i64 s6 1),w5++r2)))) (
  some (.inr w5))
def aI6(w2 w3:AA)(s6:Int)(w5:List X3):Option ((List X3)):=AU (fun s:Int×List X3=>I7 w2 w3 s.1 s.2) (s6,w5)
def aI5(s9 s10:Int)(s81:Bool)(w2 w3:AA)(w5:List X3)(w7:List Xp)(w8:List Int)(w11:Xp):Option ((List Xp×List Int)):=
 AE (s81) (
  Ai (fit w7.length [w11].length 8) (
   AW w8 s9 fun x13=>
   Ai (fit w8.length [(AB .add .i64 x13 1)].length 8) (
    some (w7++[w11],w8++[(AB .add .i64 x13 1)])))) (
  some (w7,w8))
def aI4(s9 s10:Int)(w2 w3:AA)(w5:List X3)(w7:List Xp)(w8:List Int):Option ((List Xp×List Int)):=
 AW w7 s9 fun x9=>
 AW w5 s10 fun x10=>
 AG (Qc w2 w3 x9 x10) fun r11=>
 AG (Qa w7 r11) fun r12=>
 AG (aI5 s9 s10 (!r12) w2 w3 w5 w7 w8 r11) fun o14=>
 some (o14.1,o14.2)
def I8(s9:Int)(w2 w3:AA)(w5:List X3)(s10:Int)(w7:List Xp)(w8:List Int):Option ((Int×List Xp×List Int)⊕((List Xp×List Int))):=
 AE (decide (s10<(w5.length:Int))) (
  AG (aI4 s9 s10 w2 w3 w5 w7 w8) fun o15=>
  some (.inl ((AB .add .i64 s10 1),o15.1,o15.2))) (
  some (.inr (w7,w8)))
def ZN(s9:Int)(w2 w3:AA)(w5:List X3)(s10:Int)(w7:List Xp)(w8:List Int):Option ((List Xp×List Int)):=AU (fun s:Int×List Xp×List Int=>I8 s9 w2 w3 w5 s.1 s.2.1 s.2.2) (s10,w7,w8)
def Ge(w2 w3:AA)(w5:List X3)(s9:Int)(w7:List Xp)(w8:List Int):Option ((Int×List Xp×List Int)⊕(Unit⊕Int)):=
 AE (decide (s9<(w7.length:Int))) (
  AW w7 s9 fun x4=>
  AG (Zz w2 x4.p) fun r5=>
  AW w7 s9 fun x6=>
  AG (Zz w3 x6.q) fun r7=>
  AE (!(r5==r7)) (
   AW w8 s9 fun x8=>
   some (.inr (.inr x8))) (
   AG (ZN s9 w2 w3 w5 0 w7 w8) fun o16=>
   some (.inl ((AB .add .i64 s9 1),o16.1,o16.2)))) (
  some (.inr (.inl ())))
def aI7(w2 w3:AA)(w5:List X3)(s9:Int)(w7:List Xp)(w8:List Int):Option (Unit⊕Int):=AU (fun s:Int×List Xp×List Int=>Ge w2 w3 w5 s.1 s.2.1 s.2.2) (s9,w7,w8)
def Yd(a0 a1:AA):Option (Int):=
 AG (aI6 a0 a1 0 ([]:List X3)) fun o3=>
 Ai (0<=(IntKind.wrap .u64 a0.start)) (
  Ai (0<=(IntKind.wrap .u64 a1.start)) (
   AG (aI7 a0 a1 o3 0 [Xp.mk (AB .shl .u32 1 (IntKind.wrap .u64 a0.start)) (AB .shl .u32 1 (IntKind.wrap .u64 a1.start))] [0]) fun o17=>
   Ay o17 (fun o18=>
    some (-1)) (fun o19=>
    some o19)))
def RF(s1:List (List X0))(s17:Bool)(w3:AA)(w5:X3):Option ((List AL)):=
 AE (s17) (
  AG (Xx w3 w5) fun r2=>
  some r2) (
  some ([]:List AL))
def aE5(s1:List (List X0))(s8:List AL)(s9:Int)(s31:Bool)(w3:AA)(w7:List (List X0)):Option ((List X0)):=
 AE (s31) (
  AW s1 s9 fun x13=>
  some x13) (
  some ([]:List X0))
def RI(s1:List (List X0))(s8:List AL)(s9:Int)(s10:List X0)(s11:Int)(s52:Bool)(w3:AA)(w7:List (List X0))(w12:X0):Option ((List X0)):=
 AE (s52) (
  AG (Ym s10 w12) fun r17=>
  some r17) (
  some s10)
def RG(s1:List (List X0))(s8:List AL)(s9:Int)(s10:List X0)(s11:Int)(w3:AA)(w7:List (List X0)):Option ((List X0)):=
 AW s8 s11 fun x15=>
 AG (Y9 x15.bind s9) fun r16=>
 AG (RI s1 s8 s9 s10 s11 r16.2 w3 w7 r16.1) fun o18=>
 some o18
def Mw(s1:List (List X0))(s8:List AL)(s9:Int)(w3:AA)(w7:List (List X0))(s10:List X0)(s11:Int):Option ((List X0×Int)⊕((List X0))):=
 AE (decide (s11<(s8.length:Int))) (
  AG (RG s1 s8 s9 s10 s11 w3 w7) fun o19=>
  some (.inl (o19,(AB .add .i64 s11 1)))) (
  some (.inr s10))
def aDf(s1:List (List X0))(s8:List AL)(s9:Int)(w3:AA)(w7:List (List X0))(s10:List X0)(s11:Int):Option ((List X0)):=AU (fun s:List X0×Int=>Mw s1 s8 s9 w3 w7 s.1 s.2) (s10,s11)
def aE4(s1:List (List X0))(s8:List AL)(s9:Int)(w3:AA)(w7:List (List X0)):Option ((List (List X0))):=
 AG (aE5 s1 s8 s9 (decide (s9<(s1.length:Int))) w3 w7) fun o14=>
 AG (aDf s1 s8 s9 w3 w7 o14 0) fun o20=>
 Ai (fit w7.length [o20].length 24) (
  some (w7++[o20]))
def I1(s1:List (List X0))(s8:List AL)(w3:AA)(s9:Int)(w7:List (List X0)):Option ((Int×List (List X0))⊕((List (List X0)))):=
 AE (decide (s9<(w3.quants.length:Int))) (
  AG (aE4 s1 s8 s9 w3 w7) fun o21=>
  some (.inl ((AB .add .i64 s9 1),o21))) (
  some (.inr w7))
def Wt(s1:List (List X0))(s8:List AL)(w3:AA)(s9:Int)(w7:List (List X0)):Option ((List (List X0))):=AU (fun s:Int×List (List X0)=>I1 s1 s8 w3 s.1 s.2) (s9,w7)
theorem Wu(s1:List (List X0))(s8:List AL)(w3:AA)(s9:Int)(w7:List (List X0)):Wt s1 s8 w3 s9 w7=BP (I1 s1 s8 w3 s9 w7) (fun s:Int×List (List X0)=>Wt s1 s8 w3 s.1 s.2):=BG _ _
def Xj(a0:AA)(a1:List (List X0))(a2:X3):Option (List (List X0)):=
 AG (Yp a0.decls a2) fun r1=>
 AG (RF a1 r1 a0 a2) fun o3=>
 AG (Wt a1 o3 a0 0 ([]:List (List X0))) fun o22=>
 some o22
def Gx(s1:List X3)(w2:AA)(s5:List (List X0))(s6:Int):Option ((List (List X0)×Int)⊕((List (List X0)))):=
 AE (decide (s6<(s1.length:Int))) (
  AW s1 s6 fun x3=>
  AG (Xj w2 s5 x3) fun r4=>
  some (.inl (r4,(AB .add .i64 s6 1)))) (
  some (.inr s5))
def aF6(s1:List X3)(w2:AA)(s5:List (List X0))(s6:Int):Option ((List (List X0))):=AU (fun s:List (List X0)×Int=>Gx s1 w2 s.1 s.2) (s5,s6)
def Z8(a0:AA)(a1:List X3):Option (List (List X0)):=
 Ai (0<=(a0.quants.length:Int)/\fit 0 (a0.quants.length:Int).toNat 24) (
  AG (aF6 a1 a0 (List.replicate (a0.quants.length:Int).toNat ([]:List X0)) 0) fun o5=>
  some o5)
def Gy(w1:AA)(w3 s4:Int)(w600:List X0):Option ((Int×List X0)⊕((List X0))):=
 AE (decide (s4<(w1.frees.length:Int))) (
  AW w1.frees s4 fun x2=>
  Ai (fit w600.length [x2.init_].length 40) (
   some (.inl ((AB .add .i64 s4 1),w600++[x2.init_])))) (
  some (.inr w600))
def aF7(w1:AA)(w3 s4:Int)(w600:List X0):Option ((List X0)):=AU (fun s:Int×List X0=>Gy w1 w3 s.1 s.2) (s4,w600)
def Z9(a0:AA):Option (List X4):=
 AG (aF7 a0 a0.start 0 ([]:List X0)) fun o3=>
 some [X4.mk a0.start o3]
def Lg(s1:List X2)(s6:Int)(w5:List X0):Option ((Int×List X0)⊕((List X0))):=
 AE (decide (s6<(s1.length:Int))) (
  AW s1 s6 fun x1=>
  AW s1 s6 fun x2=>
  Ai (0<=x1.var/\x1.var+1<=(w5.length:Int)) (
   Ai (0<=x1.var/\x1.var+1<=(w5.length:Int)) (
    some (.inl ((AB .add .i64 s6 1),w5.set x1.var.toNat x2.value))))) (
  some (.inr w5))
def aGd(s1:List X2)(s6:Int)(w5:List X0):Option ((List X0)):=AU (fun s:Int×List X0=>Lg s1 s.1 s.2) (s6,w5)
def Zg(a0:List X0)(a1:List X2):Option (List X0):=
 Ai (fit ([]:List X0).length a0.length 40) (
  AG (aGd a1 0 a0) fun o3=>
  some o3)
def aOl(self:AA->Int->(List X2)->(List X0)->Option (X0×Int))(a0:AA)(a1:Int)(a2:List X2)(a3:List X0):Option (X0×Int):=
 AW a0.nodes a1 fun x1=>
 AE (decide (x1.op=1)) (
  some (x1.value,0)) (
  AE (decide (x1.op=2)) (
   AG (Y9 a2 x1.a) fun r2=>
   AE (!r2.2) (
    some (X0.mk 0 0 ([]:List UInt8) false,9)) (
    AW a0.quants x1.a fun x3=>
    AE (!decide (r2.1.kind=x3.type)) (
     some (X0.mk 0 0 ([]:List UInt8) false,9)) (
     some (r2.1,0)))) (
   AE (decide (x1.op=3)) (
    AW a3 x1.a fun x4=>
    some (x4,0)) (
    AG (self a0 x1.a a2 a3) fun r5=>
    AE (!decide (r5.2=0)) (
     some (X0.mk 0 0 ([]:List UInt8) false,r5.2)) (
     AE (decide (x1.op<=5)) (
      AG (Zn x1.op r5.1 (X0.mk 0 0 ([]:List UInt8) false)) fun r6=>
      some (r6.1,r6.2)) (
      AE (decide (x1.op=6)) (
       AE (!r5.1.bool) (
        some (r5.1,0)) (
        AE (decide (x1.op=7)) (
         AE (r5.1.bool) (
          some (r5.1,0)) (
          AG (self a0 x1.b a2 a3) fun r7=>
          AE (!decide (r7.2=0)) (
           some (X0.mk 0 0 ([]:List UInt8) false,r7.2)) (
           AG (Zn x1.op r5.1 r7.1) fun r8=>
           some (r8.1,r8.2)))) (
         AG (self a0 x1.b a2 a3) fun r9=>
         AE (!decide (r9.2=0)) (
          some (X0.mk 0 0 ([]:List UInt8) false,r9.2)) (
          AG (Zn x1.op r5.1 r9.1) fun r10=>
          some (r10.1,r10.2))))) (
       AE (decide (x1.op=7)) (
        AE (r5.1.bool) (
         some (r5.1,0)) (
         AG (self a0 x1.b a2 a3) fun r11=>
         AE (!decide (r11.2=0)) (
          some (X0.mk 0 0 ([]:List UInt8) false,r11.2)) (
          AG (Zn x1.op r5.1 r11.1) fun r12=>
          some (r12.1,r12.2)))) (
        AG (self a0 x1.b a2 a3) fun r13=>
        AE (!decide (r13.2=0)) (
         some (X0.mk 0 0 ([]:List UInt8) false,r13.2)) (
         AG (Zn x1.op r5.1 r13.1) fun r14=>
         some (r14.1,r14.2)))))))))
def aK3:Nat->AA->Int->(List X2)->(List X0)->Option (X0×Int)
 |0=>fun _ _ _ _=>none
 |n+1=>fun a0 a1 a2 a3=>aOl (aK3 n) a0 a1 a2 a3
def Zm(a0:AA)(a1:Int)(a2:List X2)(a3:List X0):Option (X0×Int):=aK3 100000 a0 a1 a2 a3
def Qo(a0:AA)(a1:Int)(a2:List X2)(a3:List X0):Option (Bool×Int):=
 AW a0.trans a1 fun x1=>
 AE (decide (x1.guard<0)) (
  some (true,0)) (
  AG (Zm a0 x1.guard a2 a3) fun r2=>
  some (r2.1.bool,r2.2))
def Lh(s2:List X2)(s11:List DN)(w3:List X0)(w4:AA)(s12:Int)(w10:List X0):Option ((Int×List X0)⊕((List X0)⊕Int)):=
 AE (decide (s12<(s11.length:Int))) (
  AW s11 s12 fun x2=>
  AG (Zm w4 x2.expr s2 w3) fun r3=>
  AE (!decide (r3.2=0)) (
   some (.inr (.inr r3.2))) (
   AW s11 s12 fun x4=>
   Ai (0<=x4.free/\x4.free+1<=(w10.length:Int)) (
    Ai (0<=x4.free/\x4.free+1<=(w10.length:Int)) (
     some (.inl ((AB .add .i64 s12 1),w10.set x4.free.toNat r3.1)))))) (
  some (.inr (.inl w10)))
def aGe(s2:List X2)(s11:List DN)(w3:List X0)(w4:AA)(s12:Int)(w10:List X0):Option ((List X0)⊕Int):=AU (fun s:Int×List X0=>Lh s2 s11 w3 w4 s.1 s.2) (s12,w10)
def Zh(a0:AA)(a1:Int)(a2:List X2)(w0:List X0):Option (List X0×Int):=
 Ai (fit ([]:List X0).length w0.length 40) (
  AW a0.trans a1 fun x1=>
  AG (aGe a2 x1.sets w0 a0 0 w0) fun o5=>
  Ay o5 (fun o6=>
   some (o6,0)) (fun o7=>
   some (([]:List X0),o7)))
def Qp(a0:AA)(a1:Int)(a2:X4)(a3:AL):Option (X4×Bool×Int):=
 AG (Zg a2.vals a3.frees) fun r1=>
 AG (Qo a0 a1 a3.bind r1) fun r2=>
 AE (!decide (r2.2=0)) (
  some (X4.mk 0 ([]:List X0),false,r2.2)) (
  AE (!r2.1) (
   some (X4.mk 0 ([]:List X0),false,r2.2)) (
   AG (Zh a0 a1 a3.bind r1) fun r3=>
   AE (!decide (r3.2=0)) (
    some (X4.mk 0 ([]:List X0),false,r3.2)) (
    AW a0.trans a1 fun x4=>
    some (X4.mk x4.to r3.1,true,0))))
def Qk(a0 a1:Int):Option (Int):=
 AE (decide (a0=0)) (
  some a1) (
  AE (!decide (a1=0)) (
   AE (decide (a1<a0)) (
    some a1) (
    some a0)) (
   some a0))
def I9(w2 w3:X4)(s5:Int):Option ((Int)⊕(Unit⊕Bool)):=
 AE (decide (s5<(w2.vals.length:Int))) (
  AE (decide (s5<(w3.vals.length:Int))) (
   AW w2.vals s5 fun x1=>
   AW w3.vals s5 fun x2=>
   AE (!(X0.eqb x1 x2)) (
    AW w2.vals s5 fun x3=>
    AW w3.vals s5 fun x4=>
    AG (Zl x3 x4) fun r5=>
    some (.inr (.inr r5))) (
    some (.inl (AB .add .i64 s5 1)))) (
   some (.inr (.inl ())))) (
  some (.inr (.inl ())))
def ZP(w2 w3:X4)(s5:Int):Option (Unit⊕Bool):=AU (fun s:Int=>I9 w2 w3 s) s5
theorem ZQ(w2 w3:X4)(s5:Int):ZP w2 w3 s5=BP (I9 w2 w3 s5) (fun s:Int=>ZP w2 w3 s):=BG _ _
def Ye(a0 a1:X4):Option (Bool):=
 AE (!decide (a0.state=a1.state)) (
  some (decide (a0.state<a1.state))) (
  AG (ZP a0 a1 0) fun o6=>
  Ay o6 (fun o7=>
   some (decide ((a0.vals.length:Int)<(a1.vals.length:Int)))) (fun o8=>
   some o8))
def Q5(a0 a1:X4):Option (Bool):=
 AG (Ye a0 a1) fun r1=>
 AE (!r1) (
  AG (Ye a1 a0) fun r2=>
  some (!r2)) (
  some false)
def E3(w0:List X4)(w3:X4)(s5:Int):Option ((Int)⊕(Int)):=
 AE (decide (0<s5)) (
  Ai (0<=(AB .sub .i64 s5 1)/\(AB .sub .i64 s5 1)+1<=(w0.length:Int)) (
   AW w0 (AB .sub .i64 s5 1) fun x1=>
   AG (Ye w3 x1) fun r2=>
   AE (r2) (
    some (.inl (AB .sub .i64 s5 1))) (
    some (.inr s5)))) (
  some (.inr s5))
def OV(w0:List X4)(w3:X4)(s5:Int):Option (Int):=AU (fun s:Int=>E3 w0 w3 s) s5
theorem JC(w0:List X4)(w3:X4)(s5:Int):OV w0 w3 s5=BP (E3 w0 w3 s5) (fun s:Int=>OV w0 w3 s):=BG _ _
def Yo(a1:X4)(w0:List X4):Option (List X4):=
 AG (OV w0 a1 (w0.length:Int)) fun o3=>
 AE (decide (0<o3)) (
  Ai (0<=(AB .sub .i64 o3 1)/\(AB .sub .i64 o3 1)+1<=(w0.length:Int)) (
   AW w0 (AB .sub .i64 o3 1) fun x4=>
   AG (Q5 x4 a1) fun r5=>
   AE (r5) (
    some w0) (
    Ai ((0:Int)<=0/\(0:Int)<=o3/\o3<=(w0.length:Int)) (
     Ai (fit ([]:List X4).length (sub w0 0 o3).length 32) (
      Ai (fit (sub w0 0 o3).length [a1].length 32) (
       Ai ((0:Int)<=o3/\(o3:Int)<=(w0.length:Int)/\(w0.length:Int)<=(w0.length:Int)) (
        Ai (fit ((sub w0 0 o3)++[a1]).length (sub w0 o3 (w0.length:Int)).length 32) (
         some (((sub w0 0 o3)++[a1])++(sub w0 o3 (w0.length:Int))))))))))) (
  Ai ((0:Int)<=0/\(0:Int)<=o3/\o3<=(w0.length:Int)) (
   Ai (fit ([]:List X4).length (sub w0 0 o3).length 32) (
    Ai (fit (sub w0 0 o3).length [a1].length 32) (
     Ai ((0:Int)<=o3/\(o3:Int)<=(w0.length:Int)/\(w0.length:Int)<=(w0.length:Int)) (
      Ai (fit ((sub w0 0 o3)++[a1]).length (sub w0 o3 (w0.length:Int)).length 32) (
       some (((sub w0 0 o3)++[a1])++(sub w0 o3 (w0.length:Int)))))))))
def Wl(s2:List AL)(s9 s10 s11:Int)(s64:Bool)(w3:AA)(w4:X4)(w8:List X4)(w12:X4):Option ((List X4)):=
 AE (s64) (
  AG (Yo w12 w8) fun r7=>
  some r7) (
  some w8)
def Wi(s2:List AL)(s9 s10 s11:Int)(w3:AA)(w4:X4)(w8:List X4):Option ((Int×List X4)):=
 AW s2 s11 fun x2=>
 AW w3.trans s10 fun x3=>
 AE (!decide (x2.symbol=x3.symbol)) (
  some (s9,w8)) (
  AW s2 s11 fun x4=>
  AG (Qp w3 s10 w4 x4) fun r5=>
  AG (Qk s9 r5.2.2) fun r6=>
  AG (Wl s2 r6 s10 s11 r5.2.1 w3 w4 w8 r5.1) fun o8=>
  some (r6,o8))
def GP(s2:List AL)(s10:Int)(w3:AA)(w4:X4)(s9 s11:Int)(w8:List X4):Option ((Int×Int×List X4)⊕((Int×List X4))):=
 AE (decide (s11<(s2.length:Int))) (
  AG (Wi s2 s9 s10 s11 w3 w4 w8) fun o9=>
  some (.inl (o9.1,(AB .add .i64 s11 1),o9.2))) (
  some (.inr (s9,w8)))
def aE3(s2:List AL)(s10:Int)(w3:AA)(w4:X4)(s9 s11:Int)(w8:List X4):Option ((Int×List X4)):=AU (fun s:Int×Int×List X4=>GP s2 s10 w3 w4 s.1 s.2.1 s.2.2) (s9,s11,w8)
def Wg(s2:List AL)(s9 s10:Int)(w3:AA)(w4:X4)(w8:List X4):Option ((Int×List X4)):=
 AW w3.trans s10 fun x1=>
 AE (!decide (x1.from_=w4.state)) (
  some (s9,w8)) (
  AG (aE3 s2 s10 w3 w4 s9 0 w8) fun o10=>
  some (o10.1,o10.2))
def GO(s2:List AL)(w3:AA)(w4:X4)(s9 s10:Int)(w8:List X4):Option ((Int×Int×List X4)⊕((Int×List X4))):=
 AE (decide (s10<(w3.trans.length:Int))) (
  AG (Wg s2 s9 s10 w3 w4 w8) fun o11=>
  some (.inl (o11.1,(AB .add .i64 s10 1),o11.2))) (
  some (.inr (s9,w8)))
def aE2(s2:List AL)(w3:AA)(w4:X4)(s9 s10:Int)(w8:List X4):Option ((Int×List X4)):=AU (fun s:Int×Int×List X4=>GO s2 w3 w4 s.1 s.2.1 s.2.2) (s9,s10,w8)
def QX(s83:Bool)(w4:X4)(w8:List X4):Option ((List X4)):=
 AE (s83) (
  Ai (fit w8.length [w4].length 32) (
   some (w8++[w4]))) (
  some w8)
def Xi(a0:AA)(a1:X4)(a2:List AL):Option (List X4×Int):=
 AG (aE2 a2 a0 a1 0 0 ([]:List X4)) fun o12=>
 AE (!decide (o12.1=0)) (
  some (([]:List X4),o12.1)) (
  AE (decide ((o12.2.length:Int)=0)) (
   AW a0.states a1.state fun x13=>
   AG (QX (!x13.next) a1 o12.2) fun o14=>
   some (o14,0)) (
   AG (QX false a1 o12.2) fun o15=>
   some (o15,0)))
def DP(s0:List X4)(w3:X4)(s5:Int):Option ((Int)⊕(Int)):=
 AE (decide (0<s5)) (
  AW s0 (AB .sub .i64 s5 1) fun x1=>
  AG (Ye w3 x1) fun r2=>
  AE (r2) (
   some (.inl (AB .sub .i64 s5 1))) (
   some (.inr s5))) (
  some (.inr s5))
def LY(s0:List X4)(w3:X4)(s5:Int):Option (Int):=AU (fun s:Int=>DP s0 w3 s) s5
theorem Dt(s0:List X4)(w3:X4)(s5:Int):LY s0 w3 s5=BP (DP s0 w3 s5) (fun s:Int=>LY s0 w3 s):=BG _ _
def Y0(a0:List X4)(a1:X4):Option (List X4):=
 AG (LY a0 a1 (a0.length:Int)) fun o3=>
 AE (decide (0<o3)) (
  AW a0 (AB .sub .i64 o3 1) fun x4=>
  AG (Q5 x4 a1) fun r5=>
  AE (r5) (
   some a0) (
   Ai ((0:Int)<=0/\(0:Int)<=o3/\o3<=(a0.length:Int)) (
    Ai (fit ([]:List X4).length (sub a0 0 o3).length 32) (
     Ai (fit (([]:List X4)++(sub a0 0 o3)).length [a1].length 32) (
      Ai ((0:Int)<=o3/\(o3:Int)<=(a0.length:Int)/\(a0.length:Int)<=(a0.length:Int)) (
       Ai (fit ((([]:List X4)++(sub a0 0 o3))++[a1]).length (sub a0 o3 (a0.length:Int)).length 32) (
        some (((([]:List X4)++(sub a0 0 o3))++[a1])++(sub a0 o3 (a0.length:Int)))))))))) (
  Ai ((0:Int)<=0/\(0:Int)<=o3/\o3<=(a0.length:Int)) (
   Ai (fit ([]:List X4).length (sub a0 0 o3).length 32) (
    Ai (fit (([]:List X4)++(sub a0 0 o3)).length [a1].length 32) (
     Ai ((0:Int)<=o3/\(o3:Int)<=(a0.length:Int)/\(a0.length:Int)<=(a0.length:Int)) (
      Ai (fit ((([]:List X4)++(sub a0 0 o3))++[a1]).length (sub a0 o3 (a0.length:Int)).length 32) (
       some (((([]:List X4)++(sub a0 0 o3))++[a1])++(sub a0 o3 (a0.length:Int)))))))))
def C8(s1:List X4)(s2:List AL)(s9 s10:Int)(s11:List X4)(w3:AA)(s8:List X4)(s13:Int):Option ((List X4×Int)⊕((List X4))):=
 AE (decide (s13<(s11.length:Int))) (
  AW s11 s13 fun x12=>
  AG (Y0 s8 x12) fun r13=>
  some (.inl (r13,(AB .add .i64 s13 1)))) (
  some (.inr s8))
def XC(s1:List X4)(s2:List AL)(s9 s10:Int)(s11:List X4)(w3:AA)(s8:List X4)(s13:Int):Option ((List X4)):=AU (fun s:List X4×Int=>C8 s1 s2 s9 s10 s11 w3 s.1 s.2) (s8,s13)
def C7(s1:List X4)(s2:List AL)(w3:AA)(s8:List X4)(s9 s10:Int):Option ((List X4×Int×Int)⊕((List X4×Int))):=
 AE (decide (s10<(s1.length:Int))) (
  AW s1 s10 fun x9=>
  AG (Xi w3 x9 s2) fun r10=>
  AG (Qk s9 r10.2) fun r11=>
  AG (XC s1 s2 r11 s10 r10.1 w3 s8 0) fun o14=>
  some (.inl (o14,r11,(AB .add .i64 s10 1)))) (
  some (.inr (s8,s9)))
def XA(s1:List X4)(s2:List AL)(w3:AA)(s8:List X4)(s9 s10:Int):Option ((List X4×Int)):=AU (fun s:List X4×Int×Int=>C7 s1 s2 w3 s.1 s.2.1 s.2.2) (s8,s9,s10)
def Re(s8:List X4)(s9:Int)(s51:Bool):Option (Int):=
 AE (s51) (
  some 14) (
  some s9)
def Xn(a0:AA)(a1:List X4)(a2:List AL):Option (List X4×Int):=
 AG (XA a1 a2 a0 ([]:List X4) 0 0) fun o15=>
 AE (decide (o15.2=0)) (
  AG (Re o15.1 o15.2 (decide (256<(o15.1.length:Int)))) fun o16=>
  AE (!decide (o16=0)) (
   some (([]:List X4),o16)) (
   some (o15.1,0))) (
  AG (Re o15.1 o15.2 false) fun o17=>
  AE (!decide (o17=0)) (
   some (([]:List X4),o17)) (
   some (o15.1,0)))
def Qq(a0:AA)(a1:List X2)(a2:List X4)(a3:X3):Option (List X4×Int):=
 AG (Xx a0 a3) fun r1=>
 AG (Y3 r1 a1) fun r2=>
 AE (decide ((r2.length:Int)=0)) (
  some (a2,0)) (
  AG (Xn a0 a2 r2) fun r3=>
  some (r3.1,r3.2))
def Gk(s1:List X2)(s3:List X3)(w4:AA)(s2:List X4)(s11:Int):Option ((List X4×Int)⊕((List X4)⊕(Int×Int))):=
 AE (decide (s11<(s3.length:Int))) (
  AW s3 s11 fun x1=>
  AG (Qq w4 s1 s2 x1) fun r2=>
  AE (!decide (r2.2=0)) (
   some (.inr (.inr (r2.2,(AB .add .i64 s11 1))))) (
   some (.inl (r2.1,(AB .add .i64 s11 1))))) (
  some (.inr (.inl s2)))
def OW(s1:List X2)(s3:List X3)(w4:AA)(s2:List X4)(s11:Int):Option ((List X4)⊕(Int×Int)):=AU (fun s:List X4×Int=>Gk s1 s3 w4 s.1 s.2) (s2,s11)
theorem NG(s1:List X2)(s3:List X3)(w4:AA)(s2:List X4)(s11:Int):OW s1 s3 w4 s2 s11=BP (Gk s1 s3 w4 s2 s11) (fun s:List X4×Int=>OW s1 s3 w4 s.1 s.2):=BG _ _
def Yr(a0:AA)(a1:List X2)(a2:List X4)(a3:List X3):Option (List X4×Int×Int):=
 AG (OW a1 a3 a0 a2 0) fun o3=>
 Ay o3 (fun o4=>
  some (o4,0,0)) (fun o5=>
  some (([]:List X4),o5.1,o5.2))
def Gz(s1:List X4)(w2:AA)(s5:Int):Option ((Int)⊕(Unit⊕Unit)):=
 AE (decide (s5<(s1.length:Int))) (
  AW s1 s5 fun x1=>
  AW w2.states x1.state fun x2=>
  AE (x2.accept) (
   some (.inr (.inr ()))) (
   some (.inl (AB .add .i64 s5 1)))) (
  some (.inr (.inl ())))
def aF8(s1:List X4)(w2:AA)(s5:Int):Option (Unit⊕Unit):=AU (fun s:Int=>Gz s1 w2 s) s5
def Za(a0:AA)(a1:List X4):Option (Bool):=
 AG (aF8 a1 a0 0) fun o3=>
 Ay o3 (fun o4=>
  some false) (fun o5=>
  some true)
def Qr(a0:AA)(a1:List X2)(a2:List X3):Option (Bool):=
 AG (Z9 a0) fun r1=>
 AG (Yr a0 a1 r1 a2) fun r2=>
 AG (Za a0 r2.1) fun r3=>
 some r3
def Sp(self:AA->(List (List X0))->Int->(List X2)->(List X3)->Option Bool)(s1:List (List X0))(s2:Int)(s3:List X2)(s4:List X3)(s11:Bool)(w5:AA)(s12:Int):Option ((Int)⊕(Unit⊕Unit)):=
 AW s1 s2 fun x3=>
 AE (decide (s12<(x3.length:Int))) (
  Ai (fit ([]:List X2).length s3.length 48) (
   AW s1 s2 fun x4=>
   AW x4 s12 fun x5=>
   Ai (fit (([]:List X2)++s3).length [X2.mk s2 x5].length 48) (
    AG (self w5 s1 (AB .add .i64 s2 1) ((([]:List X2)++s3)++[X2.mk s2 x5]) s4) fun r6=>
    AE (!(r6==s11)) (
     some (.inr (.inr ()))) (
     some (.inl (AB .add .i64 s12 1)))))) (
  some (.inr (.inl ())))
def aJb(self:AA->(List (List X0))->Int->(List X2)->(List X3)->Option Bool)(s1:List (List X0))(s2:Int)(s3:List X2)(s4:List X3)(s11:Bool)(w5:AA)(s12:Int):Option (Unit⊕Unit):=AU (fun s:Int=>Sp self s1 s2 s3 s4 s11 w5 s) s12
def aJa(self:AA->(List (List X0))->Int->(List X2)->(List X3)->Option Bool)(a0:AA)(a1:List (List X0))(a2:Int)(a3:List X2)(a4:List X3):Option (Bool):=
 AE (decide ((a1.length:Int)<=a2)) (
  AG (Qr a0 a3 a4) fun r1=>
  some r1) (
  AW a0.quants a2 fun x2=>
  AG (aJb self a1 a2 a3 a4 x2.all a0 0) fun o7=>
  Ay o7 (fun o8=>
   some x2.all) (fun o9=>
   some (!x2.all)))
def aJc:Nat->AA->(List (List X0))->Int->(List X2)->(List X3)->Option Bool
 |0=>fun _ _ _ _ _=>none
 |n+1=>fun a0 a1 a2 a3 a4=>aJa (aJc n) a0 a1 a2 a3 a4
def Yi(a0:AA)(a1:List (List X0))(a2:Int)(a3:List X2)(a4:List X3):Option (Bool):=aJc 100000 a0 a1 a2 a3 a4
def Q0(a0:AA)(a1:List X3):Option (Bool):=
 AG (Z8 a0 a1) fun r1=>
 AG (Yi a0 r1 0 ([]:List X2) a1) fun r2=>
 some r2
def aEs(s5:List X3)(s6:Bool)(w2 w3:AA)(s10:Int):Option ((Int)⊕(Unit⊕Unit)):=
 AE (decide (s10<(s5.length:Int))) (
  AW s5 s10 fun x12=>
  AG (Yp w2.decls x12) fun r13=>
  AE (!r13) (
   some (.inr (.inr ()))) (
   some (.inl (AB .add .i64 s10 1)))) (
  some (.inr (.inl ())))
def aMe(s5:List X3)(s6:Bool)(w2 w3:AA)(s10:Int):Option (Unit⊕Unit):=AU (fun s:Int=>aEs s5 s6 w2 w3 s) s10
def Ua(a0 a1:AA):Option (Bool):=
 AG (Yt a0) fun r1=>
 AE (!r1) (
  AG (Yj) fun r2=>
  some r2) (
  AG (Yt a1) fun r3=>
  AE (!r3) (
   AG (Yj) fun r4=>
   some r4) (
   AG (X9 a0 a1) fun r5=>
   AG (Zp a0 a1) fun r6=>
   AG (Y1 a0 a1) fun r7=>
   AE (!r7) (
    AG (Yu a0 a1) fun r8=>
    AE (!r8) (
     AE (decide ((r5.1.length:Int)=0)) (
      AE (!r5.2) (
       AE (!r6.1) (
        AE (decide (r6.2=1)) (
         AG (Yj) fun r9=>
         some r9) (
         some false)) (
        some false)) (
       some false)) (
      some false)) (
     some false)) (
    AG (Yd a0 a1) fun r10=>
    AG (Yu a0 a1) fun r11=>
    AE (!r11) (
     some false) (
     AE (!(r5.2==(decide (0<=r10)))) (
      some false) (
      AE ((r6.1==r5.2)) (
       some false) (
       AE (!decide (r6.2=0)) (
        some false) (
        AE (!decide ((r5.1.length:Int)=(VA r10 0))) (
         some false) (
         AG (aMe r5.1 r5.2 a0 a1 0) fun o14=>
         Ay o14 (fun o15=>
          AE (!r5.2) (
           AG (Yj) fun r17=>
           some r17) (
           AG (Q0 a0 r5.1) fun r18=>
           AG (Q0 a1 r5.1) fun r19=>
           AE (!(r18==r19)) (
            AG (Yj) fun r20=>
            some r20) (
            some false))) (fun o16=>
          some false)))))))))
def Gh(s2:List X3)(w3 w4:AA)(s7:Int):Option ((Int)⊕(Unit⊕Bool)):=
 AE (decide (s7<(s2.length:Int))) (
  AW s2 s7 fun x8=>
  AE (decide (12<(x8.args.length:Int))) (
   AG (Yj) fun r9=>
   some (.inr (.inr r9))) (
   AW s2 s7 fun x10=>
   AG (Yp w3.decls x10) fun r11=>
   AE (!r11) (
    AG (Yj) fun r12=>
    some (.inr (.inr r12))) (
    some (.inl (AB .add .i64 s7 1))))) (
  some (.inr (.inl ())))
def aFp(s2:List X3)(w3 w4:AA)(s7:Int):Option (Unit⊕Bool):=AU (fun s:Int=>Gh s2 w3 w4 s) s7
def Yl(a0 a1:AA)(a2:List X3):Option (Bool):=
 AG (Yt a0) fun r1=>
 AE (!r1) (
  AG (Yj) fun r2=>
  some r2) (
  AG (Yt a1) fun r3=>
  AE (!r3) (
   AG (Yj) fun r4=>
   some r4) (
   AG (Y1 a0 a1) fun r5=>
   AE (!r5) (
    AG (Yj) fun r6=>
    some r6) (
    AE (decide (12<(a2.length:Int))) (
     AG (Yj) fun r7=>
     some r7) (
     AG (aFp a2 a0 a1 0) fun o13=>
     Ay o13 (fun o14=>
      AG (Zp a0 a1) fun r16=>
      AE (!r16.1) (
       AG (Yj) fun r17=>
       some r17) (
       AG (Q0 a0 a2) fun r18=>
       AG (Q0 a1 a2) fun r19=>
       AE ((r18==r19)) (
        AG (Yj) fun r20=>
        some r20) (
        some false))) (fun o15=>
      some o15)))))
end
end Go.Ac
