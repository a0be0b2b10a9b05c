/- Own work, printed: the functions as Lean functions. -/
import Derived.Test.YtaacajciajkodaaGreatAcC
set_option linter.unusedVariables false
set_option linter.unusedSimpArgs false
namespace Go.Ac
noncomputable section
abbrev bDs(P:Program)(rd:Option Nat)(root:Code)(p:List Nat)(s:St)(x:Ex×St):Prop:=Fm P rd root p s x.1 x.2
abbrev dI(x:Int):A:=.d (D.i .i64 x)
abbrev sI(n:Nat)(x:Int):Nat×A:=(n,dI x)
abbrev sD{α:Type}(n:Nat)(f:α->D)(x:α):Nat×A:=(n,.d (f x))
abbrev bx(n:Nat):Nat×A:=(n,.box n 0)
abbrev rx(n:Nat):Nat×A:=(n,.row n)
abbrev cL{α:Type}(n:Nat)(f:α->D)(x:α):Nat×Bk:=(n,.cells (aWb (f x)))
abbrev rW{α:Type}(n e k:Nat)(f:α->D)(x:List α):Nat×Bk:=(n,.rw e k (x.map f))
abbrev eP{α:Type}(n:Nat)(f:α->D)(x:α):Nat×A:=(n,.eptr (D.cells (f x)))
abbrev dU:Int->D:=D.i .u64
abbrev dW:Int->D:=D.i .u32
abbrev dZ:Int->D:=D.i .i64
abbrev bT(n:Nat):Nat×W:=(n,.bit true)
abbrev bF(n:Nat):Nat×W:=(n,.bit false)
structure Xm where
 name:List UInt8
 types:List Int
 deriving DecidableEq
def Xm.D(v:Xm):D:=.agg ([D.s v.name]++[(D.l (D.i .i64)) v.types])
instance :Dg Xm.D 2:=⟨fun _=>rfl⟩
structure Yo where
 all:Bool
 name:List UInt8
 type:Int
def Yo.D(v:Yo):D:=.agg ([D.b v.all]++[D.s v.name]++[(D.i .i64) v.type])
instance :Dg Yo.D 3:=⟨fun _=>rfl⟩
def Yo.eqb(a b:Yo):Bool:=((a.all==b.all)&&(decide (a.name=b.name)&&(decide (a.type=b.type)&&true)))
theorem Yo.eqb_iff(a b:Yo):Yo.eqb a b=true↔a=b:=by cases a;cases b;simp[Yo.eqb]
instance :DecidableEq Yo:=fun a b=>decidable_of_iff (Yo.eqb a b=true) (Yo.eqb_iff a b)
structure X0 where
 kind:Int
 int:Int
 str:List UInt8
 bool:Bool
def X0.D(v:X0):D:=.agg ([(D.i .i64) v.kind]++[(D.i .i64) v.int]++[D.s v.str]++[D.b v.bool])
instance :Dg X0.D 4:=⟨fun _=>rfl⟩
def X0.eqb(a b:X0):Bool:=(decide (a.kind=b.kind)&&(decide (a.int=b.int)&&(decide (a.str=b.str)&&((a.bool==b.bool)&&true))))
theorem X0.eqb_iff(a b:X0):X0.eqb a b=true↔a=b:=by cases a;cases b;simp[X0.eqb]
instance :DecidableEq X0:=fun a b=>decidable_of_iff (X0.eqb a b=true) (X0.eqb_iff a b)
structure Yq where
 name:List UInt8
 init_:X0
def Yq.D(v:Yq):D:=.agg ([D.s v.name]++(X0.D v.init_).cells)
instance :Dg Yq.D 5:=⟨fun _=>rfl⟩
def Yq.eqb(a b:Yq):Bool:=(decide (a.name=b.name)&&(X0.eqb a.init_ b.init_&&true))
theorem Yq.eqb_iff(a b:Yq):Yq.eqb a b=true↔a=b:=by cases a;cases b;simp[Yq.eqb,X0.eqb_iff]
instance :DecidableEq Yq:=fun a b=>decidable_of_iff (Yq.eqb a b=true) (Yq.eqb_iff a b)
structure Xg where
 name:List UInt8
 next:Bool
 accept:Bool
def Xg.D(v:Xg):D:=.agg ([D.s v.name]++[D.b v.next]++[D.b v.accept])
instance :Dg Xg.D 3:=⟨fun _=>rfl⟩
def Xg.eqb(a b:Xg):Bool:=(decide (a.name=b.name)&&((a.next==b.next)&&((a.accept==b.accept)&&true)))
theorem Xg.eqb_iff(a b:Xg):Xg.eqb a b=true↔a=b:=by cases a;cases b;simp[Xg.eqb]
instance :DecidableEq Xg:=fun a b=>decidable_of_iff (Xg.eqb a b=true) (Xg.eqb_iff a b)
structure B0 where
 kind:Int
 n:Int
 value:X0
def B0.D(v:B0):D:=.agg ([(D.i .i64) v.kind]++[(D.i .i64) v.n]++(X0.D v.value).cells)
instance :Dg B0.D 6:=⟨fun _=>rfl⟩
def B0.eqb(a b:B0):Bool:=(decide (a.kind=b.kind)&&(decide (a.n=b.n)&&(X0.eqb a.value b.value&&true)))
theorem B0.eqb_iff(a b:B0):B0.eqb a b=true↔a=b:=by cases a;cases b;simp[B0.eqb,X0.eqb_iff]
instance :DecidableEq B0:=fun a b=>decidable_of_iff (B0.eqb a b=true) (B0.eqb_iff a b)
structure X5 where
 event:Int
 args:List B0
 deriving DecidableEq
def X5.D(v:X5):D:=.agg ([(D.i .i64) v.event]++[(D.l B0.D) v.args])
instance :Dg X5.D 2:=⟨fun _=>rfl⟩
structure Yw where
 op:Int
 a:Int
 b:Int
 value:X0
def Yw.D(v:Yw):D:=.agg ([(D.i .i64) v.op]++[(D.i .i64) v.a]++[(D.i .i64) v.b]++(X0.D v.value).cells)
instance :Dg Yw.D 7:=⟨fun _=>rfl⟩
def Yw.eqb(a b:Yw):Bool:=(decide (a.op=b.op)&&(decide (a.a=b.a)&&(decide (a.b=b.b)&&(X0.eqb a.value b.value&&true))))
theorem Yw.eqb_iff(a b:Yw):Yw.eqb a b=true↔a=b:=by cases a;cases b;simp[Yw.eqb,X0.eqb_iff]
instance :DecidableEq Yw:=fun a b=>decidable_of_iff (Yw.eqb a b=true) (Yw.eqb_iff a b)
structure Fq where
 free:Int
 expr:Int
def Fq.D(v:Fq):D:=.agg ([(D.i .i64) v.free]++[(D.i .i64) v.expr])
instance :Dg Fq.D 2:=⟨fun _=>rfl⟩
def Fq.eqb(a b:Fq):Bool:=(decide (a.free=b.free)&&(decide (a.expr=b.expr)&&true))
theorem Fq.eqb_iff(a b:Fq):Fq.eqb a b=true↔a=b:=by cases a;cases b;simp[Fq.eqb]
instance :DecidableEq Fq:=fun a b=>decidable_of_iff (Fq.eqb a b=true) (Fq.eqb_iff a b)
structure Xr where
 from_:Int
 symbol:Int
 to:Int
 guard:Int
 sets:List Fq
 deriving DecidableEq
def Xr.D(v:Xr):D:=.agg ([(D.i .i64) v.from_]++[(D.i .i64) v.symbol]++[(D.i .i64) v.to]++[(D.i .i64) v.guard]++[(D.l Fq.D) v.sets])
instance :Dg Xr.D 5:=⟨fun _=>rfl⟩
structure AD where
 name:List UInt8
 decls:List Xm
 quants:List Yo
 frees:List Yq
 states:List Xg
 start:Int
 symbols:List X5
 nodes:List Yw
 trans:List Xr
 deriving DecidableEq
def AD.D(v:AD):D:=.agg ([D.s v.name]++[(D.l Xm.D) v.decls]++[(D.l Yo.D) v.quants]++[(D.l Yq.D) v.frees]++[(D.l Xg.D) v.states]++[(D.i .i64) v.start]++[(D.l X5.D) v.symbols]++[(D.l Yw.D) v.nodes]++[(D.l Xr.D) v.trans])
instance :Dg AD.D 9:=⟨fun _=>rfl⟩
structure X2 where
 var:Int
 value:X0
def X2.D(v:X2):D:=.agg ([(D.i .i64) v.var]++(X0.D v.value).cells)
instance :Dg X2.D 5:=⟨fun _=>rfl⟩
def X2.eqb(a b:X2):Bool:=(decide (a.var=b.var)&&(X0.eqb a.value b.value&&true))
theorem X2.eqb_iff(a b:X2):X2.eqb a b=true↔a=b:=by cases a;cases b;simp[X2.eqb,X0.eqb_iff]
instance :DecidableEq X2:=fun a b=>decidable_of_iff (X2.eqb a b=true) (X2.eqb_iff a b)
structure Xq where
 q:AD
 b:List X2
 d_:Int
 at_:Int
 deriving DecidableEq
def Xq.D(v:Xq):D:=.agg ((AD.D v.q).cells++[(D.l X2.D) v.b]++[(D.i .i64) v.d_]++[(D.i .i64) v.at_])
instance :Dg Xq.D 12:=⟨fun _=>rfl⟩
structure Xc where
 name:List UInt8
 args:List X0
 deriving DecidableEq
def Xc.D(v:Xc):D:=.agg ([D.s v.name]++[(D.l X0.D) v.args])
instance :Dg Xc.D 2:=⟨fun _=>rfl⟩
structure Au where
 symbol:Int
 bind:List X2
 frees:List X2
 deriving DecidableEq
def Au.D(v:Au):D:=.agg ([(D.i .i64) v.symbol]++[(D.l X2.D) v.bind]++[(D.l X2.D) v.frees])
instance :Dg Au.D 3:=⟨fun _=>rfl⟩
structure Xl where
 a:Int
 b:Int
def Xl.D(v:Xl):D:=.agg ([(D.i .u32) v.a]++[(D.i .u32) v.b])
instance :Dg Xl.D 2:=⟨fun _=>rfl⟩
def Xl.eqb(a b:Xl):Bool:=(decide (a.a=b.a)&&(decide (a.b=b.b)&&true))
theorem Xl.eqb_iff(a b:Xl):Xl.eqb a b=true↔a=b:=by cases a;cases b;simp[Xl.eqb]
instance :DecidableEq Xl:=fun a b=>decidable_of_iff (Xl.eqb a b=true) (Xl.eqb_iff a b)
structure X3 where
 a:Int
 b:Int
def X3.D(v:X3):D:=.agg ([(D.i .u32) v.a]++[(D.i .u32) v.b])
instance :Dg X3.D 2:=⟨fun _=>rfl⟩
def X3.eqb(a b:X3):Bool:=(decide (a.a=b.a)&&(decide (a.b=b.b)&&true))
theorem X3.eqb_iff(a b:X3):X3.eqb a b=true↔a=b:=by cases a;cases b;simp[X3.eqb]
instance :DecidableEq X3:=fun a b=>decidable_of_iff (X3.eqb a b=true) (X3.eqb_iff a b)
structure Xe where
 from_:X3
 set:Int
def Xe.D(v:Xe):D:=.agg ((X3.D v.from_).cells++[(D.i .u64) v.set])
instance :Dg Xe.D 3:=⟨fun _=>rfl⟩
def Xe.eqb(a b:Xe):Bool:=(X3.eqb a.from_ b.from_&&(decide (a.set=b.set)&&true))
theorem Xe.eqb_iff(a b:Xe):Xe.eqb a b=true↔a=b:=by cases a;cases b;simp[Xe.eqb,X3.eqb_iff]
instance :DecidableEq Xe:=fun a b=>decidable_of_iff (Xe.eqb a b=true) (Xe.eqb_iff a b)
def IU(w1:AD)(s3:Int):Option ((Int)⊕(Unit⊕Unit)):=
 AE (decide (s3<(w1.decls.length:Int))) (
  AT w1.decls s3 fun x1=>
  AE (decide (12<(x1.types.length:Int))) (
   some (.inr (.inr ()))) (
   AT w1.decls s3 fun x2=>
   AE (decide (100<(x2.name.length:Int))) (
    some (.inr (.inr ()))) (
    some (.inl (AA .add .i64 s3 1))))) (
  some (.inr (.inl ())))
def aQ2(w1:AD)(s3:Int):Option (Unit⊕Unit):=AQ (fun s:Int=>IU w1 s) s3
def IW(s4:Int)(w1:AD)(s5:Int):Option ((Int)⊕(Unit⊕Unit)):=
 AT w1.symbols s4 fun x7=>
 AE (decide (s5<(x7.args.length:Int))) (
  AT w1.symbols s4 fun x8=>
  AT x8.args s5 fun x9=>
  AE (decide (100<(x9.value.str.length:Int))) (
   some (.inr (.inr ()))) (
   some (.inl (AA .add .i64 s5 1)))) (
  some (.inr (.inl ())))
def aQ4(s4:Int)(w1:AD)(s5:Int):Option (Unit⊕Unit):=AQ (fun s:Int=>IW s4 w1 s) s5
def IV(w1:AD)(s4:Int):Option ((Int)⊕(Unit⊕Unit)):=
 AE (decide (s4<(w1.symbols.length:Int))) (
  AT w1.symbols s4 fun x6=>
  AE (decide (12<(x6.args.length:Int))) (
   some (.inr (.inr ()))) (
   AG (aQ4 s4 w1 0) fun o10=>
   CX o10 (fun o11=>
    some (.inl (AA .add .i64 s4 1))) (fun o12=>
    some (.inr (.inr ()))))) (
  some (.inr (.inl ())))
def aQ3(w1:AD)(s4:Int):Option (Unit⊕Unit):=AQ (fun s:Int=>IV w1 s) s4
def IX(w1:AD)(s6:Int):Option ((Int)⊕(Unit⊕Unit)):=
 AE (decide (s6<(w1.frees.length:Int))) (
  AT w1.frees s6 fun x16=>
  AE (decide (100<(x16.init_.str.length:Int))) (
   some (.inr (.inr ()))) (
   some (.inl (AA .add .i64 s6 1)))) (
  some (.inr (.inl ())))
def aQ5(w1:AD)(s6:Int):Option (Unit⊕Unit):=AQ (fun s:Int=>IX w1 s) s6
def IY(w1:AD)(s7:Int):Option ((Int)⊕(Unit⊕Unit)):=
 AE (decide (s7<(w1.nodes.length:Int))) (
  AT w1.nodes s7 fun x20=>
  AE (decide (100<(x20.value.str.length:Int))) (
   some (.inr (.inr ()))) (
   some (.inl (AA .add .i64 s7 1)))) (
  some (.inr (.inl ())))
def aQ6(w1:AD)(s7:Int):Option (Unit⊕Unit):=AQ (fun s:Int=>IY w1 s) s7
def IZ(w1:AD)(s8:Int):Option ((Int)⊕(Unit⊕Unit)):=
 AE (decide (s8<(w1.trans.length:Int))) (
  AT w1.trans s8 fun x24=>
  AE (decide (12<(x24.sets.length:Int))) (
   some (.inr (.inr ()))) (
   some (.inl (AA .add .i64 s8 1)))) (
  some (.inr (.inl ())))
def aQ7(w1:AD)(s8:Int):Option (Unit⊕Unit):=AQ (fun s:Int=>IZ w1 s) s8
def Xh(a0:AD):Option (Int):=
 AE (decide (12<(a0.decls.length:Int))) (
  some 0) (
  AE (decide (9<(a0.quants.length:Int))) (
   some 0) (
   AE (decide (12<(a0.frees.length:Int))) (
    some 0) (
    AE (decide (12<(a0.states.length:Int))) (
     some 0) (
     AE (decide (12<(a0.symbols.length:Int))) (
      some 0) (
      AE (decide (12<(a0.trans.length:Int))) (
       some 0) (
       AE (decide (40<(a0.nodes.length:Int))) (
        some 0) (
        AE (decide (100<(a0.name.length:Int))) (
         some 0) (
         AG (aQ2 a0 0) fun o3=>
         CX o3 (fun o4=>
          AG (aQ3 a0 0) fun o13=>
          CX o13 (fun o14=>
           AG (aQ5 a0 0) fun o17=>
           CX o17 (fun o18=>
            AG (aQ6 a0 0) fun o21=>
            CX o21 (fun o22=>
             AG (aQ7 a0 0) fun o25=>
             CX o25 (fun o26=>
              some 1) (fun o27=>
              some 0)) (fun o23=>
             some 0)) (fun o19=>
            some 0)) (fun o15=>
           some 0)) (fun o5=>
          some 0)))))))))
def Qs:Option (List (List UInt8)):=
 some ([([97,99,99,101,112,116]:List UInt8),([97,108,115,111]:List UInt8),([97,110,100]:List UInt8),([98,111,111,108]:List UInt8),([100,111]:List UInt8),([101,118,101,110,116]:List UInt8),([101,120,105,115,116,115]:List UInt8),([102,97,108,115,101]:List UInt8),([102,111,114,97,108,108]:List UInt8),([102,114,101,101]:List UInt8),([105,102]:List UInt8),([105,110,116]:List UInt8),([110,101,120,116]:List UInt8),([110,111,116]:List UInt8),([111,110]:List UInt8),([111,114]:List UInt8),([113,101,97]:List UInt8),([115,107,105,112]:List UInt8),([115,116,97,114,116]:List UInt8),([115,116,114,105,110,103]:List UInt8),([116,111]:List UInt8),([116,114,117,101]:List UInt8)])
def JD(s0:List UInt8)(s3:Int):Option ((Int)⊕(Unit⊕Unit)):=
 AE (decide (s3<(s0.length:Int))) (
  AT s0 s3 fun x1=>
  AE (decide (((65:UInt8).toNat:Int)<=(x1.toNat:Int))) (
   AE (decide ((x1.toNat:Int)<=((90:UInt8).toNat:Int))) (
    some (.inl (AA .add .i64 s3 1))) (
    AE (decide (((97:UInt8).toNat:Int)<=(x1.toNat:Int))) (
     AE (decide ((x1.toNat:Int)<=((122:UInt8).toNat:Int))) (
      some (.inl (AA .add .i64 s3 1))) (
      AE (!(decide ((x1.toNat:Int)=((95:UInt8).toNat:Int)))) (
       AE (decide (s3=0)) (
        some (.inr (.inr ()))) (
        AE (decide ((x1.toNat:Int)<((48:UInt8).toNat:Int))) (
         some (.inr (.inr ()))) (
         AE (decide (((57:UInt8).toNat:Int)<(x1.toNat:Int))) (
          some (.inr (.inr ()))) (
          some (.inl (AA .add .i64 s3 1)))))) (
       some (.inl (AA .add .i64 s3 1))))) (
     AE (!(decide ((x1.toNat:Int)=((95:UInt8).toNat:Int)))) (
      AE (decide (s3=0)) (
       some (.inr (.inr ()))) (
       AE (decide ((x1.toNat:Int)<((48:UInt8).toNat:Int))) (
        some (.inr (.inr ()))) (
        AE (decide (((57:UInt8).toNat:Int)<(x1.toNat:Int))) (
         some (.inr (.inr ()))) (
         some (.inl (AA .add .i64 s3 1)))))) (
      some (.inl (AA .add .i64 s3 1)))))) (
   AE (decide (((97:UInt8).toNat:Int)<=(x1.toNat:Int))) (
    AE (decide ((x1.toNat:Int)<=((122:UInt8).toNat:Int))) (
     some (.inl (AA .add .i64 s3 1))) (
     AE (!(decide ((x1.toNat:Int)=((95:UInt8).toNat:Int)))) (
      AE (decide (s3=0)) (
       some (.inr (.inr ()))) (
       AE (decide ((x1.toNat:Int)<((48:UInt8).toNat:Int))) (
        some (.inr (.inr ()))) (
        AE (decide (((57:UInt8).toNat:Int)<(x1.toNat:Int))) (
         some (.inr (.inr ()))) (
         some (.inl (AA .add .i64 s3 1)))))) (
      some (.inl (AA .add .i64 s3 1))))) (
    AE (!(decide ((x1.toNat:Int)=((95:UInt8).toNat:Int)))) (
     AE (decide (s3=0)) (
      some (.inr (.inr ()))) (
      AE (decide ((x1.toNat:Int)<((48:UInt8).toNat:Int))) (
       some (.inr (.inr ()))) (
       AE (decide (((57:UInt8).toNat:Int)<(x1.toNat:Int))) (
        some (.inr (.inr ()))) (
        some (.inl (AA .add .i64 s3 1)))))) (
     some (.inl (AA .add .i64 s3 1)))))) (
  some (.inr (.inl ())))
def aR3(s0:List UInt8)(s3:Int):Option (Unit⊕Unit):=AQ (fun s:Int=>JD s0 s) s3
def Z5(a0:List UInt8):Option (Bool):=
 AE (decide ((a0.length:Int)<1)) (
  some false) (
  AE (decide (32<(a0.length:Int))) (
   some false) (
   AG (aR3 a0 0) fun o2=>
   CX o2 (fun o3=>
    some true) (fun o4=>
    some false)))
def I7(s0:List UInt8)(s3:List (List UInt8))(s4:Int):Option ((Int)⊕(Unit⊕Unit)):=
 AE (decide (s4<(s3.length:Int))) (
  AT s3 s4 fun x2=>
  AE (decide (x2=s0)) (
   some (.inr (.inr ()))) (
   some (.inl (AA .add .i64 s4 1)))) (
  some (.inr (.inl ())))
def aR0(s0:List UInt8)(s3:List (List UInt8))(s4:Int):Option (Unit⊕Unit):=AQ (fun s:Int=>I7 s0 s3 s) s4
def Yu(a0:List UInt8):Option (Bool):=
 AG (Qs) fun r1=>
 AG (aR0 a0 r1 0) fun o3=>
 CX o3 (fun o4=>
  AG (Z5 a0) fun r6=>
  AE (r6) (
   some (!decide (a0=([95]:List UInt8)))) (
   some false)) (fun o5=>
  some false)
def LO(s0:List Xm)(s1:List UInt8)(s5:Int):Option ((Int)⊕(Unit⊕Int)):=
 AE (decide (s5<(s0.length:Int))) (
  AT s0 s5 fun x1=>
  AE (decide (x1.name=s1)) (
   some (.inr (.inr s5))) (
   some (.inl (AA .add .i64 s5 1)))) (
  some (.inr (.inl ())))
def aR9(s0:List Xm)(s1:List UInt8)(s5:Int):Option (Unit⊕Int):=AQ (fun s:Int=>LO s0 s1 s) s5
def Zc(a0:List Xm)(a1:List UInt8):Option (Int):=
 AG (aR9 a0 a1 0) fun o2=>
 CX o2 (fun o3=>
  some (-1)) (fun o4=>
  some o4)
def E3(s0:List Xm)(s4 s5:Int):Option ((Int)⊕(Unit⊕Unit)):=
 AT s0 s4 fun x6=>
 AE (decide (s5<(x6.types.length:Int))) (
  AT s0 s4 fun x7=>
  AT x7.types s5 fun x8=>
  AE (decide (x8<1)) (
   some (.inr (.inr ()))) (
   AT s0 s4 fun x9=>
   AT x9.types s5 fun x10=>
   AE (decide (3<x10)) (
    some (.inr (.inr ()))) (
    some (.inl (AA .add .i64 s5 1))))) (
  some (.inr (.inl ())))
def aKp(s0:List Xm)(s4 s5:Int):Option (Unit⊕Unit):=AQ (fun s:Int=>E3 s0 s4 s) s5
def E2(s0:List Xm)(s4:Int):Option ((Int)⊕(Unit⊕(Int×Int))):=
 AE (decide (s4<(s0.length:Int))) (
  AT s0 s4 fun x1=>
  AG (Yu x1.name) fun r2=>
  AE (!r2) (
   some (.inr (.inr (11,s4)))) (
   AT s0 s4 fun x3=>
   AG (Zc s0 x3.name) fun r4=>
   AE (decide (r4<s4)) (
    some (.inr (.inr (10,s4)))) (
    AT s0 s4 fun x5=>
    AE (decide (8<(x5.types.length:Int))) (
     some (.inr (.inr (14,s4)))) (
     AG (aKp s0 s4 0) fun o11=>
     CX o11 (fun o12=>
      some (.inl (AA .add .i64 s4 1))) (fun o13=>
      some (.inr (.inr (8,s4)))))))) (
  some (.inr (.inl ())))
def aKn(s0:List Xm)(s4:Int):Option (Unit⊕(Int×Int)):=AQ (fun s:Int=>E2 s0 s) s4
def Y8(a0:List Xm):Option (Int×Int):=
 AE (decide (32<(a0.length:Int))) (
  some (14,32)) (
  AG (aKn a0 0) fun o14=>
  CX o14 (fun o15=>
   some (0,(-1))) (fun o16=>
   some (o16.1,o16.2)))
def Zp(a0:X0):Option (Bool):=
 AE (decide (a0.kind=1)) (
  AE (decide (a0.str=([]:List UInt8))) (
   some (!a0.bool)) (
   some false)) (
  AE (decide (a0.kind=2)) (
   AE (decide (a0.int=0)) (
    AE (!a0.bool) (
     some (decide ((a0.str.length:Int)<=4096))) (
     some false)) (
    some false)) (
   AE (decide (a0.kind=3)) (
    AE (decide (a0.int=0)) (
     some (decide (a0.str=([]:List UInt8)))) (
     some false)) (
    some false)))
def JH(s0:List (List UInt8))(s1 s5:Int):Option ((Int)⊕(Unit⊕Unit)):=
 AE (decide (s5<s1)) (
  AT s0 s5 fun x1=>
  AT s0 s1 fun x2=>
  AE (decide (x1=x2)) (
   some (.inr (.inr ()))) (
   some (.inl (AA .add .i64 s5 1)))) (
  some (.inr (.inl ())))
def aVw(s0:List (List UInt8))(s1 s5:Int):Option (Unit⊕Unit):=AQ (fun s:Int=>JH s0 s1 s) s5
def Zd(a0:List (List UInt8))(a1:Int):Option (Bool):=
 AG (aVw a0 a1 0) fun o3=>
 CX o3 (fun o4=>
  some false) (fun o5=>
  some true)
def Ih(w1:AD)(s4:Int)(w3:List (List UInt8)):Option ((Int×List (List UInt8))⊕((List (List UInt8))⊕Unit)):=
 AE (decide (s4<(w1.quants.length:Int))) (
  AT w1.quants s4 fun x4=>
  AU (fit w3.length [x4.name].length 16) (
   AT w1.quants s4 fun x5=>
   AE (decide (x5.type<1)) (
    some (.inr (.inr ()))) (
    AT w1.quants s4 fun x6=>
    AE (decide (3<x6.type)) (
     some (.inr (.inr ()))) (
     some (.inl ((AA .add .i64 s4 1),w3++[x4.name])))))) (
  some (.inr (.inl w3)))
def aVa(w1:AD)(s4:Int)(w3:List (List UInt8)):Option ((List (List UInt8))⊕Unit):=AQ (fun s:Int×List (List UInt8)=>Ih w1 s.1 s.2) (s4,w3)
def Ii(w1:AD)(s5:Int)(w3:List (List UInt8)):Option ((Int×List (List UInt8))⊕((List (List UInt8))⊕Unit)):=
 AE (decide (s5<(w1.frees.length:Int))) (
  AT w1.frees s5 fun x10=>
  AU (fit w3.length [x10.name].length 16) (
   AT w1.frees s5 fun x11=>
   AG (Zp x11.init_) fun r12=>
   AE (!r12) (
    some (.inr (.inr ()))) (
    some (.inl ((AA .add .i64 s5 1),w3++[x10.name]))))) (
  some (.inr (.inl w3)))
def aVb(w1:AD)(s5:Int)(w3:List (List UInt8)):Option ((List (List UInt8))⊕Unit):=AQ (fun s:Int×List (List UInt8)=>Ii w1 s.1 s.2) (s5,w3)
def Ij(w1:AD)(w3:List (List UInt8))(s6:Int):Option ((Int)⊕(Unit⊕Unit)):=
 AE (decide (s6<(w3.length:Int))) (
  AT w3 s6 fun x16=>
  AG (Yu x16) fun r17=>
  AE (!r17) (
   some (.inr (.inr ()))) (
   AG (Zd w3 s6) fun r18=>
   AE (r18) (
    some (.inr (.inr ()))) (
    some (.inl (AA .add .i64 s6 1))))) (
  some (.inr (.inl ())))
def aVc(w1:AD)(w3:List (List UInt8))(s6:Int):Option (Unit⊕Unit):=AQ (fun s:Int=>Ij w1 w3 s) s6
def Ik(w1:AD)(s8:Int)(w7:List (List UInt8)):Option ((Int×List (List UInt8))⊕(Unit⊕Unit)):=
 AE (decide (s8<(w1.states.length:Int))) (
  AT w1.states s8 fun x26=>
  AU (fit w7.length [x26.name].length 16) (
   AT (w7++[x26.name]) s8 fun x27=>
   AG (Yu x27) fun r28=>
   AE (!r28) (
    some (.inr (.inr ()))) (
    AG (Zd (w7++[x26.name]) s8) fun r29=>
    AE (r29) (
     some (.inr (.inr ()))) (
     some (.inl ((AA .add .i64 s8 1),w7++[x26.name])))))) (
  some (.inr (.inl ())))
def aVd(w1:AD)(s8:Int)(w7:List (List UInt8)):Option (Unit⊕Unit):=AQ (fun s:Int×List (List UInt8)=>Ik w1 s.1 s.2) (s8,w7)
def Xs(a0:AD):Option (Bool):=
 AG (aVa a0 0 ([]:List (List UInt8))) fun o7=>
 CX o7 (fun o8=>
  AG (aVb a0 0 o8) fun o13=>
  CX o13 (fun o14=>
   AG (aVc a0 o14 0) fun o19=>
   CX o19 (fun o20=>
    AG (aVd a0 0 ([]:List (List UInt8))) fun o30=>
    CX o30 (fun o31=>
     AG (Yu a0.name) fun r33=>
     some r33) (fun o32=>
     some false)) (fun o21=>
    some false)) (fun o15=>
   some false)) (fun o9=>
  some false)
def Zo(a0:Bool):Option (X0×Int):=
 some (X0.mk 3 0 ([]:List UInt8) a0,0)
def Ql(a0 a1:Int):Option (Int×Bool):=
 AE (decide (0<a1)) (
  AE (decide ((AA .sub .i64 9223372036854775807 a1)<a0)) (
   some (0,false)) (
   AE (decide (a1<0)) (
    AE (decide (a0<(AA .sub .i64 (-9223372036854775808) a1))) (
     some (0,false)) (
     some ((AA .add .i64 a0 a1),true))) (
    some ((AA .add .i64 a0 a1),true)))) (
  AE (decide (a1<0)) (
   AE (decide (a0<(AA .sub .i64 (-9223372036854775808) a1))) (
    some (0,false)) (
    some ((AA .add .i64 a0 a1),true))) (
   some ((AA .add .i64 a0 a1),true)))
def Q3(a0:Int)(a1:Bool):Option (X0×Int):=
 AE (!a1) (
  some (X0.mk 0 0 ([]:List UInt8) false,6)) (
  some (X0.mk 1 a0 ([]:List UInt8) false,0))
def Zx(a0 a1:Int):Option (Int×Bool):=
 AE (decide (a1<0)) (
  AE (decide ((AA .add .i64 9223372036854775807 a1)<a0)) (
   some (0,false)) (
   AE (decide (0<a1)) (
    AE (decide (a0<(AA .add .i64 (-9223372036854775808) a1))) (
     some (0,false)) (
     some ((AA .sub .i64 a0 a1),true))) (
    some ((AA .sub .i64 a0 a1),true)))) (
  AE (decide (0<a1)) (
   AE (decide (a0<(AA .add .i64 (-9223372036854775808) a1))) (
    some (0,false)) (
    some ((AA .sub .i64 a0 a1),true))) (
   some ((AA .sub .i64 a0 a1),true)))
def Qm(a0 a1:Int):Option (Int×Bool):=
 AE (decide (a0=0)) (
  some (0,true)) (
  AE (decide (a1=0)) (
   some (0,true)) (
   AE (decide (a0=(-1))) (
    AG (Zx 0 a1) fun r1=>
    some (r1.1,r1.2)) (
    AE (decide (a1=(-1))) (
     AG (Zx 0 a0) fun r2=>
     some (r2.1,r2.2)) (
     AE (decide (0<a0)) (
      AE (decide (0<a1)) (
       AU (a1≠0) (
        AE (decide ((AA .quo .i64 9223372036854775807 a1)<a0)) (
         some (0,false)) (
         AE (decide (a1<0)) (
          AU (a0≠0) (
           AE (decide (a1<(AA .quo .i64 (-9223372036854775808) a0))) (
            some (0,false)) (
            AE (decide (a0<0)) (
             AU (a1≠0) (
              AE (decide (a0<(AA .quo .i64 (-9223372036854775808) a1))) (
               some (0,false)) (
               AU (a1≠0) (
                AE (decide (a0<(AA .quo .i64 9223372036854775807 a1))) (
                 some (0,false)) (
                 some ((AA .mul .i64 a0 a1),true)))))) (
             some ((AA .mul .i64 a0 a1),true))))) (
          AE (decide (a0<0)) (
           AU (a1≠0) (
            AE (decide (a0<(AA .quo .i64 (-9223372036854775808) a1))) (
             some (0,false)) (
             some ((AA .mul .i64 a0 a1),true)))) (
           some ((AA .mul .i64 a0 a1),true)))))) (
       AE (decide (a1<0)) (
        AU (a0≠0) (
         AE (decide (a1<(AA .quo .i64 (-9223372036854775808) a0))) (
          some (0,false)) (
          AE (decide (a0<0)) (
           AU (a1≠0) (
            AE (decide (a0<(AA .quo .i64 9223372036854775807 a1))) (
             some (0,false)) (
             some ((AA .mul .i64 a0 a1),true)))) (
           some ((AA .mul .i64 a0 a1),true))))) (
        AE (decide (a0<0)) (
         some ((AA .mul .i64 a0 a1),true)) (
         some ((AA .mul .i64 a0 a1),true))))) (
      AE (decide (a0<0)) (
       AE (decide (0<a1)) (
        AU (a1≠0) (
         AE (decide (a0<(AA .quo .i64 (-9223372036854775808) a1))) (
          some (0,false)) (
          AE (decide (a1<0)) (
           AU (a1≠0) (
            AE (decide (a0<(AA .quo .i64 9223372036854775807 a1))) (
             some (0,false)) (
             some ((AA .mul .i64 a0 a1),true)))) (
           some ((AA .mul .i64 a0 a1),true))))) (
        AE (decide (a1<0)) (
         AU (a1≠0) (
          AE (decide (a0<(AA .quo .i64 9223372036854775807 a1))) (
           some (0,false)) (
           some ((AA .mul .i64 a0 a1),true)))) (
         some ((AA .mul .i64 a0 a1),true)))) (
       some ((AA .mul .i64 a0 a1),true)))))))
def Qn(a0 a1:Int):Option (Int×Int×Int):=
 AE (decide (a1=0)) (
  some (0,0,7)) (
  AE (decide (a1=(-1))) (
   AG (Zx 0 a0) fun r1=>
   AE (!r1.2) (
    some (0,0,6)) (
    some (r1.1,0,0))) (
   AU (a1≠0) (
    AU (a1≠0) (
     some ((AA .quo .i64 a0 a1),(AA .rem .i64 a0 a1),0)))))
def Zy(a0 a1 a2:Int):Option (X0×Int):=
 AE (decide (a0=8)) (
  AG (Ql a1 a2) fun r1=>
  AG (Q3 r1.1 r1.2) fun r2=>
  some (r2.1,r2.2)) (
  AE (decide (a0=9)) (
   AG (Zx a1 a2) fun r3=>
   AG (Q3 r3.1 r3.2) fun r4=>
   some (r4.1,r4.2)) (
   AE (decide (a0=10)) (
    AG (Qm a1 a2) fun r5=>
    AG (Q3 r5.1 r5.2) fun r6=>
    some (r6.1,r6.2)) (
    AG (Qn a1 a2) fun r7=>
    AE (decide (r7.2.2=7)) (
     some (X0.mk 0 0 ([]:List UInt8) false,7)) (
     AE (decide (a0=12)) (
      some (X0.mk 1 r7.2.1 ([]:List UInt8) false,0)) (
      AG (Q3 r7.1 (decide (r7.2.2=0))) fun r8=>
      some (r8.1,r8.2))))))
def HL(s0 s1:List UInt8)(s5:Int):Option ((Int)⊕(Unit⊕Bool)):=
 AE (decide (s5<(s0.length:Int))) (
  AE (decide (s5<(s1.length:Int))) (
   AT s0 s5 fun x1=>
   AT s1 s5 fun x2=>
   AE (!decide ((x1.toNat:Int)=(x2.toNat:Int))) (
    AT s0 s5 fun x3=>
    AT s1 s5 fun x4=>
    some (.inr (.inr (decide ((x3.toNat:Int)<(x4.toNat:Int)))))) (
    some (.inl (AA .add .i64 s5 1)))) (
   some (.inr (.inl ())))) (
  some (.inr (.inl ())))
def aMl(s0 s1:List UInt8)(s5:Int):Option (Unit⊕Bool):=AQ (fun s:Int=>HL s0 s1 s) s5
def Yz(a0 a1:List UInt8):Option (Bool):=
 AG (aMl a0 a1 0) fun o5=>
 CX o5 (fun o6=>
  some (decide ((a0.length:Int)<(a1.length:Int)))) (fun o7=>
  some o7)
def Zs(a0 a1:X0):Option (Bool):=
 AE (!decide (a0.kind=a1.kind)) (
  some (decide (a0.kind<a1.kind))) (
  AE (decide (a0.kind=1)) (
   some (decide (a0.int<a1.int))) (
   AE (decide (a0.kind=2)) (
    AG (Yz a0.str a1.str) fun r1=>
    some r1) (
    AE (!a0.bool) (
     some a1.bool) (
     some false))))
def Qe(a0:Int)(a1 a2:X0):Option (X0×Int):=
 AE (decide (a0<4)) (
  some (X0.mk 0 0 ([]:List UInt8) false,1)) (
  AE (decide (16<a0)) (
   some (X0.mk 0 0 ([]:List UInt8) false,1)) (
   AE (decide (a0=4)) (
    AE (!decide (a1.kind=3)) (
     some (X0.mk 0 0 ([]:List UInt8) false,8)) (
     AG (Zo (!a1.bool)) fun r1=>
     some (r1.1,r1.2))) (
    AE (decide (a0=5)) (
     AE (!decide (a1.kind=1)) (
      some (X0.mk 0 0 ([]:List UInt8) false,8)) (
      AG (Zy 9 0 a1.int) fun r2=>
      some (r2.1,r2.2))) (
     AE (!decide (a1.kind=a2.kind)) (
      some (X0.mk 0 0 ([]:List UInt8) false,8)) (
      AE (decide (a0=13)) (
       AG (Zo (X0.eqb a1 a2)) fun r3=>
       some (r3.1,r3.2)) (
       AE (decide (a0=14)) (
        AG (Zo (!(X0.eqb a1 a2))) fun r4=>
        some (r4.1,r4.2)) (
        AE (decide (a1.kind=3)) (
         AE (decide (a0=6)) (
          AE (a1.bool) (
           AG (Zo a2.bool) fun r5=>
           some (r5.1,r5.2)) (
           AG (Zo false) fun r6=>
           some (r6.1,r6.2))) (
          AE (decide (a0=7)) (
           AE (a1.bool) (
            AG (Zo true) fun r7=>
            some (r7.1,r7.2)) (
            AG (Zo a2.bool) fun r8=>
            some (r8.1,r8.2))) (
           some (X0.mk 0 0 ([]:List UInt8) false,8)))) (
         AE (decide (a0=15)) (
          AG (Zs a1 a2) fun r9=>
          AG (Zo r9) fun r10=>
          some (r10.1,r10.2)) (
          AE (decide (a0=16)) (
           AG (Zs a2 a1) fun r11=>
           AG (Zo (!r11)) fun r12=>
           some (r12.1,r12.2)) (
           AE (decide (a1.kind=1)) (
            AE (decide (8<=a0)) (
             AE (decide (a0<=12)) (
              AG (Zy a0 a1.int a2.int) fun r13=>
              some (r13.1,r13.2)) (
              AE (decide (a1.kind=2)) (
               AE (decide (a0=8)) (
                AE (decide (4096<(AA .add .i64 (a1.str.length:Int) (a2.str.length:Int)))) (
                 some (X0.mk 0 0 ([]:List UInt8) false,3)) (
                 AU (a1.str.length+a2.str.length<=9223372036854775807) (
                  some (X0.mk 2 0 (a1.str++a2.str) false,0)))) (
                some (X0.mk 0 0 ([]:List UInt8) false,8))) (
               some (X0.mk 0 0 ([]:List UInt8) false,8)))) (
             AE (decide (a1.kind=2)) (
              AE (decide (a0=8)) (
               AE (decide (4096<(AA .add .i64 (a1.str.length:Int) (a2.str.length:Int)))) (
                some (X0.mk 0 0 ([]:List UInt8) false,3)) (
                AU (a1.str.length+a2.str.length<=9223372036854775807) (
                 some (X0.mk 2 0 (a1.str++a2.str) false,0)))) (
               some (X0.mk 0 0 ([]:List UInt8) false,8))) (
              some (X0.mk 0 0 ([]:List UInt8) false,8)))) (
            AE (decide (a1.kind=2)) (
             AE (decide (a0=8)) (
              AE (decide (4096<(AA .add .i64 (a1.str.length:Int) (a2.str.length:Int)))) (
               some (X0.mk 0 0 ([]:List UInt8) false,3)) (
               AU (a1.str.length+a2.str.length<=9223372036854775807) (
                some (X0.mk 2 0 (a1.str++a2.str) false,0)))) (
              some (X0.mk 0 0 ([]:List UInt8) false,8))) (
             some (X0.mk 0 0 ([]:List UInt8) false,8)))))))))))))
def Q4(a0 a1 a2:Int):Option (Int):=
 AE (decide (a1<1)) (
  some 0) (
  AE (!decide (a1=a2)) (
   some 0) (
   AG (Qe a0 (X0.mk a1 0 ([]:List UInt8) false) (X0.mk a2 0 ([]:List UInt8) false)) fun r1=>
   AE (decide (r1.2=7)) (
    some 1) (
    AE (!decide (r1.2=0)) (
     some 0) (
     some r1.1.kind))))
def aR4(self:AD->Int->Option (Int×Int×Int))(a0:AD)(a1:Int):Option (Int×Int×Int):=
 AE (decide (a1<0)) (
  some (0,0,0)) (
  AE (decide ((a0.nodes.length:Int)<=a1)) (
   some (0,0,0)) (
   AT a0.nodes a1 fun x1=>
   AE (decide (x1.op=1)) (
    AE (!decide (x1.a=0)) (
     some (0,0,0)) (
     AE (!decide (x1.b=0)) (
      some (0,0,0)) (
      AG (Zp x1.value) fun r2=>
      AE (!r2) (
       some (0,0,0)) (
       some (x1.value.kind,1,a1))))) (
    AE (!(X0.eqb x1.value (X0.mk 0 0 ([]:List UInt8) false))) (
     some (0,0,0)) (
     AE (decide (x1.op=2)) (
      AE (decide (x1.a<0)) (
       some (0,0,0)) (
       AE (decide ((a0.quants.length:Int)<=x1.a)) (
        some (0,0,0)) (
        AE (!decide (x1.b=0)) (
         some (0,0,0)) (
         AT a0.quants x1.a fun x3=>
         some (x3.type,1,a1))))) (
      AE (decide (x1.op=3)) (
       AE (decide (x1.a<0)) (
        some (0,0,0)) (
        AE (decide ((a0.frees.length:Int)<=x1.a)) (
         some (0,0,0)) (
         AE (!decide (x1.b=0)) (
          some (0,0,0)) (
          AT a0.frees x1.a fun x4=>
          some (x4.init_.kind,1,a1))))) (
       AE (decide (x1.op<4)) (
        some (0,0,0)) (
        AE (decide (16<x1.op)) (
         some (0,0,0)) (
         AG (self a0 (AA .sub .i64 a1 1)) fun r5=>
         AE (decide (x1.op<=5)) (
          AE (decide (r5.1=0)) (
           some (0,0,0)) (
           AE (!decide (x1.a=(AA .sub .i64 a1 1))) (
            some (0,0,0)) (
            AE (!decide (x1.b=0)) (
             some (0,0,0)) (
             AG (Q4 x1.op r5.1 r5.1) fun r6=>
             some (r6,(AA .add .i64 r5.2.1 1),r5.2.2))))) (
          AE (decide (r5.1=0)) (
           some (0,0,0)) (
           AE (!decide (x1.b=(AA .sub .i64 a1 1))) (
            some (0,0,0)) (
            AE (!decide (x1.a=(AA .sub .i64 r5.2.2 1))) (
             some (0,0,0)) (
             AG (self a0 (AA .sub .i64 r5.2.2 1)) fun r7=>
             AG (Q4 x1.op r7.1 r5.1) fun r8=>
             some (r8,(AA .add .i64 (GO r5.2.1 r7.2.1) 1),r7.2.2)))))))))))))
def aPk:Nat->AD->Int->Option (Int×Int×Int)
 |0=>fun _ _=>none
 |n+1=>fun a0 a1=>aR4 (aPk n) a0 a1
def Z6(a0:AD)(a1:Int):Option (Int×Int×Int):=aPk 100000 a0 a1
def Qa(a0:AD)(a1 a2:Int):Option (Int×Int):=
 AG (Z6 a0 a2) fun r1=>
 AE (decide (r1.1=0)) (
  some (0,0)) (
  AE (!decide (r1.2.2=a1)) (
   some (0,0)) (
   some (r1.1,r1.2.1)))
def JB(s1:Int)(w2:X5)(s5:Int):Option ((Int)⊕(Unit⊕Unit)):=
 AE (decide (s5<(w2.args.length:Int))) (
  AT w2.args s5 fun x1=>
  AE (decide (x1.kind=2)) (
   AT w2.args s5 fun x2=>
   AE (decide (x2.n=s1)) (
    some (.inr (.inr ()))) (
    some (.inl (AA .add .i64 s5 1)))) (
   some (.inl (AA .add .i64 s5 1)))) (
  some (.inr (.inl ())))
def aR1(s1:Int)(w2:X5)(s5:Int):Option (Unit⊕Unit):=AQ (fun s:Int=>JB s1 w2 s) s5
def Z2(a0:X5)(a1:Int):Option (Bool):=
 AG (aR1 a1 a0 0) fun o3=>
 CX o3 (fun o4=>
  some false) (fun o5=>
  some true)
def JJ(s3:Int)(w4:AD)(w5:X5)(s9:Int):Option ((Int)⊕(Unit⊕Unit)):=
 AE (decide (s9<s3)) (
  AT w4.nodes s9 fun x1=>
  AE (decide (x1.op=2)) (
   AT w4.nodes s9 fun x2=>
   AG (Z2 w5 x2.a) fun r3=>
   AE (!r3) (
    some (.inr (.inr ()))) (
    some (.inl (AA .add .i64 s9 1)))) (
   some (.inl (AA .add .i64 s9 1)))) (
  some (.inr (.inl ())))
def aSc(s3:Int)(w4:AD)(w5:X5)(s9:Int):Option (Unit⊕Unit):=AQ (fun s:Int=>JJ s3 w4 w5 s) s9
def Zh(a0:AD)(a1:X5)(a2 a3:Int):Option (Bool):=
 AG (aSc a3 a0 a1 a2) fun o4=>
 CX o4 (fun o5=>
  some true) (fun o6=>
  some false)
def XY(s2 s8:Int)(s56:Bool)(w3:AD)(w4:Xr):Option (Int⊕Unit):=
 AE (s56) (
  AG (Qa w3 s8 w4.guard) fun r1=>
  AE (!decide (r1.1=3)) (
   some (.inr ())) (
   AE (decide (64<r1.2)) (
    some (.inr ())) (
    some (.inl (AA .add .i64 w4.guard 1))))) (
  some (.inl s8))
def Iw(s2 s11:Int)(w3:AD)(w4:Xr)(w12:Fq)(s15:Int):Option ((Int)⊕(Unit⊕Unit)):=
 AE (decide (s15<s11)) (
  AT w4.sets s15 fun x8=>
  AE (decide (x8.free=w12.free)) (
   some (.inr (.inr ()))) (
   some (.inl (AA .add .i64 s15 1)))) (
  some (.inr (.inl ())))
def aRl(s2 s11:Int)(w3:AD)(w4:Xr)(w12:Fq)(s15:Int):Option (Unit⊕Unit):=AQ (fun s:Int=>Iw s2 s11 w3 w4 w12 s) s15
def Iv(s2:Int)(w3:AD)(w4:Xr)(s8 s11:Int):Option ((Int×Int)⊕(Int⊕Unit)):=
 AE (decide (s11<(w4.sets.length:Int))) (
  AT w4.sets s11 fun x5=>
  AG (Qa w3 s8 x5.expr) fun r6=>
  AE (decide (x5.free<0)) (
   some (.inr (.inr ()))) (
   AE (decide ((w3.frees.length:Int)<=x5.free)) (
    some (.inr (.inr ()))) (
    AE (decide (r6.1=0)) (
     some (.inr (.inr ()))) (
     AE (decide (64<r6.2)) (
      some (.inr (.inr ()))) (
      AT w3.frees x5.free fun x7=>
      AE (!decide (r6.1=x7.init_.kind)) (
       some (.inr (.inr ()))) (
       AG (aRl s2 s11 w3 w4 x5 0) fun o9=>
       CX o9 (fun o10=>
        some (.inl ((AA .add .i64 x5.expr 1),(AA .add .i64 s11 1)))) (fun o11=>
        some (.inr (.inr ()))))))))) (
  some (.inr (.inl s8)))
def aRk(s2:Int)(w3:AD)(w4:Xr)(s8 s11:Int):Option (Int⊕Unit):=AQ (fun s:Int×Int=>Iv s2 w3 w4 s.1 s.2) (s8,s11)
def Y9(a0:AD)(a1:Xr)(a2:Int):Option (Int×Bool):=
 AE (decide (a1.from_<0)) (
  some (0,false)) (
  AE (decide ((a0.states.length:Int)<=a1.from_)) (
   some (0,false)) (
   AE (decide (a1.to<0)) (
    some (0,false)) (
    AE (decide ((a0.states.length:Int)<=a1.to)) (
     some (0,false)) (
     AE (decide (a1.symbol<0)) (
      some (0,false)) (
      AE (decide ((a0.symbols.length:Int)<=a1.symbol)) (
       some (0,false)) (
       AG (XY a2 a2 (!decide (a1.guard=(-1))) a0 a1) fun o2=>
       CX o2 (fun o3=>
        AG (aRk a2 a0 a1 o3 0) fun o12=>
        CX o12 (fun o13=>
         AT a0.symbols a1.symbol fun x15=>
         AG (Zh a0 x15 a2 o13) fun r16=>
         some (o13,r16)) (fun o14=>
         some (0,false))) (fun o4=>
        some (0,false))))))))
def Qf(a0:AD)(a1:B0)(a2:Int):Option (Bool):=
 AE (decide (a1.kind=1)) (
  AE (decide (a1.n=0)) (
   AG (Zp a1.value) fun r1=>
   AE (r1) (
    some (decide (a1.value.kind=a2))) (
    some false)) (
   some false)) (
  AE (!(X0.eqb a1.value (X0.mk 0 0 ([]:List UInt8) false))) (
   some false) (
   AE (decide (a1.kind=2)) (
    AE (decide (0<=a1.n)) (
     AE (decide (a1.n<(a0.quants.length:Int))) (
      AT a0.quants a1.n fun x2=>
      some (decide (x2.type=a2))) (
      some false)) (
     some false)) (
    AE (decide (a1.kind=3)) (
     AE (decide (0<=a1.n)) (
      AE (decide (a1.n<(a0.frees.length:Int))) (
       AT a0.frees a1.n fun x3=>
       some (decide (x3.init_.kind=a2))) (
       some false)) (
      some false)) (
     AE (decide (a1.kind=4)) (
      some (decide (a1.n=0))) (
      some false)))))
def JI(w2:AD)(w3:X5)(s5:Int):Option ((Int)⊕(Unit⊕Unit)):=
 AE (decide (s5<(w3.args.length:Int))) (
  AT w3.args s5 fun x2=>
  AT w2.decls w3.event fun x3=>
  AT x3.types s5 fun x4=>
  AG (Qf w2 x2 x4) fun r5=>
  AE (!r5) (
   some (.inr (.inr ()))) (
   some (.inl (AA .add .i64 s5 1)))) (
  some (.inr (.inl ())))
def aVy(w2:AD)(w3:X5)(s5:Int):Option (Unit⊕Unit):=AQ (fun s:Int=>JI w2 w3 s) s5
def Ze(a0:AD)(a1:X5):Option (Bool):=
 AE (decide (a1.event<0)) (
  some false) (
  AE (decide ((a0.decls.length:Int)<=a1.event)) (
   some false) (
   AT a0.decls a1.event fun x1=>
   AE (!decide ((a1.args.length:Int)=(x1.types.length:Int))) (
    some false) (
    AG (aVy a0 a1 0) fun o6=>
    CX o6 (fun o7=>
     some true) (fun o8=>
     some false))))
def JO(w2 w3:X5)(s5:Int):Option ((Int)⊕(Unit⊕Unit)):=
 AE (decide (s5<(w2.args.length:Int))) (
  AT w2.args s5 fun x1=>
  AT w3.args s5 fun x2=>
  AE (!(B0.eqb x1 x2)) (
   some (.inr (.inr ()))) (
   some (.inl (AA .add .i64 s5 1)))) (
  some (.inr (.inl ())))
def aVz(w2 w3:X5)(s5:Int):Option (Unit⊕Unit):=AQ (fun s:Int=>JO w2 w3 s) s5
def Zm(a0 a1:X5):Option (Bool):=
 AE (!decide (a0.event=a1.event)) (
  some false) (
  AE (!decide ((a0.args.length:Int)=(a1.args.length:Int))) (
   some false) (
   AG (aVz a0 a1 0) fun o3=>
   CX o3 (fun o4=>
    some true) (fun o5=>
    some false)))
def VD(s5 s6:Int)(s34:Bool)(w1:AD)(w3:List Bool)(w4:List Int):Option ((List Int)):=
 AE (s34) (
  AU (fit w4.length [s6].length 8) (
   some (w4++[s6]))) (
  some w4)
def aG1(s5:Int)(w1:AD)(w3:List Bool)(w4:List Int):Option ((List Bool×List Int)):=
 AT w1.trans s5 fun x5=>
 AU (0<=x5.symbol/\x5.symbol+1<=(w3.length:Int)) (
  AT w3 x5.symbol fun x6=>
  AG (VD s5 x5.symbol (!x6) w1 w3 w4) fun o7=>
  AU (0<=x5.symbol/\x5.symbol+1<=(w3.length:Int)) (
   AU (0<=x5.symbol/\x5.symbol+1<=(w3.length:Int)) (
    some (w3.set x5.symbol.toNat true,o7))))
def IM(w1:AD)(s5:Int)(w3:List Bool)(w4:List Int):Option ((Int×List Bool×List Int)⊕((List Int))):=
 AE (decide (s5<(w1.trans.length:Int))) (
  AG (aG1 s5 w1 w3 w4) fun o8=>
  some (.inl ((AA .add .i64 s5 1),o8.1,o8.2))) (
  some (.inr w4))
def aU6(w1:AD)(s5:Int)(w3:List Bool)(w4:List Int):Option ((List Int)):=AQ (fun s:Int×List Bool×List Int=>IM w1 s.1 s.2.1 s.2.2) (s5,w3,w4)
def IN(w1:AD)(w4:List Int)(s7:Int):Option ((Int)⊕(Unit⊕Unit)):=
 AE (decide (s7<(w4.length:Int))) (
  AT w4 s7 fun x10=>
  AE (!decide (x10=(AA .add .i64 (AA .sub .i64 (w1.symbols.length:Int) (w4.length:Int)) s7))) (
   some (.inr (.inr ()))) (
   some (.inl (AA .add .i64 s7 1)))) (
  some (.inr (.inl ())))
def aU7(w1:AD)(w4:List Int)(s7:Int):Option (Unit⊕Unit):=AQ (fun s:Int=>IN w1 w4 s) s7
def IP(s8:Int)(w1:AD)(s9:Int):Option ((Int)⊕(Unit⊕Unit)):=
 AE (decide (s9<s8)) (
  AT w1.symbols s8 fun x16=>
  AT w1.symbols s9 fun x17=>
  AG (Zm x16 x17) fun r18=>
  AE (r18) (
   some (.inr (.inr ()))) (
   some (.inl (AA .add .i64 s9 1)))) (
  some (.inr (.inl ())))
def aQz(s8:Int)(w1:AD)(s9:Int):Option (Unit⊕Unit):=AQ (fun s:Int=>IP s8 w1 s) s9
def IO(w1:AD)(s8:Int):Option ((Int)⊕(Unit⊕Unit)):=
 AE (decide (s8<(w1.symbols.length:Int))) (
  AT w1.symbols s8 fun x14=>
  AG (Ze w1 x14) fun r15=>
  AE (!r15) (
   some (.inr (.inr ()))) (
   AG (aQz s8 w1 0) fun o19=>
   CX o19 (fun o20=>
    some (.inl (AA .add .i64 s8 1))) (fun o21=>
    some (.inr (.inr ()))))) (
  some (.inr (.inl ())))
def aU8(w1:AD)(s8:Int):Option (Unit⊕Unit):=AQ (fun s:Int=>IO w1 s) s8
def FJ(s10:Int)(w1:AD)(s11:Bool)(s12:Int):Option ((Bool×Int)⊕(Bool)):=
 AE (decide (s12<(w1.symbols.length:Int))) (
  AE (s11) (
   some (.inl (true,(AA .add .i64 s12 1)))) (
   AT w1.symbols s12 fun x25=>
   AG (Z2 x25 s10) fun r26=>
   some (.inl (r26,(AA .add .i64 s12 1))))) (
  some (.inr s11))
def VE(s10:Int)(w1:AD)(s11:Bool)(s12:Int):Option (Bool):=AQ (fun s:Bool×Int=>FJ s10 w1 s.1 s.2) (s11,s12)
def IQ(w1:AD)(s10:Int):Option ((Int)⊕(Unit⊕Unit)):=
 AE (decide (s10<(w1.quants.length:Int))) (
  AG (VE s10 w1 false 0) fun o27=>
  AE (!o27) (
   some (.inr (.inr ()))) (
   some (.inl (AA .add .i64 s10 1)))) (
  some (.inr (.inl ())))
def aU9(w1:AD)(s10:Int):Option (Unit⊕Unit):=AQ (fun s:Int=>IQ w1 s) s10
def Xb(a0:AD):Option (Bool):=
 AU (0<=(a0.symbols.length:Int)/\fit 0 (a0.symbols.length:Int).toNat 1) (
  AG (aU6 a0 0 (List.replicate (a0.symbols.length:Int).toNat false) ([]:List Int)) fun o9=>
  AG (aU7 a0 o9 0) fun o11=>
  CX o11 (fun o12=>
   AG (aU8 a0 0) fun o22=>
   CX o22 (fun o23=>
    AG (aU9 a0 0) fun o28=>
    CX o28 (fun o29=>
     some true) (fun o30=>
     some false)) (fun o24=>
    some false)) (fun o13=>
   some false))
def I8(w1:AD)(s5 s6:Int):Option ((Int×Int)⊕(Int⊕Unit)):=
 AE (decide (s6<(w1.trans.length:Int))) (
  AT w1.trans s6 fun x3=>
  AG (Y9 w1 x3 s5) fun r4=>
  AE (!r4.2) (
   some (.inr (.inr ()))) (
   some (.inl (r4.1,(AA .add .i64 s6 1))))) (
  some (.inr (.inl s5)))
def aVq(w1:AD)(s5 s6:Int):Option (Int⊕Unit):=AQ (fun s:Int×Int=>I8 w1 s.1 s.2) (s5,s6)
def Yx(a0:AD):Option (Bool):=
 AG (Y8 a0.decls) fun r1=>
 AE (!decide (r1.1=0)) (
  some false) (
  AE (decide (8<(a0.quants.length:Int))) (
   some false) (
   AE (decide (16<(a0.frees.length:Int))) (
    some false) (
    AE (decide (32<(a0.states.length:Int))) (
     some false) (
     AE (decide (64<(a0.symbols.length:Int))) (
      some false) (
      AE (decide (2048<(a0.nodes.length:Int))) (
       some false) (
       AE (decide (256<(a0.trans.length:Int))) (
        some false) (
        AE (decide (a0.start<0)) (
         some false) (
         AE (decide ((a0.states.length:Int)<=a0.start)) (
          some false) (
          AG (Xs a0) fun r2=>
          AE (!r2) (
           some false) (
           AG (aVq a0 0 0) fun o5=>
           CX o5 (fun o6=>
            AE (decide (o6=(a0.nodes.length:Int))) (
             AG (Xb a0) fun r8=>
             some r8) (
             some false)) (fun o7=>
            some false)))))))))))
def JE(w1:AD)(s3:Int):Option ((Int)⊕(Unit⊕Unit)):=
 AE (decide (s3<(w1.trans.length:Int))) (
  AT w1.trans s3 fun x1=>
  AE (!decide (x1.guard=(-1))) (
   some (.inr (.inr ()))) (
   some (.inl (AA .add .i64 s3 1)))) (
  some (.inr (.inl ())))
def aR6(w1:AD)(s3:Int):Option (Unit⊕Unit):=AQ (fun s:Int=>JE w1 s) s3
def Z7(a0:AD):Option (Bool):=
 AE (decide (0<(a0.frees.length:Int))) (
  some false) (
  AE (decide (1<(a0.quants.length:Int))) (
   some false) (
   AE (decide (8<(a0.states.length:Int))) (
    some false) (
    AE (decide (8<(a0.symbols.length:Int))) (
     some false) (
     AG (aR6 a0 0) fun o2=>
     CX o2 (fun o3=>
      some true) (fun o4=>
      some false)))))
def JK(s0:List X2)(s3:Int):Option ((Int)⊕(Unit⊕Unit)):=
 AE (decide (s3<(s0.length:Int))) (
  AT s0 s3 fun x1=>
  AE (decide (x1.var<0)) (
   some (.inr (.inr ()))) (
   AT s0 s3 fun x2=>
   AE (decide (7<x2.var)) (
    some (.inr (.inr ()))) (
    AT s0 s3 fun x3=>
    AG (Zp x3.value) fun r4=>
    AE (!r4) (
     some (.inr (.inr ()))) (
     AE (decide (0<s3)) (
      AT s0 s3 fun x5=>
      AT s0 (AA .sub .i64 s3 1) fun x6=>
      AE (decide (x5.var<=x6.var)) (
       some (.inr (.inr ()))) (
       some (.inl (AA .add .i64 s3 1)))) (
      some (.inl (AA .add .i64 s3 1))))))) (
  some (.inr (.inl ())))
def aSd(s0:List X2)(s3:Int):Option (Unit⊕Unit):=AQ (fun s:Int=>JK s0 s) s3
def Zi(a0:List X2):Option (Bool):=
 AG (aSd a0 0) fun o7=>
 CX o7 (fun o8=>
  some true) (fun o9=>
  some false)
def Qg(a0:AD)(a1:List X2):Option (Bool):=
 AE (decide ((a1.length:Int)=0)) (
  some true) (
  AE (decide ((a1.length:Int)=1)) (
   AE (decide ((a0.quants.length:Int)=1)) (
    AT a1 0 fun x1=>
    AE (decide (x1.var=0)) (
     AT a1 0 fun x2=>
     AT a0.quants 0 fun x3=>
     AE (decide (x2.value.kind=x3.type)) (
      AG (Zi a1) fun r4=>
      some r4) (
      some false)) (
     some false)) (
    some false)) (
   some false))
def JL(s1:List X2)(w2:AD)(s5:Int):Option ((Int)⊕(Unit⊕Unit)):=
 AE (decide (s5<(w2.decls.length:Int))) (
  AT w2.decls s5 fun x5=>
  AE (decide (3<(x5.types.length:Int))) (
   some (.inr (.inr ()))) (
   some (.inl (AA .add .i64 s5 1)))) (
  some (.inr (.inl ())))
def aSe(s1:List X2)(w2:AD)(s5:Int):Option (Unit⊕Unit):=AQ (fun s:Int=>JL s1 w2 s) s5
def Zj(a0:AD)(a1:List X2):Option (Bool):=
 AG (Xh a0) fun r1=>
 AE (decide (r1=0)) (
  some false) (
  AG (Yx a0) fun r2=>
  AE (!r2) (
   some false) (
   AG (Z7 a0) fun r3=>
   AE (!r3) (
    some false) (
    AG (Qg a0 a1) fun r4=>
    AE (!r4) (
     some false) (
     AE (!decide ((a1.length:Int)=(a0.quants.length:Int))) (
      some false) (
      AG (aSe a1 a0 0) fun o6=>
      CX o6 (fun o7=>
       AE (decide ((a1.length:Int)=0)) (
        some true) (
        AT a1 0 fun x9=>
        some (decide ((x9.value.str.length:Int)<=100)))) (fun o8=>
       some false))))))
def aKj(s1 s5 s6:Int)(s9:List X5)(s10 s11:Int)(s19:Bool):Option (Int):=
 AE (s19) (
  AU (0<=(IntKind.wrap .u64 s6)) (
   some (AA .or .u64 s5 (AA .shl .u64 1 (IntKind.wrap .u64 s6))))) (
  some s5)
def aKh(s1 s5:Int)(s9:List X5)(s10 s11:Int):Option (Int):=
 AT s9 s11 fun x1=>
 AG (aKj s1 s5 s11 s9 s10 s11 (decide (x1.event=s1))) fun o2=>
 some o2
def HF(s1:Int)(s9:List X5)(s10 s5 s11:Int):Option ((Int×Int)⊕(Int)):=
 AE (decide (s11<s10)) (
  AG (aKh s1 s5 s9 s10 s11) fun o3=>
  some (.inl (o3,(AA .add .i64 s11 1)))) (
  some (.inr s5))
def XR(s1:Int)(s9:List X5)(s10 s5 s11:Int):Option (Int):=AQ (fun s:Int×Int=>HF s1 s9 s10 s.1 s.2) (s5,s11)
def Y7(a0:AD)(a1:Int):Option (Int):=
 AG (XR a1 a0.symbols (a0.symbols.length:Int) 0 0) fun o4=>
 some o4
def Qo:Option (Unit):=
 some ()
def Qb(a0:Bool):Option (X0):=
 some (X0.mk 3 0 ([]:List UInt8) a0)
def Q5(a0 a1:X0):Option (Bool):=
 AE (!decide (a0.kind=a1.kind)) (
  some (decide (a0.kind<a1.kind))) (
  AE (decide (a0.kind=1)) (
   some (decide (a0.int<a1.int))) (
   AE (decide (a0.kind=2)) (
    some (Op.bytesLess a0.str a1.str)) (
    AE (!a0.bool) (
     some a1.bool) (
     some false))))
def Q8(a0 a1:X0)(a2:List X0):Option (Int):=
 AG (Q5 a0 a1) fun r1=>
 AE (r1) (
  some (-1)) (
  AG (Q5 a1 a0) fun r2=>
  AE (r2) (
   some 1) (
   some 0))
def Wy(s0 s2:List X0)(s8 s9:Int)(s10 s11:Int)(s31:Bool)(w4:X0):Option ((Int×Int)):=
 AE (s31) (
  some ((AA .add .i64 s11 1),s10)) (
  some (s9,s11))
def aJq(s0 s2:List X0)(s8 s9 s10:Int)(w4:X0):Option ((Int×Int)):=
 AT s0 (IntKind.wrap .i64 (AA .shr .u64 (IntKind.wrap .u64 (AA .add .i64 s9 s10)) 1)) fun x1=>
 AG (Q8 x1 w4 s2) fun r2=>
 AG (Wy s0 s2 s8 s9 s10 (IntKind.wrap .i64 (AA .shr .u64 (IntKind.wrap .u64 (AA .add .i64 s9 s10)) 1)) (decide (r2<0)) w4) fun o3=>
 some (o3.1,o3.2)
def F9(s0 s2:List X0)(s8:Int)(w4:X0)(s9 s10:Int):Option ((Int×Int)⊕(Int)):=
 AE (decide (s9<s10)) (
  AG (aJq s0 s2 s8 s9 s10 w4) fun o4=>
  some (.inl (o4.1,o4.2))) (
  some (.inr s9))
def S5(s0 s2:List X0)(s8:Int)(w4:X0)(s9 s10:Int):Option (Int):=AQ (fun s:Int×Int=>F9 s0 s2 s8 w4 s.1 s.2) (s9,s10)
def Y0(a0:List X0)(a1:X0)(a2:List X0):Option (Int×Bool):=
 AG (S5 a0 a2 (a0.length:Int) a1 0 (a0.length:Int)) fun o5=>
 AE (decide (o5<(a0.length:Int))) (
  AT a0 o5 fun x6=>
  AG (Q8 x6 a1 a2) fun r7=>
  some (o5,decide (r7=0))) (
  some (o5,false))
def Qu(i:Int)(ys:List X0):Option (List X0):=aXr 40 i ys
def aBs(s5:Int)(s6 s20:Bool)(w3:X0):Option ((List X0)):=
 AE (s20) (
  AG (Qu s5 [w3]) fun r2=>
  some r2) (
  some ([]:List X0))
def Zn(a1:X0):Option (Bool×List X0):=
 AG (Y0 ([]:List X0) a1 ([]:List X0)) fun r1=>
 AG (aBs r1.1 r1.2 (!r1.2) a1) fun o3=>
 some (!r1.2,o3)
def Qt(i:Int)(xs ys:List X0):Option (List X0):=aXq 40 i xs ys
def aAz(s5:Int)(s6 s20:Bool)(w3:X0)(w501:List X0):Option ((List X0)):=
 AE (s20) (
  AG (Qt s5 w501 [w3]) fun r2=>
  some r2) (
  some w501)
def Z8(a1:X0)(w1:List X0):Option (Bool×List X0):=
 AG (Y0 w1 a1 w1) fun r1=>
 AG (aAz r1.1 r1.2 (!r1.2) a1 w1) fun o3=>
 some (!r1.2,o3)
def Qv(l:List X0):Option (List X0):=RZ 40 l
def Qh(w1:List X0):Option (List X0×List X0):=
 AG (Qv w1) fun r1=>
 some (r1,w1)
def OA(s1:Int)(s12:Bool)(w2:AD):Option ((List X0)):=
 AE (s12) (
  AG (Qb false) fun r2=>
  AG (Zn r2) fun r3=>
  AG (Qb true) fun r4=>
  AG (Z8 r4 r3.2) fun r5=>
  some r5.2) (
  some ([]:List X0))
def OD(s1:Int)(s20:List X5)(s21 s22:Int)(s27:List B0)(s28 s29:Int)(s42:Bool)(w9:B0)(w518:List X0):Option ((List X0)):=
 AE (s42) (
  AG (Z8 w9.value w518) fun r9=>
  some r9.2) (
  some w518)
def SX(s1:Int)(s20:List X5)(s21 s22:Int)(s27:List B0)(s28 s29:Int)(w518:List X0):Option ((List X0)):=
 AT s27 s29 fun x8=>
 AE (decide (x8.kind=1)) (
  AG (OD s1 s20 s21 s22 s27 s28 s29 (decide (x8.value.kind=s1)) x8 w518) fun o10=>
  some o10) (
  AG (OD s1 s20 s21 s22 s27 s28 s29 false x8 w518) fun o11=>
  some o11)
def Fx(s1:Int)(s20:List X5)(s21 s22:Int)(s27:List B0)(s28 s29:Int)(w518:List X0):Option ((Int×List X0)⊕((List X0))):=
 AE (decide (s29<s28)) (
  AG (SX s1 s20 s21 s22 s27 s28 s29 w518) fun o12=>
  some (.inl ((AA .add .i64 s29 1),o12))) (
  some (.inr w518))
def SZ(s1:Int)(s20:List X5)(s21 s22:Int)(s27:List B0)(s28 s29:Int)(w518:List X0):Option ((List X0)):=AQ (fun s:Int×List X0=>Fx s1 s20 s21 s22 s27 s28 s.1 s.2) (s29,w518)
def Fw(s1:Int)(s20:List X5)(s21 s22:Int)(w518:List X0):Option ((Int×List X0)⊕((List X0))):=
 AE (decide (s22<s21)) (
  AT s20 s22 fun x7=>
  AG (SZ s1 s20 s21 s22 x7.args (x7.args.length:Int) 0 w518) fun o13=>
  some (.inl ((AA .add .i64 s22 1),o13))) (
  some (.inr w518))
def Uy(s1:Int)(s20:List X5)(s21 s22:Int)(w518:List X0):Option ((List X0)):=AQ (fun s:Int×List X0=>Fw s1 s20 s21 s.1 s.2) (s22,w518)
def X9(a0:AD)(a1:Int):Option (List X0):=
 AG (Qo) fun r1=>
 AG (OA a1 (decide (a1=3)) a0) fun o6=>
 AG (Uy a1 a0.symbols (a0.symbols.length:Int) 0 o6) fun o14=>
 AG (Qh o14) fun r15=>
 some r15.1
def HI(s0:List X0)(s7:Int)(w3:X0)(s8:Int):Option ((Int)⊕(Unit⊕Int)):=
 AE (decide (s8<s7)) (
  AT s0 s8 fun x1=>
  AE ((X0.eqb w3 x1)) (
   some (.inr (.inr s8))) (
   some (.inl (AA .add .i64 s8 1)))) (
  some (.inr (.inl ())))
def TE(s0:List X0)(s7:Int)(w3:X0)(s8:Int):Option (Unit⊕Int):=AQ (fun s:Int=>HI s0 s7 w3 s) s8
def Yi(a0:List X0)(a1:X0):Option (Int):=
 AG (TE a0 (a0.length:Int) a1 0) fun o2=>
 CX o2 (fun o3=>
  some (-1)) (fun o4=>
  some o4)
def Zr(a0:List X0)(a1:X0):Option (Bool):=
 AG (Yi a0 a1) fun r1=>
 some (decide (0<=r1))
def Qp(n:Int):Option (List X0):=aN3 40 n
def V2(s0:List (List X0))(s3:Int)(s9:List (List X0))(s10 s11:Int)(s20:Bool):Option (Unit):=
 AE (s20) (
  none) (
  some ())
def V1(s0:List (List X0))(s3:Int)(s9:List (List X0))(s10 s11:Int):Option (Int):=
 AT s9 s11 fun x1=>
 AG (V2 s0 (AA .add .i64 s3 (x1.length:Int)) s9 s10 s11 (decide ((AA .add .i64 s3 (x1.length:Int))<0))) fun o2=>
 some (AA .add .i64 s3 (x1.length:Int))
def F4(s0 s9:List (List X0))(s10 s3 s11:Int):Option ((Int×Int)⊕(Int)):=
 AE (decide (s11<s10)) (
  AG (V1 s0 s3 s9 s10 s11) fun o3=>
  some (.inl (o3,(AA .add .i64 s11 1)))) (
  some (.inr s3))
def OY(s0 s9:List (List X0))(s10 s3 s11:Int):Option (Int):=AQ (fun s:Int×Int=>F4 s0 s9 s10 s.1 s.2) (s3,s11)
theorem LF(s0 s9:List (List X0))(s10 s3 s11:Int):OY s0 s9 s10 s3 s11=CW (F4 s0 s9 s10 s3 s11) (fun s:Int×Int=>OY s0 s9 s10 s.1 s.2):=Aj _ _
def F5(s25:List (List X0))(s26 s27:Int)(w6:List X0):Option ((Int×List X0)⊕((List X0))):=
 AE (decide (s27<s26)) (
  AT s25 s27 fun x6=>
  AU (fit w6.length x6.length 40) (
   some (.inl ((AA .add .i64 s27 1),w6++x6)))) (
  some (.inr w6))
def Oa(s25:List (List X0))(s26 s27:Int)(w6:List X0):Option ((List X0)):=AQ (fun s:Int×List X0=>F5 s25 s26 s.1 s.2) (s27,w6)
theorem LG(s25:List (List X0))(s26 s27:Int)(w6:List X0):Oa s25 s26 s27 w6=CW (F5 s25 s26 s27 w6) (fun s:Int×List X0=>Oa s25 s26 s.1 s.2):=Aj _ _
def Xk(a0:List (List X0)):Option (List X0):=
 AG (OY a0 a0 (a0.length:Int) 0 0) fun o4=>
 AG (Qp o4) fun r5=>
 AG (Oa a0 (a0.length:Int) 0 r5) fun o7=>
 some o7
def aIz(s0:Int)(s1:List X0)(s20:Bool)(w4 w6:X0):Option (X0):=
 AE (s20) (
  some (X0.mk w6.kind (AA .add .i64 w6.int 1) w6.str w6.bool)) (
  AU (w6.str.length+([97]:List UInt8).length<=9223372036854775807) (
   some (X0.mk w6.kind w6.int (w6.str++([97]:List UInt8)) w6.bool)))
def Su(s0:Int)(s1:List X0)(w4 w6:X0):Option (X0):=
 AG (aIz s0 s1 (decide (s0=1)) w4 w6) fun o2=>
 some o2
def F7(s0:Int)(s1:List X0)(w4 w6:X0):Option ((X0)⊕(X0)):=
 AG (Zr s1 w6) fun r1=>
 AE (r1) (
  AG (Su s0 s1 w4 w6) fun o3=>
  some (.inl o3)) (
  some (.inr w6))
def MQ(s0:Int)(s1:List X0)(w4 w6:X0):Option (X0):=AQ (fun s:X0=>F7 s0 s1 w4 s) w6
theorem QQ(s0:Int)(s1:List X0)(w4 w6:X0):MQ s0 s1 w4 w6=CW (F7 s0 s1 w4 w6) (fun s:X0=>MQ s0 s1 w4 s):=Aj _ _
def Xt(a0:Int)(a1:List X0):Option (X0×Bool):=
 AE (!decide (a0=1)) (
  AE (!decide (a0=2)) (
   some (X0.mk 0 0 ([]:List UInt8) false,false)) (
   AG (MQ a0 a1 (X0.mk 0 0 ([]:List UInt8) false) (X0.mk a0 0 ([]:List UInt8) false)) fun o4=>
   some (o4,true))) (
  AG (MQ a0 a1 (X0.mk 0 0 ([]:List UInt8) false) (X0.mk a0 0 ([]:List UInt8) false)) fun o5=>
  some (o5,true))
def Oe(s1:List X0)(s5:Int)(s28:List X2)(s29 s30:Int)(s45:Bool)(w6:List X0)(w8:X2):Option ((List X0)):=
 AE (s45) (
  AU (fit w6.length [w8.value].length 40) (
   some (w6++[w8.value]))) (
  some w6)
def Sm(s1:List X0)(s5:Int)(s28:List X2)(s29 s30:Int)(w6:List X0):Option ((List X0)):=
 AT s28 s30 fun x4=>
 AE (decide (x4.value.kind=s5)) (
  AG (Zr w6 x4.value) fun r5=>
  AG (Oe s1 s5 s28 s29 s30 (!r5) w6 x4) fun o6=>
  some o6) (
  AG (Oe s1 s5 s28 s29 s30 false w6 x4) fun o7=>
  some o7)
def F6(s1:List X0)(s5:Int)(s28:List X2)(s29 s30:Int)(w6:List X0):Option ((Int×List X0)⊕((List X0))):=
 AE (decide (s30<s29)) (
  AG (Sm s1 s5 s28 s29 s30 w6) fun o8=>
  some (.inl ((AA .add .i64 s30 1),o8))) (
  some (.inr w6))
def Sn(s1:List X0)(s5:Int)(s28:List X2)(s29 s30:Int)(w6:List X0):Option ((List X0)):=AQ (fun s:Int×List X0=>F6 s1 s5 s28 s29 s.1 s.2) (s30,w6)
def Of(s61:Bool)(w6:List X0)(w9:X0):Option ((List X0)):=
 AE (s61) (
  AU (fit w6.length [w9].length 40) (
   some (w6++[w9]))) (
  some w6)
def Xn(a0:Xq)(a1:List X0):Option (List X0):=
 AT a0.q.decls a0.d_ fun x1=>
 AT x1.types a0.at_ fun x2=>
 AG (X9 a0.q x2) fun r3=>
 AG (Sn a1 x2 a0.b (a0.b.length:Int) 0 r3) fun o9=>
 AG (Xk [o9,a1]) fun r10=>
 AG (Xt x2 r10) fun r11=>
 AG (Of r11.2 o9 r11.1) fun o12=>
 some o12
def HJ(s1:Int)(s8:List X2)(s9:Int)(w4:X0)(s10:Int):Option ((Int)⊕(Unit⊕X0)):=
 AE (decide (s10<s9)) (
  AT s8 s10 fun x1=>
  AE (decide (x1.var=s1)) (
   some (.inr (.inr x1.value))) (
   some (.inl (AA .add .i64 s10 1)))) (
  some (.inr (.inl ())))
def ZH(s1:Int)(s8:List X2)(s9:Int)(w4:X0)(s10:Int):Option (Unit⊕X0):=AQ (fun s:Int=>HJ s1 s8 s9 w4 s) s10
def Yj(a0:List X2)(a1:Int):Option (X0×Bool):=
 AG (ZH a1 a0 (a0.length:Int) (X0.mk 0 0 ([]:List UInt8) false) 0) fun o2=>
 CX o2 (fun o3=>
  some (X0.mk 0 0 ([]:List UInt8) false,false)) (fun o4=>
  some (o4,true))
def Zw(a0:Xq)(a1:B0)(a2:X0):Option (Bool):=
 AE (decide (a1.kind=1)) (
  some (X0.eqb a1.value a2)) (
  AE (decide (a1.kind=2)) (
   AG (Yj a0.b a1.n) fun r1=>
   AE (r1.2) (
    some (X0.eqb r1.1 a2)) (
    some false)) (
   some true))
def Oj(s6 s7:Int)(s11:List X5)(s12 s13:Int)(s34:Bool)(w2:Xq)(w3:X0):Option (Int):=
 AE (s34) (
  AU (0<=(IntKind.wrap .u64 s7)) (
   some (AA .or .u64 s6 (AA .shl .u64 1 (IntKind.wrap .u64 s7))))) (
  some s6)
def Sw(s6:Int)(s11:List X5)(s12 s13:Int)(w2:Xq)(w3:X0):Option (Int):=
 AT s11 s13 fun x1=>
 AE (decide (x1.event=w2.d_)) (
  AT x1.args w2.at_ fun x2=>
  AG (Zw w2 x2 w3) fun r3=>
  AG (Oj s6 s13 s11 s12 s13 r3 w2 w3) fun o4=>
  some o4) (
  AG (Oj s6 s13 s11 s12 s13 false w2 w3) fun o5=>
  some o5)
def F8(s11:List X5)(s12:Int)(w2:Xq)(w3:X0)(s6 s13:Int):Option ((Int×Int)⊕(Int)):=
 AE (decide (s13<s12)) (
  AG (Sw s6 s11 s12 s13 w2 w3) fun o6=>
  some (.inl (o6,(AA .add .i64 s13 1)))) (
  some (.inr s6))
def WV(s11:List X5)(s12:Int)(w2:Xq)(w3:X0)(s6 s13:Int):Option (Int):=AQ (fun s:Int×Int=>F8 s11 s12 w2 w3 s.1 s.2) (s6,s13)
def Xu(a0:Xq)(a1:X0):Option (Int):=
 AG (WV a0.q.symbols (a0.q.symbols.length:Int) a0 a1 0 0) fun o7=>
 some o7
def F1(s8:Int)(s12:List X0)(s13 s14:Int)(w0:List (Int×Bool))(w3:Xq)(k:Int)(v:Bool)(w5:List (Int×Bool)):Option ((List (Int×Bool))):=
 some (GP (AA .and .u64 k s8) true w5)
def Ib(s8:Int)(s12:List X0)(s13 s14:Int)(w0:List (Int×Bool))(w3:Xq)(s:(List (Int×Bool))):(List (Int×Bool)):=(fun s:(List (Int×Bool))=>(aOd s:(List (Int×Bool)))) s
def Vq(s8:Int)(s12:List X0)(s13 s14:Int)(w0:List (Int×Bool))(w3:Xq)(w5:List (Int×Bool)):Option ((List (Int×Bool))):=Fi (Ib s8 s12 s13 s14 w0 w3) w0 (fun(x:Int×Bool) (s:(List (Int×Bool)))=>F1 s8 s12 s13 s14 w0 w3 x.1 x.2 s) w5
def Sh(s8:Int)(s12:List X0)(s13 s14:Int)(w0:List (Int×Bool))(w3:Xq)(w5:List (Int×Bool)):Option ((List (Int×Bool))):=
 AG (Vq s8 s12 s13 s14 w0 w3 w5) fun o4=>
 some o4
def Fz(s12:List X0)(s13:Int)(w0:List (Int×Bool))(w3:Xq)(s14:Int)(w5:List (Int×Bool)):Option ((Int×(List (Int×Bool)))⊕((List (Int×Bool)))):=
 AE (decide (s14<s13)) (
  AT s12 s14 fun x2=>
  AG (Xu w3 x2) fun r3=>
  AG (Sh r3 s12 s13 s14 w0 w3 w5) fun o5=>
  some (.inl ((AA .add .i64 s14 1),o5))) (
  some (.inr w5))
def Vn(s12:List X0)(s13:Int)(w0:List (Int×Bool))(w3:Xq)(s14:Int)(w5:List (Int×Bool)):Option ((List (Int×Bool))):=AQ (fun s:Int×(List (Int×Bool))=>Fz s12 s13 w0 w3 s.1 s.2) (s14,w5)
def Xi(a1:Xq)(w0:List (Int×Bool)):Option ((List (Int×Bool))):=
 AG (Xn a1 ([]:List X0)) fun r1=>
 AG (Vn r1 (r1.length:Int) w0 a1 0 ([]:List (Int×Bool))) fun o6=>
 some o6
def aAk(s0 s2:Int)(s4:Bool):Option ((Int×Int)):=
 AE (s4) (
  some ((AA .shr .u64 s0 32),32)) (
  some (s0,s2))
def aAl(s0 s2:Int)(s8:Bool):Option ((Int×Int)):=
 AE (s8) (
  some ((AA .shr .u64 s0 16),(AA .add .i64 s2 16))) (
  some (s0,s2))
def aAm(s0 s2:Int)(s14:Bool):Option ((Int×Int)):=
 AE (s14) (
  some ((AA .shr .u64 s0 8),(AA .add .i64 s2 8))) (
  some (s0,s2))
def Z0(a0:Int):Option (Int):=
 AG (aAk a0 0 (decide (4294967296<=a0))) fun o1=>
 AG (aAl o1.1 o1.2 (decide (65536<=o1.1))) fun o2=>
 AG (aAm o2.1 o2.2 (decide (256<=o2.1))) fun o3=>
 AT ([0,1,2,2,3,3,3,3,4,4,4,4,4,4,4,4,5,5,5,5,5,5,5,5,5,5,5,5,5,5,5,5,6,6,6,6,6,6,6,6,6,6,6,6,6,6,6,6,6,6,6,6,6,6,6,6,6,6,6,6,6,6,6,6,7,7,7,7,7,7,7,7,7,7,7,7,7,7,7,7,7,7,7,7,7,7,7,7,7,7,7,7,7,7,7,7,7,7,7,7,7,7,7,7,7,7,7,7,7,7,7,7,7,7,7,7,7,7,7,7,7,7,7,7,7,7,7,7,8,8,8,8,8,8,8,8,8,8,8,8,8,8,8,8,8,8,8,8,8,8,8,8,8,8,8,8,8,8,8,8,8,8,8,8,8,8,8,8,8,8,8,8,8,8,8,8,8,8,8,8,8,8,8,8,8,8,8,8,8,8,8,8,8,8,8,8,8,8,8,8,8,8,8,8,8,8,8,8,8,8,8,8,8,8,8,8,8,8,8,8,8,8,8,8,8,8,8,8,8,8,8,8,8,8,8,8,8,8,8,8,8,8,8,8,8,8,8,8,8,8,8,8,8,8,8,8]:List UInt8) ((u8w o3.1).toNat:Int) fun x4=>
 some (AA .add .i64 o3.2 (x4.toNat:Int))
def Qc(a0:Int):Option (Int):=
 AG (Z0 a0) fun r1=>
 some r1
def Qd(a0:Int):Option (Bool):=
 some (!decide (a0=a0))
def Yk(a0 a1:Int):Option (Bool):=
 AG (Qd a0) fun r1=>
 AE (r1) (
  AG (Qd a1) fun r2=>
  AE (!r2) (
   some true) (
   some (decide (a0<a1)))) (
  some (decide (a0<a1)))
def E1(s1 s2:Int)(s6 s7:Int)(w0:List Int):Option ((Int×List Int)⊕((List Int))):=
 AE (decide (s1<s7)) (
  AU (0<=s7/\s7+1<=(w0.length:Int)) (
   AT w0 s7 fun x1=>
   AU (0<=(AA .sub .i64 s7 1)/\(AA .sub .i64 s7 1)+1<=(w0.length:Int)) (
    AT w0 (AA .sub .i64 s7 1) fun x2=>
    AG (Yk x1 x2) fun r3=>
    AE (r3) (
     AU (0<=(AA .sub .i64 s7 1)/\(AA .sub .i64 s7 1)+1<=(w0.length:Int)) (
      AT w0 (AA .sub .i64 s7 1) fun x4=>
      AU (0<=s7/\s7+1<=(w0.length:Int)) (
       AT w0 s7 fun x5=>
       AU (0<=s7/\s7+1<=(w0.length:Int)) (
        AU (0<=s7/\s7+1<=(w0.length:Int)) (
         AU (0<=(AA .sub .i64 s7 1)/\(AA .sub .i64 s7 1)+1<=((w0.set s7.toNat x4).length:Int)) (
          AU (0<=(AA .sub .i64 s7 1)/\(AA .sub .i64 s7 1)+1<=((w0.set s7.toNat x4).length:Int)) (
           some (.inl ((AA .sub .i64 s7 1),(w0.set s7.toNat x4).set (AA .sub .i64 s7 1).toNat x5))))))))) (
     some (.inr w0))))) (
  some (.inr w0))
def TA(s1 s2:Int)(s6 s7:Int)(w0:List Int):Option ((List Int)):=AQ (fun s:Int×List Int=>E1 s1 s2 s6 s.1 s.2) (s7,w0)
theorem RC(s1 s2:Int)(s6 s7:Int)(w0:List Int):TA s1 s2 s6 s7 w0=CW (E1 s1 s2 s6 s7 w0) (fun s:Int×List Int=>TA s1 s2 s6 s.1 s.2):=Aj _ _
def HC(s1 s2 s6:Int)(w0:List Int):Option ((Int×List Int)⊕((List Int))):=
 AE (decide (s6<s2)) (
  AG (TA s1 s2 s6 s6 w0) fun o6=>
  some (.inl ((AA .add .i64 s6 1),o6))) (
  some (.inr w0))
def S9(s1 s2 s6:Int)(w0:List Int):Option ((List Int)):=AQ (fun s:Int×List Int=>HC s1 s2 s.1 s.2) (s6,w0)
theorem Qz(s1 s2 s6:Int)(w0:List Int):S9 s1 s2 s6 w0=CW (HC s1 s2 s6 w0) (fun s:Int×List Int=>S9 s1 s2 s.1 s.2):=Aj _ _
def Y3(a1 a2:Int)(w0:List Int):Option (List Int):=
 AG (S9 a1 a2 (AA .add .i64 a1 1) w0) fun o7=>
 some o7
def LI(s2 s3:Int)(s8 s9:Int)(s36:Bool)(w0:List Int):Option (Int):=
 AE (s36) (
  some (AA .add .i64 s9 1)) (
  some s9)
def KK(s2 s3 s8:Int)(w0:List Int):Option ((Int×List Int)⊕(Unit⊕Unit)):=
 AE (decide (s2<=(AA .add .i64 (AA .mul .i64 2 s8) 1))) (
  some (.inr (.inl ()))) (
  AE (decide ((AA .add .i64 (AA .add .i64 (AA .mul .i64 2 s8) 1) 1)<s2)) (
   AU (0<=(AA .add .i64 s3 (AA .add .i64 (AA .mul .i64 2 s8) 1))/\(AA .add .i64 s3 (AA .add .i64 (AA .mul .i64 2 s8) 1))+1<=(w0.length:Int)) (
    AT w0 (AA .add .i64 s3 (AA .add .i64 (AA .mul .i64 2 s8) 1)) fun x1=>
    AU (0<=(AA .add .i64 (AA .add .i64 s3 (AA .add .i64 (AA .mul .i64 2 s8) 1)) 1)/\(AA .add .i64 (AA .add .i64 s3 (AA .add .i64 (AA .mul .i64 2 s8) 1)) 1)+1<=(w0.length:Int)) (
     AT w0 (AA .add .i64 (AA .add .i64 s3 (AA .add .i64 (AA .mul .i64 2 s8) 1)) 1) fun x2=>
     AG (Yk x1 x2) fun r3=>
     AG (LI s2 s3 s8 (AA .add .i64 (AA .mul .i64 2 s8) 1) r3 w0) fun o4=>
     AU (0<=(AA .add .i64 s3 s8)/\(AA .add .i64 s3 s8)+1<=(w0.length:Int)) (
      AT w0 (AA .add .i64 s3 s8) fun x5=>
      AU (0<=(AA .add .i64 s3 o4)/\(AA .add .i64 s3 o4)+1<=(w0.length:Int)) (
       AT w0 (AA .add .i64 s3 o4) fun x6=>
       AG (Yk x5 x6) fun r7=>
       AE (!r7) (
        some (.inr (.inr ()))) (
        AU (0<=(AA .add .i64 s3 o4)/\(AA .add .i64 s3 o4)+1<=(w0.length:Int)) (
         AT w0 (AA .add .i64 s3 o4) fun x8=>
         AU (0<=(AA .add .i64 s3 s8)/\(AA .add .i64 s3 s8)+1<=(w0.length:Int)) (
          AT w0 (AA .add .i64 s3 s8) fun x9=>
          AU (0<=(AA .add .i64 s3 s8)/\(AA .add .i64 s3 s8)+1<=(w0.length:Int)) (
           AU (0<=(AA .add .i64 s3 s8)/\(AA .add .i64 s3 s8)+1<=(w0.length:Int)) (
            AU (0<=(AA .add .i64 s3 o4)/\(AA .add .i64 s3 o4)+1<=((w0.set (AA .add .i64 s3 s8).toNat x8).length:Int)) (
             AU (0<=(AA .add .i64 s3 o4)/\(AA .add .i64 s3 o4)+1<=((w0.set (AA .add .i64 s3 s8).toNat x8).length:Int)) (
              some (.inl (o4,(w0.set (AA .add .i64 s3 s8).toNat x8).set (AA .add .i64 s3 o4).toNat x9)))))))))))))) (
   AG (LI s2 s3 s8 (AA .add .i64 (AA .mul .i64 2 s8) 1) false w0) fun o10=>
   AU (0<=(AA .add .i64 s3 s8)/\(AA .add .i64 s3 s8)+1<=(w0.length:Int)) (
    AT w0 (AA .add .i64 s3 s8) fun x11=>
    AU (0<=(AA .add .i64 s3 o10)/\(AA .add .i64 s3 o10)+1<=(w0.length:Int)) (
     AT w0 (AA .add .i64 s3 o10) fun x12=>
     AG (Yk x11 x12) fun r13=>
     AE (!r13) (
      some (.inr (.inr ()))) (
      AU (0<=(AA .add .i64 s3 o10)/\(AA .add .i64 s3 o10)+1<=(w0.length:Int)) (
       AT w0 (AA .add .i64 s3 o10) fun x14=>
       AU (0<=(AA .add .i64 s3 s8)/\(AA .add .i64 s3 s8)+1<=(w0.length:Int)) (
        AT w0 (AA .add .i64 s3 s8) fun x15=>
        AU (0<=(AA .add .i64 s3 s8)/\(AA .add .i64 s3 s8)+1<=(w0.length:Int)) (
         AU (0<=(AA .add .i64 s3 s8)/\(AA .add .i64 s3 s8)+1<=(w0.length:Int)) (
          AU (0<=(AA .add .i64 s3 o10)/\(AA .add .i64 s3 o10)+1<=((w0.set (AA .add .i64 s3 s8).toNat x14).length:Int)) (
           AU (0<=(AA .add .i64 s3 o10)/\(AA .add .i64 s3 o10)+1<=((w0.set (AA .add .i64 s3 s8).toNat x14).length:Int)) (
            some (.inl (o10,(w0.set (AA .add .i64 s3 s8).toNat x14).set (AA .add .i64 s3 o10).toNat x15)))))))))))))
def Ec(s2 s3 s8:Int)(w0:List Int):Option ((Int×List Int)⊕((List Int)⊕(List Int))):=
 AG (KK s2 s3 s8 w0) fun o16=>
 CX o16 (fun o17=>
  some (.inl (o17.1,o17.2))) (fun o18=>
  CX o18 (fun o19=>
   some (.inr (.inl w0))) (fun o20=>
   some (.inr (.inr w0))))
def S1(s2 s3 s8:Int)(w0:List Int):Option ((List Int)⊕(List Int)):=AQ (fun s:Int×List Int=>Ec s2 s3 s.1 s.2) (s8,w0)
theorem QW(s2 s3 s8:Int)(w0:List Int):S1 s2 s3 s8 w0=CW (Ec s2 s3 s8 w0) (fun s:Int×List Int=>S1 s2 s3 s.1 s.2):=Aj _ _
def Xy(a1 a2 a3:Int)(w0:List Int):Option (List Int):=
 AG (S1 a2 a3 a1 w0) fun o21=>
 CX o21 (fun o22=>
  some o22) (fun o23=>
  some o23)
def HD(s6 s7:Int)(s8 s9:Int)(w0:List Int):Option ((Int×List Int)⊕((List Int))):=
 AE (decide (0<=s9)) (
  AG (Xy s9 s8 s6 w0) fun r1=>
  some (.inl ((AA .sub .i64 s9 1),r1))) (
  some (.inr w0))
def TB(s6 s7:Int)(s8 s9:Int)(w0:List Int):Option ((List Int)):=AQ (fun s:Int×List Int=>HD s6 s7 s8 s.1 s.2) (s9,w0)
theorem RE(s6 s7:Int)(s8 s9:Int)(w0:List Int):TB s6 s7 s8 s9 w0=CW (HD s6 s7 s8 s9 w0) (fun s:Int×List Int=>TB s6 s7 s8 s.1 s.2):=Aj _ _
def HE(s6 s7 s10:Int)(w0:List Int):Option ((Int×List Int)⊕((List Int))):=
 AE (decide (0<=s10)) (
  AU (0<=(AA .add .i64 s6 s10)/\(AA .add .i64 s6 s10)+1<=(w0.length:Int)) (
   AT w0 (AA .add .i64 s6 s10) fun x3=>
   AU (0<=s6/\s6+1<=(w0.length:Int)) (
    AT w0 s6 fun x4=>
    AU (0<=s6/\s6+1<=(w0.length:Int)) (
     AU (0<=s6/\s6+1<=(w0.length:Int)) (
      AU (0<=(AA .add .i64 s6 s10)/\(AA .add .i64 s6 s10)+1<=((w0.set s6.toNat x3).length:Int)) (
       AU (0<=(AA .add .i64 s6 s10)/\(AA .add .i64 s6 s10)+1<=((w0.set s6.toNat x3).length:Int)) (
        AG (Xy s7 s10 s6 ((w0.set s6.toNat x3).set (AA .add .i64 s6 s10).toNat x4)) fun r5=>
        some (.inl ((AA .sub .i64 s10 1),r5))))))))) (
  some (.inr w0))
def TC(s6 s7 s10:Int)(w0:List Int):Option ((List Int)):=AQ (fun s:Int×List Int=>HE s6 s7 s.1 s.2) (s10,w0)
theorem RF(s6 s7 s10:Int)(w0:List Int):TC s6 s7 s10 w0=CW (HE s6 s7 s10 w0) (fun s:Int×List Int=>TC s6 s7 s.1 s.2):=Aj _ _
def Y6(a1 a2:Int)(w0:List Int):Option (List Int):=
 AG (TB a1 0 (AA .sub .i64 a2 a1) (AA .quo .i64 (AA .sub .i64 (AA .sub .i64 a2 a1) 1) 2) w0) fun o2=>
 AG (TC a1 0 (AA .sub .i64 (AA .sub .i64 a2 a1) 1) o2) fun o6=>
 some o6
def Qi(a0:Int):Option (Int):=
 AG (Qc (IntKind.wrap .u64 a0)) fun r1=>
 AU (0<=r1) (
  some (AA .shl .u64 1 r1))
def Qj(w0:Int):Option (Int×Int):=
 some ((AA .xor .u64 (AA .xor .u64 (AA .xor .u64 w0 (AA .shl .u64 w0 13)) (AA .shr .u64 (AA .xor .u64 w0 (AA .shl .u64 w0 13)) 7)) (AA .shl .u64 (AA .xor .u64 (AA .xor .u64 w0 (AA .shl .u64 w0 13)) (AA .shr .u64 (AA .xor .u64 w0 (AA .shl .u64 w0 13)) 7)) 17)),(AA .xor .u64 (AA .xor .u64 (AA .xor .u64 w0 (AA .shl .u64 w0 13)) (AA .shr .u64 (AA .xor .u64 w0 (AA .shl .u64 w0 13)) 7)) (AA .shl .u64 (AA .xor .u64 (AA .xor .u64 w0 (AA .shl .u64 w0 13)) (AA .shr .u64 (AA .xor .u64 w0 (AA .shl .u64 w0 13)) 7)) 17)))
def Om(s1 s6:Int)(s8 s9 s10:Int)(s43:Bool)(w0:List Int)(w7:Int):Option (Int):=
 AE (s43) (
  some (AA .sub .i64 s10 s6)) (
  some s10)
def S7(s1 s6:Int)(s8 s9:Int)(w0:List Int)(w7:Int):Option ((List Int×Int)):=
 AG (Qj w7) fun r2=>
 AG (Om s1 s6 s8 s9 (IntKind.wrap .i64 (AA .and .u64 r2.1 (AA .sub .u64 s8 1))) (decide (s6<=(IntKind.wrap .i64 (AA .and .u64 r2.1 (AA .sub .u64 s8 1))))) w0 r2.2) fun o3=>
 AU (0<=(AA .add .i64 s1 o3)/\(AA .add .i64 s1 o3)+1<=(w0.length:Int)) (
  AT w0 (AA .add .i64 s1 o3) fun x4=>
  AU (0<=s9/\s9+1<=(w0.length:Int)) (
   AT w0 s9 fun x5=>
   AU (0<=s9/\s9+1<=(w0.length:Int)) (
    AU (0<=s9/\s9+1<=(w0.length:Int)) (
     AU (0<=(AA .add .i64 s1 o3)/\(AA .add .i64 s1 o3)+1<=((w0.set s9.toNat x4).length:Int)) (
      AU (0<=(AA .add .i64 s1 o3)/\(AA .add .i64 s1 o3)+1<=((w0.set s9.toNat x4).length:Int)) (
       some ((w0.set s9.toNat x4).set (AA .add .i64 s1 o3).toNat x5,r2.2)))))))
def HB(s1 s6:Int)(s8 s9:Int)(w0:List Int)(w7:Int):Option ((Int×List Int×Int)⊕((List Int))):=
 AE (decide (s9<=(AA .add .i64 (AA .add .i64 s1 (AA .mul .i64 (AA .quo .i64 s6 4) 2)) 1))) (
  AG (S7 s1 s6 s8 s9 w0 w7) fun o6=>
  some (.inl ((AA .add .i64 s9 1),o6.1,o6.2))) (
  some (.inr w0))
def S8(s1 s6:Int)(s8 s9:Int)(w0:List Int)(w7:Int):Option ((List Int)):=AQ (fun s:Int×List Int×Int=>HB s1 s6 s8 s.1 s.2.1 s.2.2) (s9,w0,w7)
theorem Qy(s1 s6:Int)(s8 s9:Int)(w0:List Int)(w7:Int):S8 s1 s6 s8 s9 w0 w7=CW (HB s1 s6 s8 s9 w0 w7) (fun s:Int×List Int×Int=>S8 s1 s6 s8 s.1 s.2.1 s.2.2):=Aj _ _
def S6(s1 s6:Int)(s15:Bool)(w0:List Int):Option ((List Int)):=
 AE (s15) (
  AG (Qi s6) fun r1=>
  AG (S8 s1 s6 r1 (AA .sub .i64 (AA .add .i64 s1 (AA .mul .i64 (AA .quo .i64 s6 4) 2)) 1) w0 (IntKind.wrap .u64 s6)) fun o7=>
  some o7) (
  some w0)
def Y2(a1 a2:Int)(w0:List Int):Option (List Int):=
 AG (S6 a1 (AA .sub .i64 a2 a1) (decide (8<=(AA .sub .i64 a2 a1))) w0) fun o8=>
 some o8
def Zz(a0:List Int)(a1 a2 w0:Int):Option (Int×Int×Int):=
 AT a0 a2 fun x1=>
 AT a0 a1 fun x2=>
 AG (Yk x1 x2) fun r3=>
 AE (r3) (
  some (a2,a1,(AA .add .i64 w0 1))) (
  some (a1,a2,w0))
def Q9(a0:List Int)(a1 a2:Int)(a3 w0:Int):Option (Int×Int):=
 AG (Zz a0 a1 a2 w0) fun r1=>
 AG (Zz a0 r1.2.1 a3 r1.2.2) fun r2=>
 AG (Zz a0 r1.1 r2.1 r2.2.2) fun r3=>
 some (r3.2.1,r3.2.2)
def Q0(a0:List Int)(a1 w0:Int):Option (Int×Int):=
 AG (Q9 a0 (AA .sub .i64 a1 1) a1 (AA .add .i64 a1 1) w0) fun r1=>
 some (r1.1,r1.2)
def O1(s0:List Int)(s10 s11 s12:Int)(s34:Bool)(w9:Int):Option ((Int×Int×Int×Int)):=
 AE (s34) (
  AG (Q0 s0 s10 w9) fun r1=>
  AG (Q0 s0 s11 r1.2) fun r2=>
  AG (Q0 s0 s12 r2.2) fun r3=>
  some (r1.1,r2.1,r3.1,r3.2)) (
  some (s10,s11,s12,w9))
def TH(s0:List Int)(s8 s10:Int)(s11 s12:Int)(s32:Bool)(w9:Int):Option ((Int×Int)):=
 AE (s32) (
  AG (O1 s0 s10 s11 s12 (decide (50<=s8)) w9) fun o4=>
  AG (Q9 s0 o4.1 o4.2.1 o4.2.2.1 o4.2.2.2) fun r5=>
  some (r5.1,r5.2)) (
  some (s11,w9))
def Z3(a0:List Int)(a1 a2:Int):Option (Int×Int):=
 AG (TH a0 (AA .sub .i64 a2 a1) (AA .add .i64 a1 (AA .mul .i64 (AA .quo .i64 (AA .sub .i64 a2 a1) 4) 1)) (AA .add .i64 a1 (AA .mul .i64 (AA .quo .i64 (AA .sub .i64 a2 a1) 4) 2)) (AA .add .i64 a1 (AA .mul .i64 (AA .quo .i64 (AA .sub .i64 a2 a1) 4) 3)) (decide (8<=(AA .sub .i64 a2 a1))) 0) fun o6=>
 AE (decide (o6.2=0)) (
  some (o6.1,1)) (
  AE (decide (o6.2=12)) (
   some (o6.1,2)) (
   some (o6.1,0)))
def I9(s6 s7:Int)(w0:List Int):Option ((Int×Int×List Int)⊕((List Int))):=
 AE (decide (s6<s7)) (
  AU (0<=s7/\s7+1<=(w0.length:Int)) (
   AT w0 s7 fun x1=>
   AU (0<=s6/\s6+1<=(w0.length:Int)) (
    AT w0 s6 fun x2=>
    AU (0<=s6/\s6+1<=(w0.length:Int)) (
     AU (0<=s6/\s6+1<=(w0.length:Int)) (
      AU (0<=s7/\s7+1<=((w0.set s6.toNat x1).length:Int)) (
       AU (0<=s7/\s7+1<=((w0.set s6.toNat x1).length:Int)) (
        some (.inl ((AA .add .i64 s6 1),(AA .sub .i64 s7 1),(w0.set s6.toNat x1).set s7.toNat x2))))))))) (
  some (.inr w0))
def TG(s6 s7:Int)(w0:List Int):Option ((List Int)):=AQ (fun s:Int×Int×List Int=>I9 s.1 s.2.1 s.2.2) (s6,s7,w0)
theorem aMj(s6 s7:Int)(w0:List Int):TG s6 s7 w0=CW (I9 s6 s7 w0) (fun s:Int×Int×List Int=>TG s.1 s.2.1 s.2.2):=Aj _ _
def Yy(a1 a2:Int)(w0:List Int):Option (List Int):=
 AG (TG a1 (AA .sub .i64 a2 1) w0) fun o3=>
 some o3
def Gx(s1 s2 s8:Int)(w0:List Int)(s7:Int):Option ((Int)⊕(Int)):=
 AE (decide (s7<s2)) (
  AU (0<=s7/\s7+1<=(w0.length:Int)) (
   AT w0 s7 fun x1=>
   AU (0<=(AA .sub .i64 s7 1)/\(AA .sub .i64 s7 1)+1<=(w0.length:Int)) (
    AT w0 (AA .sub .i64 s7 1) fun x2=>
    AG (Yk x1 x2) fun r3=>
    AE (!r3) (
     some (.inl (AA .add .i64 s7 1))) (
     some (.inr s7))))) (
  some (.inr s7))
def SP(s1 s2 s8:Int)(w0:List Int)(s7:Int):Option (Int):=AQ (fun s:Int=>Gx s1 s2 s8 w0 s) s7
theorem QA(s1 s2 s8:Int)(w0:List Int)(s7:Int):SP s1 s2 s8 w0 s7=CW (Gx s1 s2 s8 w0 s7) (fun s:Int=>SP s1 s2 s8 w0 s):=Aj _ _
def Gy(s1 s2:Int)(s7 s8 s9:Int)(w0:List Int):Option ((Int×List Int)⊕((List Int))):=
 AE (decide (1<=s9)) (
  AU (0<=s9/\s9+1<=(w0.length:Int)) (
   AT w0 s9 fun x7=>
   AU (0<=(AA .sub .i64 s9 1)/\(AA .sub .i64 s9 1)+1<=(w0.length:Int)) (
    AT w0 (AA .sub .i64 s9 1) fun x8=>
    AG (Yk x7 x8) fun r9=>
    AE (!r9) (
     some (.inr w0)) (
     AU (0<=(AA .sub .i64 s9 1)/\(AA .sub .i64 s9 1)+1<=(w0.length:Int)) (
      AT w0 (AA .sub .i64 s9 1) fun x10=>
      AU (0<=s9/\s9+1<=(w0.length:Int)) (
       AT w0 s9 fun x11=>
       AU (0<=s9/\s9+1<=(w0.length:Int)) (
        AU (0<=s9/\s9+1<=(w0.length:Int)) (
         AU (0<=(AA .sub .i64 s9 1)/\(AA .sub .i64 s9 1)+1<=((w0.set s9.toNat x10).length:Int)) (
          AU (0<=(AA .sub .i64 s9 1)/\(AA .sub .i64 s9 1)+1<=((w0.set s9.toNat x10).length:Int)) (
           some (.inl ((AA .sub .i64 s9 1),(w0.set s9.toNat x10).set (AA .sub .i64 s9 1).toNat x11)))))))))))) (
  some (.inr w0))
def SQ(s1 s2:Int)(s7 s8 s9:Int)(w0:List Int):Option ((List Int)):=AQ (fun s:Int×List Int=>Gy s1 s2 s7 s8 s.1 s.2) (s9,w0)
theorem QB(s1 s2:Int)(s7 s8 s9:Int)(w0:List Int):SQ s1 s2 s7 s8 s9 w0=CW (Gy s1 s2 s7 s8 s9 w0) (fun s:Int×List Int=>SQ s1 s2 s7 s8 s.1 s.2):=Aj _ _
def N4(s1 s2:Int)(s7 s8:Int)(s61:Bool)(w0:List Int):Option ((List Int)):=
 AE (s61) (
  AG (SQ s1 s2 s7 s8 (AA .sub .i64 s7 1) w0) fun o12=>
  some o12) (
  some w0)
def Gz(s1 s2:Int)(s7 s8 s10:Int)(w0:List Int):Option ((Int×List Int)⊕((List Int))):=
 AE (decide (s10<s2)) (
  AU (0<=s10/\s10+1<=(w0.length:Int)) (
   AT w0 s10 fun x14=>
   AU (0<=(AA .sub .i64 s10 1)/\(AA .sub .i64 s10 1)+1<=(w0.length:Int)) (
    AT w0 (AA .sub .i64 s10 1) fun x15=>
    AG (Yk x14 x15) fun r16=>
    AE (!r16) (
     some (.inr w0)) (
     AU (0<=(AA .sub .i64 s10 1)/\(AA .sub .i64 s10 1)+1<=(w0.length:Int)) (
      AT w0 (AA .sub .i64 s10 1) fun x17=>
      AU (0<=s10/\s10+1<=(w0.length:Int)) (
       AT w0 s10 fun x18=>
       AU (0<=s10/\s10+1<=(w0.length:Int)) (
        AU (0<=s10/\s10+1<=(w0.length:Int)) (
         AU (0<=(AA .sub .i64 s10 1)/\(AA .sub .i64 s10 1)+1<=((w0.set s10.toNat x17).length:Int)) (
          AU (0<=(AA .sub .i64 s10 1)/\(AA .sub .i64 s10 1)+1<=((w0.set s10.toNat x17).length:Int)) (
           some (.inl ((AA .add .i64 s10 1),(w0.set s10.toNat x17).set (AA .sub .i64 s10 1).toNat x18)))))))))))) (
  some (.inr w0))
def SR(s1 s2:Int)(s7 s8 s10:Int)(w0:List Int):Option ((List Int)):=AQ (fun s:Int×List Int=>Gz s1 s2 s7 s8 s.1 s.2) (s10,w0)
theorem QC(s1 s2:Int)(s7 s8 s10:Int)(w0:List Int):SR s1 s2 s7 s8 s10 w0=CW (Gz s1 s2 s7 s8 s10 w0) (fun s:Int×List Int=>SR s1 s2 s7 s8 s.1 s.2):=Aj _ _
def N5(s1 s2:Int)(s7 s8:Int)(s98:Bool)(w0:List Int):Option ((List Int)):=
 AE (s98) (
  AG (SR s1 s2 s7 s8 (AA .add .i64 s7 1) w0) fun o19=>
  some o19) (
  some w0)
def SO(s1 s2:Int)(s7 s8:Int)(w0:List Int):Option ((Int×List Int)⊕Bool):=
 AG (SP s1 s2 s8 w0 s7) fun o4=>
 AE (decide (o4=s2)) (
  some (.inr true)) (
  AE (decide ((AA .sub .i64 s2 s1)<50)) (
   some (.inr false)) (
   AU (0<=(AA .sub .i64 o4 1)/\(AA .sub .i64 o4 1)+1<=(w0.length:Int)) (
    AT w0 (AA .sub .i64 o4 1) fun x5=>
    AU (0<=o4/\o4+1<=(w0.length:Int)) (
     AT w0 o4 fun x6=>
     AU (0<=o4/\o4+1<=(w0.length:Int)) (
      AU (0<=o4/\o4+1<=(w0.length:Int)) (
       AU (0<=(AA .sub .i64 o4 1)/\(AA .sub .i64 o4 1)+1<=((w0.set o4.toNat x5).length:Int)) (
        AU (0<=(AA .sub .i64 o4 1)/\(AA .sub .i64 o4 1)+1<=((w0.set o4.toNat x5).length:Int)) (
         AG (N4 s1 s2 o4 s8 (decide (2<=(AA .sub .i64 o4 s1))) ((w0.set o4.toNat x5).set (AA .sub .i64 o4 1).toNat x6)) fun o13=>
         AG (N5 s1 s2 o4 s8 (decide (2<=(AA .sub .i64 s2 o4))) o13) fun o20=>
         some (.inl (o4,o20))))))))))
def Gw(s1 s2:Int)(s7 s8:Int)(w0:List Int):Option ((Int×Int×List Int)⊕((List Int)⊕(Bool×List Int))):=
 AE (decide (s8<5)) (
  AG (SO s1 s2 s7 s8 w0) fun o21=>
  CX o21 (fun o22=>
   some (.inl (o22.1,(AA .add .i64 s8 1),o22.2))) (fun o23=>
   some (.inr (.inr (o23,w0))))) (
  some (.inr (.inl w0)))
def N6(s1 s2:Int)(s7 s8:Int)(w0:List Int):Option ((List Int)⊕(Bool×List Int)):=AQ (fun s:Int×Int×List Int=>Gw s1 s2 s.1 s.2.1 s.2.2) (s7,s8,w0)
theorem P9(s1 s2:Int)(s7 s8:Int)(w0:List Int):N6 s1 s2 s7 s8 w0=CW (Gw s1 s2 s7 s8 w0) (fun s:Int×Int×List Int=>N6 s1 s2 s.1 s.2.1 s.2.2):=Aj _ _
def X7(a1 a2:Int)(w0:List Int):Option (Bool×List Int):=
 AG (N6 a1 a2 (AA .add .i64 a1 1) 0 w0) fun o24=>
 CX o24 (fun o25=>
  some (false,o25)) (fun o26=>
  some (o26.1,o26.2))
def G5(s1 s10:Int)(w0:List Int)(s9:Int):Option ((Int)⊕(Int)):=
 AE (decide (s9<=s10)) (
  AU (0<=s1/\s1+1<=(w0.length:Int)) (
   AT w0 s1 fun x3=>
   AU (0<=s9/\s9+1<=(w0.length:Int)) (
    AT w0 s9 fun x4=>
    AG (Yk x3 x4) fun r5=>
    AE (!r5) (
     some (.inl (AA .add .i64 s9 1))) (
     some (.inr s9))))) (
  some (.inr s9))
def Sr(s1 s10:Int)(w0:List Int)(s9:Int):Option (Int):=AQ (fun s:Int=>G5 s1 s10 w0 s) s9
theorem QM(s1 s10:Int)(w0:List Int)(s9:Int):Sr s1 s10 w0 s9=CW (G5 s1 s10 w0 s9) (fun s:Int=>Sr s1 s10 w0 s):=Aj _ _
def G6(s1 s9:Int)(w0:List Int)(s10:Int):Option ((Int)⊕(Int)):=
 AE (decide (s9<=s10)) (
  AU (0<=s1/\s1+1<=(w0.length:Int)) (
   AT w0 s1 fun x7=>
   AU (0<=s10/\s10+1<=(w0.length:Int)) (
    AT w0 s10 fun x8=>
    AG (Yk x7 x8) fun r9=>
    AE (r9) (
     some (.inl (AA .sub .i64 s10 1))) (
     some (.inr s10))))) (
  some (.inr s10))
def Ss(s1 s9:Int)(w0:List Int)(s10:Int):Option (Int):=AQ (fun s:Int=>G6 s1 s9 w0 s) s10
theorem QN(s1 s9:Int)(w0:List Int)(s10:Int):Ss s1 s9 w0 s10=CW (G6 s1 s9 w0 s10) (fun s:Int=>Ss s1 s9 w0 s):=Aj _ _
def If(s1 s9 s10:Int)(w0:List Int):Option ((Int×Int×List Int)⊕((Int×List Int))):=
 AG (Sr s1 s10 w0 s9) fun o6=>
 AG (Ss s1 o6 w0 s10) fun o10=>
 AE (decide (o10<o6)) (
  some (.inr (o6,w0))) (
  AU (0<=o10/\o10+1<=(w0.length:Int)) (
   AT w0 o10 fun x11=>
   AU (0<=o6/\o6+1<=(w0.length:Int)) (
    AT w0 o6 fun x12=>
    AU (0<=o6/\o6+1<=(w0.length:Int)) (
     AU (0<=o6/\o6+1<=(w0.length:Int)) (
      AU (0<=o10/\o10+1<=((w0.set o6.toNat x11).length:Int)) (
       AU (0<=o10/\o10+1<=((w0.set o6.toNat x11).length:Int)) (
        some (.inl ((AA .add .i64 o6 1),(AA .sub .i64 o10 1),(w0.set o6.toNat x11).set o10.toNat x12)))))))))
def Sq(s1 s9 s10:Int)(w0:List Int):Option ((Int×List Int)):=AQ (fun s:Int×Int×List Int=>If s1 s.1 s.2.1 s.2.2) (s9,s10,w0)
theorem aIj(s1 s9 s10:Int)(w0:List Int):Sq s1 s9 s10 w0=CW (If s1 s9 s10 w0) (fun s:Int×Int×List Int=>Sq s1 s.1 s.2.1 s.2.2):=Aj _ _
def Xo(a1 a2 a3:Int)(w0:List Int):Option (Int×List Int):=
 AU (0<=a3/\a3+1<=(w0.length:Int)) (
  AT w0 a3 fun x1=>
  AU (0<=a1/\a1+1<=(w0.length:Int)) (
   AT w0 a1 fun x2=>
   AU (0<=a1/\a1+1<=(w0.length:Int)) (
    AU (0<=a1/\a1+1<=(w0.length:Int)) (
     AU (0<=a3/\a3+1<=((w0.set a1.toNat x1).length:Int)) (
      AU (0<=a3/\a3+1<=((w0.set a1.toNat x1).length:Int)) (
       AG (Sq a1 (AA .add .i64 a1 1) (AA .sub .i64 a2 1) ((w0.set a1.toNat x1).set a3.toNat x2)) fun o13=>
       some (o13.1,o13.2)))))))
def G1(s1 s11:Int)(w0:List Int)(s10:Int):Option ((Int)⊕(Int)):=
 AE (decide (s10<=s11)) (
  AU (0<=s10/\s10+1<=(w0.length:Int)) (
   AT w0 s10 fun x3=>
   AU (0<=s1/\s1+1<=(w0.length:Int)) (
    AT w0 s1 fun x4=>
    AG (Yk x3 x4) fun r5=>
    AE (r5) (
     some (.inl (AA .add .i64 s10 1))) (
     some (.inr s10))))) (
  some (.inr s10))
def OG(s1 s11:Int)(w0:List Int)(s10:Int):Option (Int):=AQ (fun s:Int=>G1 s1 s11 w0 s) s10
theorem QG(s1 s11:Int)(w0:List Int)(s10:Int):OG s1 s11 w0 s10=CW (G1 s1 s11 w0 s10) (fun s:Int=>OG s1 s11 w0 s):=Aj _ _
def G2(s1 s10:Int)(w0:List Int)(s11:Int):Option ((Int)⊕(Int)):=
 AE (decide (s10<=s11)) (
  AU (0<=s11/\s11+1<=(w0.length:Int)) (
   AT w0 s11 fun x7=>
   AU (0<=s1/\s1+1<=(w0.length:Int)) (
    AT w0 s1 fun x8=>
    AG (Yk x7 x8) fun r9=>
    AE (!r9) (
     some (.inl (AA .sub .i64 s11 1))) (
     some (.inr s11))))) (
  some (.inr s11))
def OH(s1 s10:Int)(w0:List Int)(s11:Int):Option (Int):=AQ (fun s:Int=>G2 s1 s10 w0 s) s11
theorem QH(s1 s10:Int)(w0:List Int)(s11:Int):OH s1 s10 w0 s11=CW (G2 s1 s10 w0 s11) (fun s:Int=>OH s1 s10 w0 s):=Aj _ _
def OI(s1 s11:Int)(w0:List Int)(s10:Int):Option ((Int)⊕(Int)):=
 AE (decide (s10<=s11)) (
  AU (0<=s10/\s10+1<=(w0.length:Int)) (
   AT w0 s10 fun x15=>
   AU (0<=s1/\s1+1<=(w0.length:Int)) (
    AT w0 s1 fun x16=>
    AG (Yk x15 x16) fun r17=>
    AE (r17) (
     some (.inl (AA .add .i64 s10 1))) (
     some (.inr s10))))) (
  some (.inr s10))
def aGx(s1 s11:Int)(w0:List Int)(s10:Int):Option (Int):=AQ (fun s:Int=>OI s1 s11 w0 s) s10
def OJ(s1 s10:Int)(w0:List Int)(s11:Int):Option ((Int)⊕(Int)):=
 AE (decide (s10<=s11)) (
  AU (0<=s11/\s11+1<=(w0.length:Int)) (
   AT w0 s11 fun x19=>
   AU (0<=s1/\s1+1<=(w0.length:Int)) (
    AT w0 s1 fun x20=>
    AG (Yk x19 x20) fun r21=>
    AE (!r21) (
     some (.inl (AA .sub .i64 s11 1))) (
     some (.inr s11))))) (
  some (.inr s11))
def aGz(s1 s10:Int)(w0:List Int)(s11:Int):Option (Int):=AQ (fun s:Int=>OJ s1 s10 w0 s) s11
def IL(s1 s10 s11:Int)(w0:List Int):Option ((Int×Int×List Int)⊕((Int×List Int))):=
 AG (aGx s1 s11 w0 s10) fun o18=>
 AG (aGz s1 o18 w0 s11) fun o22=>
 AE (decide (o22<o18)) (
  some (.inr (o22,w0))) (
  AU (0<=o22/\o22+1<=(w0.length:Int)) (
   AT w0 o22 fun x23=>
   AU (0<=o18/\o18+1<=(w0.length:Int)) (
    AT w0 o18 fun x24=>
    AU (0<=o18/\o18+1<=(w0.length:Int)) (
     AU (0<=o18/\o18+1<=(w0.length:Int)) (
      AU (0<=o22/\o22+1<=((w0.set o18.toNat x23).length:Int)) (
       AU (0<=o22/\o22+1<=((w0.set o18.toNat x23).length:Int)) (
        some (.inl ((AA .add .i64 o18 1),(AA .sub .i64 o22 1),(w0.set o18.toNat x23).set o22.toNat x24)))))))))
def Sb(s1 s10 s11:Int)(w0:List Int):Option ((Int×List Int)):=AQ (fun s:Int×Int×List Int=>IL s1 s.1 s.2.1 s.2.2) (s10,s11,w0)
theorem aGv(s1 s10 s11:Int)(w0:List Int):Sb s1 s10 s11 w0=CW (IL s1 s10 s11 w0) (fun s:Int×Int×List Int=>Sb s1 s.1 s.2.1 s.2.2):=Aj _ _
def Xa(a1 a2 a3:Int)(w0:List Int):Option (Int×Bool×List Int):=
 AU (0<=a3/\a3+1<=(w0.length:Int)) (
  AT w0 a3 fun x1=>
  AU (0<=a1/\a1+1<=(w0.length:Int)) (
   AT w0 a1 fun x2=>
   AU (0<=a1/\a1+1<=(w0.length:Int)) (
    AU (0<=a1/\a1+1<=(w0.length:Int)) (
     AU (0<=a3/\a3+1<=((w0.set a1.toNat x1).length:Int)) (
      AU (0<=a3/\a3+1<=((w0.set a1.toNat x1).length:Int)) (
       AG (OG a1 (AA .sub .i64 a2 1) ((w0.set a1.toNat x1).set a3.toNat x2) (AA .add .i64 a1 1)) fun o6=>
       AG (OH a1 o6 ((w0.set a1.toNat x1).set a3.toNat x2) (AA .sub .i64 a2 1)) fun o10=>
       AE (decide (o10<o6)) (
        AU (0<=a1/\a1+1<=(((w0.set a1.toNat x1).set a3.toNat x2).length:Int)) (
         AT ((w0.set a1.toNat x1).set a3.toNat x2) a1 fun x11=>
         AU (0<=o10/\o10+1<=(((w0.set a1.toNat x1).set a3.toNat x2).length:Int)) (
          AT ((w0.set a1.toNat x1).set a3.toNat x2) o10 fun x12=>
          AU (0<=o10/\o10+1<=(((w0.set a1.toNat x1).set a3.toNat x2).length:Int)) (
           AU (0<=o10/\o10+1<=(((w0.set a1.toNat x1).set a3.toNat x2).length:Int)) (
            AU (0<=a1/\a1+1<=((((w0.set a1.toNat x1).set a3.toNat x2).set o10.toNat x11).length:Int)) (
             AU (0<=a1/\a1+1<=((((w0.set a1.toNat x1).set a3.toNat x2).set o10.toNat x11).length:Int)) (
              some (o10,true,(((w0.set a1.toNat x1).set a3.toNat x2).set o10.toNat x11).set a1.toNat x12)))))))) (
        AU (0<=o10/\o10+1<=(((w0.set a1.toNat x1).set a3.toNat x2).length:Int)) (
         AT ((w0.set a1.toNat x1).set a3.toNat x2) o10 fun x13=>
         AU (0<=o6/\o6+1<=(((w0.set a1.toNat x1).set a3.toNat x2).length:Int)) (
          AT ((w0.set a1.toNat x1).set a3.toNat x2) o6 fun x14=>
          AU (0<=o6/\o6+1<=(((w0.set a1.toNat x1).set a3.toNat x2).length:Int)) (
           AU (0<=o6/\o6+1<=(((w0.set a1.toNat x1).set a3.toNat x2).length:Int)) (
            AU (0<=o10/\o10+1<=((((w0.set a1.toNat x1).set a3.toNat x2).set o6.toNat x13).length:Int)) (
             AU (0<=o10/\o10+1<=((((w0.set a1.toNat x1).set a3.toNat x2).set o6.toNat x13).length:Int)) (
              AG (Sb a1 (AA .add .i64 o6 1) (AA .sub .i64 o10 1) ((((w0.set a1.toNat x1).set a3.toNat x2).set o6.toNat x13).set o10.toNat x14)) fun o25=>
              AU (0<=a1/\a1+1<=(o25.2.length:Int)) (
               AT o25.2 a1 fun x26=>
               AU (0<=o25.1/\o25.1+1<=(o25.2.length:Int)) (
                AT o25.2 o25.1 fun x27=>
                AU (0<=o25.1/\o25.1+1<=(o25.2.length:Int)) (
                 AU (0<=o25.1/\o25.1+1<=(o25.2.length:Int)) (
                  AU (0<=a1/\a1+1<=((o25.2.set o25.1.toNat x26).length:Int)) (
                   AU (0<=a1/\a1+1<=((o25.2.set o25.1.toNat x26).length:Int)) (
                    some (o25.1,false,(o25.2.set o25.1.toNat x26).set a1.toNat x27))))))))))))))))))))
def OQ(self:Int->Int->Int->(List Int)->Option (List Int))(s1 s2 s3:Int)(s8 s9:Bool)(s10:Int)(s35:Bool)(w0:List Int):Option ((Int×List Int)):=
 AE (s35) (
  AG (Y2 s1 s2 w0) fun r3=>
  some ((AA .sub .i64 s3 1),r3)) (
  some (s3,w0))
def OR(self:Int->Int->Int->(List Int)->Option (List Int))(s1 s2 s3:Int)(s8 s9:Bool)(s10 s11 s12:Int)(s50:Bool)(w0:List Int):Option ((Int×Int×List Int)):=
 AE (s50) (
  AG (Yy s1 s2 w0) fun r6=>
  some ((AA .sub .i64 (AA .sub .i64 s2 1) (AA .sub .i64 s11 s1)),1,r6)) (
  some (s11,s12,w0))
def KJ(self:Int->Int->Int->(List Int)->Option (List Int))(s1 s2 s3:Int)(s8 s9:Bool)(s10 s11:Int)(s68:Bool)(w0:List Int):Option ((List Int)⊕(List Int)):=
 AE (s68) (
  AG (X7 s1 s2 w0) fun r8=>
  AE (r8.1) (
   some (.inr r8.2)) (
   some (.inl r8.2))) (
  some (.inl w0))
def Fy(self:Int->Int->Int->(List Int)->Option (List Int))(s1 s2 s3:Int)(s9:Bool)(s14 s16:Int)(s17 s18:Int)(s113:Bool)(w0:List Int):Option ((Int×Int×Bool×List Int)):=
 AE (s113) (
  AG (self s1 s14 s3 w0) fun r17=>
  some ((AA .add .i64 s14 1),s2,decide (s18<=s16),r17)) (
  AG (self (AA .add .i64 s14 1) s2 s3 w0) fun r18=>
  some (s1,s14,decide (s18<=s17),r18))
def OP(self:Int->Int->Int->(List Int)->Option (List Int))(s1 s2 s3:Int)(s8 s9:Bool)(w0:List Int):Option ((Int×Int×Int×Bool×Bool×List Int)⊕(List Int)):=
 AE (decide ((AA .sub .i64 s2 s1)<=12)) (
  AG (Y3 s1 s2 w0) fun r1=>
  some (.inr r1)) (
  AE (decide (s3=0)) (
   AG (Y6 s1 s2 w0) fun r2=>
   some (.inr r2)) (
   AG (OQ self s1 s2 s3 s8 s9 (AA .sub .i64 s2 s1) (!s8) w0) fun o4=>
   AG (Z3 o4.2 s1 s2) fun r5=>
   AG (OR self s1 s2 o4.1 s8 s9 (AA .sub .i64 s2 s1) r5.1 r5.2 (decide (r5.2=2)) o4.2) fun o7=>
   AE (s8) (
    AE (s9) (
     AG (KJ self s1 s2 o4.1 s8 s9 (AA .sub .i64 s2 s1) o7.1 (decide (o7.2.1=1)) o7.2.2) fun o9=>
     CX o9 (fun o10=>
      AE (decide (0<s1)) (
       AU (0<=(AA .sub .i64 s1 1)/\(AA .sub .i64 s1 1)+1<=(o10.length:Int)) (
        AT o10 (AA .sub .i64 s1 1) fun x12=>
        AU (0<=o7.1/\o7.1+1<=(o10.length:Int)) (
         AT o10 o7.1 fun x13=>
         AG (Yk x12 x13) fun r14=>
         AE (!r14) (
          AG (Xo s1 s2 o7.1 o10) fun r15=>
          some (.inl (r15.1,s2,o4.1,s8,s9,r15.2))) (
          AG (Xa s1 s2 o7.1 o10) fun r16=>
          AG (Fy self s1 s2 o4.1 r16.2.1 r16.1 (AA .sub .i64 r16.1 s1) (AA .sub .i64 s2 r16.1) (AA .quo .i64 (AA .sub .i64 s2 s1) 8) (decide ((AA .sub .i64 r16.1 s1)<(AA .sub .i64 s2 r16.1))) r16.2.2) fun o19=>
          some (.inl (o19.1,o19.2.1,o4.1,o19.2.2.1,r16.2.1,o19.2.2.2)))))) (
       AG (Xa s1 s2 o7.1 o10) fun r20=>
       AG (Fy self s1 s2 o4.1 r20.2.1 r20.1 (AA .sub .i64 r20.1 s1) (AA .sub .i64 s2 r20.1) (AA .quo .i64 (AA .sub .i64 s2 s1) 8) (decide ((AA .sub .i64 r20.1 s1)<(AA .sub .i64 s2 r20.1))) r20.2.2) fun o21=>
       some (.inl (o21.1,o21.2.1,o4.1,o21.2.2.1,r20.2.1,o21.2.2.2)))) (fun o11=>
      some (.inr o11))) (
     AG (KJ self s1 s2 o4.1 s8 s9 (AA .sub .i64 s2 s1) o7.1 false o7.2.2) fun o22=>
     CX o22 (fun o23=>
      AE (decide (0<s1)) (
       AU (0<=(AA .sub .i64 s1 1)/\(AA .sub .i64 s1 1)+1<=(o23.length:Int)) (
        AT o23 (AA .sub .i64 s1 1) fun x25=>
        AU (0<=o7.1/\o7.1+1<=(o23.length:Int)) (
         AT o23 o7.1 fun x26=>
         AG (Yk x25 x26) fun r27=>
         AE (!r27) (
          AG (Xo s1 s2 o7.1 o23) fun r28=>
          some (.inl (r28.1,s2,o4.1,s8,s9,r28.2))) (
          AG (Xa s1 s2 o7.1 o23) fun r29=>
          AG (Fy self s1 s2 o4.1 r29.2.1 r29.1 (AA .sub .i64 r29.1 s1) (AA .sub .i64 s2 r29.1) (AA .quo .i64 (AA .sub .i64 s2 s1) 8) (decide ((AA .sub .i64 r29.1 s1)<(AA .sub .i64 s2 r29.1))) r29.2.2) fun o30=>
          some (.inl (o30.1,o30.2.1,o4.1,o30.2.2.1,r29.2.1,o30.2.2.2)))))) (
       AG (Xa s1 s2 o7.1 o23) fun r31=>
       AG (Fy self s1 s2 o4.1 r31.2.1 r31.1 (AA .sub .i64 r31.1 s1) (AA .sub .i64 s2 r31.1) (AA .quo .i64 (AA .sub .i64 s2 s1) 8) (decide ((AA .sub .i64 r31.1 s1)<(AA .sub .i64 s2 r31.1))) r31.2.2) fun o32=>
       some (.inl (o32.1,o32.2.1,o4.1,o32.2.2.1,r31.2.1,o32.2.2.2)))) (fun o24=>
      some (.inr o24)))) (
    AG (KJ self s1 s2 o4.1 s8 s9 (AA .sub .i64 s2 s1) o7.1 false o7.2.2) fun o33=>
    CX o33 (fun o34=>
     AE (decide (0<s1)) (
      AU (0<=(AA .sub .i64 s1 1)/\(AA .sub .i64 s1 1)+1<=(o34.length:Int)) (
       AT o34 (AA .sub .i64 s1 1) fun x36=>
       AU (0<=o7.1/\o7.1+1<=(o34.length:Int)) (
        AT o34 o7.1 fun x37=>
        AG (Yk x36 x37) fun r38=>
        AE (!r38) (
         AG (Xo s1 s2 o7.1 o34) fun r39=>
         some (.inl (r39.1,s2,o4.1,s8,s9,r39.2))) (
         AG (Xa s1 s2 o7.1 o34) fun r40=>
         AG (Fy self s1 s2 o4.1 r40.2.1 r40.1 (AA .sub .i64 r40.1 s1) (AA .sub .i64 s2 r40.1) (AA .quo .i64 (AA .sub .i64 s2 s1) 8) (decide ((AA .sub .i64 r40.1 s1)<(AA .sub .i64 s2 r40.1))) r40.2.2) fun o41=>
         some (.inl (o41.1,o41.2.1,o4.1,o41.2.2.1,r40.2.1,o41.2.2.2)))))) (
      AG (Xa s1 s2 o7.1 o34) fun r42=>
      AG (Fy self s1 s2 o4.1 r42.2.1 r42.1 (AA .sub .i64 r42.1 s1) (AA .sub .i64 s2 r42.1) (AA .quo .i64 (AA .sub .i64 s2 s1) 8) (decide ((AA .sub .i64 r42.1 s1)<(AA .sub .i64 s2 r42.1))) r42.2.2) fun o43=>
      some (.inl (o43.1,o43.2.1,o4.1,o43.2.2.1,r42.2.1,o43.2.2.2)))) (fun o35=>
     some (.inr o35)))))
def IT(self:Int->Int->Int->(List Int)->Option (List Int))(s1 s2 s3:Int)(s8 s9:Bool)(w0:List Int):Option ((Int×Int×Int×Bool×Bool×List Int)⊕((List Int))):=
 AG (OP self s1 s2 s3 s8 s9 w0) fun o44=>
 CX o44 (fun o45=>
  some (.inl (o45.1,o45.2.1,o45.2.2.1,o45.2.2.2.1,o45.2.2.2.2.1,o45.2.2.2.2.2))) (fun o46=>
  some (.inr o46))
def Sg(self:Int->Int->Int->(List Int)->Option (List Int))(s1 s2 s3:Int)(s8 s9:Bool)(w0:List Int):Option ((List Int)):=AQ (fun s:Int×Int×Int×Bool×Bool×List Int=>IT self s.1 s.2.1 s.2.2.1 s.2.2.2.1 s.2.2.2.2.1 s.2.2.2.2.2) (s1,s2,s3,s8,s9,w0)
theorem aHn(self:Int->Int->Int->(List Int)->Option (List Int))(s1 s2 s3:Int)(s8 s9:Bool)(w0:List Int):Sg self s1 s2 s3 s8 s9 w0=CW (IT self s1 s2 s3 s8 s9 w0) (fun s:Int×Int×Int×Bool×Bool×List Int=>Sg self s.1 s.2.1 s.2.2.1 s.2.2.2.1 s.2.2.2.2.1 s.2.2.2.2.2):=Aj _ _
def aQ0(self:Int->Int->Int->(List Int)->Option (List Int))(a1 a2 a3:Int)(w0:List Int):Option (List Int):=
 AG (Sg self a1 a2 a3 true true w0) fun o47=>
 some o47
def aPi:Nat->Int->Int->Int->(List Int)->Option (List Int)
 |0=>fun _ _ _ _=>none
 |n+1=>fun a1 a2 a3 w0=>aQ0 (aPi n) a1 a2 a3 w0
def Xf(a1 a2 a3:Int)(w0:List Int):Option (List Int):=aPi 100000 a1 a2 a3 w0
def Q7(w0:List Int):Option (List Int):=
 AG (Qc (IntKind.wrap .u64 (w0.length:Int))) fun r1=>
 AG (Xf 0 (w0.length:Int) r1 w0) fun r2=>
 some r2
def Qq(xs:List Int):Option (List Int):=bagE Q7 xs
def Fs(s1:List X2)(s6 s15:Int)(s16 s30:Int)(w2:AD)(w5:List (Int×Bool))(s31:Int)(w7:List (Int×Bool)):Option ((Int×(List (Int×Bool)))⊕((List (Int×Bool)))):=
 AE (decide (s31<s30)) (
  AG (Xi (Xq.mk w2 s1 s6 s31) w7) fun r3=>
  some (.inl ((AA .add .i64 s31 1),r3))) (
  some (.inr w7))
def UP(s1:List X2)(s6 s15:Int)(s16 s30:Int)(w2:AD)(w5:List (Int×Bool))(s31:Int)(w7:List (Int×Bool)):Option ((List (Int×Bool))):=AQ (fun s:Int×(List (Int×Bool))=>Fs s1 s6 s15 s16 s30 w2 w5 s.1 s.2) (s31,w7)
def Gs(s1:List X2)(s15 s16:Int)(w2:AD)(w7:List (Int×Bool))(k:Int)(v:Bool)(w5:List (Int×Bool)):Option ((List (Int×Bool))):=
 some (GP k true w5)
def IE(s1:List X2)(s15 s16:Int)(w2:AD)(w7:List (Int×Bool))(s:(List (Int×Bool))):(List (Int×Bool)):=(fun s:(List (Int×Bool))=>(aOd s:(List (Int×Bool)))) s
def US(s1:List X2)(s15 s16:Int)(w2:AD)(w7 w5:List (Int×Bool)):Option ((List (Int×Bool))):=Fi (IE s1 s15 s16 w2 w7) w7 (fun(x:Int×Bool) (s:(List (Int×Bool)))=>Gs s1 s15 s16 w2 w7 x.1 x.2 s) w5
def SG(s1:List X2)(s15 s16:Int)(w2:AD)(w5 w7:List (Int×Bool)):Option ((List (Int×Bool))):=
 AG (US s1 s15 s16 w2 w7 w5) fun o5=>
 some o5
def Fr(s1:List X2)(s15:Int)(w2:AD)(s16:Int)(w5:List (Int×Bool)):Option ((Int×(List (Int×Bool)))⊕((List (Int×Bool)))):=
 AE (decide (s16<s15)) (
  AG (Y7 w2 s16) fun r1=>
  AT w2.decls s16 fun x2=>
  AG (UP s1 s16 s15 s16 (x2.types.length:Int) w2 w5 0 (GP r1 true ([]:List (Int×Bool)))) fun o4=>
  AG (SG s1 s15 s16 w2 w5 o4) fun o6=>
  some (.inl ((AA .add .i64 s16 1),o6))) (
  some (.inr w5))
def UM(s1:List X2)(s15:Int)(w2:AD)(s16:Int)(w5:List (Int×Bool)):Option ((List (Int×Bool))):=AQ (fun s:Int×(List (Int×Bool))=>Fr s1 s15 w2 s.1 s.2) (s16,w5)
def Ez(w5:List (Int×Bool))(k:Int)(v:Bool)(w10:List Int):Option (List Int):=
 AU (fit w10.length [k].length 8) (
  some (w10++[k]))
def K9(w5:List (Int×Bool))(s:List Int):List Int:=(fun s:List Int=>(aE2 s:List Int)) s
def UV(w5:List (Int×Bool))(w10:List Int):Option (List Int):=Fi (K9 w5) w5 (fun(x:Int×Bool) (s:List Int)=>Ez w5 x.1 x.2 s) w10
def SH(w5:List (Int×Bool)):Option ((List Int)):=
 AG (UV w5 ([]:List Int)) fun o8=>
 some o8
def X4(a0:AD)(a1:List X2):Option (List Int):=
 AG (UM a1 (a0.decls.length:Int) a0 0 ([]:List (Int×Bool))) fun o7=>
 AG (SH (Nb 0 o7)) fun o9=>
 AG (Qq o9) fun r10=>
 some r10
def Qr(a0:Int):Option (Bool):=
 some false
def Us(s1 s2:Int)(s7 s8 s10:Int)(s14:List Xg)(s15 s16:Int)(s28:List Xr)(s29 s30:Int)(s46:Bool)(w3:AD)(w9:Xg)(w12:Xr):Option (Int):=
 AE (s46) (
  AU (0<=(IntKind.wrap .u64 w12.to)) (
   some (AA .or .u32 s10 (AA .shl .u32 1 (IntKind.wrap .u64 w12.to))))) (
  some s10)
def aGd(s1 s2:Int)(s7 s8 s10:Int)(s14:List Xg)(s15 s16:Int)(s28:List Xr)(s29 s30:Int)(w3:AD)(w9:Xg):Option (Int):=
 AT s28 s30 fun x2=>
 AE (decide (x2.from_=s8)) (
  AU (0<=(IntKind.wrap .u64 x2.symbol)) (
   AG (Us s1 s2 s7 s8 s10 s14 s15 s16 s28 s29 s30 (!decide ((AA .and .u64 s2 (AA .shl .u64 1 (IntKind.wrap .u64 x2.symbol)))=0)) w3 w9 x2) fun o3=>
   some o3)) (
  AG (Us s1 s2 s7 s8 s10 s14 s15 s16 s28 s29 s30 false w3 w9 x2) fun o4=>
  some o4)
def G0(s1 s2:Int)(s7 s8:Int)(s14:List Xg)(s15 s16:Int)(s28:List Xr)(s29:Int)(w3:AD)(w9:Xg)(s10 s30:Int):Option ((Int×Int)⊕(Int)):=
 AE (decide (s30<s29)) (
  AG (aGd s1 s2 s7 s8 s10 s14 s15 s16 s28 s29 s30 w3 w9) fun o5=>
  some (.inl (o5,(AA .add .i64 s30 1)))) (
  some (.inr s10))
def SU(s1 s2:Int)(s7 s8:Int)(s14:List Xg)(s15 s16:Int)(s28:List Xr)(s29:Int)(w3:AD)(w9:Xg)(s10 s30:Int):Option (Int):=AQ (fun s:Int×Int=>G0 s1 s2 s7 s8 s14 s15 s16 s28 s29 w3 w9 s.1 s.2) (s10,s30)
def LA(s1 s2:Int)(s7 s8 s10:Int)(s14:List Xg)(s15 s16:Int)(s60:Bool)(w3:AD):Option (Int):=
 AE (s60) (
  AU (0<=(IntKind.wrap .u64 s8)) (
   some (AA .shl .u32 1 (IntKind.wrap .u64 s8)))) (
  some s10)
def SS(s1 s2 s7:Int)(s14:List Xg)(s15 s16:Int)(w3:AD):Option (Int):=
 AT s14 s16 fun x1=>
 AU (0<=(IntKind.wrap .u64 s16)) (
  AE (decide ((AA .and .u32 s1 (AA .shl .u32 1 (IntKind.wrap .u64 s16)))=0)) (
   some s7) (
   AG (SU s1 s2 s7 s16 s14 s15 s16 w3.trans (w3.trans.length:Int) w3 x1 0 0) fun o6=>
   AE (decide (o6=0)) (
    AG (LA s1 s2 s7 s16 o6 s14 s15 s16 (!x1.next) w3) fun o7=>
    some (AA .or .u32 s7 o7)) (
    AG (LA s1 s2 s7 s16 o6 s14 s15 s16 false w3) fun o8=>
    some (AA .or .u32 s7 o8))))
def E0(s1 s2:Int)(s14:List Xg)(s15:Int)(w3:AD)(s7 s16:Int):Option ((Int×Int)⊕(Int)):=
 AE (decide (s16<s15)) (
  AG (SS s1 s2 s7 s14 s15 s16 w3) fun o9=>
  some (.inl (o9,(AA .add .i64 s16 1)))) (
  some (.inr s7))
def Ut(s1 s2:Int)(s14:List Xg)(s15:Int)(w3:AD)(s7 s16:Int):Option (Int):=AQ (fun s:Int×Int=>E0 s1 s2 s14 s15 w3 s.1 s.2) (s7,s16)
def X8(a0:AD)(a1 a2:Int):Option (Int):=
 AG (Ut a1 a2 a0.states (a0.states.length:Int) a0 0 0) fun o10=>
 some o10
def Vt(s11:List Int)(s12 s14 s15:Int)(s44:List Int)(s45 s46:Int)(s64:Bool)(w4:AD)(w8:List Int)(w9 w10:MP Int Int):Option ((List Int×MP Int Int×MP Int Int)):=
 AE (s64) (
  AU (0<=s12/\s12+1<=(w8.length:Int)) (
   AT w8 s12 fun x7=>
   AU (Pj 0 w9 s15<=4611686018427387904) (
    AU (aOl (HX 0 w9 s15) ((Pj 0 w9 s15:Nat):Int)=true) (
     AU (fit w8.length [s15].length 4) (
      some (w8++[s15],Tn (HX 0 w9 s15) ((Pj 0 w9 s15:Nat):Int) x7,Cb w10 s15 s14)))))) (
  some (w8,w9,w10))
def Sj(s11:List Int)(s12:Int)(s44:List Int)(s45 s46:Int)(w4:AD)(w8:List Int)(w9 w10:MP Int Int):Option ((List Int×MP Int Int×MP Int Int)):=
 AT s44 s46 fun x4=>
 AU (0<=s12/\s12+1<=(w8.length:Int)) (
  AT w8 s12 fun x5=>
  AG (X8 w4 x5 x4) fun r6=>
  AG (Vt s11 s12 x4 r6 s44 s45 s46 (!((BH 0 w9 r6).2)) w4 w8 w9 w10) fun o8=>
  some (o8.1,o8.2.1,o8.2.2))
def F3(s11:List Int)(s12:Int)(s44:List Int)(s45:Int)(w4:AD)(s46:Int)(w8:List Int)(w9 w10:MP Int Int):Option ((Int×List Int×MP Int Int×MP Int Int)⊕((List Int×MP Int Int×MP Int Int))):=
 AE (decide (s46<s45)) (
  AG (Sj s11 s12 s44 s45 s46 w4 w8 w9 w10) fun o9=>
  some (.inl ((AA .add .i64 s46 1),o9.1,o9.2.1,o9.2.2))) (
  some (.inr (w8,w9,w10)))
def Vy(s11:List Int)(s12:Int)(s44:List Int)(s45:Int)(w4:AD)(s46:Int)(w8:List Int)(w9 w10:MP Int Int):Option ((List Int×MP Int Int×MP Int Int)):=AQ (fun s:Int×List Int×MP Int Int×MP Int Int=>F3 s11 s12 s44 s45 w4 s.1 s.2.1 s.2.2.1 s.2.2.2) (s46,w8,w9,w10)
def F2(s11:List Int)(w4:AD)(s12:Int)(w8:List Int)(w9 w10:MP Int Int):Option ((Int×List Int×MP Int Int×MP Int Int)⊕((List Int×MP Int Int×MP Int Int))):=
 AE (decide (s12<(w8.length:Int))) (
  AU (0<=s12/\s12+1<=(w8.length:Int)) (
   AT w8 s12 fun x2=>
   AG (Qr x2) fun r3=>
   AE (r3) (
    AU (0<=(AA .add .i64 s12 1)/\(AA .add .i64 s12 1)<=(w8.length:Int)) (
     some (.inr (w8.take ((AA .add .i64 s12 1)).toNat,w9,w10)))) (
    AG (Vy s11 s12 s11 (s11.length:Int) w4 0 w8 w9 w10) fun o10=>
    some (.inl ((AA .add .i64 s12 1),o10.1,o10.2.1,o10.2.2))))) (
  some (.inr (w8,w9,w10)))
def Vu(s11:List Int)(w4:AD)(s12:Int)(w8:List Int)(w9 w10:MP Int Int):Option ((List Int×MP Int Int×MP Int Int)):=AQ (fun s:Int×List Int×MP Int Int×MP Int Int=>F2 s11 w4 s.1 s.2.1 s.2.2.1 s.2.2.2) (s12,w8,w9,w10)
def Xj(a0:AD)(a1:List X2)(a2:Int):Option (List Int×MP Int Int×MP Int Int):=
 AG (X4 a0 a1) fun r1=>
 AG (Vu r1 a0 0 [a2] (Cb (Dk:MP Int Int) a2 a2) (Dk:MP Int Int)) fun o11=>
 some (o11.1,o11.2.1,o11.2.2)
def Zt(a0:AD)(a1:List X2)(a2:Int):Option (List Int):=
 AG (Xj a0 a1 a2) fun r1=>
 AG (Q7 r1.1) fun r2=>
 some r2
def HG(s1:Int)(s8:List Xg)(s9 s10:Int):Option ((Int)⊕(Unit⊕Unit)):=
 AE (decide (s10<s9)) (
  AT s8 s10 fun x1=>
  AE (x1.accept) (
   AU (0<=(IntKind.wrap .u64 s10)) (
    AE (!decide ((AA .and .u32 s1 (AA .shl .u32 1 (IntKind.wrap .u64 s10)))=0)) (
     some (.inr (.inr ()))) (
     some (.inl (AA .add .i64 s10 1))))) (
   some (.inl (AA .add .i64 s10 1)))) (
  some (.inr (.inl ())))
def YI(s1:Int)(s8:List Xg)(s9 s10:Int):Option (Unit⊕Unit):=AQ (fun s:Int=>HG s1 s8 s9 s) s10
def Yb(a0:AD)(a1:Int):Option (Bool):=
 AG (YI a1 a0.states (a0.states.length:Int) 0) fun o2=>
 CX o2 (fun o3=>
  some false) (fun o4=>
  some true)
def GB(s1:Int)(s21:List Int)(s22:Int)(w0:MP Int Int)(w5:AD)(s23:Int)(w11:List UInt8):Option ((Int×List UInt8)⊕((List UInt8))):=
 AE (decide (s23<s22)) (
  AT s21 s23 fun x1=>
  AG (X8 w5 s1 x1) fun r2=>
  AU (fit w11.length [u8w ((BH 0 w0 r2).1),u8w (AA .shr .i64 ((BH 0 w0 r2).1) 8)].length 1) (
   some (.inl ((AA .add .i64 s23 1),w11++[u8w ((BH 0 w0 r2).1),u8w (AA .shr .i64 ((BH 0 w0 r2).1) 8)])))) (
  some (.inr w11))
def YP(s1:Int)(s21:List Int)(s22:Int)(w0:MP Int Int)(w5:AD)(s23:Int)(w11:List UInt8):Option ((List UInt8)):=AQ (fun s:Int×List UInt8=>GB s1 s21 s22 w0 w5 s.1 s.2) (s23,w11)
def Yd(a0:AD)(a1 a2:Int)(a3:List Int)(w0:MP Int Int):Option (List UInt8×MP Int Int):=
 AG (YP a1 a3 (a3.length:Int) w0 a0 0 [u8w a2,u8w (AA .shr .i64 a2 8)]) fun o3=>
 some (o3,w0)
def XE(s5:Int)(s6:List UInt8)(s13:List (List UInt8))(s14 s15:Int)(s27:Bool)(w3:MP (List UInt8) Int)(w4:List Int):Option ((MP (List UInt8) Int)):=
 AE (s27) (
  AU ((w3.es.length:Int)<=4611686018427387904) (
   some (Cb w3 s6 (w3.es.length:Int)))) (
  some w3)
def XD(s13:List (List UInt8))(s14 s15:Int)(w3:MP (List UInt8) Int)(w4:List Int):Option ((MP (List UInt8) Int×List Int)):=
 AT s13 s15 fun x1=>
 AG (XE s15 x1 s13 s14 s15 (!((BH 0 w3 x1).2)) w3 w4) fun o2=>
 AU (0<=s15/\s15+1<=(w4.length:Int)) (
  AU (0<=s15/\s15+1<=(w4.length:Int)) (
   some (o2,w4.set s15.toNat ((BH 0 o2 x1).1))))
def GA(s13:List (List UInt8))(s14 s15:Int)(w3:MP (List UInt8) Int)(w4:List Int):Option ((Int×MP (List UInt8) Int×List Int)⊕((List Int))):=
 AE (decide (s15<s14)) (
  AG (XD s13 s14 s15 w3 w4) fun o3=>
  some (.inl ((AA .add .i64 s15 1),o3.1,o3.2))) (
  some (.inr w4))
def XF(s13:List (List UInt8))(s14 s15:Int)(w3:MP (List UInt8) Int)(w4:List Int):Option ((List Int)):=AQ (fun s:Int×MP (List UInt8) Int×List Int=>GA s13 s14 s.1 s.2.1 s.2.2) (s15,w3,w4)
def Y4(a0:List (List UInt8)):Option (List Int):=
 AU (0<=(a0.length:Int)/\fit 0 (a0.length:Int).toNat 8) (
  AG (XF a0 (a0.length:Int) 0 (Dk:MP (List UInt8) Int) (List.replicate (a0.length:Int).toNat 0)) fun o4=>
  some o4)
def HK(s0 s1:List Int)(s12 s13:Int):Option ((Int)⊕(Unit⊕Unit)):=
 AE (decide (s13<s12)) (
  AT s0 s13 fun x1=>
  AT s1 s13 fun x2=>
  AE (!decide (x1=x2)) (
   some (.inr (.inr ()))) (
   some (.inl (AA .add .i64 s13 1)))) (
  some (.inr (.inl ())))
def ZK(s0 s1:List Int)(s12 s13:Int):Option (Unit⊕Unit):=AQ (fun s:Int=>HK s0 s1 s12 s) s13
def Yl(a0 a1:List Int):Option (Bool):=
 AE (!decide ((a0.length:Int)=(a1.length:Int))) (
  some false) (
  AG (ZK a0 a1 (a0.length:Int) 0) fun o3=>
  CX o3 (fun o4=>
   some true) (fun o5=>
   some false))
def UY(s8 s9:List Int)(s11:Int)(s30:List Int)(s31 s32:Int)(s39:Bool)(w3:AD)(w10:List Int):Option ((List Int)):=
 AE (s39) (
  AU (0<=s11/\s11+1<=(w10.length:Int)) (
   AU (0<=s11/\s11+1<=(w10.length:Int)) (
    some (w10.set s11.toNat 1)))) (
  some w10)
def SK(s8 s9 s30:List Int)(s31 s32:Int)(w3:AD)(w10:List Int):Option ((List Int)):=
 AT s30 s32 fun x3=>
 AG (Yb w3 x3) fun r4=>
 AG (UY s8 s9 s32 s30 s31 s32 r4 w3 w10) fun o5=>
 some o5
def Ft(s8 s9 s30:List Int)(s31:Int)(w3:AD)(s32:Int)(w10:List Int):Option ((Int×List Int)⊕((List Int))):=
 AE (decide (s32<s31)) (
  AG (SK s8 s9 s30 s31 s32 w3 w10) fun o6=>
  some (.inl ((AA .add .i64 s32 1),o6))) (
  some (.inr w10))
def UZ(s8 s9 s30:List Int)(s31:Int)(w3:AD)(s32:Int)(w10:List Int):Option ((List Int)):=AQ (fun s:Int×List Int=>Ft s8 s9 s30 s31 w3 s.1 s.2) (s32,w10)
def Gv(s8 s9:List Int)(s10 s45:List Int)(s46:Int)(w3:AD)(s47:Int)(w13:MP Int Int):Option ((Int×MP Int Int)⊕((MP Int Int))):=
 AE (decide (s47<s46)) (
  AT s45 s47 fun x20=>
  AT s10 s47 fun x21=>
  some (.inl ((AA .add .i64 s47 1),Cb w13 x20 x21))) (
  some (.inr w13))
def Ue(s8 s9:List Int)(s10 s45:List Int)(s46:Int)(w3:AD)(s47:Int)(w13:MP Int Int):Option ((MP Int Int)):=AQ (fun s:Int×MP Int Int=>Gv s8 s9 s10 s45 s46 w3 s.1 s.2) (s47,w13)
def Fv(s8 s9:List Int)(s10 s59:List Int)(s60:Int)(w3:AD)(s61:Int)(w13:MP Int Int)(w16:List (List UInt8)):Option ((Int×MP Int Int×List (List UInt8))⊕((List (List UInt8)))):=
 AE (decide (s61<s60)) (
  AT s59 s61 fun x26=>
  AT s10 s61 fun x27=>
  AG (Yd w3 x26 x27 s9 w13) fun r28=>
  AU (fit w16.length [r28.1].length 16) (
   some (.inl ((AA .add .i64 s61 1),r28.2,w16++[r28.1])))) (
  some (.inr w16))
def Uh(s8 s9:List Int)(s10 s59:List Int)(s60:Int)(w3:AD)(s61:Int)(w13:MP Int Int)(w16:List (List UInt8)):Option ((List (List UInt8))):=AQ (fun s:Int×MP Int Int×List (List UInt8)=>Fv s8 s9 s10 s59 s60 w3 s.1 s.2.1 s.2.2) (s61,w13,w16)
def Fu(s8 s9:List Int)(w3:AD)(s10:List Int):Option ((List Int)⊕((List Int))):=
 AG (Ue s8 s9 s10 s8 (s8.length:Int) w3 0 (Dk:MP Int Int)) fun o22=>
 AG (Uh s8 s9 s10 s8 (s8.length:Int) w3 0 o22 ([]:List (List UInt8))) fun o29=>
 AG (Y4 o29) fun r30=>
 AG (Yl r30 s10) fun r31=>
 AE (r31) (
  some (.inr s10)) (
  some (.inl r30))
def Nz(s8 s9:List Int)(w3:AD)(s10:List Int):Option ((List Int)):=AQ (fun s:List Int=>Fu s8 s9 w3 s) s10
theorem aFx(s8 s9:List Int)(w3:AD)(s10:List Int):Nz s8 s9 w3 s10=CW (Fu s8 s9 w3 s10) (fun s:List Int=>Nz s8 s9 w3 s):=Aj _ _
def X6(a0:AD)(a1:List X2)(a2:Int):Option (List Int×List Int):=
 AG (Zt a0 a1 a2) fun r1=>
 AG (X4 a0 a1) fun r2=>
 AU (0<=(r1.length:Int)/\fit 0 (r1.length:Int).toNat 8) (
  AG (UZ r1 r2 r1 (r1.length:Int) a0 0 (List.replicate (r1.length:Int).toNat 0)) fun o7=>
  AG (Nz r1 r2 a0 o7) fun o32=>
  some (r1,o32))
def YL(s0:List Int)(s7:Bool):Option (Unit):=
 AE (s7) (
  none) (
  some ())
def HH(s0:List Int)(s3 s4:Int):Option ((Int×Int)⊕(Int)):=
 AE (decide (s4<(s0.length:Int))) (
  AT s0 s4 fun x3=>
  some (.inl ((GO s3 x3),(AA .add .i64 s4 1)))) (
  some (.inr s3))
def YM(s0:List Int)(s3 s4:Int):Option (Int):=AQ (fun s:Int×Int=>HH s0 s.1 s.2) (s3,s4)
def Yc(a0:List Int):Option (Int):=
 AG (YL a0 (decide ((a0.length:Int)<1))) fun o1=>
 AT a0 0 fun x2=>
 AG (YM a0 x2 1) fun o4=>
 some o4
def Zu(a0:AD)(a1:List X2):Option (Int):=
 AU (0<=(IntKind.wrap .u64 a0.start)) (
  AG (X6 a0 a1 (AA .shl .u32 1 (IntKind.wrap .u64 a0.start))) fun r1=>
  AG (Yc r1.2) fun r2=>
  some (AA .add .i64 r2 1))
def O0(s2 s3:Int)(w0:List Int):Option ((Int×Int×List Int)⊕((List Int))):=
 AE (decide (s2<s3)) (
  AU (0<=s3/\s3+1<=(w0.length:Int)) (
   AT w0 s3 fun x1=>
   AU (0<=s2/\s2+1<=(w0.length:Int)) (
    AT w0 s2 fun x2=>
    AU (0<=s2/\s2+1<=(w0.length:Int)) (
     AU (0<=s2/\s2+1<=(w0.length:Int)) (
      AU (0<=s3/\s3+1<=((w0.set s2.toNat x1).length:Int)) (
       AU (0<=s3/\s3+1<=((w0.set s2.toNat x1).length:Int)) (
        some (.inl ((AA .add .i64 s2 1),(AA .sub .i64 s3 1),(w0.set s2.toNat x1).set s3.toNat x2))))))))) (
  some (.inr w0))
def aMf(s2 s3:Int)(w0:List Int):Option ((List Int)):=AQ (fun s:Int×Int×List Int=>O0 s.1 s.2.1 s.2.2) (s2,s3,w0)
def Yv(w0:List Int):Option (List Int):=
 AG (aMf 0 (AA .sub .i64 (w0.length:Int) 1) w0) fun o3=>
 some o3
def Sd(s10:List Int)(s14 s15 s18:Int)(s56:List Int)(s57 s58:Int)(s87:Bool)(w4:AD)(w11:X3)(w12:List X3)(w13:MP X3 Xe)(w16 w19:X3):Option ((List X3×MP X3 Xe)):=
 AE (s87) (
  AU (fit w12.length [w19].length 8) (
   some (w12++[w19],Cb w13 w19 (Xe.mk w16 s18)))) (
  some (w12,w13))
def VQ(s10:List Int)(s14 s15:Int)(s56:List Int)(s57 s58:Int)(w4:AD)(w11:X3)(w12:List X3)(w13:MP X3 Xe)(w16:X3):Option ((List X3×MP X3 Xe)):=
 AT s56 s58 fun x5=>
 AG (X8 w4 w16.a x5) fun r6=>
 AG (X8 w4 w16.b x5) fun r7=>
 AE (!((BH (Xe.mk (X3.mk 0 0) 0) w13 (X3.mk r6 r7)).2)) (
  AG (Sd s10 s14 s15 x5 s56 s57 s58 (!decide ((X3.mk r6 r7).a=(X3.mk r6 r7).b)) w4 w11 w12 w13 w16 (X3.mk r6 r7)) fun o8=>
  some (o8.1,o8.2)) (
  AG (Sd s10 s14 s15 x5 s56 s57 s58 false w4 w11 w12 w13 w16 (X3.mk r6 r7)) fun o9=>
  some (o9.1,o9.2))
def LD(s10:List Int)(s14 s15:Int)(s56:List Int)(s57:Int)(w4:AD)(w11 w16:X3)(s58:Int)(w12:List X3)(w13:MP X3 Xe):Option ((Int×List X3×MP X3 Xe)⊕((List X3×MP X3 Xe))):=
 AE (decide (s58<s57)) (
  AG (VQ s10 s14 s15 s56 s57 s58 w4 w11 w12 w13 w16) fun o10=>
  some (.inl ((AA .add .i64 s58 1),o10.1,o10.2))) (
  some (.inr (w12,w13)))
def aHe(s10:List Int)(s14 s15:Int)(s56:List Int)(s57:Int)(w4:AD)(w11 w16:X3)(s58:Int)(w12:List X3)(w13:MP X3 Xe):Option ((List X3×MP X3 Xe)):=AQ (fun s:Int×List X3×MP X3 Xe=>LD s10 s14 s15 s56 s57 w4 w11 w16 s.1 s.2.1 s.2.2) (s58,w12,w13)
def LC(s10:List Int)(s14:Int)(w4:AD)(w11:X3)(s15:Int)(w12:List X3)(w13:MP X3 Xe):Option ((Int×List X3×MP X3 Xe)⊕((Int×List X3×MP X3 Xe))):=
 AE (decide (s15<(w12.length:Int))) (
  AT w12 s15 fun x2=>
  AG (Yb w4 x2.a) fun r3=>
  AG (Yb w4 x2.b) fun r4=>
  AE (!(r3==r4)) (
   some (.inr (s15,w12,w13))) (
   AG (aHe s10 s14 s15 s10 (s10.length:Int) w4 w11 x2 0 w12 w13) fun o11=>
   some (.inl ((AA .add .i64 s15 1),o11.1,o11.2)))) (
  some (.inr (s14,w12,w13)))
def aHb(s10:List Int)(s14:Int)(w4:AD)(w11:X3)(s15:Int)(w12:List X3)(w13:MP X3 Xe):Option ((Int×List X3×MP X3 Xe)):=AQ (fun s:Int×List X3×MP X3 Xe=>LC s10 s14 w4 w11 s.1 s.2.1 s.2.2) (s15,w12,w13)
def OO(w11:X3)(w13:MP X3 Xe)(w22:List Int)(w23:X3):Option ((List Int×X3)⊕((List Int))):=
 AE (!(X3.eqb w23 w11)) (
  AU (fit w22.length [((BH (Xe.mk (X3.mk 0 0) 0) w13 w23).1).set].length 8) (
   some (.inl (w22++[((BH (Xe.mk (X3.mk 0 0) 0) w13 w23).1).set],((BH (Xe.mk (X3.mk 0 0) 0) w13 w23).1).from_)))) (
  some (.inr w22))
def aHh(w11:X3)(w13:MP X3 Xe)(w22:List Int)(w23:X3):Option ((List Int)):=AQ (fun s:List Int×X3=>OO w11 w13 s.1 s.2) (w22,w23)
def Xd(a0:AD)(a1:List X2)(a2 a3:Int):Option (List Int×Bool):=
 AG (X4 a0 a1) fun r1=>
 AG (aHb r1 (-1) a0 (X3.mk a2 a3) 0 [X3.mk a2 a3] (Cb (Dk:MP X3 Xe) (X3.mk a2 a3) (Xe.mk (X3.mk 0 0) 0))) fun o12=>
 AE (decide (o12.1<0)) (
  some (([]:List Int),false)) (
  AT o12.2.1 o12.1 fun x13=>
  AG (aHh (X3.mk a2 a3) o12.2.2 ([]:List Int) x13) fun o14=>
  AG (Yv o14) fun r15=>
  some (r15,true))
def Zv(a0:AD)(a1:List X2)(a2 a3:Int):Option (Bool):=
 AG (Xd a0 a1 a2 a3) fun r1=>
 some (!r1.2)
def Zq:Option (Bool):=
 AG (Zu (AD.mk ([113]:List UInt8) ([]:List Xm) ([]:List Yo) ([]:List Yq) ([Xg.mk ([115]:List UInt8) false true,Xg.mk ([116]:List UInt8) false true]) 0 ([]:List X5) ([]:List Yw) ([]:List Xr)) ([]:List X2)) fun r1=>
 AE (decide (r1=1)) (
  AG (Zv (AD.mk ([113]:List UInt8) ([]:List Xm) ([]:List Yo) ([]:List Yq) ([Xg.mk ([115]:List UInt8) false true,Xg.mk ([116]:List UInt8) false true]) 0 ([]:List X5) ([]:List Yw) ([]:List Xr)) ([]:List X2) 1 2) fun r2=>
  AE (r2) (
   AG (Zv (AD.mk ([113]:List UInt8) ([]:List Xm) ([]:List Yo) ([]:List Yq) ([Xg.mk ([115]:List UInt8) false true,Xg.mk ([116]:List UInt8) false true]) 0 ([]:List X5) ([]:List Yw) ([]:List Xr)) ([]:List X2) 1 0) fun r3=>
   some (!r3)) (
   some false)) (
  some false)
def I6(s0:List X0)(w3:X0)(s5:Int):Option ((Int)⊕(Int)):=
 AE (decide (0<s5)) (
  AT s0 (AA .sub .i64 s5 1) fun x1=>
  AG (Zs w3 x1) fun r2=>
  AE (r2) (
   some (.inl (AA .sub .i64 s5 1))) (
   some (.inr s5))) (
  some (.inr s5))
def aRw(s0:List X0)(w3:X0)(s5:Int):Option (Int):=AQ (fun s:Int=>I6 s0 w3 s) s5
def Yr(a0:List X0)(a1:X0):Option (List X0):=
 AG (aRw a0 a1 (a0.length:Int)) fun o3=>
 AE (decide (0<o3)) (
  AT a0 (AA .sub .i64 o3 1) fun x4=>
  AE ((X0.eqb x4 a1)) (
   some a0) (
   AU ((0:Int)<=0/\(0:Int)<=o3/\o3<=(a0.length:Int)) (
    AU (fit ([]:List X0).length (sub a0 0 o3).length 40) (
     AU (fit (([]:List X0)++(sub a0 0 o3)).length [a1].length 40) (
      AU ((0:Int)<=o3/\(o3:Int)<=(a0.length:Int)/\(a0.length:Int)<=(a0.length:Int)) (
       AU (fit ((([]:List X0)++(sub a0 0 o3))++[a1]).length (sub a0 o3 (a0.length:Int)).length 40) (
        some (((([]:List X0)++(sub a0 0 o3))++[a1])++(sub a0 o3 (a0.length:Int)))))))))) (
  AU ((0:Int)<=0/\(0:Int)<=o3/\o3<=(a0.length:Int)) (
   AU (fit ([]:List X0).length (sub a0 0 o3).length 40) (
    AU (fit (([]:List X0)++(sub a0 0 o3)).length [a1].length 40) (
     AU ((0:Int)<=o3/\(o3:Int)<=(a0.length:Int)/\(a0.length:Int)<=(a0.length:Int)) (
      AU (fit ((([]:List X0)++(sub a0 0 o3))++[a1]).length (sub a0 o3 (a0.length:Int)).length 40) (
       some (((([]:List X0)++(sub a0 0 o3))++[a1])++(sub a0 o3 (a0.length:Int)))))))))
def WY(s1:Int)(s10:Bool)(w2:AD):Option ((List X0)):=
 AE (s10) (
  some ([X0.mk 3 0 ([]:List UInt8) false,X0.mk 3 0 ([]:List UInt8) true])) (
  some ([]:List X0))
def WZ(s1:Int)(s5:List X0)(s6 s7:Int)(s50:Bool)(w2:AD)(w8:B0):Option ((List X0)):=
 AE (s50) (
  AG (Yr s5 w8.value) fun r12=>
  some r12) (
  some s5)
def aI7(s1:Int)(s5:List X0)(s6 s7:Int)(w2:AD):Option ((List X0)):=
 AT w2.symbols s6 fun x10=>
 AT x10.args s7 fun x11=>
 AE (decide (x11.kind=1)) (
  AG (WZ s1 s5 s6 s7 (decide (x11.value.kind=s1)) w2 x11) fun o13=>
  some o13) (
  AG (WZ s1 s5 s6 s7 false w2 x11) fun o14=>
  some o14)
def Io(s1 s6:Int)(w2:AD)(s5:List X0)(s7:Int):Option ((List X0×Int)⊕((List X0))):=
 AT w2.symbols s6 fun x17=>
 AE (decide (s7<(x17.args.length:Int))) (
  AG (aI7 s1 s5 s6 s7 w2) fun o18=>
  some (.inl (o18,(AA .add .i64 s7 1)))) (
  some (.inr s5))
def aJa(s1 s6:Int)(w2:AD)(s5:List X0)(s7:Int):Option ((List X0)):=AQ (fun s:List X0×Int=>Io s1 s6 w2 s.1 s.2) (s5,s7)
def In(s1:Int)(w2:AD)(s5:List X0)(s6:Int):Option ((List X0×Int)⊕((List X0))):=
 AE (decide (s6<(w2.symbols.length:Int))) (
  AG (aJa s1 s6 w2 s5 0) fun o19=>
  some (.inl (o19,(AA .add .i64 s6 1)))) (
  some (.inr s5))
def aRc(s1:Int)(w2:AD)(s5:List X0)(s6:Int):Option ((List X0)):=AQ (fun s:List X0×Int=>In s1 w2 s.1 s.2) (s5,s6)
def Xv(a0:AD)(a1:Int):Option (List X0):=
 AG (WY a1 (decide (a1=3)) a0) fun o1=>
 AG (aRc a1 a0 o1 0) fun o20=>
 some o20
def aRy(s0:List X0)(s1:Int)(s5:List X0)(s6:Int)(s19:Bool):Option ((List X0)):=
 AE (s19) (
  AT s0 s6 fun x7=>
  AG (Yr s5 x7) fun r8=>
  some r8) (
  some s5)
def aRx(s0:List X0)(s1:Int)(s5:List X0)(s6:Int):Option ((List X0)):=
 AT s0 s6 fun x6=>
 AG (aRy s0 s1 s5 s6 (decide (x6.kind=s1))) fun o9=>
 some o9
def LL(s0:List X0)(s1:Int)(s5:List X0)(s6:Int):Option ((List X0×Int)⊕((List X0))):=
 AE (decide (s6<(s0.length:Int))) (
  AG (aRx s0 s1 s5 s6) fun o10=>
  some (.inl (o10,(AA .add .i64 s6 1)))) (
  some (.inr s5))
def aL8(s0:List X0)(s1:Int)(s5:List X0)(s6:Int):Option ((List X0)):=AQ (fun s:List X0×Int=>LL s0 s1 s.1 s.2) (s5,s6)
theorem aL9(s0:List X0)(s1:Int)(s5:List X0)(s6:Int):aL8 s0 s1 s5 s6=CW (LL s0 s1 s5 s6) (fun s:List X0×Int=>aL8 s0 s1 s.1 s.2):=Aj _ _
def Ys(a0:List X0)(a1:Int):Option (List X0):=
 AG (aL8 a0 a1 ([]:List X0) 0) fun o11=>
 some o11
def LN(s1 s5:List X0)(s6:Int):Option ((List X0×Int)⊕((List X0))):=
 AE (decide (s6<(s1.length:Int))) (
  AT s1 s6 fun x1=>
  AG (Yr s5 x1) fun r2=>
  some (.inl (r2,(AA .add .i64 s6 1)))) (
  some (.inr s5))
def aMy(s1 s5:List X0)(s6:Int):Option ((List X0)):=AQ (fun s:List X0×Int=>LN s1 s.1 s.2) (s5,s6)
theorem aMz(s1 s5:List X0)(s6:Int):aMy s1 s5 s6=CW (LN s1 s5 s6) (fun s:List X0×Int=>aMy s1 s.1 s.2):=Aj _ _
def Z9(a0 a1:List X0):Option (List X0):=
 AG (aMy a1 a0 0) fun o3=>
 some o3
def Qk(a0:List X0)(a1:X0):Option (Bool):=
 AG (Yr a0 a1) fun r1=>
 some (decide ((r1.length:Int)=(a0.length:Int)))
def aLc(s0:Int)(s1:List X0)(s12:Bool)(w4 w5:X0):Option (X0):=
 AE (s12) (
  some (X0.mk w5.kind (AA .add .i64 w5.int 1) w5.str w5.bool)) (
  AU (w5.str.length+([97]:List UInt8).length<=9223372036854775807) (
   some (X0.mk w5.kind w5.int (w5.str++([97]:List UInt8)) w5.bool)))
def YU(s0:Int)(s1:List X0)(w4 w5:X0):Option (X0):=
 AG (aLc s0 s1 (decide (s0=1)) w4 w5) fun o2=>
 some o2
def I1(s0:Int)(s1:List X0)(w4 w5:X0):Option ((X0)⊕(X0)):=
 AG (Qk s1 w5) fun r1=>
 AE (r1) (
  AG (YU s0 s1 w4 w5) fun o3=>
  some (.inl o3)) (
  some (.inr w5))
def YV(s0:Int)(s1:List X0)(w4 w5:X0):Option (X0):=AQ (fun s:X0=>I1 s0 s1 w4 s) w5
theorem RG(s0:Int)(s1:List X0)(w4 w5:X0):YV s0 s1 w4 w5=CW (I1 s0 s1 w4 w5) (fun s:X0=>YV s0 s1 w4 s):=Aj _ _
def Yf(a0:Int)(a1:List X0):Option (X0):=
 AG (YV a0 a1 (X0.mk 0 0 ([]:List UInt8) false) (X0.mk a0 0 ([]:List UInt8) false)) fun o4=>
 some o4
def aLq(s1:Int)(s2:List X2)(s3 s9:List X0)(s10:Int)(s27:Bool):Option ((List X0)):=
 AE (s27) (
  AT s2 s10 fun x3=>
  AG (Yr s9 x3.value) fun r4=>
  some r4) (
  some s9)
def aLo(s1:Int)(s2:List X2)(s3 s9:List X0)(s10:Int):Option ((List X0)):=
 AT s2 s10 fun x2=>
 AG (aLq s1 s2 s3 s9 s10 (decide (x2.value.kind=s1))) fun o5=>
 some o5
def I4(s1:Int)(s2:List X2)(s3 s9:List X0)(s10:Int):Option ((List X0×Int)⊕((List X0))):=
 AE (decide (s10<(s2.length:Int))) (
  AG (aLo s1 s2 s3 s9 s10) fun o6=>
  some (.inl (o6,(AA .add .i64 s10 1)))) (
  some (.inr s9))
def aLs(s1:Int)(s2:List X2)(s3 s9:List X0)(s10:Int):Option ((List X0)):=AQ (fun s:List X0×Int=>I4 s1 s2 s3 s.1 s.2) (s9,s10)
def Ym(a0:AD)(a1:Int)(a2:List X2)(a3:List X0):Option (List X0):=
 AG (Xv a0 a1) fun r1=>
 AG (aLs a1 a2 a3 r1 0) fun o7=>
 AE (decide (a1=3)) (
  some o7) (
  AG (Ys a3 a1) fun r8=>
  AG (Z9 o7 r8) fun r9=>
  AG (Yf a1 r9) fun r10=>
  AG (Yr o7 r10) fun r11=>
  some r11)
def I3(self:AD->Int->(List X2)->(List X0)->(List X0)->Option (List Xc))(s1:Int)(s2:List X2)(s3 s4 s12:List X0)(w5:AD)(s13:Int)(w11:List Xc):Option ((Int×List Xc)⊕((List Xc))):=
 AE (decide (s13<(s12.length:Int))) (
  AU (fit ([]:List X0).length s4.length 40) (
   AT s12 s13 fun x8=>
   AU (fit (([]:List X0)++s4).length [x8].length 40) (
    AG (self w5 s1 s2 s3 ((([]:List X0)++s4)++[x8])) fun r9=>
    AU (fit w11.length r9.length 40) (
     some (.inl ((AA .add .i64 s13 1),w11++r9)))))) (
  some (.inr w11))
def aRt(self:AD->Int->(List X2)->(List X0)->(List X0)->Option (List Xc))(s1:Int)(s2:List X2)(s3 s4 s12:List X0)(w5:AD)(s13:Int)(w11:List Xc):Option ((List Xc)):=AQ (fun s:Int×List Xc=>I3 self s1 s2 s3 s4 s12 w5 s.1 s.2) (s13,w11)
def aVp(self:AD->Int->(List X2)->(List X0)->(List X0)->Option (List Xc))(a0:AD)(a1:Int)(a2:List X2)(a3 a4:List X0):Option (List Xc):=
 AT a0.decls a1 fun x1=>
 AE (decide ((a4.length:Int)=(x1.types.length:Int))) (
  AT a0.decls a1 fun x2=>
  some [Xc.mk x2.name a4]) (
  AT a0.decls a1 fun x3=>
  AT x3.types (a4.length:Int) fun x4=>
  AG (Ym a0 x4 a2 a3) fun r5=>
  AG (aRt self a1 a2 a3 a4 r5 a0 0 ([]:List Xc)) fun o10=>
  some o10)
def aPj:Nat->AD->Int->(List X2)->(List X0)->(List X0)->Option (List Xc)
 |0=>fun _ _ _ _ _=>none
 |n+1=>fun a0 a1 a2 a3 a4=>aVp (aPj n) a0 a1 a2 a3 a4
def Yh(a0:AD)(a1:Int)(a2:List X2)(a3 a4:List X0):Option (List Xc):=aPj 100000 a0 a1 a2 a3 a4
def LM(s0:List X2)(s1:Int)(w4:X0)(s6:Int):Option ((Int)⊕(Unit⊕X0)):=
 AE (decide (s6<(s0.length:Int))) (
  AT s0 s6 fun x1=>
  AE (decide (x1.var=s1)) (
   AT s0 s6 fun x2=>
   some (.inr (.inr x2.value))) (
   some (.inl (AA .add .i64 s6 1)))) (
  some (.inr (.inl ())))
def aRz(s0:List X2)(s1:Int)(w4:X0)(s6:Int):Option (Unit⊕X0):=AQ (fun s:Int=>LM s0 s1 w4 s) s6
def Yt(a0:List X2)(a1:Int):Option (X0×Bool):=
 AG (aRz a0 a1 (X0.mk 0 0 ([]:List UInt8) false) 0) fun o3=>
 CX o3 (fun o4=>
  some (X0.mk 0 0 ([]:List UInt8) false,false)) (fun o5=>
  some (o5,true))
def LP(s0 s1:List X2)(s5:Int):Option ((Int)⊕(Unit⊕Unit)):=
 AE (decide (s5<(s0.length:Int))) (
  AT s0 s5 fun x1=>
  AG (Yt s1 x1.var) fun r2=>
  AE (r2.2) (
   AT s0 s5 fun x3=>
   AE (!(X0.eqb r2.1 x3.value)) (
    some (.inr (.inr ()))) (
    some (.inl (AA .add .i64 s5 1)))) (
   some (.inl (AA .add .i64 s5 1)))) (
  some (.inr (.inl ())))
def aSa(s0 s1:List X2)(s5:Int):Option (Unit⊕Unit):=AQ (fun s:Int=>LP s0 s1 s) s5
def Zf(a0 a1:List X2):Option (Bool):=
 AG (aSa a0 a1 0) fun o4=>
 CX o4 (fun o5=>
  some true) (fun o6=>
  some false)
def aK8(s0 s1:List X2)(s6:Int)(s34:Bool)(w5:List X2)(w9:X0):Option ((List X2)):=
 AE (s34) (
  AU (fit w5.length [X2.mk s6 w9].length 48) (
   some (w5++[X2.mk s6 w9]))) (
  some w5)
def aK6(s0 s1:List X2)(s6:Int)(s10 s27:Bool)(w5:List X2)(w7 w9:X0):Option ((List X2)):=
 AE (s27) (
  AU (fit w5.length [X2.mk s6 w7].length 48) (
   some (w5++[X2.mk s6 w7]))) (
  AG (aK8 s0 s1 s6 s10 w5 w9) fun o8=>
  some o8)
def aK4(s0 s1:List X2)(s6:Int)(w5:List X2):Option ((List X2)):=
 AG (Yt s0 s6) fun r6=>
 AG (Yt s1 s6) fun r7=>
 AG (aK6 s0 s1 s6 r7.2 r6.2 w5 r6.1 r7.1) fun o9=>
 some o9
def I0(s0 s1:List X2)(s6:Int)(w5:List X2):Option ((Int×List X2)⊕((List X2))):=
 AE (decide (s6<8)) (
  AG (aK4 s0 s1 s6 w5) fun o10=>
  some (.inl ((AA .add .i64 s6 1),o10))) (
  some (.inr w5))
def aRp(s0 s1:List X2)(s6:Int)(w5:List X2):Option ((List X2)):=AQ (fun s:Int×List X2=>I0 s0 s1 s.1 s.2) (s6,w5)
def Ye(a0 a1:List X2):Option (List X2):=
 AG (aRp a0 a1 0 ([]:List X2)) fun o11=>
 some o11
def JF(s0:List X2)(w3:X2)(s5:Int):Option ((Int)⊕(Int)):=
 AE (decide (0<s5)) (
  AT s0 (AA .sub .i64 s5 1) fun x1=>
  AE (decide (w3.var<x1.var)) (
   some (.inl (AA .sub .i64 s5 1))) (
   some (.inr s5))) (
  some (.inr s5))
def aR7(s0:List X2)(w3:X2)(s5:Int):Option (Int):=AQ (fun s:Int=>JF s0 w3 s) s5
def Za(a0:List X2)(a1:X2):Option (List X2):=
 AG (aR7 a0 a1 (a0.length:Int)) fun o2=>
 AU ((0:Int)<=0/\(0:Int)<=o2/\o2<=(a0.length:Int)) (
  AU (fit ([]:List X2).length (sub a0 0 o2).length 48) (
   AU (fit (([]:List X2)++(sub a0 0 o2)).length [a1].length 48) (
    AU ((0:Int)<=o2/\(o2:Int)<=(a0.length:Int)/\(a0.length:Int)<=(a0.length:Int)) (
     AU (fit ((([]:List X2)++(sub a0 0 o2))++[a1]).length (sub a0 o2 (a0.length:Int)).length 48) (
      some (((([]:List X2)++(sub a0 0 o2))++[a1])++(sub a0 o2 (a0.length:Int))))))))
def Wt(s1:Int)(s10 s11:List X2)(s12:Int)(s80:Bool)(w5:Xc)(w6:Int)(w8:X5)(w9:Au)(w13:B0)(w14:List X2):Option ((List X2)⊕Unit):=
 AE (s80) (
  AG (Zf s10 w14) fun r32=>
  AE (!r32) (
   some (.inr ())) (
   AG (Ye s10 w14) fun r33=>
   some (.inl r33))) (
  some (.inl s10))
def Wv(s1:Int)(s10 s11:List X2)(s12:Int)(s111:Bool)(w5:Xc)(w6:Int)(w8:X5)(w9:Au)(w14:List X2):Option ((List X2)):=
 AE (s111) (
  AT w14 0 fun x39=>
  AG (Za s11 x39) fun r40=>
  some r40) (
  some s11)
def Wu(s1:Int)(s10 s11:List X2)(s12:Int)(s91:Bool)(w5:Xc)(w6:Int)(w8:X5)(w9:Au)(w13:B0)(w14:List X2):Option ((List X2)⊕Unit):=
 AE (s91) (
  AG (Yt s11 w13.n) fun r37=>
  AE (r37.2) (
   AT w5.args s12 fun x38=>
   AE (!(X0.eqb r37.1 x38)) (
    some (.inr ())) (
    AG (Wv s1 s10 s11 s12 (!r37.2) w5 w6 w8 w9 w14) fun o41=>
    some (.inl o41))) (
   AG (Wv s1 s10 s11 s12 (!r37.2) w5 w6 w8 w9 w14) fun o42=>
   some (.inl o42))) (
  some (.inl s11))
def aJn(s1:Int)(s10 s11:List X2)(s12:Int)(w5:Xc)(w6:Int)(w8:X5)(w9:Au):Option ((List X2×List X2)⊕Unit):=
 AT w8.args s12 fun x29=>
 AT w5.args s12 fun x30=>
 AE (decide (x29.kind=1)) (
  AT w5.args s12 fun x31=>
  AE (!(X0.eqb x29.value x31)) (
   some (.inr ())) (
   AG (Wt s1 s10 s11 s12 (decide (x29.kind=2)) w5 w6 w8 w9 x29 [X2.mk x29.n x30]) fun o34=>
   CX o34 (fun o35=>
    AG (Wu s1 o35 s11 s12 (decide (x29.kind=3)) w5 w6 w8 w9 x29 [X2.mk x29.n x30]) fun o43=>
    CX o43 (fun o44=>
     some (.inl (o35,o44))) (fun o45=>
     some (.inr ()))) (fun o36=>
    some (.inr ())))) (
  AG (Wt s1 s10 s11 s12 (decide (x29.kind=2)) w5 w6 w8 w9 x29 [X2.mk x29.n x30]) fun o46=>
  CX o46 (fun o47=>
   AG (Wu s1 o47 s11 s12 (decide (x29.kind=3)) w5 w6 w8 w9 x29 [X2.mk x29.n x30]) fun o49=>
   CX o49 (fun o50=>
    some (.inl (o47,o50))) (fun o51=>
    some (.inr ()))) (fun o48=>
   some (.inr ())))
def Ir(s1:Int)(w5:Xc)(w6:Int)(w8:X5)(w9:Au)(s10 s11:List X2)(s12:Int):Option ((List X2×List X2×Int)⊕((List X2×List X2)⊕Unit)):=
 AE (decide (s12<(w8.args.length:Int))) (
  AG (aJn s1 s10 s11 s12 w5 w6 w8 w9) fun o52=>
  CX o52 (fun o53=>
   some (.inl (o53.1,o53.2,(AA .add .i64 s12 1)))) (fun o54=>
   some (.inr (.inr ())))) (
  some (.inr (.inl (s10,s11))))
def S4(s1:Int)(w5:Xc)(w6:Int)(w8:X5)(w9:Au)(s10 s11:List X2)(s12:Int):Option ((List X2×List X2)⊕Unit):=AQ (fun s:List X2×List X2×Int=>Ir s1 w5 w6 w8 w9 s.1 s.2.1 s.2.2) (s10,s11,s12)
theorem Qw(s1:Int)(w5:Xc)(w6:Int)(w8:X5)(w9:Au)(s10 s11:List X2)(s12:Int):S4 s1 w5 w6 w8 w9 s10 s11 s12=CW (Ir s1 w5 w6 w8 w9 s10 s11 s12) (fun s:List X2×List X2×Int=>S4 s1 w5 w6 w8 w9 s.1 s.2.1 s.2.2):=Aj _ _
def Xz(a0:AD)(a1:Int)(a2:Xc):Option (Au×Bool):=
 AT a0.symbols a1 fun x1=>
 AT a0.decls x1.event fun x2=>
 AE (!decide (x2.name=a2.name)) (
  some (Au.mk 0 ([]:List X2) ([]:List X2),false)) (
  AE (!decide ((x1.args.length:Int)=(a2.args.length:Int))) (
   some (Au.mk 0 ([]:List X2) ([]:List X2),false)) (
   AG (S4 a1 a2 0 x1 (Au.mk 0 ([]:List X2) ([]:List X2)) ([]:List X2) ([]:List X2) 0) fun o55=>
   CX o55 (fun o56=>
    some (Au.mk a1 o56.1 o56.2,true)) (fun o57=>
    some ((Au.mk 0 ([]:List X2) ([]:List X2)),false))))
def aLw(s6:Int)(s23:Bool)(w2:AD)(w3:Xc)(w5:List Au)(w7:Au):Option ((List Au)):=
 AE (s23) (
  AU (fit w5.length [w7].length 56) (
   some (w5++[w7]))) (
  some w5)
def aLu(s6:Int)(w2:AD)(w3:Xc)(w5:List Au):Option ((List Au)):=
 AG (Xz w2 s6 w3) fun r4=>
 AG (aLw s6 r4.2 w2 w3 w5 r4.1) fun o5=>
 some o5
def I5(w2:AD)(w3:Xc)(s6:Int)(w5:List Au):Option ((Int×List Au)⊕((List Au))):=
 AE (decide (s6<(w2.symbols.length:Int))) (
  AG (aLu s6 w2 w3 w5) fun o6=>
  some (.inl ((AA .add .i64 s6 1),o6))) (
  some (.inr w5))
def aRu(w2:AD)(w3:Xc)(s6:Int)(w5:List Au):Option ((List Au)):=AQ (fun s:Int×List Au=>I5 w2 w3 s.1 s.2) (s6,w5)
def Yn(a0:AD)(a1:Xc):Option (List Au):=
 AG (aRu a0 a1 0 ([]:List Au)) fun o7=>
 some o7
def LQ(s0 s1:List X2)(s5:Int):Option ((Int)⊕(Unit⊕Unit)):=
 AE (decide (s5<(s0.length:Int))) (
  AT s0 s5 fun x1=>
  AG (Yt s1 x1.var) fun r2=>
  AE (!r2.2) (
   some (.inr (.inr ()))) (
   AT s0 s5 fun x3=>
   AE (!(X0.eqb r2.1 x3.value)) (
    some (.inr (.inr ()))) (
    some (.inl (AA .add .i64 s5 1))))) (
  some (.inr (.inl ())))
def aSb(s0 s1:List X2)(s5:Int):Option (Unit⊕Unit):=AQ (fun s:Int=>LQ s0 s1 s) s5
def Zg(a0 a1:List X2):Option (Bool):=
 AG (aSb a0 a1 0) fun o4=>
 CX o4 (fun o5=>
  some true) (fun o6=>
  some false)
def aL1(s0:List Au)(s1:List X2)(s6:Int)(s19:Bool)(w5:List Au):Option ((List Au)):=
 AE (s19) (
  AT s0 s6 fun x8=>
  AU (fit w5.length [x8].length 56) (
   some (w5++[x8]))) (
  some w5)
def aLz(s0:List Au)(s1:List X2)(s6:Int)(w5:List Au):Option ((List Au)):=
 AT s0 s6 fun x6=>
 AG (Zg x6.bind s1) fun r7=>
 AG (aL1 s0 s1 s6 r7 w5) fun o9=>
 some o9
def LK(s0:List Au)(s1:List X2)(s6:Int)(w5:List Au):Option ((Int×List Au)⊕((List Au))):=
 AE (decide (s6<(s0.length:Int))) (
  AG (aLz s0 s1 s6 w5) fun o10=>
  some (.inl ((AA .add .i64 s6 1),o10))) (
  some (.inr w5))
def aRv(s0:List Au)(s1:List X2)(s6:Int)(w5:List Au):Option ((List Au)):=AQ (fun s:Int×List Au=>LK s0 s1 s.1 s.2) (s6,w5)
def Yp(a0:List Au)(a1:List X2):Option (List Au):=
 AG (aRv a0 a1 0 ([]:List Au)) fun o11=>
 some o11
def JG(s0:List Au)(s3 s4:Int):Option ((Int×Int)⊕(Int)):=
 AE (decide (s4<(s0.length:Int))) (
  AT s0 s4 fun x1=>
  AU (0<=(IntKind.wrap .u64 x1.symbol)) (
   some (.inl ((AA .add .u64 s3 (AA .shl .u64 1 (IntKind.wrap .u64 x1.symbol))),(AA .add .i64 s4 1))))) (
  some (.inr s3))
def aR8(s0:List Au)(s3 s4:Int):Option (Int):=AQ (fun s:Int×Int=>JG s0 s.1 s.2) (s3,s4)
def Zb(a0:List Au):Option (Int):=
 AG (aR8 a0 0 0) fun o2=>
 some o2
def JA(s0:List Int)(s1 s5:Int):Option ((Int)⊕(Int)):=
 AE (decide (0<s5)) (
  AT s0 (AA .sub .i64 s5 1) fun x1=>
  AE (decide (s1<x1)) (
   some (.inl (AA .sub .i64 s5 1))) (
   some (.inr s5))) (
  some (.inr s5))
def aAn(s0:List Int)(s1 s5:Int):Option (Int):=AQ (fun s:Int=>JA s0 s1 s) s5
theorem RI(s0:List Int)(s1 s5:Int):aAn s0 s1 s5=CW (JA s0 s1 s5) (fun s:Int=>aAn s0 s1 s):=Aj _ _
def Z1(a0:List Int)(a1:Int):Option (List Int):=
 AG (aAn a0 a1 (a0.length:Int)) fun o2=>
 AE (decide (0<o2)) (
  AT a0 (AA .sub .i64 o2 1) fun x3=>
  AE (decide (x3=a1)) (
   some a0) (
   AU ((0:Int)<=0/\(0:Int)<=o2/\o2<=(a0.length:Int)) (
    AU (fit ([]:List Int).length (sub a0 0 o2).length 8) (
     AU (fit (([]:List Int)++(sub a0 0 o2)).length [a1].length 8) (
      AU ((0:Int)<=o2/\(o2:Int)<=(a0.length:Int)/\(a0.length:Int)<=(a0.length:Int)) (
       AU (fit ((([]:List Int)++(sub a0 0 o2))++[a1]).length (sub a0 o2 (a0.length:Int)).length 8) (
        some (((([]:List Int)++(sub a0 0 o2))++[a1])++(sub a0 o2 (a0.length:Int)))))))))) (
  AU ((0:Int)<=0/\(0:Int)<=o2/\o2<=(a0.length:Int)) (
   AU (fit ([]:List Int).length (sub a0 0 o2).length 8) (
    AU (fit (([]:List Int)++(sub a0 0 o2)).length [a1].length 8) (
     AU ((0:Int)<=o2/\(o2:Int)<=(a0.length:Int)/\(a0.length:Int)<=(a0.length:Int)) (
      AU (fit ((([]:List Int)++(sub a0 0 o2))++[a1]).length (sub a0 o2 (a0.length:Int)).length 8) (
       some (((([]:List Int)++(sub a0 0 o2))++[a1])++(sub a0 o2 (a0.length:Int)))))))))
def Sy(s1:List X2)(s5:List Int)(s6:Int)(s7:List Xc)(s8 s9:Int)(s37:Bool)(w2:AD):Option ((List Int)):=
 AE (s37) (
  AG (Z1 s5 s9) fun r13=>
  some r13) (
  some s5)
def aJc(s1:List X2)(s5:List Int)(s6:Int)(s7:List Xc)(s8:Int)(w2:AD):Option ((List Int)):=
 AT s7 s8 fun x9=>
 AG (Yn w2 x9) fun r10=>
 AG (Yp r10 s1) fun r11=>
 AG (Zb r11) fun r12=>
 AG (Sy s1 s5 s6 s7 s8 r12 (!decide (r12=0)) w2) fun o14=>
 some o14
def G8(s1:List X2)(s6:Int)(s7:List Xc)(w2:AD)(s5:List Int)(s8:Int):Option ((List Int×Int)⊕((List Int))):=
 AE (decide (s8<(s7.length:Int))) (
  AG (aJc s1 s5 s6 s7 s8 w2) fun o18=>
  some (.inl (o18,(AA .add .i64 s8 1)))) (
  some (.inr s5))
def aRe(s1:List X2)(s6:Int)(s7:List Xc)(w2:AD)(s5:List Int)(s8:Int):Option ((List Int)):=AQ (fun s:List Int×Int=>G8 s1 s6 s7 w2 s.1 s.2) (s5,s8)
def Ip(s1:List X2)(w2:AD)(s5:List Int)(s6:Int):Option ((List Int×Int)⊕((List Int))):=
 AE (decide (s6<(w2.decls.length:Int))) (
  AG (Yh w2 s6 s1 ([]:List X0) ([]:List X0)) fun r17=>
  AG (aRe s1 s6 r17 w2 s5 0) fun o19=>
  some (.inl (o19,(AA .add .i64 s6 1)))) (
  some (.inr s5))
def aRd(s1:List X2)(w2:AD)(s5:List Int)(s6:Int):Option ((List Int)):=AQ (fun s:List Int×Int=>Ip s1 w2 s.1 s.2) (s5,s6)
def Xw(a0:AD)(a1:List X2):Option (List Int):=
 AG (aRd a1 a0 ([]:List Int) 0) fun o20=>
 some o20
def WF(s1 s2:Int)(s7 s8:Int)(s9 s10:Int)(s49:Bool)(w3:AD)(w11:Xr):Option (Int):=
 AE (s49) (
  AU (0<=(IntKind.wrap .u64 w11.to)) (
   some (AA .or .u32 s9 (AA .shl .u32 1 (IntKind.wrap .u64 w11.to))))) (
  some s9)
def aIp(s1 s2:Int)(s7 s8:Int)(s9 s10:Int)(w3:AD):Option (Int):=
 AT w3.trans s10 fun x1=>
 AE (decide (x1.from_=s8)) (
  AU (0<=(IntKind.wrap .u64 x1.symbol)) (
   AG (WF s1 s2 s7 s8 s9 s10 (decide ((AA .rem .u64 (AA .shr .u64 s2 (IntKind.wrap .u64 x1.symbol)) 2)=1)) w3 x1) fun o2=>
   some o2)) (
  AG (WF s1 s2 s7 s8 s9 s10 false w3 x1) fun o3=>
  some o3)
def Ig(s1 s2:Int)(s7 s8:Int)(w3:AD)(s9 s10:Int):Option ((Int×Int)⊕(Int)):=
 AE (decide (s10<(w3.trans.length:Int))) (
  AG (aIp s1 s2 s7 s8 s9 s10 w3) fun o4=>
  some (.inl (o4,(AA .add .i64 s10 1)))) (
  some (.inr s9))
def aIs(s1 s2:Int)(s7 s8:Int)(w3:AD)(s9 s10:Int):Option (Int):=AQ (fun s:Int×Int=>Ig s1 s2 s7 s8 w3 s.1 s.2) (s9,s10)
def Oh(s1 s2:Int)(s7 s8 s9:Int)(s66:Bool)(w3:AD):Option (Int):=
 AE (s66) (
  AU (0<=(IntKind.wrap .u64 s8)) (
   some (AA .shl .u32 1 (IntKind.wrap .u64 s8)))) (
  some s9)
def aIn(s1 s2:Int)(s7 s8:Int)(w3:AD):Option (Int):=
 AU (0<=(IntKind.wrap .u64 s8)) (
  AE (decide ((AA .rem .u32 (AA .shr .u32 s1 (IntKind.wrap .u64 s8)) 2)=0)) (
   some s7) (
   AG (aIs s1 s2 s7 s8 w3 0 0) fun o5=>
   AE (decide (o5=0)) (
    AT w3.states s8 fun x6=>
    AG (Oh s1 s2 s7 s8 o5 (!x6.next) w3) fun o7=>
    some (AA .or .u32 s7 o7)) (
    AG (Oh s1 s2 s7 s8 o5 false w3) fun o8=>
    some (AA .or .u32 s7 o8))))
def G7(s1 s2:Int)(w3:AD)(s7 s8:Int):Option ((Int×Int)⊕(Int)):=
 AE (decide (s8<(w3.states.length:Int))) (
  AG (aIn s1 s2 s7 s8 w3) fun o9=>
  some (.inl (o9,(AA .add .i64 s8 1)))) (
  some (.inr s7))
def aRa(s1 s2:Int)(w3:AD)(s7 s8:Int):Option (Int):=AQ (fun s:Int×Int=>G7 s1 s2 w3 s.1 s.2) (s7,s8)
def Xp(a0:AD)(a1 a2:Int):Option (Int):=
 AG (aRa a1 a2 a0 0 0) fun o10=>
 some o10
def JM(s0:List Int)(s1 s5:Int):Option ((Int)⊕(Unit⊕Unit)):=
 AE (decide (s5<(s0.length:Int))) (
  AT s0 s5 fun x1=>
  AE (decide (x1=s1)) (
   some (.inr (.inr ()))) (
   some (.inl (AA .add .i64 s5 1)))) (
  some (.inr (.inl ())))
def aSf(s0:List Int)(s1 s5:Int):Option (Unit⊕Unit):=AQ (fun s:Int=>JM s0 s1 s) s5
def Zk(a0:List Int)(a1:Int):Option (Bool):=
 AG (aSf a0 a1 0) fun o2=>
 CX o2 (fun o3=>
  some false) (fun o4=>
  some true)
def aKb(s7:List Int)(s9 s10 s11:Int)(s42:Bool)(w3:AD)(w8:List Int):Option ((List Int)):=
 AE (s42) (
  AU (fit w8.length [s11].length 4) (
   some (w8++[s11]))) (
  some w8)
def aJ9(s7:List Int)(s9 s10:Int)(w3:AD)(w8:List Int):Option ((List Int)):=
 AT w8 s9 fun x2=>
 AT s7 s10 fun x3=>
 AG (Xp w3 x2 x3) fun r4=>
 AG (Zk w8 r4) fun r5=>
 AG (aKb s7 s9 s10 r4 (!r5) w3 w8) fun o6=>
 some o6
def Iu(s7:List Int)(s9:Int)(w3:AD)(s10:Int)(w8:List Int):Option ((Int×List Int)⊕((List Int))):=
 AE (decide (s10<(s7.length:Int))) (
  AG (aJ9 s7 s9 s10 w3 w8) fun o7=>
  some (.inl ((AA .add .i64 s10 1),o7))) (
  some (.inr w8))
def aRj(s7:List Int)(s9:Int)(w3:AD)(s10:Int)(w8:List Int):Option ((List Int)):=AQ (fun s:Int×List Int=>Iu s7 s9 w3 s.1 s.2) (s10,w8)
def It(s7:List Int)(w3:AD)(s9:Int)(w8:List Int):Option ((Int×List Int)⊕((List Int))):=
 AE (decide (s9<(w8.length:Int))) (
  AG (aRj s7 s9 w3 0 w8) fun o8=>
  some (.inl ((AA .add .i64 s9 1),o8))) (
  some (.inr w8))
def aRi(s7:List Int)(w3:AD)(s9:Int)(w8:List Int):Option ((List Int)):=AQ (fun s:Int×List Int=>It s7 w3 s.1 s.2) (s9,w8)
def Y5(a0:AD)(a1:List X2)(a2:Int):Option (List Int):=
 AG (Xw a0 a1) fun r1=>
 AG (aRi r1 a0 0 [a2]) fun o9=>
 some o9
def LJ(s8:List Int)(s9:Int)(w7:List Int)(s10:Int):Option ((Int)⊕(Int)):=
 AE (decide (0<s10)) (
  AT w7 (AA .sub .i64 s10 1) fun x6=>
  AT s8 s9 fun x7=>
  AE (decide (x7<x6)) (
   some (.inl (AA .sub .i64 s10 1))) (
   some (.inr s10))) (
  some (.inr s10))
def aRr(s8:List Int)(s9:Int)(w7:List Int)(s10:Int):Option (Int):=AQ (fun s:Int=>LJ s8 s9 w7 s) s10
def I2(s8:List Int)(s9:Int)(w7:List Int):Option ((Int×List Int)⊕((List Int))):=
 AE (decide (s9<(s8.length:Int))) (
  AG (aRr s8 s9 w7 (w7.length:Int)) fun o8=>
  AU ((0:Int)<=0/\(0:Int)<=o8/\o8<=(w7.length:Int)) (
   AU (fit ([]:List Int).length (sub w7 0 o8).length 4) (
    AT s8 s9 fun x9=>
    AU (fit (([]:List Int)++(sub w7 0 o8)).length [x9].length 4) (
     AU ((0:Int)<=o8/\(o8:Int)<=(w7.length:Int)/\(w7.length:Int)<=(w7.length:Int)) (
      AU (fit ((([]:List Int)++(sub w7 0 o8))++[x9]).length (sub w7 o8 (w7.length:Int)).length 4) (
       some (.inl ((AA .add .i64 s9 1),((([]:List Int)++(sub w7 0 o8))++[x9])++(sub w7 o8 (w7.length:Int)))))))))) (
  some (.inr w7))
def aRq(s8:List Int)(s9:Int)(w7:List Int):Option ((List Int)):=AQ (fun s:Int×List Int=>I2 s8 s.1 s.2) (s9,w7)
def Yg(a0:AD)(a1:List X2)(a2:Int):Option (List Int):=
 AG (Y5 a0 a1 a2) fun r1=>
 AG (aRq r1 0 ([]:List Int)) fun o10=>
 some o10
def JC(s1:Int)(w2:AD)(s5:Int):Option ((Int)⊕(Unit⊕Unit)):=
 AE (decide (s5<(w2.states.length:Int))) (
  AU (0<=(IntKind.wrap .u64 s5)) (
   AE (decide ((AA .rem .u32 (AA .shr .u32 s1 (IntKind.wrap .u64 s5)) 2)=1)) (
    AT w2.states s5 fun x1=>
    AE (x1.accept) (
     some (.inr (.inr ()))) (
     some (.inl (AA .add .i64 s5 1)))) (
    some (.inl (AA .add .i64 s5 1))))) (
  some (.inr (.inl ())))
def aR2(s1:Int)(w2:AD)(s5:Int):Option (Unit⊕Unit):=AQ (fun s:Int=>JC s1 w2 s) s5
def Z4(a0:AD)(a1:Int):Option (Bool):=
 AG (aR2 a1 a0 0) fun o2=>
 CX o2 (fun o3=>
  some false) (fun o4=>
  some true)
def JN(s0:List Xl)(w3:Xl)(s5:Int):Option ((Int)⊕(Unit⊕Unit)):=
 AE (decide (s5<(s0.length:Int))) (
  AT s0 s5 fun x1=>
  AE ((Xl.eqb x1 w3)) (
   some (.inr (.inr ()))) (
   some (.inl (AA .add .i64 s5 1)))) (
  some (.inr (.inl ())))
def aSg(s0:List Xl)(w3:Xl)(s5:Int):Option (Unit⊕Unit):=AQ (fun s:Int=>JN s0 w3 s) s5
def Zl(a0:List Xl)(a1:Xl):Option (Bool):=
 AG (aSg a0 a1 0) fun o2=>
 CX o2 (fun o3=>
  some false) (fun o4=>
  some true)
def W2(s9:List Int)(s11 s12:Int)(s81:Bool)(w4:AD)(w10:List Xl)(w13:Xl):Option ((List Xl)):=
 AE (s81) (
  AU (fit w10.length [w13].length 8) (
   some (w10++[w13]))) (
  some w10)
def aJv(s9:List Int)(s11 s12:Int)(w4:AD)(w10:List Xl):Option ((List Xl)):=
 AT w10 s11 fun x6=>
 AT s9 s12 fun x7=>
 AG (Xp w4 x6.a x7) fun r8=>
 AT w10 s11 fun x9=>
 AT s9 s12 fun x10=>
 AG (Xp w4 x9.b x10) fun r11=>
 AE (!decide ((Xl.mk r8 r11).a=(Xl.mk r8 r11).b)) (
  AG (Zl w10 (Xl.mk r8 r11)) fun r12=>
  AG (W2 s9 s11 s12 (!r12) w4 w10 (Xl.mk r8 r11)) fun o13=>
  some o13) (
  AG (W2 s9 s11 s12 false w4 w10 (Xl.mk r8 r11)) fun o14=>
  some o14)
def Is(s9:List Int)(s11:Int)(w4:AD)(s12:Int)(w10:List Xl):Option ((Int×List Xl)⊕((List Xl))):=
 AE (decide (s12<(s9.length:Int))) (
  AG (aJv s9 s11 s12 w4 w10) fun o15=>
  some (.inl ((AA .add .i64 s12 1),o15))) (
  some (.inr w10))
def aRh(s9:List Int)(s11:Int)(w4:AD)(s12:Int)(w10:List Xl):Option ((List Xl)):=AQ (fun s:Int×List Xl=>Is s9 s11 w4 s.1 s.2) (s12,w10)
def HA(s9:List Int)(w4:AD)(s11:Int)(w10:List Xl):Option ((Int×List Xl)⊕(Unit⊕Unit)):=
 AE (decide (s11<(w10.length:Int))) (
  AT w10 s11 fun x2=>
  AG (Z4 w4 x2.a) fun r3=>
  AT w10 s11 fun x4=>
  AG (Z4 w4 x4.b) fun r5=>
  AE (!(r3==r5)) (
   some (.inr (.inr ()))) (
   AG (aRh s9 s11 w4 0 w10) fun o16=>
   some (.inl ((AA .add .i64 s11 1),o16)))) (
  some (.inr (.inl ())))
def aRg(s9:List Int)(w4:AD)(s11:Int)(w10:List Xl):Option (Unit⊕Unit):=AQ (fun s:Int×List Xl=>HA s9 w4 s.1 s.2) (s11,w10)
def Y1(a0:AD)(a1:List X2)(a2 a3:Int):Option (Bool):=
 AG (Xw a0 a1) fun r1=>
 AG (aRg r1 a0 0 [Xl.mk a2 a3]) fun o17=>
 CX o17 (fun o18=>
  some true) (fun o19=>
  some false)
def Iq(s1:List X2)(s2:List Int)(s9 s10:Int)(w3:AD)(w7 w8:List Int)(s11:Int):Option ((Int)⊕(Int)):=
 AE (decide (s11<(w7.length:Int))) (
  AT w7 s11 fun x8=>
  AT s2 s9 fun x9=>
  AG (Y1 w3 s1 x8 x9) fun r10=>
  AE (r10) (
   some (.inr s11)) (
   some (.inl (AA .add .i64 s11 1)))) (
  some (.inr s10))
def Sz(s1:List X2)(s2:List Int)(s9 s10:Int)(w3:AD)(w7 w8:List Int)(s11:Int):Option (Int):=AQ (fun s:Int=>Iq s1 s2 s9 s10 w3 w7 w8 s) s11
theorem QU(s1:List X2)(s2:List Int)(s9 s10:Int)(w3:AD)(w7 w8:List Int)(s11:Int):Sz s1 s2 s9 s10 w3 w7 w8 s11=CW (Iq s1 s2 s9 s10 w3 w7 w8 s11) (fun s:Int=>Sz s1 s2 s9 s10 w3 w7 w8 s):=Aj _ _
def Wl(s1:List X2)(s2:List Int)(s9 s10:Int)(s41:Bool)(w3:AD)(w7 w8:List Int):Option ((List Int)):=
 AE (s41) (
  AT s2 s9 fun x12=>
  AU (fit w7.length [x12].length 4) (
   some (w7++[x12]))) (
  some w7)
def Wj(s1:List X2)(s2:List Int)(s9:Int)(w3:AD)(w7 w8:List Int):Option ((List Int×List Int)):=
 AG (Sz s1 s2 s9 (w7.length:Int) w3 w7 w8 0) fun o11=>
 AG (Wl s1 s2 s9 o11 (decide (o11=(w7.length:Int))) w3 w7 w8) fun o13=>
 AU (fit w8.length [o11].length 8) (
  some (o13,w8++[o11]))
def G9(s1:List X2)(s2:List Int)(w3:AD)(s9:Int)(w7 w8:List Int):Option ((Int×List Int×List Int)⊕((List Int))):=
 AE (decide (s9<(s2.length:Int))) (
  AG (Wj s1 s2 s9 w3 w7 w8) fun o14=>
  some (.inl ((AA .add .i64 s9 1),o14.1,o14.2))) (
  some (.inr w8))
def aRf(s1:List X2)(s2:List Int)(w3:AD)(s9:Int)(w7 w8:List Int):Option ((List Int)):=AQ (fun s:Int×List Int×List Int=>G9 s1 s2 w3 s.1 s.2.1 s.2.2) (s9,w7,w8)
def Xx(a0:AD)(a1:List X2)(a2:List Int):Option (List Int):=
 AG (aRf a1 a2 a0 0 ([]:List Int) ([]:List Int)) fun o15=>
 some o15
def Ix(s1:List X2)(s7 s8:List Int)(s9 s10:List Int)(w3:AD)(s11:Int):Option ((Int)⊕(Unit⊕Unit)):=
 AE (decide (s11<(s7.length:Int))) (
  AT s7 s11 fun x8=>
  AT s9 s11 fun x9=>
  AE (!decide (x8=x9)) (
   some (.inr (.inr ()))) (
   AT s8 s11 fun x10=>
   AT s10 s11 fun x11=>
   AE (!decide (x10=x11)) (
    some (.inr (.inr ()))) (
    some (.inl (AA .add .i64 s11 1))))) (
  some (.inr (.inl ())))
def aRm(s1:List X2)(s7 s8:List Int)(s9 s10:List Int)(w3:AD)(s11:Int):Option (Unit⊕Unit):=AQ (fun s:Int=>Ix s1 s7 s8 s9 s10 w3 s) s11
def Iy(s1:List X2)(s12:List Int)(w3:AD)(s13 s14:Int):Option ((Int×Int)⊕(Int)):=
 AE (decide (s14<(s12.length:Int))) (
  AT s12 s14 fun x17=>
  some (.inl ((GO s13 (AA .add .i64 x17 1)),(AA .add .i64 s14 1)))) (
  some (.inr s13))
def aRn(s1:List X2)(s12:List Int)(w3:AD)(s13 s14:Int):Option (Int):=AQ (fun s:Int×Int=>Iy s1 s12 w3 s.1 s.2) (s13,s14)
def Ya(a0:AD)(a1:List X2)(a2:Int):Option (Bool):=
 AG (Zj a0 a1) fun r1=>
 AE (!r1) (
  AG (Zq) fun r2=>
  some r2) (
  AE (decide (5<(a0.states.length:Int))) (
   AG (Zq) fun r3=>
   some r3) (
   AU (0<=(IntKind.wrap .u64 (a0.states.length:Int))) (
    AE (decide ((AA .shl .u32 1 (IntKind.wrap .u64 (a0.states.length:Int)))<=a2)) (
     AG (Zq) fun r4=>
     some r4) (
     AG (X6 a0 a1 a2) fun r5=>
     AG (Yg a0 a1 a2) fun r6=>
     AG (Xx a0 a1 r6) fun r7=>
     AE (!decide ((r5.1.length:Int)=(r6.length:Int))) (
      some false) (
      AE (!decide ((r5.2.length:Int)=(r7.length:Int))) (
       some false) (
       AG (aRm a1 r5.1 r5.2 r6 r7 a0 0) fun o12=>
       CX o12 (fun o13=>
        AU (0<=(IntKind.wrap .u64 a0.start)) (
         AG (Yg a0 a1 (AA .shl .u32 1 (IntKind.wrap .u64 a0.start))) fun r15=>
         AG (Xx a0 a1 r15) fun r16=>
         AG (aRn a1 r16 a0 0 0) fun o18=>
         AG (Zu a0 a1) fun r19=>
         AE (decide (r19=o18)) (
          AG (Zq) fun r20=>
          some r20) (
          some false))) (fun o14=>
        some false)))))))
end
end Go.Ac
