/- Own work, printed: the functions as Lean functions. -/
import Derived.Test.YthabonnegobedaaAcC
set_option linter.unusedVariables false
set_option linter.unusedSimpArgs false
namespace Go.Ac
noncomputable section
abbrev aB2(P:Program)(rd:Option Nat)(root:Code)(p:List Nat)(s:St)(x:Ex×St):Prop:=Dc P rd root p s x.1 x.2
abbrev dI(x:Int):A:=.d (D.i .i64 x)
abbrev sI(n:Nat)(x:Int):Nat×A:=(n,dI x)
abbrev sD{α:Type}(n:Nat)(f:α->D)(x:α):Nat×A:=(n,.d (f x))
abbrev bx(n:Nat):Nat×A:=(n,.box n 0)
abbrev rx(n:Nat):Nat×A:=(n,.row n)
abbrev cL{α:Type}(n:Nat)(f:α->D)(x:α):Nat×Bk:=(n,.cells (XD (f x)))
abbrev rW{α:Type}(n e k:Nat)(f:α->D)(x:List α):Nat×Bk:=(n,.rw e k (x.map f))
abbrev eP{α:Type}(n:Nat)(f:α->D)(x:α):Nat×A:=(n,.eptr (D.cells (f x)))
abbrev dU:Int->D:=D.i .u64
abbrev dW:Int->D:=D.i .u32
abbrev dZ:Int->D:=D.i .i64
abbrev bT(n:Nat):Nat×W:=(n,.bit true)
abbrev bF(n:Nat):Nat×W:=(n,.bit false)
structure X5 where
 kind:Int
 int:Int
 str:List UInt8
 bool:Bool
def X5.D(v:X5):D:=.agg ([(D.i .i64) v.kind]++[(D.i .i64) v.int]++[D.s v.str]++[D.b v.bool])
instance :CP X5.D 4:=⟨fun _=>rfl⟩
def X5.eqb(a b:X5):Bool:=(decide (a.kind=b.kind)&&(decide (a.int=b.int)&&(decide (a.str=b.str)&&((a.bool==b.bool)&&true))))
theorem X5.eqb_iff(a b:X5):X5.eqb a b=true↔a=b:=by cases a;cases b;simp[X5.eqb]
instance :DecidableEq X5:=fun a b=>decidable_of_iff (X5.eqb a b=true) (X5.eqb_iff a b)
structure X0 where
 var:Int
 value:X5
def X0.D(v:X0):D:=.agg ([(D.i .i64) v.var]++(X5.D v.value).cells)
instance :CP X0.D 5:=⟨fun _=>rfl⟩
def X0.eqb(a b:X0):Bool:=(decide (a.var=b.var)&&(X5.eqb a.value b.value&&true))
theorem X0.eqb_iff(a b:X0):X0.eqb a b=true↔a=b:=by cases a;cases b;simp[X0.eqb,X5.eqb_iff]
instance :DecidableEq X0:=fun a b=>decidable_of_iff (X0.eqb a b=true) (X0.eqb_iff a b)
structure Xf where
 kind:Int
 iD:Int
 bind:List X0
 state:Int
 deriving DecidableEq
def Xf.D(v:Xf):D:=.agg ([(D.i .i64) v.kind]++[(D.i .i64) v.iD]++[(D.l X0.D) v.bind]++[(D.i .i64) v.state])
instance :CP Xf.D 4:=⟨fun _=>rfl⟩
structure X4 where
 state:Int
 vals:List X5
 deriving DecidableEq
def X4.D(v:X4):D:=.agg ([(D.i .i64) v.state]++[(D.l X5.D) v.vals])
instance :CP X4.D 2:=⟨fun _=>rfl⟩
structure AB where
 bind:List X0
 set:List X4
 deriving DecidableEq
def AB.D(v:AB):D:=.agg ([(D.l X0.D) v.bind]++[(D.l X4.D) v.set])
instance :CP AB.D 2:=⟨fun _=>rfl⟩
structure Xc where
 iD:Int
 row:AB
 deriving DecidableEq
def Xc.D(v:Xc):D:=.agg ([(D.i .i64) v.iD]++(AB.D v.row).cells)
instance :CP Xc.D 3:=⟨fun _=>rfl⟩
structure Xb where
 l:List Xc
 room:Int
 last:Int
 deriving DecidableEq
def Xb.D(v:Xb):D:=.agg ([(D.l Xc.D) v.l]++[(D.i .i64) v.room]++[(D.i .i64) v.last])
instance :CP Xb.D 3:=⟨fun _=>rfl⟩
def Yw(a0:X5):Option (Bool):=
 AN (decide (a0.kind=1)) (
  AN (decide (a0.str=([]:List UInt8))) (
   some (!a0.bool)) (
   some false)) (
  AN (decide (a0.kind=2)) (
   AN (decide (a0.int=0)) (
    AN (!a0.bool) (
     some (decide ((a0.str.length:Int)<=4096))) (
     some false)) (
    some false)) (
   AN (decide (a0.kind=3)) (
    AN (decide (a0.int=0)) (
     some (decide (a0.str=([]:List UInt8)))) (
     some false)) (
    some false)))
def FD(s0:List X0)(s3:Int):Option ((Int)⊕(Unit⊕Unit)):=
 AN (decide (s3<(s0.length:Int))) (
  AT s0 s3 fun x1=>
  AN (decide (x1.var<0)) (
   some (.inr (.inr ()))) (
   AT s0 s3 fun x2=>
   AN (decide (7<x2.var)) (
    some (.inr (.inr ()))) (
    AT s0 s3 fun x3=>
    AJ (Yw x3.value) fun r4=>
    AN (!r4) (
     some (.inr (.inr ()))) (
     AN (decide (0<s3)) (
      AT s0 s3 fun x5=>
      AT s0 (AA .sub .i64 s3 1) fun x6=>
      AN (decide (x5.var<=x6.var)) (
       some (.inr (.inr ()))) (
       some (.inl (AA .add .i64 s3 1)))) (
      some (.inl (AA .add .i64 s3 1))))))) (
  some (.inr (.inl ())))
def VT(s0:List X0)(s3:Int):Option (Unit⊕Unit):=Ab (fun s:Int=>FD s0 s) s3
def Yc(a0:List X0):Option (Bool):=
 AJ (VT a0 0) fun o7=>
 B7 o7 (fun o8=>
  some true) (fun o9=>
  some false)
def E6(s0:List Xf)(s3 s4:Int):Option ((Int)⊕(Unit⊕Unit)):=
 AT s0 s3 fun x6=>
 AN (decide (s4<(x6.bind.length:Int))) (
  AT s0 s3 fun x7=>
  AT x7.bind s4 fun x8=>
  AN (decide (100<(x8.value.str.length:Int))) (
   some (.inr (.inr ()))) (
   some (.inl (AA .add .i64 s4 1)))) (
  some (.inr (.inl ())))
def SX(s0:List Xf)(s3 s4:Int):Option (Unit⊕Unit):=Ab (fun s:Int=>E6 s0 s3 s) s4
def ED(s0:List Xf)(s3:Int):Option ((Int)⊕(Unit⊕Unit)):=
 AN (decide (s3<(s0.length:Int))) (
  AT s0 s3 fun x1=>
  AN (decide (8<(x1.bind.length:Int))) (
   some (.inr (.inr ()))) (
   AT s0 s3 fun x2=>
   AJ (Yc x2.bind) fun r3=>
   AN (!r3) (
    some (.inr (.inr ()))) (
    AT s0 s3 fun x4=>
    AN (decide (x4.state<0)) (
     some (.inr (.inr ()))) (
     AT s0 s3 fun x5=>
     AN (decide (31<x5.state)) (
      some (.inr (.inr ()))) (
      AJ (SX s0 s3 0) fun o9=>
      B7 o9 (fun o10=>
       some (.inl (AA .add .i64 s3 1))) (fun o11=>
       some (.inr (.inr ())))))))) (
  some (.inr (.inl ())))
def VG(s0:List Xf)(s3:Int):Option (Unit⊕Unit):=Ab (fun s:Int=>ED s0 s) s3
def Xr(a0:List Xf):Option (Bool):=
 AN (decide (60<(a0.length:Int))) (
  some false) (
  AJ (VG a0 0) fun o12=>
  B7 o12 (fun o13=>
   some true) (fun o14=>
   some false))
def Yx(a0:Int):Option (Int×Int×MP Int AB×MP (List UInt8) Int):=
 some ((IY (Fh a0 1) 4096),0,(F7:MP Int AB),(F7:MP (List UInt8) Int))
def Za(a0:Int):Option (X5):=
 some (X5.mk 1 a0 ([]:List UInt8) false)
def Zb(a0:List UInt8):Option (X5):=
 some (X5.mk 2 0 a0 false)
def Zc(a0:Bool):Option (X5):=
 some (X5.mk 3 0 ([]:List UInt8) a0)
def Yt(a0:X5):Option (Bool):=
 AN (decide (a0.kind=1)) (
  AJ (Za a0.int) fun r1=>
  some (X5.eqb a0 r1)) (
  AN (decide (a0.kind=2)) (
   AJ (Zb a0.str) fun r2=>
   AN ((X5.eqb a0 r2)) (
    some (decide ((a0.str.length:Int)<=4096))) (
    some false)) (
   AN (decide (a0.kind=3)) (
    AJ (Zc a0.bool) fun r3=>
    some (X5.eqb a0 r3)) (
    some false)))
def E7(s3 s10:Int)(w4:List UInt8):Option ((Int×List UInt8)⊕((List UInt8))):=
 AN (decide (s10<8)) (
  AK (0<=(AA .mul .i64 8 (AA .sub .i64 7 s10))) (
   AK (0<=s10/\s10+1<=8) (
    AK (0<=s10/\s10+1<=(w4.length:Int)) (
     some (.inl ((AA .add .i64 s10 1),w4.set s10.toNat (u8w (AA .shr .u64 s3 (AA .mul .i64 8 (AA .sub .i64 7 s10)))))))))) (
  some (.inr w4))
def Ht(s3 s10:Int)(w4:List UInt8):Option ((List UInt8)):=Ab (fun s:Int×List UInt8=>E7 s3 s.1 s.2) (s10,w4)
theorem KU(s3 s10:Int)(w4:List UInt8):Ht s3 s10 w4=BZ (E7 s3 s10 w4) (fun s:Int×List UInt8=>Ht s3 s.1 s.2):=Ak _ _
def Xw(a0:Int):Option (List UInt8):=
 AJ (Ht (AA .xor .u64 (IntKind.wrap .u64 a0) 9223372036854775808) 0 (List.replicate 8 (0:UInt8))) fun o1=>
 AK (0<=(8:Int)/\fit 0 (8:Int).toNat 1) (
  AK (o1.length=8) (
   some (o1.take (List.replicate (8:Int).toNat (0:UInt8)).length++(List.replicate (8:Int).toNat (0:UInt8)).drop o1.length)))
def SZ(s0:List UInt8)(s6 s7:Int)(s19:Bool)(w3:List UInt8):Option ((List UInt8)):=
 AN (s19) (
  AK (fit w3.length [(255:UInt8)].length 1) (
   some (w3++[(255:UInt8)]))) (
  some w3)
def OJ(s0:List UInt8)(s6 s7:Int)(w3:List UInt8):Option ((List UInt8)):=
 AT s0 s7 fun x5=>
 AK (fit w3.length [x5].length 1) (
  AT s0 s7 fun x6=>
  AJ (SZ s0 s6 s7 (decide ((x6.toNat:Int)=((0:UInt8).toNat:Int))) (w3++[x5])) fun o7=>
  some o7)
def HB(s0:List UInt8)(s6 s7:Int)(w3:List UInt8):Option ((Int×List UInt8)⊕((List UInt8))):=
 AN (decide (s7<s6)) (
  AJ (OJ s0 s6 s7 w3) fun o8=>
  some (.inl ((AA .add .i64 s7 1),o8))) (
  some (.inr w3))
def Sd(s0:List UInt8)(s6 s7:Int)(w3:List UInt8):Option ((List UInt8)):=Ab (fun s:Int×List UInt8=>HB s0 s6 s.1 s.2) (s7,w3)
def Xs(a0:List UInt8):Option (List UInt8):=
 AJ (Sd a0 (a0.length:Int) 0 ([]:List UInt8)) fun o9=>
 AK (fit o9.length [(0:UInt8),(1:UInt8)].length 1) (
  some (o9++[(0:UInt8),(1:UInt8)]))
def Yo(a0:X5):Option (List UInt8):=
 AN (decide (a0.kind=1)) (
  AJ (Xw a0.int) fun r1=>
  AK (fit [u8w a0.kind].length r1.length 1) (
   some ([u8w a0.kind]++r1))) (
  AN (decide (a0.kind=2)) (
   AJ (Xs a0.str) fun r2=>
   AK (fit [u8w a0.kind].length r2.length 1) (
    some ([u8w a0.kind]++r2))) (
   AN (a0.bool) (
    AK (fit [u8w a0.kind].length [(1:UInt8)].length 1) (
     some ([u8w a0.kind]++[(1:UInt8)]))) (
    AK (fit [u8w a0.kind].length [(0:UInt8)].length 1) (
     some ([u8w a0.kind]++[(0:UInt8)])))))
def EE(s6:List X5)(s7 s8:Int)(w3:List UInt8):Option ((Int×List UInt8)⊕((List UInt8)⊕Unit)):=
 AN (decide (s8<s7)) (
  AT s6 s8 fun x4=>
  AJ (Yt x4) fun r5=>
  AN (!r5) (
   some (.inr (.inr ()))) (
   AJ (Yo x4) fun r6=>
   AK (fit w3.length r6.length 1) (
    some (.inl ((AA .add .i64 s8 1),w3++r6))))) (
  some (.inr (.inl w3)))
def JG(s6:List X5)(s7 s8:Int)(w3:List UInt8):Option ((List UInt8)⊕Unit):=Ab (fun s:Int×List UInt8=>EE s6 s7 s.1 s.2) (s8,w3)
theorem KT(s6:List X5)(s7 s8:Int)(w3:List UInt8):JG s6 s7 s8 w3=BZ (EE s6 s7 s8 w3) (fun s:Int×List UInt8=>JG s6 s7 s.1 s.2):=Ak _ _
def Xv(a0:List X5):Option (List UInt8):=
 AJ (JG a0 (a0.length:Int) 0 ([]:List UInt8)) fun o7=>
 B7 o7 (fun o8=>
  some o8) (fun o9=>
  some ([]:List UInt8))
def EC(s6:List X0)(s7 s8:Int)(w3:List UInt8):Option ((Int×List UInt8)⊕((List UInt8))):=
 AN (decide (s8<s7)) (
  AT s6 s8 fun x3=>
  AK (fit w3.length [u8w (AA .add .i64 x3.var 16)].length 1) (
   AJ (Xv [x3.value]) fun r4=>
   AK (fit (w3++[u8w (AA .add .i64 x3.var 16)]).length r4.length 1) (
    some (.inl ((AA .add .i64 s8 1),(w3++[u8w (AA .add .i64 x3.var 16)])++r4))))) (
  some (.inr w3))
def JF(s6:List X0)(s7 s8:Int)(w3:List UInt8):Option ((List UInt8)):=Ab (fun s:Int×List UInt8=>EC s6 s7 s.1 s.2) (s8,w3)
theorem Eo(s6:List X0)(s7 s8:Int)(w3:List UInt8):JF s6 s7 s8 w3=BZ (EC s6 s7 s8 w3) (fun s:Int×List UInt8=>JF s6 s7 s.1 s.2):=Ak _ _
def Xq(a0:List X0):Option (List UInt8):=
 AJ (JF a0 (a0.length:Int) 0 ([]:List UInt8)) fun o5=>
 some o5
def Zd(l:List X0):Option (List X0):=FN 48 l
def Yu(l:List X4):Option (List X4):=FN 32 l
def Yh(a0:List X0)(a1:List X4):Option (AB):=
 AJ (Zd a0) fun r1=>
 AJ (Yu a1) fun r2=>
 some (AB.mk r1 r2)
def Ye(a1:List X0)(a2:List X4)(w0_1 w0_2:Int)(w1:MP Int AB)(w2:MP (List UInt8) Int):Option (Int×Int×Int×Int×MP Int AB×MP (List UInt8) Int):=
 AJ (Xq a1) fun r1=>
 AN ((BT 0 w2 r1).2) (
  some (0,10,w0_1,w0_2,w1,w2)) (
  AK ((w1.es.length:Int)<=4611686018427387904) (
   AN (decide ((w1.es.length:Int)=w0_1)) (
    some (0,19,w0_1,w0_2,w1,w2)) (
    AJ (Yh a1 a2) fun r2=>
    AK (Fx (AB.mk ([]:List X0) ([]:List X4)) w1 (AA .add .i64 w0_2 1)<=4611686018427387904) (
     AK (QB (CV (AB.mk ([]:List X0) ([]:List X4)) w1 (AA .add .i64 w0_2 1)) ((Fx (AB.mk ([]:List X0) ([]:List X4)) w1 (AA .add .i64 w0_2 1):Nat):Int)=true) (
      AK (Fx 0 w2 r1<=4611686018427387904) (
       AK (QB (CV 0 w2 r1) ((Fx 0 w2 r1:Nat):Int)=true) (
        some ((AA .add .i64 w0_2 1),0,w0_1,(AA .add .i64 w0_2 1),Hc (CV (AB.mk ([]:List X0) ([]:List X4)) w1 (AA .add .i64 w0_2 1)) ((Fx (AB.mk ([]:List X0) ([]:List X4)) w1 (AA .add .i64 w0_2 1):Nat):Int) r2,Hc (CV 0 w2 r1) ((Fx 0 w2 r1:Nat):Int) (AA .add .i64 w0_2 1)))))))))
def Z2(w0_1 w0_2:Int)(w1:MP Int AB)(w2:MP (List UInt8) Int):Option (Int×Int×Int×MP Int AB×MP (List UInt8) Int):=
 AK ((w1.es.length:Int)<=4611686018427387904) (
  some ((w1.es.length:Int),w0_1,w0_2,w1,w2))
def Yp:Option (Bool):=
 AJ (Yx 1) fun r1=>
 AJ (Ye ([]:List X0) ([]:List X4) r1.1 r1.2.1 r1.2.2.1 r1.2.2.2) fun r2=>
 AJ (Ye ([X0.mk 0 (X5.mk 1 0 ([]:List UInt8) false)]) ([]:List X4) r2.2.2.1 r2.2.2.2.1 r2.2.2.2.2.1 r2.2.2.2.2.2) fun r3=>
 AN (decide (r2.1=1)) (
  AN (decide (r2.2.1=0)) (
   AN (decide (r3.2.1=19)) (
    AJ (Z2 r3.2.2.1 r3.2.2.2.1 r3.2.2.2.2.1 r3.2.2.2.2.2) fun r4=>
    some (decide (r4.1=1))) (
    some false)) (
   some false)) (
  some false)
def Ze(a0:Int):Option (Xb):=
 some (Xb.mk ([]:List Xc) (IY (Fh a0 1) 4096) 0)
def HC(s0 s1:List X0)(s5:Int):Option ((Int)⊕(Unit⊕Unit)):=
 AN (decide (s5<(s0.length:Int))) (
  AT s0 s5 fun x1=>
  AT s1 s5 fun x2=>
  AN (!(X0.eqb x1 x2)) (
   some (.inr (.inr ()))) (
   some (.inl (AA .add .i64 s5 1)))) (
  some (.inr (.inl ())))
def VH(s0 s1:List X0)(s5:Int):Option (Unit⊕Unit):=Ab (fun s:Int=>HC s0 s1 s) s5
def Xy(a0 a1:List X0):Option (Bool):=
 AN (!decide ((a0.length:Int)=(a1.length:Int))) (
  some false) (
  AJ (VH a0 a1 0) fun o3=>
  B7 o3 (fun o4=>
   some true) (fun o5=>
   some false))
def FA(s1:List X0)(w2:Xb)(s5:Int):Option ((Int)⊕(Unit⊕Int)):=
 AN (decide (s5<(w2.l.length:Int))) (
  AT w2.l s5 fun x1=>
  AJ (Xy x1.row.bind s1) fun r2=>
  AN (r2) (
   some (.inr (.inr s5))) (
   some (.inl (AA .add .i64 s5 1)))) (
  some (.inr (.inl ())))
def VL(s1:List X0)(w2:Xb)(s5:Int):Option (Unit⊕Int):=Ab (fun s:Int=>FA s1 w2 s) s5
def Y4(a0:Xb)(a1:List X0):Option (Int):=
 AJ (VL a1 a0 0) fun o3=>
 B7 o3 (fun o4=>
  some (-1)) (fun o5=>
  some o5)
def Z3(a0:Xb)(a1:AB):Option (Xb×Int):=
 AJ (Y4 a0 a1.bind) fun r1=>
 AN (decide (0<=r1)) (
  some (a0,10)) (
  AN (decide (a0.room<=(a0.l.length:Int))) (
   some (a0,19)) (
   AK (fit ([]:List Xc).length a0.l.length 56) (
    AK (fit (([]:List Xc)++a0.l).length [Xc.mk (AA .add .i64 a0.last 1) a1].length 56) (
     some (Xb.mk ((([]:List Xc)++a0.l)++[Xc.mk (AA .add .i64 a0.last 1) a1]) a0.room (AA .add .i64 a0.last 1),0)))))
def Z4(a1:List X0)(w0_1 w0_2:Int)(w1:MP Int AB)(w2:MP (List UInt8) Int):Option (Int×Bool×Int×Int×MP Int AB×MP (List UInt8) Int):=
 AJ (Xq a1) fun r1=>
 some ((BT 0 w2 r1).1,(BT 0 w2 r1).2,w0_1,w0_2,w1,w2)
def E8(s1:Int)(w2:Xb)(s5:Int):Option ((Int)⊕(Unit⊕Int)):=
 AN (decide (s5<(w2.l.length:Int))) (
  AT w2.l s5 fun x1=>
  AN (decide (x1.iD=s1)) (
   some (.inr (.inr s5))) (
   some (.inl (AA .add .i64 s5 1)))) (
  some (.inr (.inl ())))
def VJ(s1:Int)(w2:Xb)(s5:Int):Option (Unit⊕Int):=Ab (fun s:Int=>E8 s1 w2 s) s5
def Xz(a0:Xb)(a1:Int):Option (Int):=
 AJ (VJ a1 a0 0) fun o2=>
 B7 o2 (fun o3=>
  some (-1)) (fun o4=>
  some o4)
def Z6(a0:Xb)(a1:Int)(a2:List X4):Option (Xb):=
 AJ (Xz a0 a1) fun r1=>
 AN (decide (r1<0)) (
  some a0) (
  AK (fit ([]:List Xc).length a0.l.length 56) (
   AK (0<=r1/\r1+1<=(a0.l.length:Int)) (
    AT a0.l r1 fun x2=>
    AK (0<=r1/\r1+1<=(a0.l.length:Int)) (
     AT a0.l r1 fun x3=>
     some (Xb.mk (a0.l.set r1.toNat (Xc.mk x3.iD (AB.mk x2.row.bind a2))) a0.room a0.last)))))
def S9(s1:Int)(s2:List X4)(s8 s20:Bool)(w0_1 w0_2:Int)(w7:AB)(w501:MP Int AB)(w502:MP (List UInt8) Int):Option ((MP Int AB)):=
 AN (s20) (
  AJ (Yu s2) fun r1=>
  some (Dv w501 s1 (AB.mk w7.bind r1))) (
  some w501)
def Yf(a1:Int)(a2:List X4)(w0_1 w0_2:Int)(w1:MP Int AB)(w2:MP (List UInt8) Int):Option (Bool×Int×Int×MP Int AB×MP (List UInt8) Int):=
 AJ (S9 a1 a2 ((BT (AB.mk ([]:List X0) ([]:List X4)) w1 a1).2) ((BT (AB.mk ([]:List X0) ([]:List X4)) w1 a1).2) w0_1 w0_2 ((BT (AB.mk ([]:List X0) ([]:List X4)) w1 a1).1) w1 w2) fun o2=>
 some (((BT (AB.mk ([]:List X0) ([]:List X4)) w1 a1).2),w0_1,w0_2,o2,w2)
def Z7(a0:Xb)(a1:Int):Option (Xb):=
 AJ (Xz a0 a1) fun r1=>
 AN (decide (r1<0)) (
  some a0) (
  AK ((0:Int)<=0/\(0:Int)<=r1/\r1<=(a0.l.length:Int)) (
   AK (fit ([]:List Xc).length (sub a0.l 0 r1).length 56) (
    AK ((0:Int)<=(AA .add .i64 r1 1)/\((AA .add .i64 r1 1):Int)<=(a0.l.length:Int)/\(a0.l.length:Int)<=(a0.l.length:Int)) (
     AK (fit (([]:List Xc)++(sub a0.l 0 r1)).length (sub a0.l (AA .add .i64 r1 1) (a0.l.length:Int)).length 56) (
      some (Xb.mk ((([]:List Xc)++(sub a0.l 0 r1))++(sub a0.l (AA .add .i64 r1 1) (a0.l.length:Int))) a0.room a0.last))))))
def TB(s6 s23:Bool)(w0_1 w0_2:Int)(w5:AB)(w501:MP Int AB)(w502:MP (List UInt8) Int):Option ((MP (List UInt8) Int)):=
 AN (s23) (
  AJ (Xq w5.bind) fun r1=>
  some (EU w502 r1)) (
  some w502)
def Yg(a1 w0_1 w0_2:Int)(w1:MP Int AB)(w2:MP (List UInt8) Int):Option (Bool×Int×Int×MP Int AB×MP (List UInt8) Int):=
 AJ (TB ((BT (AB.mk ([]:List X0) ([]:List X4)) w1 a1).2) ((BT (AB.mk ([]:List X0) ([]:List X4)) w1 a1).2) w0_1 w0_2 ((BT (AB.mk ([]:List X0) ([]:List X4)) w1 a1).1) (EU w1 a1) w2) fun o2=>
 some (((BT (AB.mk ([]:List X0) ([]:List X4)) w1 a1).2),w0_1,w0_2,(EU w1 a1),o2)
def Zh(w0_1 w0_2:Int)(w1:MP Int AB)(w2:MP (List UInt8) Int):Option (Int×Int×MP Int AB×MP (List UInt8) Int):=
 some (w0_1,w0_2,Tf w1,Tf w2)
def Z8(a1:Xb)(a2:Xf)(w0_1 w0_2:Int)(w1:MP Int AB)(w2:MP (List UInt8) Int):Option (Xb×Bool×Int×Int×Xb×MP Int AB×MP (List UInt8) Int):=
 AN (decide (a2.kind=0)) (
  AJ (Ye a2.bind ([X4.mk a2.state ([]:List X5)]) w0_1 w0_2 w1 w2) fun r1=>
  AJ (Z3 a1 (AB.mk a2.bind ([X4.mk a2.state ([]:List X5)]))) fun r2=>
  AN (!decide (r2.2=0)) (
   AN (decide (r1.1=0)) (
    some (a1,decide (r1.2.1=r2.2),r1.2.2.1,r1.2.2.2.1,a1,r1.2.2.2.2.1,r1.2.2.2.2.2)) (
    some (a1,false,r1.2.2.1,r1.2.2.2.1,a1,r1.2.2.2.2.1,r1.2.2.2.2.2))) (
   AN (decide (r1.1=r2.1.last)) (
    some (r2.1,decide (r1.2.1=0),r1.2.2.1,r1.2.2.2.1,r2.1,r1.2.2.2.2.1,r1.2.2.2.2.2)) (
    some (r2.1,false,r1.2.2.1,r1.2.2.2.1,r2.1,r1.2.2.2.2.1,r1.2.2.2.2.2)))) (
  AN (decide (a2.kind=1)) (
   AJ (Z4 a2.bind w0_1 w0_2 w1 w2) fun r3=>
   AJ (Y4 a1 a2.bind) fun r4=>
   AN (decide (r4<0)) (
    AN (decide (r3.1=0)) (
     some (a1,!r3.2.1,r3.2.2.1,r3.2.2.2.1,a1,r3.2.2.2.2.1,r3.2.2.2.2.2)) (
     some (a1,false,r3.2.2.1,r3.2.2.2.1,a1,r3.2.2.2.2.1,r3.2.2.2.2.2))) (
    AN (r3.2.1) (
     AT a1.l r4 fun x5=>
     some (a1,decide (r3.1=x5.iD),r3.2.2.1,r3.2.2.2.1,a1,r3.2.2.2.2.1,r3.2.2.2.2.2)) (
     some (a1,false,r3.2.2.1,r3.2.2.2.1,a1,r3.2.2.2.2.1,r3.2.2.2.2.2)))) (
   AJ (Xz a1 a2.iD) fun r6=>
   AN (decide (a2.kind=2)) (
    AJ (Z6 a1 a2.iD ([X4.mk a2.state ([]:List X5)])) fun r7=>
    AJ (Yf a2.iD ([X4.mk a2.state ([]:List X5)]) w0_1 w0_2 w1 w2) fun r8=>
    some (r7,(r8.1==(decide (0<=r6))),r8.2.1,r8.2.2.1,r7,r8.2.2.2.1,r8.2.2.2.2)) (
    AN (decide (a2.kind=3)) (
     AJ (Z7 a1 a2.iD) fun r9=>
     AJ (Yg a2.iD w0_1 w0_2 w1 w2) fun r10=>
     some (r9,(r10.1==(decide (0<=r6))),r10.2.1,r10.2.2.1,r9,r10.2.2.2.1,r10.2.2.2.2)) (
     AJ (Zh w0_1 w0_2 w1 w2) fun r11=>
     some (Xb.mk ([]:List Xc) a1.room a1.last,true,r11.1,r11.2.1,Xb.mk ([]:List Xc) a1.room a1.last,r11.2.2.1,r11.2.2.2)))))
def Zf(w0_1 w0_2:Int)(w1:MP Int AB)(w2:MP (List UInt8) Int):Option (Int×Int×Int×MP Int AB×MP (List UInt8) Int):=
 some (w0_1,w0_1,w0_2,w1,w2)
def Of(s0 s2:Int)(s4:Bool):Option ((Int×Int)):=
 AN (s4) (
  some ((AA .shr .u64 s0 32),32)) (
  some (s0,s2))
def Og(s0 s2:Int)(s8:Bool):Option ((Int×Int)):=
 AN (s8) (
  some ((AA .shr .u64 s0 16),(AA .add .i64 s2 16))) (
  some (s0,s2))
def Oh(s0 s2:Int)(s14:Bool):Option ((Int×Int)):=
 AN (s14) (
  some ((AA .shr .u64 s0 8),(AA .add .i64 s2 8))) (
  some (s0,s2))
def Y3(a0:Int):Option (Int):=
 AJ (Of a0 0 (decide (4294967296<=a0))) fun o1=>
 AJ (Og o1.1 o1.2 (decide (65536<=o1.1))) fun o2=>
 AJ (Oh o2.1 o2.2 (decide (256<=o2.1))) fun o3=>
 AT ([0,1,2,2,3,3,3,3,4,4,4,4,4,4,4,4,5,5,5,5,5,5,5,5,5,5,5,5,5,5,5,5,6,6,6,6,6,6,6,6,6,6,6,6,6,6,6,6,6,6,6,6,6,6,6,6,6,6,6,6,6,6,6,6,7,7,7,7,7,7,7,7,7,7,7,7,7,7,7,7,7,7,7,7,7,7,7,7,7,7,7,7,7,7,7,7,7,7,7,7,7,7,7,7,7,7,7,7,7,7,7,7,7,7,7,7,7,7,7,7,7,7,7,7,7,7,7,7,8,8,8,8,8,8,8,8,8,8,8,8,8,8,8,8,8,8,8,8,8,8,8,8,8,8,8,8,8,8,8,8,8,8,8,8,8,8,8,8,8,8,8,8,8,8,8,8,8,8,8,8,8,8,8,8,8,8,8,8,8,8,8,8,8,8,8,8,8,8,8,8,8,8,8,8,8,8,8,8,8,8,8,8,8,8,8,8,8,8,8,8,8,8,8,8,8,8,8,8,8,8,8,8,8,8,8,8,8,8,8,8,8,8,8,8,8,8,8,8,8,8,8,8,8,8,8,8]:List UInt8) ((u8w o3.1).toNat:Int) fun x4=>
 some (AA .add .i64 o3.2 (x4.toNat:Int))
def Yq(a0:Int):Option (Int):=
 AJ (Y3 a0) fun r1=>
 some r1
def Yy(a0 a1:X5):Option (Bool):=
 AN (!decide (a0.kind=a1.kind)) (
  some (decide (a0.kind<a1.kind))) (
  AN (decide (a0.kind=1)) (
   some (decide (a0.int<a1.int))) (
   AN (decide (a0.kind=2)) (
    some (Op.bytesLess a0.str a1.str)) (
    AN (!a0.bool) (
     some a1.bool) (
     some false))))
def HE(s1 s17:List X0)(s18 s19:Int):Option ((Int)⊕(Unit⊕Bool)):=
 AN (decide (s19<s18)) (
  AT s17 s19 fun x1=>
  AT s1 s19 fun x2=>
  AN (!decide (x1.var=x2.var)) (
   AT s1 s19 fun x3=>
   some (.inr (.inr (decide (x1.var<x3.var))))) (
   AT s1 s19 fun x4=>
   AN (!(X5.eqb x1.value x4.value)) (
    AT s1 s19 fun x5=>
    AJ (Yy x1.value x5.value) fun r6=>
    some (.inr (.inr r6))) (
    some (.inl (AA .add .i64 s19 1))))) (
  some (.inr (.inl ())))
def VM(s1 s17:List X0)(s18 s19:Int):Option (Unit⊕Bool):=Ab (fun s:Int=>HE s1 s17 s18 s) s19
def Y5(a0 a1:List X0):Option (Bool):=
 AN (!decide ((a0.length:Int)=(a1.length:Int))) (
  some (decide ((a0.length:Int)<(a1.length:Int)))) (
  AJ (VM a1 a0 (a0.length:Int) 0) fun o7=>
  B7 o7 (fun o8=>
   some false) (fun o9=>
   some o9))
def Xt(a0 a1:AB):Option (Int):=
 AJ (Y5 a0.bind a1.bind) fun r1=>
 AN (r1) (
  some (-1)) (
  AJ (Y5 a1.bind a0.bind) fun r2=>
  AN (r2) (
   some 1) (
   some 0))
def G6(s1 s2:Int)(s8 s9:Int)(w0:List AB):Option ((Int×List AB)⊕((List AB))):=
 AN (decide (s1<s9)) (
  AK (0<=s9/\s9+1<=(w0.length:Int)) (
   AT w0 s9 fun x1=>
   AK (0<=(AA .sub .i64 s9 1)/\(AA .sub .i64 s9 1)+1<=(w0.length:Int)) (
    AT w0 (AA .sub .i64 s9 1) fun x2=>
    AJ (Xt x1 x2) fun r3=>
    AN (decide (r3<0)) (
     AK (0<=(AA .sub .i64 s9 1)/\(AA .sub .i64 s9 1)+1<=(w0.length:Int)) (
      AT w0 (AA .sub .i64 s9 1) fun x4=>
      AK (0<=s9/\s9+1<=(w0.length:Int)) (
       AT w0 s9 fun x5=>
       AK (0<=s9/\s9+1<=(w0.length:Int)) (
        AK (0<=s9/\s9+1<=(w0.length:Int)) (
         AK (0<=(AA .sub .i64 s9 1)/\(AA .sub .i64 s9 1)+1<=((w0.set s9.toNat x4).length:Int)) (
          AK (0<=(AA .sub .i64 s9 1)/\(AA .sub .i64 s9 1)+1<=((w0.set s9.toNat x4).length:Int)) (
           some (.inl ((AA .sub .i64 s9 1),(w0.set s9.toNat x4).set (AA .sub .i64 s9 1).toNat x5))))))))) (
     some (.inr w0))))) (
  some (.inr w0))
def SH(s1 s2:Int)(s8 s9:Int)(w0:List AB):Option ((List AB)):=Ab (fun s:Int×List AB=>G6 s1 s2 s8 s.1 s.2) (s9,w0)
def G5(s1 s2 s8:Int)(w0:List AB):Option ((Int×List AB)⊕((List AB))):=
 AN (decide (s8<s2)) (
  AJ (SH s1 s2 s8 s8 w0) fun o6=>
  some (.inl ((AA .add .i64 s8 1),o6))) (
  some (.inr w0))
def SF(s1 s2 s8:Int)(w0:List AB):Option ((List AB)):=Ab (fun s:Int×List AB=>G5 s1 s2 s.1 s.2) (s8,w0)
def Xm(a1 a2:Int)(w0:List AB):Option (List AB):=
 AJ (SF a1 a2 (AA .add .i64 a1 1) w0) fun o7=>
 some o7
def LK(s2 s3:Int)(s10 s11:Int)(s40:Bool)(w0:List AB):Option (Int):=
 AN (s40) (
  some (AA .add .i64 s11 1)) (
  some s11)
def Nr(s2 s3 s10:Int)(w0:List AB):Option ((Int×List AB)⊕(Unit⊕Unit)):=
 AN (decide (s2<=(AA .add .i64 (AA .mul .i64 2 s10) 1))) (
  some (.inr (.inl ()))) (
  AN (decide ((AA .add .i64 (AA .add .i64 (AA .mul .i64 2 s10) 1) 1)<s2)) (
   AK (0<=(AA .add .i64 s3 (AA .add .i64 (AA .mul .i64 2 s10) 1))/\(AA .add .i64 s3 (AA .add .i64 (AA .mul .i64 2 s10) 1))+1<=(w0.length:Int)) (
    AT w0 (AA .add .i64 s3 (AA .add .i64 (AA .mul .i64 2 s10) 1)) fun x1=>
    AK (0<=(AA .add .i64 (AA .add .i64 s3 (AA .add .i64 (AA .mul .i64 2 s10) 1)) 1)/\(AA .add .i64 (AA .add .i64 s3 (AA .add .i64 (AA .mul .i64 2 s10) 1)) 1)+1<=(w0.length:Int)) (
     AT w0 (AA .add .i64 (AA .add .i64 s3 (AA .add .i64 (AA .mul .i64 2 s10) 1)) 1) fun x2=>
     AJ (Xt x1 x2) fun r3=>
     AJ (LK s2 s3 s10 (AA .add .i64 (AA .mul .i64 2 s10) 1) (decide (r3<0)) w0) fun o4=>
     AK (0<=(AA .add .i64 s3 s10)/\(AA .add .i64 s3 s10)+1<=(w0.length:Int)) (
      AT w0 (AA .add .i64 s3 s10) fun x5=>
      AK (0<=(AA .add .i64 s3 o4)/\(AA .add .i64 s3 o4)+1<=(w0.length:Int)) (
       AT w0 (AA .add .i64 s3 o4) fun x6=>
       AJ (Xt x5 x6) fun r7=>
       AN (!(decide (r7<0))) (
        some (.inr (.inr ()))) (
        AK (0<=(AA .add .i64 s3 o4)/\(AA .add .i64 s3 o4)+1<=(w0.length:Int)) (
         AT w0 (AA .add .i64 s3 o4) fun x8=>
         AK (0<=(AA .add .i64 s3 s10)/\(AA .add .i64 s3 s10)+1<=(w0.length:Int)) (
          AT w0 (AA .add .i64 s3 s10) fun x9=>
          AK (0<=(AA .add .i64 s3 s10)/\(AA .add .i64 s3 s10)+1<=(w0.length:Int)) (
           AK (0<=(AA .add .i64 s3 s10)/\(AA .add .i64 s3 s10)+1<=(w0.length:Int)) (
            AK (0<=(AA .add .i64 s3 o4)/\(AA .add .i64 s3 o4)+1<=((w0.set (AA .add .i64 s3 s10).toNat x8).length:Int)) (
             AK (0<=(AA .add .i64 s3 o4)/\(AA .add .i64 s3 o4)+1<=((w0.set (AA .add .i64 s3 s10).toNat x8).length:Int)) (
              some (.inl (o4,(w0.set (AA .add .i64 s3 s10).toNat x8).set (AA .add .i64 s3 o4).toNat x9)))))))))))))) (
   AJ (LK s2 s3 s10 (AA .add .i64 (AA .mul .i64 2 s10) 1) false w0) fun o10=>
   AK (0<=(AA .add .i64 s3 s10)/\(AA .add .i64 s3 s10)+1<=(w0.length:Int)) (
    AT w0 (AA .add .i64 s3 s10) fun x11=>
    AK (0<=(AA .add .i64 s3 o10)/\(AA .add .i64 s3 o10)+1<=(w0.length:Int)) (
     AT w0 (AA .add .i64 s3 o10) fun x12=>
     AJ (Xt x11 x12) fun r13=>
     AN (!(decide (r13<0))) (
      some (.inr (.inr ()))) (
      AK (0<=(AA .add .i64 s3 o10)/\(AA .add .i64 s3 o10)+1<=(w0.length:Int)) (
       AT w0 (AA .add .i64 s3 o10) fun x14=>
       AK (0<=(AA .add .i64 s3 s10)/\(AA .add .i64 s3 s10)+1<=(w0.length:Int)) (
        AT w0 (AA .add .i64 s3 s10) fun x15=>
        AK (0<=(AA .add .i64 s3 s10)/\(AA .add .i64 s3 s10)+1<=(w0.length:Int)) (
         AK (0<=(AA .add .i64 s3 s10)/\(AA .add .i64 s3 s10)+1<=(w0.length:Int)) (
          AK (0<=(AA .add .i64 s3 o10)/\(AA .add .i64 s3 o10)+1<=((w0.set (AA .add .i64 s3 s10).toNat x14).length:Int)) (
           AK (0<=(AA .add .i64 s3 o10)/\(AA .add .i64 s3 o10)+1<=((w0.set (AA .add .i64 s3 s10).toNat x14).length:Int)) (
            some (.inl (o10,(w0.set (AA .add .i64 s3 s10).toNat x14).set (AA .add .i64 s3 o10).toNat x15)))))))))))))
def G4(s2 s3 s10:Int)(w0:List AB):Option ((Int×List AB)⊕((List AB)⊕(List AB))):=
 AJ (Nr s2 s3 s10 w0) fun o16=>
 B7 o16 (fun o17=>
  some (.inl (o17.1,o17.2))) (fun o18=>
  B7 o18 (fun o19=>
   some (.inr (.inl w0))) (fun o20=>
   some (.inr (.inr w0))))
def SD(s2 s3 s10:Int)(w0:List AB):Option ((List AB)⊕(List AB)):=Ab (fun s:Int×List AB=>G4 s2 s3 s.1 s.2) (s10,w0)
def Xl(a1 a2 a3:Int)(w0:List AB):Option (List AB):=
 AJ (SD a2 a3 a1 w0) fun o21=>
 B7 o21 (fun o22=>
  some o22) (fun o23=>
  some o23)
def G7(s8 s9:Int)(s10 s11:Int)(w0:List AB):Option ((Int×List AB)⊕((List AB))):=
 AN (decide (0<=s11)) (
  AJ (Xl s11 s10 s8 w0) fun r1=>
  some (.inl ((AA .sub .i64 s11 1),r1))) (
  some (.inr w0))
def SJ(s8 s9:Int)(s10 s11:Int)(w0:List AB):Option ((List AB)):=Ab (fun s:Int×List AB=>G7 s8 s9 s10 s.1 s.2) (s11,w0)
def G8(s8 s9 s12:Int)(w0:List AB):Option ((Int×List AB)⊕((List AB))):=
 AN (decide (0<=s12)) (
  AK (0<=(AA .add .i64 s8 s12)/\(AA .add .i64 s8 s12)+1<=(w0.length:Int)) (
   AT w0 (AA .add .i64 s8 s12) fun x3=>
   AK (0<=s8/\s8+1<=(w0.length:Int)) (
    AT w0 s8 fun x4=>
    AK (0<=s8/\s8+1<=(w0.length:Int)) (
     AK (0<=s8/\s8+1<=(w0.length:Int)) (
      AK (0<=(AA .add .i64 s8 s12)/\(AA .add .i64 s8 s12)+1<=((w0.set s8.toNat x3).length:Int)) (
       AK (0<=(AA .add .i64 s8 s12)/\(AA .add .i64 s8 s12)+1<=((w0.set s8.toNat x3).length:Int)) (
        AJ (Xl s9 s12 s8 ((w0.set s8.toNat x3).set (AA .add .i64 s8 s12).toNat x4)) fun r5=>
        some (.inl ((AA .sub .i64 s12 1),r5))))))))) (
  some (.inr w0))
def SL(s8 s9 s12:Int)(w0:List AB):Option ((List AB)):=Ab (fun s:Int×List AB=>G8 s8 s9 s.1 s.2) (s12,w0)
def Xn(a1 a2:Int)(w0:List AB):Option (List AB):=
 AJ (SJ a1 0 (AA .sub .i64 a2 a1) (AA .quo .i64 (AA .sub .i64 (AA .sub .i64 a2 a1) 1) 2) w0) fun o2=>
 AJ (SL a1 0 (AA .sub .i64 (AA .sub .i64 a2 a1) 1) o2) fun o6=>
 some o6
def Yz(a0:Int):Option (Int):=
 AJ (Yq (IntKind.wrap .u64 a0)) fun r1=>
 AK (0<=r1) (
  some (AA .shl .u64 1 r1))
def Z0(w0:Int):Option (Int×Int):=
 some ((AA .xor .u64 (AA .xor .u64 (AA .xor .u64 w0 (AA .shl .u64 w0 13)) (AA .shr .u64 (AA .xor .u64 w0 (AA .shl .u64 w0 13)) 7)) (AA .shl .u64 (AA .xor .u64 (AA .xor .u64 w0 (AA .shl .u64 w0 13)) (AA .shr .u64 (AA .xor .u64 w0 (AA .shl .u64 w0 13)) 7)) 17)),(AA .xor .u64 (AA .xor .u64 (AA .xor .u64 w0 (AA .shl .u64 w0 13)) (AA .shr .u64 (AA .xor .u64 w0 (AA .shl .u64 w0 13)) 7)) (AA .shl .u64 (AA .xor .u64 (AA .xor .u64 w0 (AA .shl .u64 w0 13)) (AA .shr .u64 (AA .xor .u64 w0 (AA .shl .u64 w0 13)) 7)) 17)))
def Nn(s1 s8:Int)(s10 s11 s12:Int)(s45:Bool)(w0:List AB)(w9:Int):Option (Int):=
 AN (s45) (
  some (AA .sub .i64 s12 s8)) (
  some s12)
def Nm(s1 s8:Int)(s10 s11:Int)(w0:List AB)(w9:Int):Option ((List AB×Int)):=
 AJ (Z0 w9) fun r2=>
 AJ (Nn s1 s8 s10 s11 (IntKind.wrap .i64 (AA .and .u64 r2.1 (AA .sub .u64 s10 1))) (decide (s8<=(IntKind.wrap .i64 (AA .and .u64 r2.1 (AA .sub .u64 s10 1))))) w0 r2.2) fun o3=>
 AK (0<=(AA .add .i64 s1 o3)/\(AA .add .i64 s1 o3)+1<=(w0.length:Int)) (
  AT w0 (AA .add .i64 s1 o3) fun x4=>
  AK (0<=s11/\s11+1<=(w0.length:Int)) (
   AT w0 s11 fun x5=>
   AK (0<=s11/\s11+1<=(w0.length:Int)) (
    AK (0<=s11/\s11+1<=(w0.length:Int)) (
     AK (0<=(AA .add .i64 s1 o3)/\(AA .add .i64 s1 o3)+1<=((w0.set s11.toNat x4).length:Int)) (
      AK (0<=(AA .add .i64 s1 o3)/\(AA .add .i64 s1 o3)+1<=((w0.set s11.toNat x4).length:Int)) (
       some ((w0.set s11.toNat x4).set (AA .add .i64 s1 o3).toNat x5,r2.2)))))))
def G3(s1 s8:Int)(s10 s11:Int)(w0:List AB)(w9:Int):Option ((Int×List AB×Int)⊕((List AB))):=
 AN (decide (s11<=(AA .add .i64 (AA .add .i64 s1 (AA .mul .i64 (AA .quo .i64 s8 4) 2)) 1))) (
  AJ (Nm s1 s8 s10 s11 w0 w9) fun o6=>
  some (.inl ((AA .add .i64 s11 1),o6.1,o6.2))) (
  some (.inr w0))
def SA(s1 s8:Int)(s10 s11:Int)(w0:List AB)(w9:Int):Option ((List AB)):=Ab (fun s:Int×List AB×Int=>G3 s1 s8 s10 s.1 s.2.1 s.2.2) (s11,w0,w9)
def Nl(s1 s8:Int)(s17:Bool)(w0:List AB):Option ((List AB)):=
 AN (s17) (
  AJ (Yz s8) fun r1=>
  AJ (SA s1 s8 r1 (AA .sub .i64 (AA .add .i64 s1 (AA .mul .i64 (AA .quo .i64 s8 4) 2)) 1) w0 (IntKind.wrap .u64 s8)) fun o7=>
  some o7) (
  some w0)
def Xk(a1 a2:Int)(w0:List AB):Option (List AB):=
 AJ (Nl a1 (AA .sub .i64 a2 a1) (decide (8<=(AA .sub .i64 a2 a1))) w0) fun o8=>
 some o8
def Yi(a0:List AB)(a1 a2 w0:Int):Option (Int×Int×Int):=
 AT a0 a2 fun x1=>
 AT a0 a1 fun x2=>
 AJ (Xt x1 x2) fun r3=>
 AN (decide (r3<0)) (
  some (a2,a1,(AA .add .i64 w0 1))) (
  some (a1,a2,w0))
def Ym(a0:List AB)(a1 a2:Int)(a3 w0:Int):Option (Int×Int):=
 AJ (Yi a0 a1 a2 w0) fun r1=>
 AJ (Yi a0 r1.2.1 a3 r1.2.2) fun r2=>
 AJ (Yi a0 r1.1 r2.1 r2.2.2) fun r3=>
 some (r3.2.1,r3.2.2)
def Yj(a0:List AB)(a1 w0:Int):Option (Int×Int):=
 AJ (Ym a0 (AA .sub .i64 a1 1) a1 (AA .add .i64 a1 1) w0) fun r1=>
 some (r1.1,r1.2)
def On(s0:List AB)(s12 s13 s14:Int)(s36:Bool)(w11:Int):Option ((Int×Int×Int×Int)):=
 AN (s36) (
  AJ (Yj s0 s12 w11) fun r1=>
  AJ (Yj s0 s13 r1.2) fun r2=>
  AJ (Yj s0 s14 r2.2) fun r3=>
  some (r1.1,r2.1,r3.1,r3.2)) (
  some (s12,s13,s14,w11))
def Om(s0:List AB)(s10 s12:Int)(s13 s14:Int)(s34:Bool)(w11:Int):Option ((Int×Int)):=
 AN (s34) (
  AJ (On s0 s12 s13 s14 (decide (50<=s10)) w11) fun o4=>
  AJ (Ym s0 o4.1 o4.2.1 o4.2.2.1 o4.2.2.2) fun r5=>
  some (r5.1,r5.2)) (
  some (s13,w11))
def Y6(a0:List AB)(a1 a2:Int):Option (Int×Int):=
 AJ (Om a0 (AA .sub .i64 a2 a1) (AA .add .i64 a1 (AA .mul .i64 (AA .quo .i64 (AA .sub .i64 a2 a1) 4) 1)) (AA .add .i64 a1 (AA .mul .i64 (AA .quo .i64 (AA .sub .i64 a2 a1) 4) 2)) (AA .add .i64 a1 (AA .mul .i64 (AA .quo .i64 (AA .sub .i64 a2 a1) 4) 3)) (decide (8<=(AA .sub .i64 a2 a1))) 0) fun o6=>
 AN (decide (o6.2=0)) (
  some (o6.1,1)) (
  AN (decide (o6.2=12)) (
   some (o6.1,2)) (
   some (o6.1,0)))
def HD(s8 s9:Int)(w0:List AB):Option ((Int×Int×List AB)⊕((List AB))):=
 AN (decide (s8<s9)) (
  AK (0<=s9/\s9+1<=(w0.length:Int)) (
   AT w0 s9 fun x1=>
   AK (0<=s8/\s8+1<=(w0.length:Int)) (
    AT w0 s8 fun x2=>
    AK (0<=s8/\s8+1<=(w0.length:Int)) (
     AK (0<=s8/\s8+1<=(w0.length:Int)) (
      AK (0<=s9/\s9+1<=((w0.set s8.toNat x1).length:Int)) (
       AK (0<=s9/\s9+1<=((w0.set s8.toNat x1).length:Int)) (
        some (.inl ((AA .add .i64 s8 1),(AA .sub .i64 s9 1),(w0.set s8.toNat x1).set s9.toNat x2))))))))) (
  some (.inr w0))
def Sm(s8 s9:Int)(w0:List AB):Option ((List AB)):=Ab (fun s:Int×Int×List AB=>HD s.1 s.2.1 s.2.2) (s8,s9,w0)
def Y0(a1 a2:Int)(w0:List AB):Option (List AB):=
 AJ (Sm a1 (AA .sub .i64 a2 1) w0) fun o3=>
 some o3
def Gt(s1 s2 s10:Int)(w0:List AB)(s9:Int):Option ((Int)⊕(Int)):=
 AN (decide (s9<s2)) (
  AK (0<=s9/\s9+1<=(w0.length:Int)) (
   AT w0 s9 fun x1=>
   AK (0<=(AA .sub .i64 s9 1)/\(AA .sub .i64 s9 1)+1<=(w0.length:Int)) (
    AT w0 (AA .sub .i64 s9 1) fun x2=>
    AJ (Xt x1 x2) fun r3=>
    AN (!(decide (r3<0))) (
     some (.inl (AA .add .i64 s9 1))) (
     some (.inr s9))))) (
  some (.inr s9))
def RR(s1 s2 s10:Int)(w0:List AB)(s9:Int):Option (Int):=Ab (fun s:Int=>Gt s1 s2 s10 w0 s) s9
def Gu(s1 s2:Int)(s9 s10 s11:Int)(w0:List AB):Option ((Int×List AB)⊕((List AB))):=
 AN (decide (1<=s11)) (
  AK (0<=s11/\s11+1<=(w0.length:Int)) (
   AT w0 s11 fun x7=>
   AK (0<=(AA .sub .i64 s11 1)/\(AA .sub .i64 s11 1)+1<=(w0.length:Int)) (
    AT w0 (AA .sub .i64 s11 1) fun x8=>
    AJ (Xt x7 x8) fun r9=>
    AN (!(decide (r9<0))) (
     some (.inr w0)) (
     AK (0<=(AA .sub .i64 s11 1)/\(AA .sub .i64 s11 1)+1<=(w0.length:Int)) (
      AT w0 (AA .sub .i64 s11 1) fun x10=>
      AK (0<=s11/\s11+1<=(w0.length:Int)) (
       AT w0 s11 fun x11=>
       AK (0<=s11/\s11+1<=(w0.length:Int)) (
        AK (0<=s11/\s11+1<=(w0.length:Int)) (
         AK (0<=(AA .sub .i64 s11 1)/\(AA .sub .i64 s11 1)+1<=((w0.set s11.toNat x10).length:Int)) (
          AK (0<=(AA .sub .i64 s11 1)/\(AA .sub .i64 s11 1)+1<=((w0.set s11.toNat x10).length:Int)) (
           some (.inl ((AA .sub .i64 s11 1),(w0.set s11.toNat x10).set (AA .sub .i64 s11 1).toNat x11)))))))))))) (
  some (.inr w0))
def RU(s1 s2:Int)(s9 s10 s11:Int)(w0:List AB):Option ((List AB)):=Ab (fun s:Int×List AB=>Gu s1 s2 s9 s10 s.1 s.2) (s11,w0)
def Mp(s1 s2:Int)(s9 s10:Int)(s65:Bool)(w0:List AB):Option ((List AB)):=
 AN (s65) (
  AJ (RU s1 s2 s9 s10 (AA .sub .i64 s9 1) w0) fun o12=>
  some o12) (
  some w0)
def Gv(s1 s2:Int)(s9 s10 s12:Int)(w0:List AB):Option ((Int×List AB)⊕((List AB))):=
 AN (decide (s12<s2)) (
  AK (0<=s12/\s12+1<=(w0.length:Int)) (
   AT w0 s12 fun x14=>
   AK (0<=(AA .sub .i64 s12 1)/\(AA .sub .i64 s12 1)+1<=(w0.length:Int)) (
    AT w0 (AA .sub .i64 s12 1) fun x15=>
    AJ (Xt x14 x15) fun r16=>
    AN (!(decide (r16<0))) (
     some (.inr w0)) (
     AK (0<=(AA .sub .i64 s12 1)/\(AA .sub .i64 s12 1)+1<=(w0.length:Int)) (
      AT w0 (AA .sub .i64 s12 1) fun x17=>
      AK (0<=s12/\s12+1<=(w0.length:Int)) (
       AT w0 s12 fun x18=>
       AK (0<=s12/\s12+1<=(w0.length:Int)) (
        AK (0<=s12/\s12+1<=(w0.length:Int)) (
         AK (0<=(AA .sub .i64 s12 1)/\(AA .sub .i64 s12 1)+1<=((w0.set s12.toNat x17).length:Int)) (
          AK (0<=(AA .sub .i64 s12 1)/\(AA .sub .i64 s12 1)+1<=((w0.set s12.toNat x17).length:Int)) (
           some (.inl ((AA .add .i64 s12 1),(w0.set s12.toNat x17).set (AA .sub .i64 s12 1).toNat x18)))))))))))) (
  some (.inr w0))
def RW(s1 s2:Int)(s9 s10 s12:Int)(w0:List AB):Option ((List AB)):=Ab (fun s:Int×List AB=>Gv s1 s2 s9 s10 s.1 s.2) (s12,w0)
def Mq(s1 s2:Int)(s9 s10:Int)(s104:Bool)(w0:List AB):Option ((List AB)):=
 AN (s104) (
  AJ (RW s1 s2 s9 s10 (AA .add .i64 s9 1) w0) fun o19=>
  some o19) (
  some w0)
def Mo(s1 s2:Int)(s9 s10:Int)(w0:List AB):Option ((Int×List AB)⊕Bool):=
 AJ (RR s1 s2 s10 w0 s9) fun o4=>
 AN (decide (o4=s2)) (
  some (.inr true)) (
  AN (decide ((AA .sub .i64 s2 s1)<50)) (
   some (.inr false)) (
   AK (0<=(AA .sub .i64 o4 1)/\(AA .sub .i64 o4 1)+1<=(w0.length:Int)) (
    AT w0 (AA .sub .i64 o4 1) fun x5=>
    AK (0<=o4/\o4+1<=(w0.length:Int)) (
     AT w0 o4 fun x6=>
     AK (0<=o4/\o4+1<=(w0.length:Int)) (
      AK (0<=o4/\o4+1<=(w0.length:Int)) (
       AK (0<=(AA .sub .i64 o4 1)/\(AA .sub .i64 o4 1)+1<=((w0.set o4.toNat x5).length:Int)) (
        AK (0<=(AA .sub .i64 o4 1)/\(AA .sub .i64 o4 1)+1<=((w0.set o4.toNat x5).length:Int)) (
         AJ (Mp s1 s2 o4 s10 (decide (2<=(AA .sub .i64 o4 s1))) ((w0.set o4.toNat x5).set (AA .sub .i64 o4 1).toNat x6)) fun o13=>
         AJ (Mq s1 s2 o4 s10 (decide (2<=(AA .sub .i64 s2 o4))) o13) fun o20=>
         some (.inl (o4,o20))))))))))
def Gs(s1 s2:Int)(s9 s10:Int)(w0:List AB):Option ((Int×Int×List AB)⊕((List AB)⊕(Bool×List AB))):=
 AN (decide (s10<5)) (
  AJ (Mo s1 s2 s9 s10 w0) fun o21=>
  B7 o21 (fun o22=>
   some (.inl (o22.1,(AA .add .i64 s10 1),o22.2))) (fun o23=>
   some (.inr (.inr (o23,w0))))) (
  some (.inr (.inl w0)))
def RP(s1 s2:Int)(s9 s10:Int)(w0:List AB):Option ((List AB)⊕(Bool×List AB)):=Ab (fun s:Int×Int×List AB=>Gs s1 s2 s.1 s.2.1 s.2.2) (s9,s10,w0)
def X7(a1 a2:Int)(w0:List AB):Option (Bool×List AB):=
 AJ (RP a1 a2 (AA .add .i64 a1 1) 0 w0) fun o24=>
 B7 o24 (fun o25=>
  some (false,o25)) (fun o26=>
  some (o26.1,o26.2))
def G0(s1 s12:Int)(w0:List AB)(s11:Int):Option ((Int)⊕(Int)):=
 AN (decide (s11<=s12)) (
  AK (0<=s1/\s1+1<=(w0.length:Int)) (
   AT w0 s1 fun x3=>
   AK (0<=s11/\s11+1<=(w0.length:Int)) (
    AT w0 s11 fun x4=>
    AJ (Xt x3 x4) fun r5=>
    AN (!(decide (r5<0))) (
     some (.inl (AA .add .i64 s11 1))) (
     some (.inr s11))))) (
  some (.inr s11))
def Rq(s1 s12:Int)(w0:List AB)(s11:Int):Option (Int):=Ab (fun s:Int=>G0 s1 s12 w0 s) s11
def G1(s1 s11:Int)(w0:List AB)(s12:Int):Option ((Int)⊕(Int)):=
 AN (decide (s11<=s12)) (
  AK (0<=s1/\s1+1<=(w0.length:Int)) (
   AT w0 s1 fun x7=>
   AK (0<=s12/\s12+1<=(w0.length:Int)) (
    AT w0 s12 fun x8=>
    AJ (Xt x7 x8) fun r9=>
    AN (decide (r9<0)) (
     some (.inl (AA .sub .i64 s12 1))) (
     some (.inr s12))))) (
  some (.inr s12))
def Rs(s1 s11:Int)(w0:List AB)(s12:Int):Option (Int):=Ab (fun s:Int=>G1 s1 s11 w0 s) s12
def Gz(s1 s11 s12:Int)(w0:List AB):Option ((Int×Int×List AB)⊕((Int×List AB))):=
 AJ (Rq s1 s12 w0 s11) fun o6=>
 AJ (Rs s1 o6 w0 s12) fun o10=>
 AN (decide (o10<o6)) (
  some (.inr (o6,w0))) (
  AK (0<=o10/\o10+1<=(w0.length:Int)) (
   AT w0 o10 fun x11=>
   AK (0<=o6/\o6+1<=(w0.length:Int)) (
    AT w0 o6 fun x12=>
    AK (0<=o6/\o6+1<=(w0.length:Int)) (
     AK (0<=o6/\o6+1<=(w0.length:Int)) (
      AK (0<=o10/\o10+1<=((w0.set o6.toNat x11).length:Int)) (
       AK (0<=o10/\o10+1<=((w0.set o6.toNat x11).length:Int)) (
        some (.inl ((AA .add .i64 o6 1),(AA .sub .i64 o10 1),(w0.set o6.toNat x11).set o10.toNat x12)))))))))
def Ro(s1 s11 s12:Int)(w0:List AB):Option ((Int×List AB)):=Ab (fun s:Int×Int×List AB=>Gz s1 s.1 s.2.1 s.2.2) (s11,s12,w0)
def Xd(a1 a2 a3:Int)(w0:List AB):Option (Int×List AB):=
 AK (0<=a3/\a3+1<=(w0.length:Int)) (
  AT w0 a3 fun x1=>
  AK (0<=a1/\a1+1<=(w0.length:Int)) (
   AT w0 a1 fun x2=>
   AK (0<=a1/\a1+1<=(w0.length:Int)) (
    AK (0<=a1/\a1+1<=(w0.length:Int)) (
     AK (0<=a3/\a3+1<=((w0.set a1.toNat x1).length:Int)) (
      AK (0<=a3/\a3+1<=((w0.set a1.toNat x1).length:Int)) (
       AJ (Ro a1 (AA .add .i64 a1 1) (AA .sub .i64 a2 1) ((w0.set a1.toNat x1).set a3.toNat x2)) fun o13=>
       some (o13.1,o13.2)))))))
def Gm(s1 s13:Int)(w0:List AB)(s12:Int):Option ((Int)⊕(Int)):=
 AN (decide (s12<=s13)) (
  AK (0<=s12/\s12+1<=(w0.length:Int)) (
   AT w0 s12 fun x3=>
   AK (0<=s1/\s1+1<=(w0.length:Int)) (
    AT w0 s1 fun x4=>
    AJ (Xt x3 x4) fun r5=>
    AN (decide (r5<0)) (
     some (.inl (AA .add .i64 s12 1))) (
     some (.inr s12))))) (
  some (.inr s12))
def Q8(s1 s13:Int)(w0:List AB)(s12:Int):Option (Int):=Ab (fun s:Int=>Gm s1 s13 w0 s) s12
def Gn(s1 s12:Int)(w0:List AB)(s13:Int):Option ((Int)⊕(Int)):=
 AN (decide (s12<=s13)) (
  AK (0<=s13/\s13+1<=(w0.length:Int)) (
   AT w0 s13 fun x7=>
   AK (0<=s1/\s1+1<=(w0.length:Int)) (
    AT w0 s1 fun x8=>
    AJ (Xt x7 x8) fun r9=>
    AN (!(decide (r9<0))) (
     some (.inl (AA .sub .i64 s13 1))) (
     some (.inr s13))))) (
  some (.inr s13))
def RC(s1 s12:Int)(w0:List AB)(s13:Int):Option (Int):=Ab (fun s:Int=>Gn s1 s12 w0 s) s13
def Gq(s1 s13:Int)(w0:List AB)(s12:Int):Option ((Int)⊕(Int)):=
 AN (decide (s12<=s13)) (
  AK (0<=s12/\s12+1<=(w0.length:Int)) (
   AT w0 s12 fun x15=>
   AK (0<=s1/\s1+1<=(w0.length:Int)) (
    AT w0 s1 fun x16=>
    AJ (Xt x15 x16) fun r17=>
    AN (decide (r17<0)) (
     some (.inl (AA .add .i64 s12 1))) (
     some (.inr s12))))) (
  some (.inr s12))
def RH(s1 s13:Int)(w0:List AB)(s12:Int):Option (Int):=Ab (fun s:Int=>Gq s1 s13 w0 s) s12
def Gr(s1 s12:Int)(w0:List AB)(s13:Int):Option ((Int)⊕(Int)):=
 AN (decide (s12<=s13)) (
  AK (0<=s13/\s13+1<=(w0.length:Int)) (
   AT w0 s13 fun x19=>
   AK (0<=s1/\s1+1<=(w0.length:Int)) (
    AT w0 s1 fun x20=>
    AJ (Xt x19 x20) fun r21=>
    AN (!(decide (r21<0))) (
     some (.inl (AA .sub .i64 s13 1))) (
     some (.inr s13))))) (
  some (.inr s13))
def RJ(s1 s12:Int)(w0:List AB)(s13:Int):Option (Int):=Ab (fun s:Int=>Gr s1 s12 w0 s) s13
def Gp(s1 s12 s13:Int)(w0:List AB):Option ((Int×Int×List AB)⊕((Int×List AB))):=
 AJ (RH s1 s13 w0 s12) fun o18=>
 AJ (RJ s1 o18 w0 s13) fun o22=>
 AN (decide (o22<o18)) (
  some (.inr (o22,w0))) (
  AK (0<=o22/\o22+1<=(w0.length:Int)) (
   AT w0 o22 fun x23=>
   AK (0<=o18/\o18+1<=(w0.length:Int)) (
    AT w0 o18 fun x24=>
    AK (0<=o18/\o18+1<=(w0.length:Int)) (
     AK (0<=o18/\o18+1<=(w0.length:Int)) (
      AK (0<=o22/\o22+1<=((w0.set o18.toNat x23).length:Int)) (
       AK (0<=o22/\o22+1<=((w0.set o18.toNat x23).length:Int)) (
        some (.inl ((AA .add .i64 o18 1),(AA .sub .i64 o22 1),(w0.set o18.toNat x23).set o22.toNat x24)))))))))
def RF(s1 s12 s13:Int)(w0:List AB):Option ((Int×List AB)):=Ab (fun s:Int×Int×List AB=>Gp s1 s.1 s.2.1 s.2.2) (s12,s13,w0)
def X6(a1 a2 a3:Int)(w0:List AB):Option (Int×Bool×List AB):=
 AK (0<=a3/\a3+1<=(w0.length:Int)) (
  AT w0 a3 fun x1=>
  AK (0<=a1/\a1+1<=(w0.length:Int)) (
   AT w0 a1 fun x2=>
   AK (0<=a1/\a1+1<=(w0.length:Int)) (
    AK (0<=a1/\a1+1<=(w0.length:Int)) (
     AK (0<=a3/\a3+1<=((w0.set a1.toNat x1).length:Int)) (
      AK (0<=a3/\a3+1<=((w0.set a1.toNat x1).length:Int)) (
       AJ (Q8 a1 (AA .sub .i64 a2 1) ((w0.set a1.toNat x1).set a3.toNat x2) (AA .add .i64 a1 1)) fun o6=>
       AJ (RC a1 o6 ((w0.set a1.toNat x1).set a3.toNat x2) (AA .sub .i64 a2 1)) fun o10=>
       AN (decide (o10<o6)) (
        AK (0<=a1/\a1+1<=(((w0.set a1.toNat x1).set a3.toNat x2).length:Int)) (
         AT ((w0.set a1.toNat x1).set a3.toNat x2) a1 fun x11=>
         AK (0<=o10/\o10+1<=(((w0.set a1.toNat x1).set a3.toNat x2).length:Int)) (
          AT ((w0.set a1.toNat x1).set a3.toNat x2) o10 fun x12=>
          AK (0<=o10/\o10+1<=(((w0.set a1.toNat x1).set a3.toNat x2).length:Int)) (
           AK (0<=o10/\o10+1<=(((w0.set a1.toNat x1).set a3.toNat x2).length:Int)) (
            AK (0<=a1/\a1+1<=((((w0.set a1.toNat x1).set a3.toNat x2).set o10.toNat x11).length:Int)) (
             AK (0<=a1/\a1+1<=((((w0.set a1.toNat x1).set a3.toNat x2).set o10.toNat x11).length:Int)) (
              some (o10,true,(((w0.set a1.toNat x1).set a3.toNat x2).set o10.toNat x11).set a1.toNat x12)))))))) (
        AK (0<=o10/\o10+1<=(((w0.set a1.toNat x1).set a3.toNat x2).length:Int)) (
         AT ((w0.set a1.toNat x1).set a3.toNat x2) o10 fun x13=>
         AK (0<=o6/\o6+1<=(((w0.set a1.toNat x1).set a3.toNat x2).length:Int)) (
          AT ((w0.set a1.toNat x1).set a3.toNat x2) o6 fun x14=>
          AK (0<=o6/\o6+1<=(((w0.set a1.toNat x1).set a3.toNat x2).length:Int)) (
           AK (0<=o6/\o6+1<=(((w0.set a1.toNat x1).set a3.toNat x2).length:Int)) (
            AK (0<=o10/\o10+1<=((((w0.set a1.toNat x1).set a3.toNat x2).set o6.toNat x13).length:Int)) (
             AK (0<=o10/\o10+1<=((((w0.set a1.toNat x1).set a3.toNat x2).set o6.toNat x13).length:Int)) (
              AJ (RF a1 (AA .add .i64 o6 1) (AA .sub .i64 o10 1) ((((w0.set a1.toNat x1).set a3.toNat x2).set o6.toNat x13).set o10.toNat x14)) fun o25=>
              AK (0<=a1/\a1+1<=(o25.2.length:Int)) (
               AT o25.2 a1 fun x26=>
               AK (0<=o25.1/\o25.1+1<=(o25.2.length:Int)) (
                AT o25.2 o25.1 fun x27=>
                AK (0<=o25.1/\o25.1+1<=(o25.2.length:Int)) (
                 AK (0<=o25.1/\o25.1+1<=(o25.2.length:Int)) (
                  AK (0<=a1/\a1+1<=((o25.2.set o25.1.toNat x26).length:Int)) (
                   AK (0<=a1/\a1+1<=((o25.2.set o25.1.toNat x26).length:Int)) (
                    some (o25.1,false,(o25.2.set o25.1.toNat x26).set a1.toNat x27))))))))))))))))))))
def M7(self:Int->Int->Int->(List AB)->Option (List AB))(s1 s2 s3:Int)(s10 s11:Bool)(s12:Int)(s39:Bool)(w0:List AB):Option ((Int×List AB)):=
 AN (s39) (
  AJ (Xk s1 s2 w0) fun r3=>
  some ((AA .sub .i64 s3 1),r3)) (
  some (s3,w0))
def M8(self:Int->Int->Int->(List AB)->Option (List AB))(s1 s2 s3:Int)(s10 s11:Bool)(s12 s13 s14:Int)(s56:Bool)(w0:List AB):Option ((Int×Int×List AB)):=
 AN (s56) (
  AJ (Y0 s1 s2 w0) fun r6=>
  some ((AA .sub .i64 (AA .sub .i64 s2 1) (AA .sub .i64 s13 s1)),1,r6)) (
  some (s13,s14,w0))
def I3(self:Int->Int->Int->(List AB)->Option (List AB))(s1 s2 s3:Int)(s10 s11:Bool)(s12 s13:Int)(s75:Bool)(w0:List AB):Option ((List AB)⊕(List AB)):=
 AN (s75) (
  AJ (X7 s1 s2 w0) fun r8=>
  AN (r8.1) (
   some (.inr r8.2)) (
   some (.inl r8.2))) (
  some (.inl w0))
def F1(self:Int->Int->Int->(List AB)->Option (List AB))(s1 s2 s3:Int)(s11:Bool)(s16 s18:Int)(s19 s20:Int)(s125:Bool)(w0:List AB):Option ((Int×Int×Bool×List AB)):=
 AN (s125) (
  AJ (self s1 s16 s3 w0) fun r17=>
  some ((AA .add .i64 s16 1),s2,decide (s20<=s18),r17)) (
  AJ (self (AA .add .i64 s16 1) s2 s3 w0) fun r18=>
  some (s1,s16,decide (s20<=s19),r18))
def M6(self:Int->Int->Int->(List AB)->Option (List AB))(s1 s2 s3:Int)(s10 s11:Bool)(w0:List AB):Option ((Int×Int×Int×Bool×Bool×List AB)⊕(List AB)):=
 AN (decide ((AA .sub .i64 s2 s1)<=12)) (
  AJ (Xm s1 s2 w0) fun r1=>
  some (.inr r1)) (
  AN (decide (s3=0)) (
   AJ (Xn s1 s2 w0) fun r2=>
   some (.inr r2)) (
   AJ (M7 self s1 s2 s3 s10 s11 (AA .sub .i64 s2 s1) (!s10) w0) fun o4=>
   AJ (Y6 o4.2 s1 s2) fun r5=>
   AJ (M8 self s1 s2 o4.1 s10 s11 (AA .sub .i64 s2 s1) r5.1 r5.2 (decide (r5.2=2)) o4.2) fun o7=>
   AN (s10) (
    AN (s11) (
     AJ (I3 self s1 s2 o4.1 s10 s11 (AA .sub .i64 s2 s1) o7.1 (decide (o7.2.1=1)) o7.2.2) fun o9=>
     B7 o9 (fun o10=>
      AN (decide (0<s1)) (
       AK (0<=(AA .sub .i64 s1 1)/\(AA .sub .i64 s1 1)+1<=(o10.length:Int)) (
        AT o10 (AA .sub .i64 s1 1) fun x12=>
        AK (0<=o7.1/\o7.1+1<=(o10.length:Int)) (
         AT o10 o7.1 fun x13=>
         AJ (Xt x12 x13) fun r14=>
         AN (!(decide (r14<0))) (
          AJ (Xd s1 s2 o7.1 o10) fun r15=>
          some (.inl (r15.1,s2,o4.1,s10,s11,r15.2))) (
          AJ (X6 s1 s2 o7.1 o10) fun r16=>
          AJ (F1 self s1 s2 o4.1 r16.2.1 r16.1 (AA .sub .i64 r16.1 s1) (AA .sub .i64 s2 r16.1) (AA .quo .i64 (AA .sub .i64 s2 s1) 8) (decide ((AA .sub .i64 r16.1 s1)<(AA .sub .i64 s2 r16.1))) r16.2.2) fun o19=>
          some (.inl (o19.1,o19.2.1,o4.1,o19.2.2.1,r16.2.1,o19.2.2.2)))))) (
       AJ (X6 s1 s2 o7.1 o10) fun r20=>
       AJ (F1 self s1 s2 o4.1 r20.2.1 r20.1 (AA .sub .i64 r20.1 s1) (AA .sub .i64 s2 r20.1) (AA .quo .i64 (AA .sub .i64 s2 s1) 8) (decide ((AA .sub .i64 r20.1 s1)<(AA .sub .i64 s2 r20.1))) r20.2.2) fun o21=>
       some (.inl (o21.1,o21.2.1,o4.1,o21.2.2.1,r20.2.1,o21.2.2.2)))) (fun o11=>
      some (.inr o11))) (
     AJ (I3 self s1 s2 o4.1 s10 s11 (AA .sub .i64 s2 s1) o7.1 false o7.2.2) fun o22=>
     B7 o22 (fun o23=>
      AN (decide (0<s1)) (
       AK (0<=(AA .sub .i64 s1 1)/\(AA .sub .i64 s1 1)+1<=(o23.length:Int)) (
        AT o23 (AA .sub .i64 s1 1) fun x25=>
        AK (0<=o7.1/\o7.1+1<=(o23.length:Int)) (
         AT o23 o7.1 fun x26=>
         AJ (Xt x25 x26) fun r27=>
         AN (!(decide (r27<0))) (
          AJ (Xd s1 s2 o7.1 o23) fun r28=>
          some (.inl (r28.1,s2,o4.1,s10,s11,r28.2))) (
          AJ (X6 s1 s2 o7.1 o23) fun r29=>
          AJ (F1 self s1 s2 o4.1 r29.2.1 r29.1 (AA .sub .i64 r29.1 s1) (AA .sub .i64 s2 r29.1) (AA .quo .i64 (AA .sub .i64 s2 s1) 8) (decide ((AA .sub .i64 r29.1 s1)<(AA .sub .i64 s2 r29.1))) r29.2.2) fun o30=>
          some (.inl (o30.1,o30.2.1,o4.1,o30.2.2.1,r29.2.1,o30.2.2.2)))))) (
       AJ (X6 s1 s2 o7.1 o23) fun r31=>
       AJ (F1 self s1 s2 o4.1 r31.2.1 r31.1 (AA .sub .i64 r31.1 s1) (AA .sub .i64 s2 r31.1) (AA .quo .i64 (AA .sub .i64 s2 s1) 8) (decide ((AA .sub .i64 r31.1 s1)<(AA .sub .i64 s2 r31.1))) r31.2.2) fun o32=>
       some (.inl (o32.1,o32.2.1,o4.1,o32.2.2.1,r31.2.1,o32.2.2.2)))) (fun o24=>
      some (.inr o24)))) (
    AJ (I3 self s1 s2 o4.1 s10 s11 (AA .sub .i64 s2 s1) o7.1 false o7.2.2) fun o33=>
    B7 o33 (fun o34=>
     AN (decide (0<s1)) (
      AK (0<=(AA .sub .i64 s1 1)/\(AA .sub .i64 s1 1)+1<=(o34.length:Int)) (
       AT o34 (AA .sub .i64 s1 1) fun x36=>
       AK (0<=o7.1/\o7.1+1<=(o34.length:Int)) (
        AT o34 o7.1 fun x37=>
        AJ (Xt x36 x37) fun r38=>
        AN (!(decide (r38<0))) (
         AJ (Xd s1 s2 o7.1 o34) fun r39=>
         some (.inl (r39.1,s2,o4.1,s10,s11,r39.2))) (
         AJ (X6 s1 s2 o7.1 o34) fun r40=>
         AJ (F1 self s1 s2 o4.1 r40.2.1 r40.1 (AA .sub .i64 r40.1 s1) (AA .sub .i64 s2 r40.1) (AA .quo .i64 (AA .sub .i64 s2 s1) 8) (decide ((AA .sub .i64 r40.1 s1)<(AA .sub .i64 s2 r40.1))) r40.2.2) fun o41=>
         some (.inl (o41.1,o41.2.1,o4.1,o41.2.2.1,r40.2.1,o41.2.2.2)))))) (
      AJ (X6 s1 s2 o7.1 o34) fun r42=>
      AJ (F1 self s1 s2 o4.1 r42.2.1 r42.1 (AA .sub .i64 r42.1 s1) (AA .sub .i64 s2 r42.1) (AA .quo .i64 (AA .sub .i64 s2 s1) 8) (decide ((AA .sub .i64 r42.1 s1)<(AA .sub .i64 s2 r42.1))) r42.2.2) fun o43=>
      some (.inl (o43.1,o43.2.1,o4.1,o43.2.2.1,r42.2.1,o43.2.2.2)))) (fun o35=>
     some (.inr o35)))))
def Gy(self:Int->Int->Int->(List AB)->Option (List AB))(s1 s2 s3:Int)(s10 s11:Bool)(w0:List AB):Option ((Int×Int×Int×Bool×Bool×List AB)⊕((List AB))):=
 AJ (M6 self s1 s2 s3 s10 s11 w0) fun o44=>
 B7 o44 (fun o45=>
  some (.inl (o45.1,o45.2.1,o45.2.2.1,o45.2.2.2.1,o45.2.2.2.2.1,o45.2.2.2.2.2))) (fun o46=>
  some (.inr o46))
def Ri(self:Int->Int->Int->(List AB)->Option (List AB))(s1 s2 s3:Int)(s10 s11:Bool)(w0:List AB):Option ((List AB)):=Ab (fun s:Int×Int×Int×Bool×Bool×List AB=>Gy self s.1 s.2.1 s.2.2.1 s.2.2.2.1 s.2.2.2.2.1 s.2.2.2.2.2) (s1,s2,s3,s10,s11,w0)
def Wj(self:Int->Int->Int->(List AB)->Option (List AB))(a1 a2 a3:Int)(w0:List AB):Option (List AB):=
 AJ (Ri self a1 a2 a3 true true w0) fun o47=>
 some o47
def Wm:Nat->Int->Int->Int->(List AB)->Option (List AB)
 |0=>fun _ _ _ _=>none
 |n+1=>fun a1 a2 a3 w0=>Wj (Wm n) a1 a2 a3 w0
def X9(a1 a2 a3:Int)(w0:List AB):Option (List AB):=Wm 100000 a1 a2 a3 w0
def Yv(w0:List AB):Option (List AB):=
 AJ (Yq (IntKind.wrap .u64 (w0.length:Int))) fun r1=>
 AJ (X9 0 (w0.length:Int) r1 w0) fun r2=>
 some r2
def Zi(xs:List AB):Option (List AB):=bagE Yv xs
def E4(w0_1 w0_2:Int)(w501:MP Int AB)(w502:MP (List UInt8) Int)(k:Int)(v:AB)(w3:List AB):Option (List AB):=
 AJ (Yh v.bind v.set) fun r1=>
 AK (fit w3.length [r1].length 48) (
  some (w3++[r1]))
def G9(w0_1 w0_2:Int)(w501:MP Int AB)(w502:MP (List UInt8) Int)(s:List AB):List AB:=(fun s:List AB=>(Wc s:List AB)) s
def SP(w0_1 w0_2:Int)(w501:MP Int AB)(w502:MP (List UInt8) Int)(w3:List AB):Option (List AB):=FT (G9 w0_1 w0_2 w501 w502) (w501.es.map (·.2)) (fun(x:Int×AB) (s:List AB)=>E4 w0_1 w0_2 w501 w502 x.1 x.2 s) w3
def SN(w0_1 w0_2:Int)(w501:MP Int AB)(w502:MP (List UInt8) Int):Option ((List AB)):=
 AJ (SP w0_1 w0_2 w501 w502 ([]:List AB)) fun o2=>
 some o2
def Xo(w0_1 w0_2:Int)(w1:MP Int AB)(w2:MP (List UInt8) Int):Option (List AB×Int×Int×MP Int AB×MP (List UInt8) Int):=
 AJ (SN w0_1 w0_2 w1 w2) fun o3=>
 AJ (Zi o3) fun r4=>
 some (r4,w0_1,w0_2,w1,w2)
def FC(s0 s1:List UInt8)(s5:Int):Option ((Int)⊕(Unit⊕Bool)):=
 AN (decide (s5<(s0.length:Int))) (
  AN (decide (s5<(s1.length:Int))) (
   AT s0 s5 fun x1=>
   AT s1 s5 fun x2=>
   AN (!decide ((x1.toNat:Int)=(x2.toNat:Int))) (
    AT s0 s5 fun x3=>
    AT s1 s5 fun x4=>
    some (.inr (.inr (decide ((x3.toNat:Int)<(x4.toNat:Int)))))) (
    some (.inl (AA .add .i64 s5 1)))) (
   some (.inr (.inl ())))) (
  some (.inr (.inl ())))
def VP(s0 s1:List UInt8)(s5:Int):Option (Unit⊕Bool):=Ab (fun s:Int=>FC s0 s1 s) s5
def Y9(a0 a1:List UInt8):Option (Bool):=
 AJ (VP a0 a1 0) fun o5=>
 B7 o5 (fun o6=>
  some (decide ((a0.length:Int)<(a1.length:Int)))) (fun o7=>
  some o7)
def Yr(a0 a1:X5):Option (Bool):=
 AN (!decide (a0.kind=a1.kind)) (
  some (decide (a0.kind<a1.kind))) (
  AN (decide (a0.kind=1)) (
   some (decide (a0.int<a1.int))) (
   AN (decide (a0.kind=2)) (
    AJ (Y9 a0.str a1.str) fun r1=>
    some r1) (
    AN (!a0.bool) (
     some a1.bool) (
     some false))))
def HG(s0 s1:List X0)(s5:Int):Option ((Int)⊕(Unit⊕Bool)):=
 AN (decide (s5<(s0.length:Int))) (
  AT s0 s5 fun x1=>
  AT s1 s5 fun x2=>
  AN (!decide (x1.var=x2.var)) (
   AT s0 s5 fun x3=>
   AT s1 s5 fun x4=>
   some (.inr (.inr (decide (x3.var<x4.var))))) (
   AT s0 s5 fun x5=>
   AT s1 s5 fun x6=>
   AN (!(X5.eqb x5.value x6.value)) (
    AT s0 s5 fun x7=>
    AT s1 s5 fun x8=>
    AJ (Yr x7.value x8.value) fun r9=>
    some (.inr (.inr r9))) (
    some (.inl (AA .add .i64 s5 1))))) (
  some (.inr (.inl ())))
def VQ(s0 s1:List X0)(s5:Int):Option (Unit⊕Bool):=Ab (fun s:Int=>HG s0 s1 s) s5
def Ya(a0 a1:List X0):Option (Bool):=
 AN (!decide ((a0.length:Int)=(a1.length:Int))) (
  some (decide ((a0.length:Int)<(a1.length:Int)))) (
  AJ (VQ a0 a1 0) fun o10=>
  B7 o10 (fun o11=>
   some false) (fun o12=>
   some o12))
def EG(s0:List AB)(w3:AB)(s5:Int):Option ((Int)⊕(Int)):=
 AN (decide (0<s5)) (
  AT s0 (AA .sub .i64 s5 1) fun x1=>
  AJ (Ya w3.bind x1.bind) fun r2=>
  AN (r2) (
   some (.inl (AA .sub .i64 s5 1))) (
   some (.inr s5))) (
  some (.inr s5))
def OZ(s0:List AB)(w3:AB)(s5:Int):Option (Int):=Ab (fun s:Int=>EG s0 w3 s) s5
theorem KV(s0:List AB)(w3:AB)(s5:Int):OZ s0 w3 s5=BZ (EG s0 w3 s5) (fun s:Int=>OZ s0 w3 s):=Ak _ _
def Y1(a0:List AB)(a1:AB):Option (List AB):=
 AJ (OZ a0 a1 (a0.length:Int)) fun o3=>
 AK ((0:Int)<=0/\(0:Int)<=o3/\o3<=(a0.length:Int)) (
  AK (fit ([]:List AB).length (sub a0 0 o3).length 48) (
   AK (fit (([]:List AB)++(sub a0 0 o3)).length [a1].length 48) (
    AK ((0:Int)<=o3/\(o3:Int)<=(a0.length:Int)/\(a0.length:Int)<=(a0.length:Int)) (
     AK (fit ((([]:List AB)++(sub a0 0 o3))++[a1]).length (sub a0 o3 (a0.length:Int)).length 48) (
      some (((([]:List AB)++(sub a0 0 o3))++[a1])++(sub a0 o3 (a0.length:Int))))))))
def E9(w1:Xb)(s3:List AB)(s4:Int):Option ((List AB×Int)⊕((List AB))):=
 AN (decide (s4<(w1.l.length:Int))) (
  AT w1.l s4 fun x3=>
  AJ (Y1 s3 x3.row) fun r4=>
  some (.inl (r4,(AA .add .i64 s4 1)))) (
  some (.inr s3))
def LL(w1:Xb)(s3:List AB)(s4:Int):Option ((List AB)):=Ab (fun s:List AB×Int=>E9 w1 s.1 s.2) (s3,s4)
theorem KW(w1:Xb)(s3:List AB)(s4:Int):LL w1 s3 s4=BZ (E9 w1 s3 s4) (fun s:List AB×Int=>LL w1 s.1 s.2):=Ak _ _
def Y2(a0:Xb):Option (List AB):=
 AJ (LL a0 ([]:List AB) 0) fun o5=>
 some o5
def HF(w2 w3:X4)(s5:Int):Option ((Int)⊕(Unit⊕Bool)):=
 AN (decide (s5<(w2.vals.length:Int))) (
  AN (decide (s5<(w3.vals.length:Int))) (
   AT w2.vals s5 fun x1=>
   AT w3.vals s5 fun x2=>
   AN (!(X5.eqb x1 x2)) (
    AT w2.vals s5 fun x3=>
    AT w3.vals s5 fun x4=>
    AJ (Yr x3 x4) fun r5=>
    some (.inr (.inr r5))) (
    some (.inl (AA .add .i64 s5 1)))) (
   some (.inr (.inl ())))) (
  some (.inr (.inl ())))
def Sz(w2 w3:X4)(s5:Int):Option (Unit⊕Bool):=Ab (fun s:Int=>HF w2 w3 s) s5
theorem S0(w2 w3:X4)(s5:Int):Sz w2 w3 s5=BZ (HF w2 w3 s5) (fun s:Int=>Sz w2 w3 s):=Ak _ _
def Y7(a0 a1:X4):Option (Bool):=
 AN (!decide (a0.state=a1.state)) (
  some (decide (a0.state<a1.state))) (
  AJ (Sz a0 a1 0) fun o6=>
  B7 o6 (fun o7=>
   some (decide ((a0.vals.length:Int)<(a1.vals.length:Int)))) (fun o8=>
   some o8))
def Z9(a0 a1:X4):Option (Bool):=
 AJ (Y7 a0 a1) fun r1=>
 AN (!r1) (
  AJ (Y7 a1 a0) fun r2=>
  some (!r2)) (
  some false)
def HH(s0 s1:List X4)(s5:Int):Option ((Int)⊕(Unit⊕Unit)):=
 AN (decide (s5<(s0.length:Int))) (
  AT s0 s5 fun x1=>
  AT s1 s5 fun x2=>
  AJ (Z9 x1 x2) fun r3=>
  AN (!r3) (
   some (.inr (.inr ()))) (
   some (.inl (AA .add .i64 s5 1)))) (
  some (.inr (.inl ())))
def VS(s0 s1:List X4)(s5:Int):Option (Unit⊕Unit):=Ab (fun s:Int=>HH s0 s1 s) s5
def Yb(a0 a1:List X4):Option (Bool):=
 AN (!decide ((a0.length:Int)=(a1.length:Int))) (
  some false) (
  AJ (VS a0 a1 0) fun o4=>
  B7 o4 (fun o5=>
   some true) (fun o6=>
   some false))
def HI(s0 s1:List AB)(s5:Int):Option ((Int)⊕(Unit⊕Unit)):=
 AN (decide (s5<(s0.length:Int))) (
  AT s0 s5 fun x1=>
  AT s1 s5 fun x2=>
  AJ (Xy x1.bind x2.bind) fun r3=>
  AN (!r3) (
   some (.inr (.inr ()))) (
   AT s0 s5 fun x4=>
   AT s1 s5 fun x5=>
   AJ (Yb x4.set x5.set) fun r6=>
   AN (!r6) (
    some (.inr (.inr ()))) (
    some (.inl (AA .add .i64 s5 1))))) (
  some (.inr (.inl ())))
def VU(s0 s1:List AB)(s5:Int):Option (Unit⊕Unit):=Ab (fun s:Int=>HI s0 s1 s) s5
def Yd(a0 a1:List AB):Option (Bool):=
 AN (!decide ((a0.length:Int)=(a1.length:Int))) (
  some false) (
  AJ (VU a0 a1 0) fun o7=>
  B7 o7 (fun o8=>
   some true) (fun o9=>
   some false))
def Z5(a0:Int):Option (Bool):=
 some (!decide (a0=a0))
def Xu(a0 a1:Int):Option (Bool):=
 AJ (Z5 a0) fun r1=>
 AN (r1) (
  AJ (Z5 a1) fun r2=>
  AN (!r2) (
   some true) (
   some (decide (a0<a1)))) (
  some (decide (a0<a1)))
def CZ(s1 s2:Int)(s6 s7:Int)(w0:List Int):Option ((Int×List Int)⊕((List Int))):=
 AN (decide (s1<s7)) (
  AK (0<=s7/\s7+1<=(w0.length:Int)) (
   AT w0 s7 fun x1=>
   AK (0<=(AA .sub .i64 s7 1)/\(AA .sub .i64 s7 1)+1<=(w0.length:Int)) (
    AT w0 (AA .sub .i64 s7 1) fun x2=>
    AJ (Xu x1 x2) fun r3=>
    AN (r3) (
     AK (0<=(AA .sub .i64 s7 1)/\(AA .sub .i64 s7 1)+1<=(w0.length:Int)) (
      AT w0 (AA .sub .i64 s7 1) fun x4=>
      AK (0<=s7/\s7+1<=(w0.length:Int)) (
       AT w0 s7 fun x5=>
       AK (0<=s7/\s7+1<=(w0.length:Int)) (
        AK (0<=s7/\s7+1<=(w0.length:Int)) (
         AK (0<=(AA .sub .i64 s7 1)/\(AA .sub .i64 s7 1)+1<=((w0.set s7.toNat x4).length:Int)) (
          AK (0<=(AA .sub .i64 s7 1)/\(AA .sub .i64 s7 1)+1<=((w0.set s7.toNat x4).length:Int)) (
           some (.inl ((AA .sub .i64 s7 1),(w0.set s7.toNat x4).set (AA .sub .i64 s7 1).toNat x5))))))))) (
     some (.inr w0))))) (
  some (.inr w0))
def I9(s1 s2:Int)(s6 s7:Int)(w0:List Int):Option ((List Int)):=Ab (fun s:Int×List Int=>CZ s1 s2 s6 s.1 s.2) (s7,w0)
theorem KM(s1 s2:Int)(s6 s7:Int)(w0:List Int):I9 s1 s2 s6 s7 w0=BZ (CZ s1 s2 s6 s7 w0) (fun s:Int×List Int=>I9 s1 s2 s6 s.1 s.2):=Ak _ _
def DO(s1 s2 s6:Int)(w0:List Int):Option ((Int×List Int)⊕((List Int))):=
 AN (decide (s6<s2)) (
  AJ (I9 s1 s2 s6 s6 w0) fun o6=>
  some (.inl ((AA .add .i64 s6 1),o6))) (
  some (.inr w0))
def I8(s1 s2 s6:Int)(w0:List Int):Option ((List Int)):=Ab (fun s:Int×List Int=>DO s1 s2 s.1 s.2) (s6,w0)
theorem KL(s1 s2 s6:Int)(w0:List Int):I8 s1 s2 s6 w0=BZ (DO s1 s2 s6 w0) (fun s:Int×List Int=>I8 s1 s2 s.1 s.2):=Ak _ _
def Xg(a1 a2:Int)(w0:List Int):Option (List Int):=
 AJ (I8 a1 a2 (AA .add .i64 a1 1) w0) fun o7=>
 some o7
def G2(s2 s3:Int)(s8 s9:Int)(s36:Bool)(w0:List Int):Option (Int):=
 AN (s36) (
  some (AA .add .i64 s9 1)) (
  some s9)
def F2(s2 s3 s8:Int)(w0:List Int):Option ((Int×List Int)⊕(Unit⊕Unit)):=
 AN (decide (s2<=(AA .add .i64 (AA .mul .i64 2 s8) 1))) (
  some (.inr (.inl ()))) (
  AN (decide ((AA .add .i64 (AA .add .i64 (AA .mul .i64 2 s8) 1) 1)<s2)) (
   AK (0<=(AA .add .i64 s3 (AA .add .i64 (AA .mul .i64 2 s8) 1))/\(AA .add .i64 s3 (AA .add .i64 (AA .mul .i64 2 s8) 1))+1<=(w0.length:Int)) (
    AT w0 (AA .add .i64 s3 (AA .add .i64 (AA .mul .i64 2 s8) 1)) fun x1=>
    AK (0<=(AA .add .i64 (AA .add .i64 s3 (AA .add .i64 (AA .mul .i64 2 s8) 1)) 1)/\(AA .add .i64 (AA .add .i64 s3 (AA .add .i64 (AA .mul .i64 2 s8) 1)) 1)+1<=(w0.length:Int)) (
     AT w0 (AA .add .i64 (AA .add .i64 s3 (AA .add .i64 (AA .mul .i64 2 s8) 1)) 1) fun x2=>
     AJ (Xu x1 x2) fun r3=>
     AJ (G2 s2 s3 s8 (AA .add .i64 (AA .mul .i64 2 s8) 1) r3 w0) fun o4=>
     AK (0<=(AA .add .i64 s3 s8)/\(AA .add .i64 s3 s8)+1<=(w0.length:Int)) (
      AT w0 (AA .add .i64 s3 s8) fun x5=>
      AK (0<=(AA .add .i64 s3 o4)/\(AA .add .i64 s3 o4)+1<=(w0.length:Int)) (
       AT w0 (AA .add .i64 s3 o4) fun x6=>
       AJ (Xu x5 x6) fun r7=>
       AN (!r7) (
        some (.inr (.inr ()))) (
        AK (0<=(AA .add .i64 s3 o4)/\(AA .add .i64 s3 o4)+1<=(w0.length:Int)) (
         AT w0 (AA .add .i64 s3 o4) fun x8=>
         AK (0<=(AA .add .i64 s3 s8)/\(AA .add .i64 s3 s8)+1<=(w0.length:Int)) (
          AT w0 (AA .add .i64 s3 s8) fun x9=>
          AK (0<=(AA .add .i64 s3 s8)/\(AA .add .i64 s3 s8)+1<=(w0.length:Int)) (
           AK (0<=(AA .add .i64 s3 s8)/\(AA .add .i64 s3 s8)+1<=(w0.length:Int)) (
            AK (0<=(AA .add .i64 s3 o4)/\(AA .add .i64 s3 o4)+1<=((w0.set (AA .add .i64 s3 s8).toNat x8).length:Int)) (
             AK (0<=(AA .add .i64 s3 o4)/\(AA .add .i64 s3 o4)+1<=((w0.set (AA .add .i64 s3 s8).toNat x8).length:Int)) (
              some (.inl (o4,(w0.set (AA .add .i64 s3 s8).toNat x8).set (AA .add .i64 s3 o4).toNat x9)))))))))))))) (
   AJ (G2 s2 s3 s8 (AA .add .i64 (AA .mul .i64 2 s8) 1) false w0) fun o10=>
   AK (0<=(AA .add .i64 s3 s8)/\(AA .add .i64 s3 s8)+1<=(w0.length:Int)) (
    AT w0 (AA .add .i64 s3 s8) fun x11=>
    AK (0<=(AA .add .i64 s3 o10)/\(AA .add .i64 s3 o10)+1<=(w0.length:Int)) (
     AT w0 (AA .add .i64 s3 o10) fun x12=>
     AJ (Xu x11 x12) fun r13=>
     AN (!r13) (
      some (.inr (.inr ()))) (
      AK (0<=(AA .add .i64 s3 o10)/\(AA .add .i64 s3 o10)+1<=(w0.length:Int)) (
       AT w0 (AA .add .i64 s3 o10) fun x14=>
       AK (0<=(AA .add .i64 s3 s8)/\(AA .add .i64 s3 s8)+1<=(w0.length:Int)) (
        AT w0 (AA .add .i64 s3 s8) fun x15=>
        AK (0<=(AA .add .i64 s3 s8)/\(AA .add .i64 s3 s8)+1<=(w0.length:Int)) (
         AK (0<=(AA .add .i64 s3 s8)/\(AA .add .i64 s3 s8)+1<=(w0.length:Int)) (
          AK (0<=(AA .add .i64 s3 o10)/\(AA .add .i64 s3 o10)+1<=((w0.set (AA .add .i64 s3 s8).toNat x14).length:Int)) (
           AK (0<=(AA .add .i64 s3 o10)/\(AA .add .i64 s3 o10)+1<=((w0.set (AA .add .i64 s3 s8).toNat x14).length:Int)) (
            some (.inl (o10,(w0.set (AA .add .i64 s3 s8).toNat x14).set (AA .add .i64 s3 o10).toNat x15)))))))))))))
def B0(s2 s3 s8:Int)(w0:List Int):Option ((Int×List Int)⊕((List Int)⊕(List Int))):=
 AJ (F2 s2 s3 s8 w0) fun o16=>
 B7 o16 (fun o17=>
  some (.inl (o17.1,o17.2))) (fun o18=>
  B7 o18 (fun o19=>
   some (.inr (.inl w0))) (fun o20=>
   some (.inr (.inr w0))))
def I7(s2 s3 s8:Int)(w0:List Int):Option ((List Int)⊕(List Int)):=Ab (fun s:Int×List Int=>B0 s2 s3 s.1 s.2) (s8,w0)
theorem KK(s2 s3 s8:Int)(w0:List Int):I7 s2 s3 s8 w0=BZ (B0 s2 s3 s8 w0) (fun s:Int×List Int=>I7 s2 s3 s.1 s.2):=Ak _ _
def Xe(a1 a2 a3:Int)(w0:List Int):Option (List Int):=
 AJ (I7 a2 a3 a1 w0) fun o21=>
 B7 o21 (fun o22=>
  some o22) (fun o23=>
  some o23)
def DQ(s6 s7:Int)(s8 s9:Int)(w0:List Int):Option ((Int×List Int)⊕((List Int))):=
 AN (decide (0<=s9)) (
  AJ (Xe s9 s8 s6 w0) fun r1=>
  some (.inl ((AA .sub .i64 s9 1),r1))) (
  some (.inr w0))
def JD(s6 s7:Int)(s8 s9:Int)(w0:List Int):Option ((List Int)):=Ab (fun s:Int×List Int=>DQ s6 s7 s8 s.1 s.2) (s9,w0)
theorem KQ(s6 s7:Int)(s8 s9:Int)(w0:List Int):JD s6 s7 s8 s9 w0=BZ (DQ s6 s7 s8 s9 w0) (fun s:Int×List Int=>JD s6 s7 s8 s.1 s.2):=Ak _ _
def DR(s6 s7 s10:Int)(w0:List Int):Option ((Int×List Int)⊕((List Int))):=
 AN (decide (0<=s10)) (
  AK (0<=(AA .add .i64 s6 s10)/\(AA .add .i64 s6 s10)+1<=(w0.length:Int)) (
   AT w0 (AA .add .i64 s6 s10) fun x3=>
   AK (0<=s6/\s6+1<=(w0.length:Int)) (
    AT w0 s6 fun x4=>
    AK (0<=s6/\s6+1<=(w0.length:Int)) (
     AK (0<=s6/\s6+1<=(w0.length:Int)) (
      AK (0<=(AA .add .i64 s6 s10)/\(AA .add .i64 s6 s10)+1<=((w0.set s6.toNat x3).length:Int)) (
       AK (0<=(AA .add .i64 s6 s10)/\(AA .add .i64 s6 s10)+1<=((w0.set s6.toNat x3).length:Int)) (
        AJ (Xe s7 s10 s6 ((w0.set s6.toNat x3).set (AA .add .i64 s6 s10).toNat x4)) fun r5=>
        some (.inl ((AA .sub .i64 s10 1),r5))))))))) (
  some (.inr w0))
def JE(s6 s7 s10:Int)(w0:List Int):Option ((List Int)):=Ab (fun s:Int×List Int=>DR s6 s7 s.1 s.2) (s10,w0)
theorem KR(s6 s7 s10:Int)(w0:List Int):JE s6 s7 s10 w0=BZ (DR s6 s7 s10 w0) (fun s:Int×List Int=>JE s6 s7 s.1 s.2):=Ak _ _
def Xj(a1 a2:Int)(w0:List Int):Option (List Int):=
 AJ (JD a1 0 (AA .sub .i64 a2 a1) (AA .quo .i64 (AA .sub .i64 (AA .sub .i64 a2 a1) 1) 2) w0) fun o2=>
 AJ (JE a1 0 (AA .sub .i64 (AA .sub .i64 a2 a1) 1) o2) fun o6=>
 some o6
def JA(s1 s6:Int)(s8 s9 s10:Int)(s43:Bool)(w0:List Int)(w7:Int):Option (Int):=
 AN (s43) (
  some (AA .sub .i64 s10 s6)) (
  some s10)
def LI(s1 s6:Int)(s8 s9:Int)(w0:List Int)(w7:Int):Option ((List Int×Int)):=
 AJ (Z0 w7) fun r2=>
 AJ (JA s1 s6 s8 s9 (IntKind.wrap .i64 (AA .and .u64 r2.1 (AA .sub .u64 s8 1))) (decide (s6<=(IntKind.wrap .i64 (AA .and .u64 r2.1 (AA .sub .u64 s8 1))))) w0 r2.2) fun o3=>
 AK (0<=(AA .add .i64 s1 o3)/\(AA .add .i64 s1 o3)+1<=(w0.length:Int)) (
  AT w0 (AA .add .i64 s1 o3) fun x4=>
  AK (0<=s9/\s9+1<=(w0.length:Int)) (
   AT w0 s9 fun x5=>
   AK (0<=s9/\s9+1<=(w0.length:Int)) (
    AK (0<=s9/\s9+1<=(w0.length:Int)) (
     AK (0<=(AA .add .i64 s1 o3)/\(AA .add .i64 s1 o3)+1<=((w0.set s9.toNat x4).length:Int)) (
      AK (0<=(AA .add .i64 s1 o3)/\(AA .add .i64 s1 o3)+1<=((w0.set s9.toNat x4).length:Int)) (
       some ((w0.set s9.toNat x4).set (AA .add .i64 s1 o3).toNat x5,r2.2)))))))
def DP(s1 s6:Int)(s8 s9:Int)(w0:List Int)(w7:Int):Option ((Int×List Int×Int)⊕((List Int))):=
 AN (decide (s9<=(AA .add .i64 (AA .add .i64 s1 (AA .mul .i64 (AA .quo .i64 s6 4) 2)) 1))) (
  AJ (LI s1 s6 s8 s9 w0 w7) fun o6=>
  some (.inl ((AA .add .i64 s9 1),o6.1,o6.2))) (
  some (.inr w0))
def JB(s1 s6:Int)(s8 s9:Int)(w0:List Int)(w7:Int):Option ((List Int)):=Ab (fun s:Int×List Int×Int=>DP s1 s6 s8 s.1 s.2.1 s.2.2) (s9,w0,w7)
theorem KN(s1 s6:Int)(s8 s9:Int)(w0:List Int)(w7:Int):JB s1 s6 s8 s9 w0 w7=BZ (DP s1 s6 s8 s9 w0 w7) (fun s:Int×List Int×Int=>JB s1 s6 s8 s.1 s.2.1 s.2.2):=Ak _ _
def LH(s1 s6:Int)(s15:Bool)(w0:List Int):Option ((List Int)):=
 AN (s15) (
  AJ (Yz s6) fun r1=>
  AJ (JB s1 s6 r1 (AA .sub .i64 (AA .add .i64 s1 (AA .mul .i64 (AA .quo .i64 s6 4) 2)) 1) w0 (IntKind.wrap .u64 s6)) fun o7=>
  some o7) (
  some w0)
def Xh(a1 a2:Int)(w0:List Int):Option (List Int):=
 AJ (LH a1 (AA .sub .i64 a2 a1) (decide (8<=(AA .sub .i64 a2 a1))) w0) fun o8=>
 some o8
def Yk(a0:List Int)(a1 a2 w0:Int):Option (Int×Int×Int):=
 AT a0 a2 fun x1=>
 AT a0 a1 fun x2=>
 AJ (Xu x1 x2) fun r3=>
 AN (r3) (
  some (a2,a1,(AA .add .i64 w0 1))) (
  some (a1,a2,w0))
def Ys(a0:List Int)(a1 a2:Int)(a3 w0:Int):Option (Int×Int):=
 AJ (Yk a0 a1 a2 w0) fun r1=>
 AJ (Yk a0 r1.2.1 a3 r1.2.2) fun r2=>
 AJ (Yk a0 r1.1 r2.1 r2.2.2) fun r3=>
 some (r3.2.1,r3.2.2)
def Yl(a0:List Int)(a1 w0:Int):Option (Int×Int):=
 AJ (Ys a0 (AA .sub .i64 a1 1) a1 (AA .add .i64 a1 1) w0) fun r1=>
 some (r1.1,r1.2)
def JI(s0:List Int)(s10 s11 s12:Int)(s34:Bool)(w9:Int):Option ((Int×Int×Int×Int)):=
 AN (s34) (
  AJ (Yl s0 s10 w9) fun r1=>
  AJ (Yl s0 s11 r1.2) fun r2=>
  AJ (Yl s0 s12 r2.2) fun r3=>
  some (r1.1,r2.1,r3.1,r3.2)) (
  some (s10,s11,s12,w9))
def LM(s0:List Int)(s8 s10:Int)(s11 s12:Int)(s32:Bool)(w9:Int):Option ((Int×Int)):=
 AN (s32) (
  AJ (JI s0 s10 s11 s12 (decide (50<=s8)) w9) fun o4=>
  AJ (Ys s0 o4.1 o4.2.1 o4.2.2.1 o4.2.2.2) fun r5=>
  some (r5.1,r5.2)) (
  some (s11,w9))
def Y8(a0:List Int)(a1 a2:Int):Option (Int×Int):=
 AJ (LM a0 (AA .sub .i64 a2 a1) (AA .add .i64 a1 (AA .mul .i64 (AA .quo .i64 (AA .sub .i64 a2 a1) 4) 1)) (AA .add .i64 a1 (AA .mul .i64 (AA .quo .i64 (AA .sub .i64 a2 a1) 4) 2)) (AA .add .i64 a1 (AA .mul .i64 (AA .quo .i64 (AA .sub .i64 a2 a1) 4) 3)) (decide (8<=(AA .sub .i64 a2 a1))) 0) fun o6=>
 AN (decide (o6.2=0)) (
  some (o6.1,1)) (
  AN (decide (o6.2=12)) (
   some (o6.1,2)) (
   some (o6.1,0)))
def EF(s6 s7:Int)(w0:List Int):Option ((Int×Int×List Int)⊕((List Int))):=
 AN (decide (s6<s7)) (
  AK (0<=s7/\s7+1<=(w0.length:Int)) (
   AT w0 s7 fun x1=>
   AK (0<=s6/\s6+1<=(w0.length:Int)) (
    AT w0 s6 fun x2=>
    AK (0<=s6/\s6+1<=(w0.length:Int)) (
     AK (0<=s6/\s6+1<=(w0.length:Int)) (
      AK (0<=s7/\s7+1<=((w0.set s6.toNat x1).length:Int)) (
       AK (0<=s7/\s7+1<=((w0.set s6.toNat x1).length:Int)) (
        some (.inl ((AA .add .i64 s6 1),(AA .sub .i64 s7 1),(w0.set s6.toNat x1).set s7.toNat x2))))))))) (
  some (.inr w0))
def JH(s6 s7:Int)(w0:List Int):Option ((List Int)):=Ab (fun s:Int×Int×List Int=>EF s.1 s.2.1 s.2.2) (s6,s7,w0)
theorem Sh(s6 s7:Int)(w0:List Int):JH s6 s7 w0=BZ (EF s6 s7 w0) (fun s:Int×Int×List Int=>JH s.1 s.2.1 s.2.2):=Ak _ _
def Xx(a1 a2:Int)(w0:List Int):Option (List Int):=
 AJ (JH a1 (AA .sub .i64 a2 1) w0) fun o3=>
 some o3
def DG(s1 s2 s8:Int)(w0:List Int)(s7:Int):Option ((Int)⊕(Int)):=
 AN (decide (s7<s2)) (
  AK (0<=s7/\s7+1<=(w0.length:Int)) (
   AT w0 s7 fun x1=>
   AK (0<=(AA .sub .i64 s7 1)/\(AA .sub .i64 s7 1)+1<=(w0.length:Int)) (
    AT w0 (AA .sub .i64 s7 1) fun x2=>
    AJ (Xu x1 x2) fun r3=>
    AN (!r3) (
     some (.inl (AA .add .i64 s7 1))) (
     some (.inr s7))))) (
  some (.inr s7))
def Iv(s1 s2 s8:Int)(w0:List Int)(s7:Int):Option (Int):=Ab (fun s:Int=>DG s1 s2 s8 w0 s) s7
theorem KC(s1 s2 s8:Int)(w0:List Int)(s7:Int):Iv s1 s2 s8 w0 s7=BZ (DG s1 s2 s8 w0 s7) (fun s:Int=>Iv s1 s2 s8 w0 s):=Ak _ _
def DH(s1 s2:Int)(s7 s8 s9:Int)(w0:List Int):Option ((Int×List Int)⊕((List Int))):=
 AN (decide (1<=s9)) (
  AK (0<=s9/\s9+1<=(w0.length:Int)) (
   AT w0 s9 fun x7=>
   AK (0<=(AA .sub .i64 s9 1)/\(AA .sub .i64 s9 1)+1<=(w0.length:Int)) (
    AT w0 (AA .sub .i64 s9 1) fun x8=>
    AJ (Xu x7 x8) fun r9=>
    AN (!r9) (
     some (.inr w0)) (
     AK (0<=(AA .sub .i64 s9 1)/\(AA .sub .i64 s9 1)+1<=(w0.length:Int)) (
      AT w0 (AA .sub .i64 s9 1) fun x10=>
      AK (0<=s9/\s9+1<=(w0.length:Int)) (
       AT w0 s9 fun x11=>
       AK (0<=s9/\s9+1<=(w0.length:Int)) (
        AK (0<=s9/\s9+1<=(w0.length:Int)) (
         AK (0<=(AA .sub .i64 s9 1)/\(AA .sub .i64 s9 1)+1<=((w0.set s9.toNat x10).length:Int)) (
          AK (0<=(AA .sub .i64 s9 1)/\(AA .sub .i64 s9 1)+1<=((w0.set s9.toNat x10).length:Int)) (
           some (.inl ((AA .sub .i64 s9 1),(w0.set s9.toNat x10).set (AA .sub .i64 s9 1).toNat x11)))))))))))) (
  some (.inr w0))
def Iw(s1 s2:Int)(s7 s8 s9:Int)(w0:List Int):Option ((List Int)):=Ab (fun s:Int×List Int=>DH s1 s2 s7 s8 s.1 s.2) (s9,w0)
theorem KD(s1 s2:Int)(s7 s8 s9:Int)(w0:List Int):Iw s1 s2 s7 s8 s9 w0=BZ (DH s1 s2 s7 s8 s9 w0) (fun s:Int×List Int=>Iw s1 s2 s7 s8 s.1 s.2):=Ak _ _
def It(s1 s2:Int)(s7 s8:Int)(s61:Bool)(w0:List Int):Option ((List Int)):=
 AN (s61) (
  AJ (Iw s1 s2 s7 s8 (AA .sub .i64 s7 1) w0) fun o12=>
  some o12) (
  some w0)
def DI(s1 s2:Int)(s7 s8 s10:Int)(w0:List Int):Option ((Int×List Int)⊕((List Int))):=
 AN (decide (s10<s2)) (
  AK (0<=s10/\s10+1<=(w0.length:Int)) (
   AT w0 s10 fun x14=>
   AK (0<=(AA .sub .i64 s10 1)/\(AA .sub .i64 s10 1)+1<=(w0.length:Int)) (
    AT w0 (AA .sub .i64 s10 1) fun x15=>
    AJ (Xu x14 x15) fun r16=>
    AN (!r16) (
     some (.inr w0)) (
     AK (0<=(AA .sub .i64 s10 1)/\(AA .sub .i64 s10 1)+1<=(w0.length:Int)) (
      AT w0 (AA .sub .i64 s10 1) fun x17=>
      AK (0<=s10/\s10+1<=(w0.length:Int)) (
       AT w0 s10 fun x18=>
       AK (0<=s10/\s10+1<=(w0.length:Int)) (
        AK (0<=s10/\s10+1<=(w0.length:Int)) (
         AK (0<=(AA .sub .i64 s10 1)/\(AA .sub .i64 s10 1)+1<=((w0.set s10.toNat x17).length:Int)) (
          AK (0<=(AA .sub .i64 s10 1)/\(AA .sub .i64 s10 1)+1<=((w0.set s10.toNat x17).length:Int)) (
           some (.inl ((AA .add .i64 s10 1),(w0.set s10.toNat x17).set (AA .sub .i64 s10 1).toNat x18)))))))))))) (
  some (.inr w0))
def Ix(s1 s2:Int)(s7 s8 s10:Int)(w0:List Int):Option ((List Int)):=Ab (fun s:Int×List Int=>DI s1 s2 s7 s8 s.1 s.2) (s10,w0)
theorem KE(s1 s2:Int)(s7 s8 s10:Int)(w0:List Int):Ix s1 s2 s7 s8 s10 w0=BZ (DI s1 s2 s7 s8 s10 w0) (fun s:Int×List Int=>Ix s1 s2 s7 s8 s.1 s.2):=Ak _ _
def Iu(s1 s2:Int)(s7 s8:Int)(s98:Bool)(w0:List Int):Option ((List Int)):=
 AN (s98) (
  AJ (Ix s1 s2 s7 s8 (AA .add .i64 s7 1) w0) fun o19=>
  some o19) (
  some w0)
def LE(s1 s2:Int)(s7 s8:Int)(w0:List Int):Option ((Int×List Int)⊕Bool):=
 AJ (Iv s1 s2 s8 w0 s7) fun o4=>
 AN (decide (o4=s2)) (
  some (.inr true)) (
  AN (decide ((AA .sub .i64 s2 s1)<50)) (
   some (.inr false)) (
   AK (0<=(AA .sub .i64 o4 1)/\(AA .sub .i64 o4 1)+1<=(w0.length:Int)) (
    AT w0 (AA .sub .i64 o4 1) fun x5=>
    AK (0<=o4/\o4+1<=(w0.length:Int)) (
     AT w0 o4 fun x6=>
     AK (0<=o4/\o4+1<=(w0.length:Int)) (
      AK (0<=o4/\o4+1<=(w0.length:Int)) (
       AK (0<=(AA .sub .i64 o4 1)/\(AA .sub .i64 o4 1)+1<=((w0.set o4.toNat x5).length:Int)) (
        AK (0<=(AA .sub .i64 o4 1)/\(AA .sub .i64 o4 1)+1<=((w0.set o4.toNat x5).length:Int)) (
         AJ (It s1 s2 o4 s8 (decide (2<=(AA .sub .i64 o4 s1))) ((w0.set o4.toNat x5).set (AA .sub .i64 o4 1).toNat x6)) fun o13=>
         AJ (Iu s1 s2 o4 s8 (decide (2<=(AA .sub .i64 s2 o4))) o13) fun o20=>
         some (.inl (o4,o20))))))))))
def DF(s1 s2:Int)(s7 s8:Int)(w0:List Int):Option ((Int×Int×List Int)⊕((List Int)⊕(Bool×List Int))):=
 AN (decide (s8<5)) (
  AJ (LE s1 s2 s7 s8 w0) fun o21=>
  B7 o21 (fun o22=>
   some (.inl (o22.1,(AA .add .i64 s8 1),o22.2))) (fun o23=>
   some (.inr (.inr (o23,w0))))) (
  some (.inr (.inl w0)))
def Hq(s1 s2:Int)(s7 s8:Int)(w0:List Int):Option ((List Int)⊕(Bool×List Int)):=Ab (fun s:Int×Int×List Int=>DF s1 s2 s.1 s.2.1 s.2.2) (s7,s8,w0)
theorem KB(s1 s2:Int)(s7 s8:Int)(w0:List Int):Hq s1 s2 s7 s8 w0=BZ (DF s1 s2 s7 s8 w0) (fun s:Int×Int×List Int=>Hq s1 s2 s.1 s.2.1 s.2.2):=Ak _ _
def X2(a1 a2:Int)(w0:List Int):Option (Bool×List Int):=
 AJ (Hq a1 a2 (AA .add .i64 a1 1) 0 w0) fun o24=>
 B7 o24 (fun o25=>
  some (false,o25)) (fun o26=>
  some (o26.1,o26.2))
def DM(s1 s10:Int)(w0:List Int)(s9:Int):Option ((Int)⊕(Int)):=
 AN (decide (s9<=s10)) (
  AK (0<=s1/\s1+1<=(w0.length:Int)) (
   AT w0 s1 fun x3=>
   AK (0<=s9/\s9+1<=(w0.length:Int)) (
    AT w0 s9 fun x4=>
    AJ (Xu x3 x4) fun r5=>
    AN (!r5) (
     some (.inl (AA .add .i64 s9 1))) (
     some (.inr s9))))) (
  some (.inr s9))
def I5(s1 s10:Int)(w0:List Int)(s9:Int):Option (Int):=Ab (fun s:Int=>DM s1 s10 w0 s) s9
theorem KH(s1 s10:Int)(w0:List Int)(s9:Int):I5 s1 s10 w0 s9=BZ (DM s1 s10 w0 s9) (fun s:Int=>I5 s1 s10 w0 s):=Ak _ _
def DN(s1 s9:Int)(w0:List Int)(s10:Int):Option ((Int)⊕(Int)):=
 AN (decide (s9<=s10)) (
  AK (0<=s1/\s1+1<=(w0.length:Int)) (
   AT w0 s1 fun x7=>
   AK (0<=s10/\s10+1<=(w0.length:Int)) (
    AT w0 s10 fun x8=>
    AJ (Xu x7 x8) fun r9=>
    AN (r9) (
     some (.inl (AA .sub .i64 s10 1))) (
     some (.inr s10))))) (
  some (.inr s10))
def I6(s1 s9:Int)(w0:List Int)(s10:Int):Option (Int):=Ab (fun s:Int=>DN s1 s9 w0 s) s10
theorem KI(s1 s9:Int)(w0:List Int)(s10:Int):I6 s1 s9 w0 s10=BZ (DN s1 s9 w0 s10) (fun s:Int=>I6 s1 s9 w0 s):=Ak _ _
def D7(s1 s9 s10:Int)(w0:List Int):Option ((Int×Int×List Int)⊕((Int×List Int))):=
 AJ (I5 s1 s10 w0 s9) fun o6=>
 AJ (I6 s1 o6 w0 s10) fun o10=>
 AN (decide (o10<o6)) (
  some (.inr (o6,w0))) (
  AK (0<=o10/\o10+1<=(w0.length:Int)) (
   AT w0 o10 fun x11=>
   AK (0<=o6/\o6+1<=(w0.length:Int)) (
    AT w0 o6 fun x12=>
    AK (0<=o6/\o6+1<=(w0.length:Int)) (
     AK (0<=o6/\o6+1<=(w0.length:Int)) (
      AK (0<=o10/\o10+1<=((w0.set o6.toNat x11).length:Int)) (
       AK (0<=o10/\o10+1<=((w0.set o6.toNat x11).length:Int)) (
        some (.inl ((AA .add .i64 o6 1),(AA .sub .i64 o10 1),(w0.set o6.toNat x11).set o10.toNat x12)))))))))
def I4(s1 s9 s10:Int)(w0:List Int):Option ((Int×List Int)):=Ab (fun s:Int×Int×List Int=>D7 s1 s.1 s.2.1 s.2.2) (s9,s10,w0)
theorem Rk(s1 s9 s10:Int)(w0:List Int):I4 s1 s9 s10 w0=BZ (D7 s1 s9 s10 w0) (fun s:Int×Int×List Int=>I4 s1 s.1 s.2.1 s.2.2):=Ak _ _
def Xa(a1 a2 a3:Int)(w0:List Int):Option (Int×List Int):=
 AK (0<=a3/\a3+1<=(w0.length:Int)) (
  AT w0 a3 fun x1=>
  AK (0<=a1/\a1+1<=(w0.length:Int)) (
   AT w0 a1 fun x2=>
   AK (0<=a1/\a1+1<=(w0.length:Int)) (
    AK (0<=a1/\a1+1<=(w0.length:Int)) (
     AK (0<=a3/\a3+1<=((w0.set a1.toNat x1).length:Int)) (
      AK (0<=a3/\a3+1<=((w0.set a1.toNat x1).length:Int)) (
       AJ (I4 a1 (AA .add .i64 a1 1) (AA .sub .i64 a2 1) ((w0.set a1.toNat x1).set a3.toNat x2)) fun o13=>
       some (o13.1,o13.2)))))))
def DJ(s1 s11:Int)(w0:List Int)(s10:Int):Option ((Int)⊕(Int)):=
 AN (decide (s10<=s11)) (
  AK (0<=s10/\s10+1<=(w0.length:Int)) (
   AT w0 s10 fun x3=>
   AK (0<=s1/\s1+1<=(w0.length:Int)) (
    AT w0 s1 fun x4=>
    AJ (Xu x3 x4) fun r5=>
    AN (r5) (
     some (.inl (AA .add .i64 s10 1))) (
     some (.inr s10))))) (
  some (.inr s10))
def Hr(s1 s11:Int)(w0:List Int)(s10:Int):Option (Int):=Ab (fun s:Int=>DJ s1 s11 w0 s) s10
theorem KF(s1 s11:Int)(w0:List Int)(s10:Int):Hr s1 s11 w0 s10=BZ (DJ s1 s11 w0 s10) (fun s:Int=>Hr s1 s11 w0 s):=Ak _ _
def DK(s1 s10:Int)(w0:List Int)(s11:Int):Option ((Int)⊕(Int)):=
 AN (decide (s10<=s11)) (
  AK (0<=s11/\s11+1<=(w0.length:Int)) (
   AT w0 s11 fun x7=>
   AK (0<=s1/\s1+1<=(w0.length:Int)) (
    AT w0 s1 fun x8=>
    AJ (Xu x7 x8) fun r9=>
    AN (!r9) (
     some (.inl (AA .sub .i64 s11 1))) (
     some (.inr s11))))) (
  some (.inr s11))
def Hs(s1 s10:Int)(w0:List Int)(s11:Int):Option (Int):=Ab (fun s:Int=>DK s1 s10 w0 s) s11
theorem KG(s1 s10:Int)(w0:List Int)(s11:Int):Hs s1 s10 w0 s11=BZ (DK s1 s10 w0 s11) (fun s:Int=>Hs s1 s10 w0 s):=Ak _ _
def Gj(s1 s11:Int)(w0:List Int)(s10:Int):Option ((Int)⊕(Int)):=
 AN (decide (s10<=s11)) (
  AK (0<=s10/\s10+1<=(w0.length:Int)) (
   AT w0 s10 fun x15=>
   AK (0<=s1/\s1+1<=(w0.length:Int)) (
    AT w0 s1 fun x16=>
    AJ (Xu x15 x16) fun r17=>
    AN (r17) (
     some (.inl (AA .add .i64 s10 1))) (
     some (.inr s10))))) (
  some (.inr s10))
def MT(s1 s11:Int)(w0:List Int)(s10:Int):Option (Int):=Ab (fun s:Int=>Gj s1 s11 w0 s) s10
def Gk(s1 s10:Int)(w0:List Int)(s11:Int):Option ((Int)⊕(Int)):=
 AN (decide (s10<=s11)) (
  AK (0<=s11/\s11+1<=(w0.length:Int)) (
   AT w0 s11 fun x19=>
   AK (0<=s1/\s1+1<=(w0.length:Int)) (
    AT w0 s1 fun x20=>
    AJ (Xu x19 x20) fun r21=>
    AN (!r21) (
     some (.inl (AA .sub .i64 s11 1))) (
     some (.inr s11))))) (
  some (.inr s11))
def MW(s1 s10:Int)(w0:List Int)(s11:Int):Option (Int):=Ab (fun s:Int=>Gk s1 s10 w0 s) s11
def D5(s1 s10 s11:Int)(w0:List Int):Option ((Int×Int×List Int)⊕((Int×List Int))):=
 AJ (MT s1 s11 w0 s10) fun o18=>
 AJ (MW s1 o18 w0 s11) fun o22=>
 AN (decide (o22<o18)) (
  some (.inr (o22,w0))) (
  AK (0<=o22/\o22+1<=(w0.length:Int)) (
   AT w0 o22 fun x23=>
   AK (0<=o18/\o18+1<=(w0.length:Int)) (
    AT w0 o18 fun x24=>
    AK (0<=o18/\o18+1<=(w0.length:Int)) (
     AK (0<=o18/\o18+1<=(w0.length:Int)) (
      AK (0<=o22/\o22+1<=((w0.set o18.toNat x23).length:Int)) (
       AK (0<=o22/\o22+1<=((w0.set o18.toNat x23).length:Int)) (
        some (.inl ((AA .add .i64 o18 1),(AA .sub .i64 o22 1),(w0.set o18.toNat x23).set o22.toNat x24)))))))))
def Iy(s1 s10 s11:Int)(w0:List Int):Option ((Int×List Int)):=Ab (fun s:Int×Int×List Int=>D5 s1 s.1 s.2.1 s.2.2) (s10,s11,w0)
theorem Q4(s1 s10 s11:Int)(w0:List Int):Iy s1 s10 s11 w0=BZ (D5 s1 s10 s11 w0) (fun s:Int×Int×List Int=>Iy s1 s.1 s.2.1 s.2.2):=Ak _ _
def X3(a1 a2 a3:Int)(w0:List Int):Option (Int×Bool×List Int):=
 AK (0<=a3/\a3+1<=(w0.length:Int)) (
  AT w0 a3 fun x1=>
  AK (0<=a1/\a1+1<=(w0.length:Int)) (
   AT w0 a1 fun x2=>
   AK (0<=a1/\a1+1<=(w0.length:Int)) (
    AK (0<=a1/\a1+1<=(w0.length:Int)) (
     AK (0<=a3/\a3+1<=((w0.set a1.toNat x1).length:Int)) (
      AK (0<=a3/\a3+1<=((w0.set a1.toNat x1).length:Int)) (
       AJ (Hr a1 (AA .sub .i64 a2 1) ((w0.set a1.toNat x1).set a3.toNat x2) (AA .add .i64 a1 1)) fun o6=>
       AJ (Hs a1 o6 ((w0.set a1.toNat x1).set a3.toNat x2) (AA .sub .i64 a2 1)) fun o10=>
       AN (decide (o10<o6)) (
        AK (0<=a1/\a1+1<=(((w0.set a1.toNat x1).set a3.toNat x2).length:Int)) (
         AT ((w0.set a1.toNat x1).set a3.toNat x2) a1 fun x11=>
         AK (0<=o10/\o10+1<=(((w0.set a1.toNat x1).set a3.toNat x2).length:Int)) (
          AT ((w0.set a1.toNat x1).set a3.toNat x2) o10 fun x12=>
          AK (0<=o10/\o10+1<=(((w0.set a1.toNat x1).set a3.toNat x2).length:Int)) (
           AK (0<=o10/\o10+1<=(((w0.set a1.toNat x1).set a3.toNat x2).length:Int)) (
            AK (0<=a1/\a1+1<=((((w0.set a1.toNat x1).set a3.toNat x2).set o10.toNat x11).length:Int)) (
             AK (0<=a1/\a1+1<=((((w0.set a1.toNat x1).set a3.toNat x2).set o10.toNat x11).length:Int)) (
              some (o10,true,(((w0.set a1.toNat x1).set a3.toNat x2).set o10.toNat x11).set a1.toNat x12)))))))) (
        AK (0<=o10/\o10+1<=(((w0.set a1.toNat x1).set a3.toNat x2).length:Int)) (
         AT ((w0.set a1.toNat x1).set a3.toNat x2) o10 fun x13=>
         AK (0<=o6/\o6+1<=(((w0.set a1.toNat x1).set a3.toNat x2).length:Int)) (
          AT ((w0.set a1.toNat x1).set a3.toNat x2) o6 fun x14=>
          AK (0<=o6/\o6+1<=(((w0.set a1.toNat x1).set a3.toNat x2).length:Int)) (
           AK (0<=o6/\o6+1<=(((w0.set a1.toNat x1).set a3.toNat x2).length:Int)) (
            AK (0<=o10/\o10+1<=((((w0.set a1.toNat x1).set a3.toNat x2).set o6.toNat x13).length:Int)) (
             AK (0<=o10/\o10+1<=((((w0.set a1.toNat x1).set a3.toNat x2).set o6.toNat x13).length:Int)) (
              AJ (Iy a1 (AA .add .i64 o6 1) (AA .sub .i64 o10 1) ((((w0.set a1.toNat x1).set a3.toNat x2).set o6.toNat x13).set o10.toNat x14)) fun o25=>
              AK (0<=a1/\a1+1<=(o25.2.length:Int)) (
               AT o25.2 a1 fun x26=>
               AK (0<=o25.1/\o25.1+1<=(o25.2.length:Int)) (
                AT o25.2 o25.1 fun x27=>
                AK (0<=o25.1/\o25.1+1<=(o25.2.length:Int)) (
                 AK (0<=o25.1/\o25.1+1<=(o25.2.length:Int)) (
                  AK (0<=a1/\a1+1<=((o25.2.set o25.1.toNat x26).length:Int)) (
                   AK (0<=a1/\a1+1<=((o25.2.set o25.1.toNat x26).length:Int)) (
                    some (o25.1,false,(o25.2.set o25.1.toNat x26).set a1.toNat x27))))))))))))))))))))
def I0(self:Int->Int->Int->(List Int)->Option (List Int))(s1 s2 s3:Int)(s8 s9:Bool)(s10:Int)(s35:Bool)(w0:List Int):Option ((Int×List Int)):=
 AN (s35) (
  AJ (Xh s1 s2 w0) fun r3=>
  some ((AA .sub .i64 s3 1),r3)) (
  some (s3,w0))
def I1(self:Int->Int->Int->(List Int)->Option (List Int))(s1 s2 s3:Int)(s8 s9:Bool)(s10 s11 s12:Int)(s50:Bool)(w0:List Int):Option ((Int×Int×List Int)):=
 AN (s50) (
  AJ (Xx s1 s2 w0) fun r6=>
  some ((AA .sub .i64 (AA .sub .i64 s2 1) (AA .sub .i64 s11 s1)),1,r6)) (
  some (s11,s12,w0))
def Fz(self:Int->Int->Int->(List Int)->Option (List Int))(s1 s2 s3:Int)(s8 s9:Bool)(s10 s11:Int)(s68:Bool)(w0:List Int):Option ((List Int)⊕(List Int)):=
 AN (s68) (
  AJ (X2 s1 s2 w0) fun r8=>
  AN (r8.1) (
   some (.inr r8.2)) (
   some (.inl r8.2))) (
  some (.inl w0))
def DL(self:Int->Int->Int->(List Int)->Option (List Int))(s1 s2 s3:Int)(s9:Bool)(s14 s16:Int)(s17 s18:Int)(s113:Bool)(w0:List Int):Option ((Int×Int×Bool×List Int)):=
 AN (s113) (
  AJ (self s1 s14 s3 w0) fun r17=>
  some ((AA .add .i64 s14 1),s2,decide (s18<=s16),r17)) (
  AJ (self (AA .add .i64 s14 1) s2 s3 w0) fun r18=>
  some (s1,s14,decide (s18<=s17),r18))
def Iz(self:Int->Int->Int->(List Int)->Option (List Int))(s1 s2 s3:Int)(s8 s9:Bool)(w0:List Int):Option ((Int×Int×Int×Bool×Bool×List Int)⊕(List Int)):=
 AN (decide ((AA .sub .i64 s2 s1)<=12)) (
  AJ (Xg s1 s2 w0) fun r1=>
  some (.inr r1)) (
  AN (decide (s3=0)) (
   AJ (Xj s1 s2 w0) fun r2=>
   some (.inr r2)) (
   AJ (I0 self s1 s2 s3 s8 s9 (AA .sub .i64 s2 s1) (!s8) w0) fun o4=>
   AJ (Y8 o4.2 s1 s2) fun r5=>
   AJ (I1 self s1 s2 o4.1 s8 s9 (AA .sub .i64 s2 s1) r5.1 r5.2 (decide (r5.2=2)) o4.2) fun o7=>
   AN (s8) (
    AN (s9) (
     AJ (Fz self s1 s2 o4.1 s8 s9 (AA .sub .i64 s2 s1) o7.1 (decide (o7.2.1=1)) o7.2.2) fun o9=>
     B7 o9 (fun o10=>
      AN (decide (0<s1)) (
       AK (0<=(AA .sub .i64 s1 1)/\(AA .sub .i64 s1 1)+1<=(o10.length:Int)) (
        AT o10 (AA .sub .i64 s1 1) fun x12=>
        AK (0<=o7.1/\o7.1+1<=(o10.length:Int)) (
         AT o10 o7.1 fun x13=>
         AJ (Xu x12 x13) fun r14=>
         AN (!r14) (
          AJ (Xa s1 s2 o7.1 o10) fun r15=>
          some (.inl (r15.1,s2,o4.1,s8,s9,r15.2))) (
          AJ (X3 s1 s2 o7.1 o10) fun r16=>
          AJ (DL self s1 s2 o4.1 r16.2.1 r16.1 (AA .sub .i64 r16.1 s1) (AA .sub .i64 s2 r16.1) (AA .quo .i64 (AA .sub .i64 s2 s1) 8) (decide ((AA .sub .i64 r16.1 s1)<(AA .sub .i64 s2 r16.1))) r16.2.2) fun o19=>
          some (.inl (o19.1,o19.2.1,o4.1,o19.2.2.1,r16.2.1,o19.2.2.2)))))) (
       AJ (X3 s1 s2 o7.1 o10) fun r20=>
       AJ (DL self s1 s2 o4.1 r20.2.1 r20.1 (AA .sub .i64 r20.1 s1) (AA .sub .i64 s2 r20.1) (AA .quo .i64 (AA .sub .i64 s2 s1) 8) (decide ((AA .sub .i64 r20.1 s1)<(AA .sub .i64 s2 r20.1))) r20.2.2) fun o21=>
       some (.inl (o21.1,o21.2.1,o4.1,o21.2.2.1,r20.2.1,o21.2.2.2)))) (fun o11=>
      some (.inr o11))) (
     AJ (Fz self s1 s2 o4.1 s8 s9 (AA .sub .i64 s2 s1) o7.1 false o7.2.2) fun o22=>
     B7 o22 (fun o23=>
      AN (decide (0<s1)) (
       AK (0<=(AA .sub .i64 s1 1)/\(AA .sub .i64 s1 1)+1<=(o23.length:Int)) (
        AT o23 (AA .sub .i64 s1 1) fun x25=>
        AK (0<=o7.1/\o7.1+1<=(o23.length:Int)) (
         AT o23 o7.1 fun x26=>
         AJ (Xu x25 x26) fun r27=>
         AN (!r27) (
          AJ (Xa s1 s2 o7.1 o23) fun r28=>
          some (.inl (r28.1,s2,o4.1,s8,s9,r28.2))) (
          AJ (X3 s1 s2 o7.1 o23) fun r29=>
          AJ (DL self s1 s2 o4.1 r29.2.1 r29.1 (AA .sub .i64 r29.1 s1) (AA .sub .i64 s2 r29.1) (AA .quo .i64 (AA .sub .i64 s2 s1) 8) (decide ((AA .sub .i64 r29.1 s1)<(AA .sub .i64 s2 r29.1))) r29.2.2) fun o30=>
          some (.inl (o30.1,o30.2.1,o4.1,o30.2.2.1,r29.2.1,o30.2.2.2)))))) (
       AJ (X3 s1 s2 o7.1 o23) fun r31=>
       AJ (DL self s1 s2 o4.1 r31.2.1 r31.1 (AA .sub .i64 r31.1 s1) (AA .sub .i64 s2 r31.1) (AA .quo .i64 (AA .sub .i64 s2 s1) 8) (decide ((AA .sub .i64 r31.1 s1)<(AA .sub .i64 s2 r31.1))) r31.2.2) fun o32=>
       some (.inl (o32.1,o32.2.1,o4.1,o32.2.2.1,r31.2.1,o32.2.2.2)))) (fun o24=>
      some (.inr o24)))) (
    AJ (Fz self s1 s2 o4.1 s8 s9 (AA .sub .i64 s2 s1) o7.1 false o7.2.2) fun o33=>
    B7 o33 (fun o34=>
     AN (decide (0<s1)) (
      AK (0<=(AA .sub .i64 s1 1)/\(AA .sub .i64 s1 1)+1<=(o34.length:Int)) (
       AT o34 (AA .sub .i64 s1 1) fun x36=>
       AK (0<=o7.1/\o7.1+1<=(o34.length:Int)) (
        AT o34 o7.1 fun x37=>
        AJ (Xu x36 x37) fun r38=>
        AN (!r38) (
         AJ (Xa s1 s2 o7.1 o34) fun r39=>
         some (.inl (r39.1,s2,o4.1,s8,s9,r39.2))) (
         AJ (X3 s1 s2 o7.1 o34) fun r40=>
         AJ (DL self s1 s2 o4.1 r40.2.1 r40.1 (AA .sub .i64 r40.1 s1) (AA .sub .i64 s2 r40.1) (AA .quo .i64 (AA .sub .i64 s2 s1) 8) (decide ((AA .sub .i64 r40.1 s1)<(AA .sub .i64 s2 r40.1))) r40.2.2) fun o41=>
         some (.inl (o41.1,o41.2.1,o4.1,o41.2.2.1,r40.2.1,o41.2.2.2)))))) (
      AJ (X3 s1 s2 o7.1 o34) fun r42=>
      AJ (DL self s1 s2 o4.1 r42.2.1 r42.1 (AA .sub .i64 r42.1 s1) (AA .sub .i64 s2 r42.1) (AA .quo .i64 (AA .sub .i64 s2 s1) 8) (decide ((AA .sub .i64 r42.1 s1)<(AA .sub .i64 s2 r42.1))) r42.2.2) fun o43=>
      some (.inl (o43.1,o43.2.1,o4.1,o43.2.2.1,r42.2.1,o43.2.2.2)))) (fun o35=>
     some (.inr o35)))))
def D6(self:Int->Int->Int->(List Int)->Option (List Int))(s1 s2 s3:Int)(s8 s9:Bool)(w0:List Int):Option ((Int×Int×Int×Bool×Bool×List Int)⊕((List Int))):=
 AJ (Iz self s1 s2 s3 s8 s9 w0) fun o44=>
 B7 o44 (fun o45=>
  some (.inl (o45.1,o45.2.1,o45.2.2.1,o45.2.2.2.1,o45.2.2.2.2.1,o45.2.2.2.2.2))) (fun o46=>
  some (.inr o46))
def I2(self:Int->Int->Int->(List Int)->Option (List Int))(s1 s2 s3:Int)(s8 s9:Bool)(w0:List Int):Option ((List Int)):=Ab (fun s:Int×Int×Int×Bool×Bool×List Int=>D6 self s.1 s.2.1 s.2.2.1 s.2.2.2.1 s.2.2.2.2.1 s.2.2.2.2.2) (s1,s2,s3,s8,s9,w0)
theorem Rb(self:Int->Int->Int->(List Int)->Option (List Int))(s1 s2 s3:Int)(s8 s9:Bool)(w0:List Int):I2 self s1 s2 s3 s8 s9 w0=BZ (D6 self s1 s2 s3 s8 s9 w0) (fun s:Int×Int×Int×Bool×Bool×List Int=>I2 self s.1 s.2.1 s.2.2.1 s.2.2.2.1 s.2.2.2.2.1 s.2.2.2.2.2):=Ak _ _
def Um(self:Int->Int->Int->(List Int)->Option (List Int))(a1 a2 a3:Int)(w0:List Int):Option (List Int):=
 AJ (I2 self a1 a2 a3 true true w0) fun o47=>
 some o47
def Uo:Nat->Int->Int->Int->(List Int)->Option (List Int)
 |0=>fun _ _ _ _=>none
 |n+1=>fun a1 a2 a3 w0=>Um (Uo n) a1 a2 a3 w0
def X8(a1 a2 a3:Int)(w0:List Int):Option (List Int):=Uo 100000 a1 a2 a3 w0
def Z1(w0:List Int):Option (List Int):=
 AJ (Yq (IntKind.wrap .u64 (w0.length:Int))) fun r1=>
 AJ (X8 0 (w0.length:Int) r1 w0) fun r2=>
 some r2
def Zg(xs:List Int):Option (List Int):=bagE Z1 xs
def E5(w0_1 w0_2:Int)(w501:MP Int AB)(w502:MP (List UInt8) Int)(k:Int)(v:AB)(w3:List Int):Option (List Int):=
 AK (fit w3.length [k].length 8) (
  some (w3++[k]))
def HA(w0_1 w0_2:Int)(w501:MP Int AB)(w502:MP (List UInt8) Int)(s:List Int):List Int:=(fun s:List Int=>(YR s:List Int)) s
def ST(w0_1 w0_2:Int)(w501:MP Int AB)(w502:MP (List UInt8) Int)(w3:List Int):Option (List Int):=FT (HA w0_1 w0_2 w501 w502) (w501.es.map (·.2)) (fun(x:Int×AB) (s:List Int)=>E5 w0_1 w0_2 w501 w502 x.1 x.2 s) w3
def SR(w0_1 w0_2:Int)(w501:MP Int AB)(w502:MP (List UInt8) Int):Option ((List Int)):=
 AJ (ST w0_1 w0_2 w501 w502 ([]:List Int)) fun o1=>
 some o1
def Xp(w0_1 w0_2:Int)(w1:MP Int AB)(w2:MP (List UInt8) Int):Option (List Int×Int×Int×MP Int AB×MP (List UInt8) Int):=
 AJ (SR w0_1 w0_2 w1 w2) fun o2=>
 AJ (Zg o2) fun r3=>
 some (r3,w0_1,w0_2,w1,w2)
def Yn(a1 w0_1 w0_2:Int)(w1:MP Int AB)(w2:MP (List UInt8) Int):Option (AB×Bool×Int×Int×AB×MP Int AB×MP (List UInt8) Int):=
 AJ (Yh (((BT (AB.mk ([]:List X0) ([]:List X4)) w1 a1).1).bind) (((BT (AB.mk ([]:List X0) ([]:List X4)) w1 a1).1).set)) fun r1=>
 some (r1,(BT (AB.mk ([]:List X0) ([]:List X4)) w1 a1).2,w0_1,w0_2,r1,w1,w2)
def E3(s1:List Xf)(s7:Int)(s10:List Int)(w6:Xb)(s11 w5_1 w5_2:Int)(w567:MP Int AB)(w974:MP (List UInt8) Int):Option ((Int×Int×Int×MP Int AB×MP (List UInt8) Int)⊕((Int×Int×MP Int AB×MP (List UInt8) Int)⊕Unit)):=
 AN (decide (s11<(s10.length:Int))) (
  AT s10 s11 fun x13=>
  AJ (Yn x13 w5_1 w5_2 w567 w974) fun r14=>
  AT s10 s11 fun x15=>
  AT w6.l s11 fun x16=>
  AN (!decide (x15=x16.iD)) (
   some (.inr (.inr ()))) (
   AN (!r14.2.1) (
    some (.inr (.inr ()))) (
    AT w6.l s11 fun x17=>
    AJ (Xy r14.1.bind x17.row.bind) fun r18=>
    AN (!r18) (
     some (.inr (.inr ()))) (
     AT w6.l s11 fun x19=>
     AJ (Yb r14.1.set x19.row.set) fun r20=>
     AN (!r20) (
      some (.inr (.inr ()))) (
      some (.inl ((AA .add .i64 s11 1),r14.2.2.1,r14.2.2.2.1,r14.2.2.2.2.2.1,r14.2.2.2.2.2.2))))))) (
  some (.inr (.inl (w5_1,w5_2,w567,w974))))
def Nc(s1:List Xf)(s7:Int)(s10:List Int)(w6:Xb)(s11 w5_1 w5_2:Int)(w567:MP Int AB)(w974:MP (List UInt8) Int):Option ((Int×Int×MP Int AB×MP (List UInt8) Int)⊕Unit):=Ab (fun s:Int×Int×Int×MP Int AB×MP (List UInt8) Int=>E3 s1 s7 s10 w6 s.1 s.2.1 s.2.2.1 s.2.2.2.1 s.2.2.2.2) (s11,w5_1,w5_2,w567,w974)
theorem KP(s1:List Xf)(s7:Int)(s10:List Int)(w6:Xb)(s11 w5_1 w5_2:Int)(w567:MP Int AB)(w974:MP (List UInt8) Int):Nc s1 s7 s10 w6 s11 w5_1 w5_2 w567 w974=BZ (E3 s1 s7 s10 w6 s11 w5_1 w5_2 w567 w974) (fun s:Int×Int×Int×MP Int AB×MP (List UInt8) Int=>Nc s1 s7 s10 w6 s.1 s.2.1 s.2.2.1 s.2.2.2.1 s.2.2.2.2):=Ak _ _
def E2(s1:List Xf)(s7 w5_1 w5_2:Int)(w6:Xb)(w935:MP Int AB)(w942:MP (List UInt8) Int):Option ((Int×Int×Int×Xb×MP Int AB×MP (List UInt8) Int)⊕(Unit⊕Unit)):=
 AN (decide (s7<(s1.length:Int))) (
  AT s1 s7 fun x5=>
  AJ (Z8 w6 x5 w5_1 w5_2 w935 w942) fun r6=>
  AN (!r6.2.1) (
   some (.inr (.inr ()))) (
   AJ (Z2 r6.2.2.1 r6.2.2.2.1 r6.2.2.2.2.2.1 r6.2.2.2.2.2.2) fun r7=>
   AN (!decide (r7.1=(r6.1.l.length:Int))) (
    some (.inr (.inr ()))) (
    AJ (Zf r7.2.1 r7.2.2.1 r7.2.2.2.1 r7.2.2.2.2) fun r8=>
    AN (!decide (r8.1=r6.1.room)) (
     some (.inr (.inr ()))) (
     AJ (Xo r8.2.1 r8.2.2.1 r8.2.2.2.1 r8.2.2.2.2) fun r9=>
     AJ (Y2 r6.1) fun r10=>
     AJ (Yd r9.1 r10) fun r11=>
     AN (!r11) (
      some (.inr (.inr ()))) (
      AJ (Xp r9.2.1 r9.2.2.1 r9.2.2.2.1 r9.2.2.2.2) fun r12=>
      AN (!decide ((r12.1.length:Int)=(r6.1.l.length:Int))) (
       some (.inr (.inr ()))) (
       AJ (Nc s1 s7 r12.1 r6.1 0 r12.2.1 r12.2.2.1 r12.2.2.2.1 r12.2.2.2.2) fun o21=>
       B7 o21 (fun o22=>
        AT s1 s7 fun x24=>
        AJ (Yn x24.iD o22.1 o22.2.1 o22.2.2.1 o22.2.2.2) fun r25=>
        AT s1 s7 fun x26=>
        AJ (Xz r6.1 x26.iD) fun r27=>
        AN (!(r25.2.1==(decide (0<=r27)))) (
         some (.inr (.inr ()))) (
         some (.inl ((AA .add .i64 s7 1),r25.2.2.1,r25.2.2.2.1,r6.1,r25.2.2.2.2.2.1,r25.2.2.2.2.2.2)))) (fun o23=>
        some (.inr (.inr ()))))))))) (
  some (.inr (.inl ())))
def LJ(s1:List Xf)(s7 w5_1 w5_2:Int)(w6:Xb)(w935:MP Int AB)(w942:MP (List UInt8) Int):Option (Unit⊕Unit):=Ab (fun s:Int×Int×Int×Xb×MP Int AB×MP (List UInt8) Int=>E2 s1 s.1 s.2.1 s.2.2.1 s.2.2.2.1 s.2.2.2.2.1 s.2.2.2.2.2) (s7,w5_1,w5_2,w6,w935,w942)
theorem KO(s1:List Xf)(s7 w5_1 w5_2:Int)(w6:Xb)(w935:MP Int AB)(w942:MP (List UInt8) Int):LJ s1 s7 w5_1 w5_2 w6 w935 w942=BZ (E2 s1 s7 w5_1 w5_2 w6 w935 w942) (fun s:Int×Int×Int×Xb×MP Int AB×MP (List UInt8) Int=>LJ s1 s.1 s.2.1 s.2.2.1 s.2.2.2.1 s.2.2.2.2.1 s.2.2.2.2.2):=Ak _ _
def Xi(a0:Int)(a1:List Xf):Option (Bool):=
 AJ (Xr a1) fun r1=>
 AN (!r1) (
  AJ (Yp) fun r2=>
  some r2) (
  AJ (Yx a0) fun r3=>
  AJ (Ze a0) fun r4=>
  AJ (LJ a1 0 r3.1 r3.2.1 r4 r3.2.2.1 r3.2.2.2) fun o28=>
  B7 o28 (fun o29=>
   AJ (Yp) fun r31=>
   some r31) (fun o30=>
   some false))
end
end Go.Ac
