/- Own work: the plain law. -/
import Derived.Test.YtnjgfcpccmiglaaGreatDoorP25K0
import Derived.Test.YtnjgfcpccmiglaaGreatDoorAcC
set_option linter.unusedVariables false
set_option linter.unusedSimpArgs false
namespace Go.Ac
noncomputable section
def ST(s:List UInt8):Option Bool:=some (spB s)
theorem Dq(s:List UInt8):Le (ST s) (Zn s):=fun _ h=>(Wt s).trans h
def Jz(s0:List X9)(s1:List UInt8)(s7:Int)(s8:Int):Option (Unit⊕Int):=itE (fun s:Int=>FI s0 s1 s7 s) 70 s8
theorem Lj(s0:List X9)(s1:List UInt8)(s7:Int)(s8:Int):Le (Jz s0 s1 s7 s8) (PT s0 s1 s7 s8):=by unfold Jz PT;repeat' (first|with_reducible refine AP (fun _=>?_) _ _|with_reducible exact Le.refl _|refine AP (fun _=>?_) _ _|exact Le.refl _)
def aEn(a0:List X9)(a1:List UInt8):Option (Int):=
 AF (Jz a0 a1 (a0.length:Int) 0) fun o3=>
 Ap o3 (fun o4=>
  some (-1)) (fun o5=>
  some o5)
theorem ZY(a0:List X9)(a1:List UInt8):Le (aEn a0 a1) (Y2 a0 a1):=by unfold aEn Y2;repeat' (first|with_reducible refine AD ?_ fun _=>?_|with_reducible refine Aa (fun _=>?_) fun _=>?_|with_reducible exact Lj _ _ _ _|with_reducible exact Le.refl _|exact Lj _ _ _ _|refine AD ?_ fun _=>?_|refine Aa (fun _=>?_) fun _=>?_|exact Le.refl _)
def aF4(a0:List X9)(a1:List UInt8):Option (Int×Bool):=
 AF (aEn a0 a1) fun r1=>
 some ((Ea r1 0),decide (0<=r1))
theorem aA8(a0:List X9)(a1:List UInt8):Le (aF4 a0 a1) (Z9 a0 a1):=by unfold aF4 Z9;repeat' (first|with_reducible refine AD ?_ fun _=>?_|with_reducible exact ZY _ _|with_reducible exact Le.refl _|exact ZY _ _|refine AD ?_ fun _=>?_|exact Le.refl _)
def Jw(s0:List (List UInt8))(s1:List UInt8)(s7:Int)(s8:Int):Option (Unit⊕Int):=itE (fun s:Int=>FF s0 s1 s7 s) 70 s8
theorem Lh(s0:List (List UInt8))(s1:List UInt8)(s7:Int)(s8:Int):Le (Jw s0 s1 s7 s8) (PM s0 s1 s7 s8):=by unfold Jw PM;repeat' (first|with_reducible refine AP (fun _=>?_) _ _|with_reducible exact Le.refl _|refine AP (fun _=>?_) _ _|exact Le.refl _)
def aCl(a0:List (List UInt8))(a1:List UInt8):Option (Int):=
 AF (Jw a0 a1 (a0.length:Int) 0) fun o2=>
 Ap o2 (fun o3=>
  some (-1)) (fun o4=>
  some o4)
theorem UE(a0:List (List UInt8))(a1:List UInt8):Le (aCl a0 a1) (Xz a0 a1):=by unfold aCl Xz;repeat' (first|with_reducible refine AD ?_ fun _=>?_|with_reducible refine Aa (fun _=>?_) fun _=>?_|with_reducible exact Lh _ _ _ _|with_reducible exact Le.refl _|exact Lh _ _ _ _|refine AD ?_ fun _=>?_|refine Aa (fun _=>?_) fun _=>?_|exact Le.refl _)
def aF6(a0:List (List UInt8))(a1:List UInt8):Option (Bool):=
 AF (aCl a0 a1) fun r1=>
 some (decide (0<=r1))
theorem aA9(a0:List (List UInt8))(a1:List UInt8):Le (aF6 a0 a1) (Za a0 a1):=by unfold aF6 Za;repeat' (first|with_reducible refine AD ?_ fun _=>?_|with_reducible exact UE _ _|with_reducible exact Le.refl _|exact UE _ _|refine AD ?_ fun _=>?_|exact Le.refl _)
def aFj(a0:List UInt8):Option (Bool):=
 AF (ST a0) fun r1=>
 AE (r1) (
  AF (aF6 BZ a0) fun r2=>
  some r2) (
  some false)
theorem aAy(a0:List UInt8):Le (aFj a0) (Yx a0):=by unfold aFj Yx;repeat' (first|with_reducible refine AD ?_ fun _=>?_|with_reducible refine AJ ?_ ?_|with_reducible exact Dq _|with_reducible exact aA9 _ _|with_reducible exact Le.refl _|exact Dq _|exact aA9 _ _|refine AD ?_ fun _=>?_|refine AJ ?_ ?_|exact Le.refl _)
def aAl(a0:List UInt8):Option (Bool):=
 AF (ST a0) fun r1=>
 AE (r1) (
  AF (aFj a0) fun r2=>
  AE (!r2) (
   some (!decide (a0=([95]:List UInt8)))) (
   some false)) (
  some false)
theorem Mg(a0:List UInt8):Le (aAl a0) (Yh a0):=by unfold aAl Yh;repeat' (first|with_reducible refine AD ?_ fun _=>?_|with_reducible refine AJ ?_ ?_|with_reducible exact Dq _|with_reducible exact aAy _|with_reducible exact Le.refl _|exact Dq _|exact aAy _|refine AD ?_ fun _=>?_|refine AJ ?_ ?_|exact Le.refl _)
def J5(s0:List Int)(s7:Int)(s8:Int):Option (Unit⊕Int):=itE (fun s:Int=>FN s0 s7 s) 70 s8
theorem Lo(s0:List Int)(s7:Int)(s8:Int):Le (J5 s0 s7 s8) (Pl s0 s7 s8):=by unfold J5 Pl;repeat' (first|with_reducible refine AP (fun _=>?_) _ _|with_reducible exact Le.refl _|refine AP (fun _=>?_) _ _|exact Le.refl _)
def aEw(a0:List Int):Option (Int):=
 AF (J5 a0 (a0.length:Int) 0) fun o3=>
 Ap o3 (fun o4=>
  some (-1)) (fun o5=>
  some o5)
theorem aAd(a0:List Int):Le (aEw a0) (Y8 a0):=by unfold aEw Y8;repeat' (first|with_reducible refine AD ?_ fun _=>?_|with_reducible refine Aa (fun _=>?_) fun _=>?_|with_reducible exact Lo _ _ _|with_reducible exact Le.refl _|exact Lo _ _ _|refine AD ?_ fun _=>?_|refine Aa (fun _=>?_) fun _=>?_|exact Le.refl _)
def aF8(a0:List Int):Option (Bool):=
 AF (aEw a0) fun r1=>
 some (decide (0<=r1))
theorem aBa(a0:List Int):Le (aF8 a0) (Zb a0):=by unfold aF8 Zb;repeat' (first|with_reducible refine AD ?_ fun _=>?_|with_reducible exact aAd _|with_reducible exact Le.refl _|exact aAd _|refine AD ?_ fun _=>?_|exact Le.refl _)
def aFq(a0:List X9)(a1:Int):Option (Int):=
 Ae a0 a1 fun x1=>
 AF (aF4 a0 x1.name) fun r2=>
 AF (aAl x1.name) fun r3=>
 AE (!r3) (
  some 11) (
  AE (decide (r2.1<a1)) (
   some 10) (
   AE (decide (8<(x1.types.length:Int))) (
    some 14) (
    AF (aF8 x1.types) fun r4=>
    AE (r4) (
     some 8) (
     some 0))))
theorem aA1(a0:List X9)(a1:Int):Le (aFq a0 a1) (Z2 a0 a1):=by unfold aFq Z2;repeat' (first|with_reducible refine AD ?_ fun _=>?_|with_reducible refine AJ ?_ ?_|with_reducible refine AY fun _=>?_|with_reducible exact aA8 _ _|with_reducible exact Mg _|with_reducible exact aBa _|with_reducible exact Le.refl _|exact aA8 _ _|exact Mg _|exact aBa _|refine AD ?_ fun _=>?_|refine AJ ?_ ?_|refine AY fun _=>?_|exact Le.refl _)
def E6(s0:List X9)(s10:Int)(s11:Int):Option ((Int)⊕(Unit⊕(Int×Int))):=
 AE (decide (s11<s10)) (
  AF (aFq s0 s11) fun r1=>
  AE (!decide (r1=0)) (
   some (.inr (.inr (s11,r1)))) (
   some (.inl (AB .add .i64 s11 1)))) (
  some (.inr (.inl ())))
theorem Ga(s0:List X9)(s10:Int)(s11:Int):Le (E6 s0 s10 s11) (DH s0 s10 s11):=by unfold E6 DH;repeat' (first|with_reducible refine AD ?_ fun _=>?_|with_reducible refine AJ ?_ ?_|with_reducible exact aA1 _ _|with_reducible exact Le.refl _|exact aA1 _ _|refine AD ?_ fun _=>?_|refine AJ ?_ ?_|exact Le.refl _)
def Jm(s0:List X9)(s10:Int)(s11:Int):Option (Unit⊕(Int×Int)):=itE (fun s:Int=>E6 s0 s10 s) 70 s11
theorem LX(s0:List X9)(s10:Int)(s11:Int):Le (Jm s0 s10 s11) (Ox s0 s10 s11):=by unfold Jm Ox;repeat' (first|with_reducible refine AP (fun _=>?_) _ _|with_reducible exact Ga _ _ _|with_reducible exact Le.refl _|exact Ga _ _ _|refine AP (fun _=>?_) _ _|exact Le.refl _)
def aD6(a0:List X9):Option (Int×Int):=
 AE (decide (32<(a0.length:Int))) (
  some (32,14)) (
  AF (Jm a0 (a0.length:Int) 0) fun o2=>
  Ap o2 (fun o3=>
   some ((-1),0)) (fun o4=>
   some (o4.1,o4.2)))
theorem ZN(a0:List X9):Le (aD6 a0) (Xp a0):=by unfold aD6 Xp;repeat' (first|with_reducible refine AD ?_ fun _=>?_|with_reducible refine AJ ?_ ?_|with_reducible refine Aa (fun _=>?_) fun _=>?_|with_reducible exact LX _ _ _|with_reducible exact Le.refl _|exact LX _ _ _|refine AD ?_ fun _=>?_|refine AJ ?_ ?_|refine Aa (fun _=>?_) fun _=>?_|exact Le.refl _)
def aGa(a0:Int)(a1:List UInt8)(a2:List (List UInt8)):Option (Bool):=
 AF (aAl a1) fun r1=>
 AE (r1) (
  AF (aCl a2 a1) fun r2=>
  some (decide (r2=a0))) (
  some false)
theorem aBb(a0:Int)(a1:List UInt8)(a2:List (List UInt8)):Le (aGa a0 a1 a2) (Zc a0 a1 a2):=by unfold aGa Zc;repeat' (first|with_reducible refine AD ?_ fun _=>?_|with_reducible refine AJ ?_ ?_|with_reducible exact Mg _|with_reducible exact UE _ _|with_reducible exact Le.refl _|exact Mg _|exact UE _ _|refine AD ?_ fun _=>?_|refine AJ ?_ ?_|exact Le.refl _)
def FD(s1:List (List UInt8))(s7:List (List UInt8))(s8:Int)(s9:Int):Option ((Int)⊕(Unit⊕Unit)):=
 AE (decide (s9<s8)) (
  Ae s7 s9 fun x1=>
  AF (aGa s9 x1 s1) fun r2=>
  AE (!r2) (
   some (.inr (.inr ()))) (
   some (.inl (AB .add .i64 s9 1)))) (
  some (.inr (.inl ())))
theorem Gg(s1:List (List UInt8))(s7:List (List UInt8))(s8:Int)(s9:Int):Le (FD s1 s7 s8 s9) (EA s1 s7 s8 s9):=by unfold FD EA;repeat' (first|with_reducible refine AD ?_ fun _=>?_|with_reducible refine AJ ?_ ?_|with_reducible refine AY fun _=>?_|with_reducible exact aBb _ _ _|with_reducible exact Le.refl _|exact aBb _ _ _|refine AD ?_ fun _=>?_|refine AJ ?_ ?_|refine AY fun _=>?_|exact Le.refl _)
def Js(s1:List (List UInt8))(s7:List (List UInt8))(s8:Int)(s9:Int):Option (Unit⊕Unit):=itE (fun s:Int=>FD s1 s7 s8 s) 70 s9
theorem Ld(s1:List (List UInt8))(s7:List (List UInt8))(s8:Int)(s9:Int):Le (Js s1 s7 s8 s9) (PD s1 s7 s8 s9):=by unfold Js PD;repeat' (first|with_reducible refine AP (fun _=>?_) _ _|with_reducible exact Gg _ _ _ _|with_reducible exact Le.refl _|exact Gg _ _ _ _|refine AP (fun _=>?_) _ _|exact Le.refl _)
def aEe(a0:List (List UInt8))(a1:List (List UInt8)):Option (Bool):=
 AF (Js a1 a0 (a0.length:Int) 0) fun o3=>
 Ap o3 (fun o4=>
  some true) (fun o5=>
  some false)
theorem ZT(a0:List (List UInt8))(a1:List (List UInt8)):Le (aEe a0 a1) (Xw a0 a1):=by unfold aEe Xw;repeat' (first|with_reducible refine AD ?_ fun _=>?_|with_reducible refine Aa (fun _=>?_) fun _=>?_|with_reducible exact Ld _ _ _ _|with_reducible exact Le.refl _|exact Ld _ _ _ _|refine AD ?_ fun _=>?_|refine Aa (fun _=>?_) fun _=>?_|exact Le.refl _)
def aCn(a0:List (List UInt8)):Option (Bool):=
 AF (aEe a0 a0) fun r1=>
 some r1
theorem aAr(a0:List (List UInt8)):Le (aCn a0) (Yt a0):=by unfold aCn Yt;repeat' (first|with_reducible refine AD ?_ fun _=>?_|with_reducible exact ZT _ _|with_reducible exact Le.refl _|exact ZT _ _|refine AD ?_ fun _=>?_|exact Le.refl _)
def J0(s7:List Xc)(s8:Int)(s9:Int):Option (Unit⊕Unit):=itE (fun s:Int=>FJ s7 s8 s) 70 s9
theorem Lk(s7:List Xc)(s8:Int)(s9:Int):Le (J0 s7 s8 s9) (PW s7 s8 s9):=by unfold J0 PW;repeat' (first|with_reducible refine AP (fun _=>?_) _ _|with_reducible exact Le.refl _|refine AP (fun _=>?_) _ _|exact Le.refl _)
def aEp(a0:List Xc):Option (Bool):=
 AF (J0 a0 (a0.length:Int) 0) fun o3=>
 Ap o3 (fun o4=>
  some true) (fun o5=>
  some false)
theorem ZZ(a0:List Xc):Le (aEp a0) (Y3 a0):=by unfold aEp Y3;repeat' (first|with_reducible refine AD ?_ fun _=>?_|with_reducible refine Aa (fun _=>?_) fun _=>?_|with_reducible exact Lk _ _ _|with_reducible exact Le.refl _|exact Lk _ _ _|refine AD ?_ fun _=>?_|refine Aa (fun _=>?_) fun _=>?_|exact Le.refl _)
def J1(s7:List Xf)(s8:Int)(s9:Int):Option (Unit⊕Unit):=itE (fun s:Int=>FK s7 s8 s) 70 s9
theorem Ll(s7:List Xf)(s8:Int)(s9:Int):Le (J1 s7 s8 s9) (PZ s7 s8 s9):=by unfold J1 PZ;repeat' (first|with_reducible refine AP (fun _=>?_) _ _|with_reducible exact Le.refl _|refine AP (fun _=>?_) _ _|exact Le.refl _)
def aEr(a0:List Xf):Option (Bool):=
 AF (J1 a0 (a0.length:Int) 0) fun o3=>
 Ap o3 (fun o4=>
  some true) (fun o5=>
  some false)
theorem aAa(a0:List Xf):Le (aEr a0) (Y4 a0):=by unfold aEr Y4;repeat' (first|with_reducible refine AD ?_ fun _=>?_|with_reducible refine Aa (fun _=>?_) fun _=>?_|with_reducible exact Ll _ _ _|with_reducible exact Le.refl _|exact Ll _ _ _|refine AD ?_ fun _=>?_|refine Aa (fun _=>?_) fun _=>?_|exact Le.refl _)
def JS(s14:List Xc)(s15:Int)(w1:AA)(s16:Int)(w3:List (List UInt8)):Option ((List (List UInt8))):=itE (fun s:Int×List (List UInt8)=>D1 s14 s15 w1 s.1 s.2) 70 (s16,w3)
theorem LD(s14:List Xc)(s15:Int)(w1:AA)(s16:Int)(w3:List (List UInt8)):Le (JS s14 s15 w1 s16 w3) (MZ s14 s15 w1 s16 w3):=by unfold JS MZ;repeat' (first|with_reducible refine AP (fun _=>?_) _ _|with_reducible exact Le.refl _|refine AP (fun _=>?_) _ _|exact Le.refl _)
def JT(s27:List Xf)(s28:Int)(w1:AA)(s29:Int)(w3:List (List UInt8)):Option ((List (List UInt8))):=itE (fun s:Int×List (List UInt8)=>D2 s27 s28 w1 s.1 s.2) 70 (s29,w3)
theorem LE(s27:List Xf)(s28:Int)(w1:AA)(s29:Int)(w3:List (List UInt8)):Le (JT s27 s28 w1 s29 w3) (Ma s27 s28 w1 s29 w3):=by unfold JT Ma;repeat' (first|with_reducible refine AP (fun _=>?_) _ _|with_reducible exact Le.refl _|refine AP (fun _=>?_) _ _|exact Le.refl _)
def JU(s40:List Xv)(s41:Int)(w1:AA)(w3:List (List UInt8))(s42:Int)(w4:List (List UInt8)):Option ((List (List UInt8))):=itE (fun s:Int×List (List UInt8)=>D3 s40 s41 w1 w3 s.1 s.2) 70 (s42,w4)
theorem LF(s40:List Xv)(s41:Int)(w1:AA)(w3:List (List UInt8))(s42:Int)(w4:List (List UInt8)):Le (JU s40 s41 w1 w3 s42 w4) (Mb s40 s41 w1 w3 s42 w4):=by unfold JU Mb;repeat' (first|with_reducible refine AP (fun _=>?_) _ _|with_reducible exact Le.refl _|refine AP (fun _=>?_) _ _|exact Le.refl _)
def aDr(a0:AA):Option (Bool):=
 AF (JS a0.quants (a0.quants.length:Int) a0 0 ([]:List (List UInt8))) fun o3=>
 AF (JT a0.frees (a0.frees.length:Int) a0 0 o3) fun o5=>
 AF (JU a0.states (a0.states.length:Int) a0 o5 0 ([]:List (List UInt8))) fun o8=>
 AF (aD6 a0.decls) fun r9=>
 AE (decide (r9.2=0)) (
  AF (aAl a0.name) fun r10=>
  AE (r10) (
   AF (aCn o5) fun r11=>
   AE (r11) (
    AF (aCn o8) fun r12=>
    AE (r12) (
     AF (aEp a0.quants) fun r13=>
     AE (r13) (
      AF (aEr a0.frees) fun r14=>
      AE (r14) (
       AE (decide (0<=a0.start)) (
        some (decide (a0.start<(a0.states.length:Int)))) (
        some false)) (
       some false)) (
      some false)) (
     some false)) (
    some false)) (
   some false)) (
  some false)
theorem ZB(a0:AA):Le (aDr a0) (Xb a0):=by unfold aDr Xb;repeat' (first|with_reducible refine AD ?_ fun _=>?_|with_reducible refine AJ ?_ ?_|with_reducible exact LD _ _ _ _ _|with_reducible exact LE _ _ _ _ _|with_reducible exact LF _ _ _ _ _ _|with_reducible exact ZN _|with_reducible exact Mg _|with_reducible exact aAr _|with_reducible exact ZZ _|with_reducible exact aAa _|with_reducible exact Le.refl _|exact LD _ _ _ _ _|exact LE _ _ _ _ _|exact LF _ _ _ _ _ _|exact ZN _|exact Mg _|exact aAr _|exact ZZ _|exact aAa _|refine AD ?_ fun _=>?_|refine AJ ?_ ?_|exact Le.refl _)
def Jb(s15:List X8)(s16:Int)(w1:AA)(s17:Int)(w3:List X2):Option ((List X2)):=itE (fun s:Int×List X2=>E0 s15 s16 w1 s.1 s.2) 70 (s17,w3)
theorem LL(s15:List X8)(s16:Int)(w1:AA)(s17:Int)(w3:List X2):Le (Jb s15 s16 w1 s17 w3) (Ja s15 s16 w1 s17 w3):=by unfold Jb Ja;repeat' (first|with_reducible refine AP (fun _=>?_) _ _|with_reducible exact Le.refl _|refine AP (fun _=>?_) _ _|exact Le.refl _)
def aDw(a0:AA):Option (List X2):=
 BC (0<=(a0.nodes.length:Int)/\fit 0 (a0.nodes.length:Int).toNat 24) (
  AF (Jb a0.nodes (a0.nodes.length:Int) a0 0 (List.replicate (a0.nodes.length:Int).toNat (X2.mk 0 0 0))) fun o16=>
  some o16)
theorem ZE(a0:AA):Le (aDw a0) (Xh a0):=by unfold aDw Xh;repeat' (first|with_reducible refine AD ?_ fun _=>?_|with_reducible refine A9 ?_|with_reducible exact LL _ _ _ _ _|with_reducible exact Le.refl _|exact LL _ _ _ _ _|refine AD ?_ fun _=>?_|refine A9 ?_|exact Le.refl _)
def J6(s0:List Ar)(s1:Ar)(s7:Int)(s8:Int):Option (Unit⊕Int):=itE (fun s:Int=>FO s0 s1 s7 s) 70 s8
theorem Lr(s0:List Ar)(s1:Ar)(s7:Int)(s8:Int):Le (J6 s0 s1 s7 s8) (Po s0 s1 s7 s8):=by unfold J6 Po;repeat' (first|with_reducible refine AP (fun _=>?_) _ _|with_reducible exact Le.refl _|refine AP (fun _=>?_) _ _|exact Le.refl _)
def aEy(a0:List Ar)(a1:Ar):Option (Int):=
 AF (J6 a0 a1 (a0.length:Int) 0) fun o3=>
 Ap o3 (fun o4=>
  some (-1)) (fun o5=>
  some o5)
theorem aAe(a0:List Ar)(a1:Ar):Le (aEy a0 a1) (Y9 a0 a1):=by unfold aEy Y9;repeat' (first|with_reducible refine AD ?_ fun _=>?_|with_reducible refine Aa (fun _=>?_) fun _=>?_|with_reducible exact Lr _ _ _ _|with_reducible exact Le.refl _|exact Lr _ _ _ _|refine AD ?_ fun _=>?_|refine Aa (fun _=>?_) fun _=>?_|exact Le.refl _)
def aFs(a0:List Ar)(a1:Ar):Option (Bool):=
 AF (aEy a0 a1) fun r1=>
 some (decide (0<=r1))
theorem aA2(a0:List Ar)(a1:Ar):Le (aFs a0 a1) (Z3 a0 a1):=by unfold aFs Z3;repeat' (first|with_reducible refine AD ?_ fun _=>?_|with_reducible exact aAe _ _|with_reducible exact Le.refl _|exact aAe _ _|refine AD ?_ fun _=>?_|exact Le.refl _)
def aGc(a0:Int)(a1:Ar)(a2:X5)(a3:AA)(w0:List X2)(w1:Int):Option (Bool×List X2×Int):=
 BC ((0:Int)<=0/\(0:Int)<=a0/\a0<=(a2.sets.length:Int)) (
  AF (aFs (sub a2.sets 0 a0) a1) fun r1=>
  AE (decide (0<=a1.free)) (
   AE (decide (a1.free<(a3.frees.length:Int))) (
    AE (!r1) (
     Ae a3.frees a1.free fun x2=>
     AF (Zw a1.expr x2.init_.kind w0 w1) fun r3=>
     some (r3.1,w0,r3.2)) (
     some (false,w0,w1))) (
    some (false,w0,w1))) (
   some (false,w0,w1)))
theorem aBc(a0:Int)(a1:Ar)(a2:X5)(a3:AA)(w0:List X2)(w1:Int):Le (aGc a0 a1 a2 a3 w0 w1) (Zd a0 a1 a2 a3 w0 w1):=by unfold aGc Zd;repeat' (first|with_reducible refine AD ?_ fun _=>?_|with_reducible refine AJ ?_ ?_|with_reducible refine A9 ?_|with_reducible refine AY fun _=>?_|with_reducible exact aA2 _ _|with_reducible exact Le.refl _|exact aA2 _ _|refine AD ?_ fun _=>?_|refine AJ ?_ ?_|refine A9 ?_|refine AY fun _=>?_|exact Le.refl _)
def E3(s1_1:X5)(s1_2:AA)(s7:List Ar)(s8:Int)(w997_1:X5)(w997_2:AA)(s9:Int)(w0:List X2)(w1:Int):Option ((Int×List X2×Int)⊕((List X2×Int)⊕(List X2×Int))):=
 AE (decide (s9<s8)) (
  Ae s7 s9 fun x1=>
  AF (aGc s9 x1 s1_1 s1_2 w0 w1) fun r2=>
  AE (!r2.1) (
   some (.inr (.inr (r2.2.1,r2.2.2)))) (
   some (.inl ((AB .add .i64 s9 1),r2.2.1,r2.2.2)))) (
  some (.inr (.inl (w0,w1))))
theorem GX(s1_1:X5)(s1_2:AA)(s7:List Ar)(s8:Int)(w997_1:X5)(w997_2:AA)(s9:Int)(w0:List X2)(w1:Int):Le (E3 s1_1 s1_2 s7 s8 w997_1 w997_2 s9 w0 w1) (Co s1_1 s1_2 s7 s8 w997_1 w997_2 s9 w0 w1):=by unfold E3 Co;repeat' (first|with_reducible refine AD ?_ fun _=>?_|with_reducible refine AJ ?_ ?_|with_reducible refine AY fun _=>?_|with_reducible exact aBc _ _ _ _ _ _|with_reducible exact Le.refl _|exact aBc _ _ _ _ _ _|refine AD ?_ fun _=>?_|refine AJ ?_ ?_|refine AY fun _=>?_|exact Le.refl _)
def Jh(s1_1:X5)(s1_2:AA)(s7:List Ar)(s8:Int)(w997_1:X5)(w997_2:AA)(s9:Int)(w0:List X2)(w1:Int):Option ((List X2×Int)⊕(List X2×Int)):=itE (fun s:Int×List X2×Int=>E3 s1_1 s1_2 s7 s8 w997_1 w997_2 s.1 s.2.1 s.2.2) 70 (s9,w0,w1)
theorem LR(s1_1:X5)(s1_2:AA)(s7:List Ar)(s8:Int)(w997_1:X5)(w997_2:AA)(s9:Int)(w0:List X2)(w1:Int):Le (Jh s1_1 s1_2 s7 s8 w997_1 w997_2 s9 w0 w1) (Jg s1_1 s1_2 s7 s8 w997_1 w997_2 s9 w0 w1):=by unfold Jh Jg;repeat' (first|with_reducible refine AP (fun _=>?_) _ _|with_reducible exact GX _ _ _ _ _ _ _ _ _|with_reducible exact Le.refl _|exact GX _ _ _ _ _ _ _ _ _|refine AP (fun _=>?_) _ _|exact Le.refl _)
def aCh(a0:List Ar)(a1_1:X5)(a1_2:AA)(w0:List X2)(w1:Int):Option (Bool×List X2×Int):=
 AF (Jh a1_1 a1_2 a0 (a0.length:Int) a1_1 a1_2 0 w0 w1) fun o3=>
 Ap o3 (fun o4=>
  some (true,o4.1,o4.2)) (fun o5=>
  some (false,o5.1,o5.2))
theorem ZH(a0:List Ar)(a1_1:X5)(a1_2:AA)(w0:List X2)(w1:Int):Le (aCh a0 a1_1 a1_2 w0 w1) (Xk a0 a1_1 a1_2 w0 w1):=by unfold aCh Xk;repeat' (first|with_reducible refine AD ?_ fun _=>?_|with_reducible refine Aa (fun _=>?_) fun _=>?_|with_reducible exact LR _ _ _ _ _ _ _ _ _|with_reducible exact Le.refl _|exact LR _ _ _ _ _ _ _ _ _|refine AD ?_ fun _=>?_|refine Aa (fun _=>?_) fun _=>?_|exact Le.refl _)
def J7(s0:List AT)(s7:Int)(w3:AT)(s8:Int):Option (Unit⊕Int):=itE (fun s:Int=>FQ s0 s7 w3 s) 70 s8
theorem Ls(s0:List AT)(s7:Int)(w3:AT)(s8:Int):Le (J7 s0 s7 w3 s8) (Pr s0 s7 w3 s8):=by unfold J7 Pr;repeat' (first|with_reducible refine AP (fun _=>?_) _ _|with_reducible exact Le.refl _|refine AP (fun _=>?_) _ _|exact Le.refl _)
def aE0(a0:List AT)(a1:AT):Option (Int):=
 AF (J7 a0 (a0.length:Int) a1 0) fun o2=>
 Ap o2 (fun o3=>
  some (-1)) (fun o4=>
  some o4)
theorem aAf(a0:List AT)(a1:AT):Le (aE0 a0 a1) (Ya a0 a1):=by unfold aE0 Ya;repeat' (first|with_reducible refine AD ?_ fun _=>?_|with_reducible refine Aa (fun _=>?_) fun _=>?_|with_reducible exact Ls _ _ _ _|with_reducible exact Le.refl _|exact Ls _ _ _ _|refine AD ?_ fun _=>?_|refine Aa (fun _=>?_) fun _=>?_|exact Le.refl _)
def aGe(a0:List AT)(a1:AT):Option (Bool):=
 AF (aE0 a0 a1) fun r1=>
 some (decide (0<=r1))
theorem aBd(a0:List AT)(a1:AT):Le (aGe a0 a1) (Ze a0 a1):=by unfold aGe Ze;repeat' (first|with_reducible refine AD ?_ fun _=>?_|with_reducible exact aAf _ _|with_reducible exact Le.refl _|exact aAf _ _|refine AD ?_ fun _=>?_|exact Le.refl _)
def aCo(a0:X3)(a1:Int):Option (Bool):=
 AF (aGe a0.args (AT.mk 2 a1 (X4.mk 0 0 ([]:List UInt8) false))) fun r1=>
 some r1
theorem Ul(a0:X3)(a1:Int):Le (aCo a0 a1) (Yv a0 a1):=by unfold aCo Yv;repeat' (first|with_reducible refine AD ?_ fun _=>?_|with_reducible exact aBd _ _|with_reducible exact Le.refl _|exact aBd _ _|refine AD ?_ fun _=>?_|exact Le.refl _)
def aGg(a0:Int)(a1:X8)(a2:AA)(a3:X5):Option (Bool):=
 AE (!decide (a1.op=2)) (
  some true) (
  Ae a2.symbols a3.symbol fun x1=>
  AF (aCo x1 a1.a) fun r2=>
  some r2)
theorem aBe(a0:Int)(a1:X8)(a2:AA)(a3:X5):Le (aGg a0 a1 a2 a3) (Zf a0 a1 a2 a3):=by unfold aGg Zf;repeat' (first|with_reducible refine AD ?_ fun _=>?_|with_reducible refine AJ ?_ ?_|with_reducible refine AY fun _=>?_|with_reducible exact Ul _ _|with_reducible exact Le.refl _|exact Ul _ _|refine AD ?_ fun _=>?_|refine AJ ?_ ?_|refine AY fun _=>?_|exact Le.refl _)
def E5(s1_1:AA)(s1_2:X5)(s7:List X8)(s8:Int)(s9:Int):Option ((Int)⊕(Unit⊕Unit)):=
 AE (decide (s9<s8)) (
  Ae s7 s9 fun x1=>
  AF (aGg s9 x1 s1_1 s1_2) fun r2=>
  AE (!r2) (
   some (.inr (.inr ()))) (
   some (.inl (AB .add .i64 s9 1)))) (
  some (.inr (.inl ())))
theorem GZ(s1_1:AA)(s1_2:X5)(s7:List X8)(s8:Int)(s9:Int):Le (E5 s1_1 s1_2 s7 s8 s9) (D6 s1_1 s1_2 s7 s8 s9):=by unfold E5 D6;repeat' (first|with_reducible refine AD ?_ fun _=>?_|with_reducible refine AJ ?_ ?_|with_reducible refine AY fun _=>?_|with_reducible exact aBe _ _ _ _|with_reducible exact Le.refl _|exact aBe _ _ _ _|refine AD ?_ fun _=>?_|refine AJ ?_ ?_|refine AY fun _=>?_|exact Le.refl _)
def Jl(s1_1:AA)(s1_2:X5)(s7:List X8)(s8:Int)(s9:Int):Option (Unit⊕Unit):=itE (fun s:Int=>E5 s1_1 s1_2 s7 s8 s) 70 s9
theorem LW(s1_1:AA)(s1_2:X5)(s7:List X8)(s8:Int)(s9:Int):Le (Jl s1_1 s1_2 s7 s8 s9) (Ou s1_1 s1_2 s7 s8 s9):=by unfold Jl Ou;repeat' (first|with_reducible refine AP (fun _=>?_) _ _|with_reducible exact GZ _ _ _ _ _|with_reducible exact Le.refl _|exact GZ _ _ _ _ _|refine AP (fun _=>?_) _ _|exact Le.refl _)
def aCi(a0:List X8)(a1_1:AA)(a1_2:X5):Option (Bool):=
 AF (Jl a1_1 a1_2 a0 (a0.length:Int) 0) fun o3=>
 Ap o3 (fun o4=>
  some true) (fun o5=>
  some false)
theorem ZL(a0:List X8)(a1_1:AA)(a1_2:X5):Le (aCi a0 a1_1 a1_2) (Xo a0 a1_1 a1_2):=by unfold aCi Xo;repeat' (first|with_reducible refine AD ?_ fun _=>?_|with_reducible refine Aa (fun _=>?_) fun _=>?_|with_reducible exact LW _ _ _ _ _|with_reducible exact Le.refl _|exact LW _ _ _ _ _|refine AD ?_ fun _=>?_|refine Aa (fun _=>?_) fun _=>?_|exact Le.refl _)
def aFu(a0:Int)(a1:X5)(a3:AA)(w0:Int)(w1:List X2):Option (Bool×Int×List X2):=
 AE (decide (a1.from_<0)) (
  some (false,w0,w1)) (
  AE (decide ((a3.states.length:Int)<=a1.from_)) (
   some (false,w0,w1)) (
   AE (decide (a1.to<0)) (
    some (false,w0,w1)) (
    AE (decide ((a3.states.length:Int)<=a1.to)) (
     some (false,w0,w1)) (
     AE (decide (a1.symbol<0)) (
      some (false,w0,w1)) (
      AE (decide ((a3.symbols.length:Int)<=a1.symbol)) (
       some (false,w0,w1)) (
       AE (!decide (a1.guard=(-1))) (
        AF (Zw a1.guard 3 w1 w0) fun r1=>
        AE (!r1.1) (
         some (false,r1.2,w1)) (
         AF (aCh a1.sets a1 a3 w1 r1.2) fun r2=>
         AE (r2.1) (
          BC ((0:Int)<=w0/\(w0:Int)<=r2.2.2/\r2.2.2<=(a3.nodes.length:Int)) (
           AF (aCi (sub a3.nodes w0 r2.2.2) a3 a1) fun r3=>
           some (r3,r2.2.2,r2.2.1))) (
          some (false,r2.2.2,r2.2.1)))) (
        AF (aCh a1.sets a1 a3 w1 w0) fun r4=>
        AE (r4.1) (
         BC ((0:Int)<=w0/\(w0:Int)<=r4.2.2/\r4.2.2<=(a3.nodes.length:Int)) (
          AF (aCi (sub a3.nodes w0 r4.2.2) a3 a1) fun r5=>
          some (r5,r4.2.2,r4.2.1))) (
         some (false,r4.2.2,r4.2.1)))))))))
theorem aA3(a0:Int)(a1:X5)(a3:AA)(w0:Int)(w1:List X2):Le (aFu a0 a1 a3 w0 w1) (Z4 a0 a1 a3 w0 w1):=by unfold aFu Z4;repeat' (first|with_reducible refine AD ?_ fun _=>?_|with_reducible refine AJ ?_ ?_|with_reducible refine A9 ?_|with_reducible exact ZH _ _ _ _ _|with_reducible exact ZL _ _ _|with_reducible exact Le.refl _|exact ZH _ _ _ _ _|exact ZL _ _ _|refine AD ?_ fun _=>?_|refine AJ ?_ ?_|refine A9 ?_|exact Le.refl _)
def E4(s1:AA)(s7:List X5)(s8:Int)(w997:AA)(s9:Int)(w0:Int)(w1:List X2):Option ((Int×Int×List X2)⊕((Int×List X2)⊕(Int×List X2))):=
 AE (decide (s9<s8)) (
  Ae s7 s9 fun x1=>
  AF (aFu s9 x1 s1 w0 w1) fun r2=>
  AE (!r2.1) (
   some (.inr (.inr (r2.2.1,r2.2.2)))) (
   some (.inl ((AB .add .i64 s9 1),r2.2.1,r2.2.2)))) (
  some (.inr (.inl (w0,w1))))
theorem GY(s1:AA)(s7:List X5)(s8:Int)(w997:AA)(s9:Int)(w0:Int)(w1:List X2):Le (E4 s1 s7 s8 w997 s9 w0 w1) (DG s1 s7 s8 w997 s9 w0 w1):=by unfold E4 DG;repeat' (first|with_reducible refine AD ?_ fun _=>?_|with_reducible refine AJ ?_ ?_|with_reducible refine AY fun _=>?_|with_reducible exact aA3 _ _ _ _ _|with_reducible exact Le.refl _|exact aA3 _ _ _ _ _|refine AD ?_ fun _=>?_|refine AJ ?_ ?_|refine AY fun _=>?_|exact Le.refl _)
def Jk(s1:AA)(s7:List X5)(s8:Int)(w997:AA)(s9:Int)(w0:Int)(w1:List X2):Option ((Int×List X2)⊕(Int×List X2)):=itE (fun s:Int×Int×List X2=>E4 s1 s7 s8 w997 s.1 s.2.1 s.2.2) 70 (s9,w0,w1)
theorem LU(s1:AA)(s7:List X5)(s8:Int)(w997:AA)(s9:Int)(w0:Int)(w1:List X2):Le (Jk s1 s7 s8 w997 s9 w0 w1) (IP s1 s7 s8 w997 s9 w0 w1):=by unfold Jk IP;repeat' (first|with_reducible refine AP (fun _=>?_) _ _|with_reducible exact GY _ _ _ _ _ _ _|with_reducible exact Le.refl _|exact GY _ _ _ _ _ _ _|refine AP (fun _=>?_) _ _|exact Le.refl _)
def aD3(a0:List X5)(a1:AA)(w0:Int)(w1:List X2):Option (Bool×Int×List X2):=
 AF (Jk a1 a0 (a0.length:Int) a1 0 w0 w1) fun o3=>
 Ap o3 (fun o4=>
  some (true,o4.1,o4.2)) (fun o5=>
  some (false,o5.1,o5.2))
theorem ZK(a0:List X5)(a1:AA)(w0:Int)(w1:List X2):Le (aD3 a0 a1 w0 w1) (Xm a0 a1 w0 w1):=by unfold aD3 Xm;repeat' (first|with_reducible refine AD ?_ fun _=>?_|with_reducible refine Aa (fun _=>?_) fun _=>?_|with_reducible exact LU _ _ _ _ _ _ _|with_reducible exact Le.refl _|exact LU _ _ _ _ _ _ _|refine AD ?_ fun _=>?_|refine Aa (fun _=>?_) fun _=>?_|exact Le.refl _)
def aFm(a0:AA):Option (Bool):=
 AF (aDw a0) fun r1=>
 AF (aD3 a0.trans a0 0 r1) fun r2=>
 AE (r2.1) (
  some (decide (r2.2.1=(r1.length:Int)))) (
  some false)
theorem aAz(a0:AA):Le (aFm a0) (Yz a0):=by unfold aFm Yz;repeat' (first|with_reducible refine AD ?_ fun _=>?_|with_reducible refine AJ ?_ ?_|with_reducible exact ZE _|with_reducible exact ZK _ _ _ _|with_reducible exact Le.refl _|exact ZE _|exact ZK _ _ _ _|refine AD ?_ fun _=>?_|refine AJ ?_ ?_|exact Le.refl _)
def J8(s0:List Int)(s1:Int)(s7:Int)(s8:Int):Option (Unit⊕Int):=itE (fun s:Int=>FR s0 s1 s7 s) 70 s8
theorem Lt(s0:List Int)(s1:Int)(s7:Int)(s8:Int):Le (J8 s0 s1 s7 s8) (Pu s0 s1 s7 s8):=by unfold J8 Pu;repeat' (first|with_reducible refine AP (fun _=>?_) _ _|with_reducible exact Le.refl _|refine AP (fun _=>?_) _ _|exact Le.refl _)
def aE2(a0:List Int)(a1:Int):Option (Int):=
 AF (J8 a0 a1 (a0.length:Int) 0) fun o2=>
 Ap o2 (fun o3=>
  some (-1)) (fun o4=>
  some o4)
theorem aAg(a0:List Int)(a1:Int):Le (aE2 a0 a1) (Yb a0 a1):=by unfold aE2 Yb;repeat' (first|with_reducible refine AD ?_ fun _=>?_|with_reducible refine Aa (fun _=>?_) fun _=>?_|with_reducible exact Lt _ _ _ _|with_reducible exact Le.refl _|exact Lt _ _ _ _|refine AD ?_ fun _=>?_|refine Aa (fun _=>?_) fun _=>?_|exact Le.refl _)
def aFw(a0:List Int)(a1:Int):Option (Bool):=
 AF (aE2 a0 a1) fun r1=>
 some (decide (0<=r1))
theorem aA4(a0:List Int)(a1:Int):Le (aFw a0 a1) (Z5 a0 a1):=by unfold aFw Z5;repeat' (first|with_reducible refine AD ?_ fun _=>?_|with_reducible exact aAg _ _|with_reducible exact Le.refl _|exact aAg _ _|refine AD ?_ fun _=>?_|exact Le.refl _)
def J2(s1_1:AA)(s1_2:List Int)(s7:List Int)(s8:Int)(s9:Int):Option (Unit⊕Unit):=itE (fun s:Int=>FL s1_1 s1_2 s7 s8 s) 70 s9
theorem Lm(s1_1:AA)(s1_2:List Int)(s7:List Int)(s8:Int)(s9:Int):Le (J2 s1_1 s1_2 s7 s8 s9) (Pc s1_1 s1_2 s7 s8 s9):=by unfold J2 Pc;repeat' (first|with_reducible refine AP (fun _=>?_) _ _|with_reducible exact Le.refl _|refine AP (fun _=>?_) _ _|exact Le.refl _)
def aEt(a0:List Int)(a1_1:AA)(a1_2:List Int):Option (Bool):=
 AF (J2 a1_1 a1_2 a0 (a0.length:Int) 0) fun o3=>
 Ap o3 (fun o4=>
  some true) (fun o5=>
  some false)
theorem aAb(a0:List Int)(a1_1:AA)(a1_2:List Int):Le (aEt a0 a1_1 a1_2) (Y5 a0 a1_1 a1_2):=by unfold aEt Y5;repeat' (first|with_reducible refine AD ?_ fun _=>?_|with_reducible refine Aa (fun _=>?_) fun _=>?_|with_reducible exact Lm _ _ _ _ _|with_reducible exact Le.refl _|exact Lm _ _ _ _ _|refine AD ?_ fun _=>?_|refine Aa (fun _=>?_) fun _=>?_|exact Le.refl _)
def J9(s1:List Int)(s2:AA)(s15:List AT)(s16:Int)(s17:Int):Option (Unit⊕Unit):=itE (fun s:Int=>FS s1 s2 s15 s16 s) 70 s17
theorem Lu(s1:List Int)(s2:AA)(s15:List AT)(s16:Int)(s17:Int):Le (J9 s1 s2 s15 s16 s17) (Px s1 s2 s15 s16 s17):=by unfold J9 Px;repeat' (first|with_reducible refine AP (fun _=>?_) _ _|with_reducible exact Le.refl _|refine AP (fun _=>?_) _ _|exact Le.refl _)
def aE4(a0:List AT)(a1:List Int)(a2:AA):Option (Bool):=
 AE (!decide ((a0.length:Int)=(a1.length:Int))) (
  some false) (
  AF (J9 a1 a2 a0 (a0.length:Int) 0) fun o4=>
  Ap o4 (fun o5=>
   some true) (fun o6=>
   some false))
theorem aAh(a0:List AT)(a1:List Int)(a2:AA):Le (aE4 a0 a1 a2) (Yc a0 a1 a2):=by unfold aE4 Yc;repeat' (first|with_reducible refine AD ?_ fun _=>?_|with_reducible refine AJ ?_ ?_|with_reducible refine Aa (fun _=>?_) fun _=>?_|with_reducible exact Lu _ _ _ _ _|with_reducible exact Le.refl _|exact Lu _ _ _ _ _|refine AD ?_ fun _=>?_|refine AJ ?_ ?_|refine Aa (fun _=>?_) fun _=>?_|exact Le.refl _)
def aFy(a0:AA)(a1:X3):Option (Bool):=
 AE (decide (a1.event<0)) (
  some false) (
  AE (decide ((a0.decls.length:Int)<=a1.event)) (
   some false) (
   Ae a0.decls a1.event fun x1=>
   AF (aE4 a1.args x1.types a0) fun r2=>
   some r2))
theorem aA5(a0:AA)(a1:X3):Le (aFy a0 a1) (Z6 a0 a1):=by unfold aFy Z6;repeat' (first|with_reducible refine AD ?_ fun _=>?_|with_reducible refine AJ ?_ ?_|with_reducible refine AY fun _=>?_|with_reducible exact aAh _ _ _|with_reducible exact Le.refl _|exact aAh _ _ _|refine AD ?_ fun _=>?_|refine AJ ?_ ?_|refine AY fun _=>?_|exact Le.refl _)
def KA(s0:List AT)(s1:List AT)(s12:Int)(s13:Int):Option (Unit⊕Unit):=itE (fun s:Int=>FT s0 s1 s12 s) 70 s13
theorem Lv(s0:List AT)(s1:List AT)(s12:Int)(s13:Int):Le (KA s0 s1 s12 s13) (P0 s0 s1 s12 s13):=by unfold KA P0;repeat' (first|with_reducible refine AP (fun _=>?_) _ _|with_reducible exact Le.refl _|refine AP (fun _=>?_) _ _|exact Le.refl _)
def aE6(a0:List AT)(a1:List AT):Option (Bool):=
 AE (!decide ((a0.length:Int)=(a1.length:Int))) (
  some false) (
  AF (KA a0 a1 (a0.length:Int) 0) fun o3=>
  Ap o3 (fun o4=>
   some true) (fun o5=>
   some false))
theorem aAi(a0:List AT)(a1:List AT):Le (aE6 a0 a1) (Yd a0 a1):=by unfold aE6 Yd;repeat' (first|with_reducible refine AD ?_ fun _=>?_|with_reducible refine AJ ?_ ?_|with_reducible refine Aa (fun _=>?_) fun _=>?_|with_reducible exact Lv _ _ _ _|with_reducible exact Le.refl _|exact Lv _ _ _ _|refine AD ?_ fun _=>?_|refine AJ ?_ ?_|refine Aa (fun _=>?_) fun _=>?_|exact Le.refl _)
def aF0(a0:X3)(a1:X3):Option (Bool):=
 AE (decide (a0.event=a1.event)) (
  AF (aE6 a0.args a1.args) fun r1=>
  some r1) (
  some false)
theorem aA6(a0:X3)(a1:X3):Le (aF0 a0 a1) (Z7 a0 a1):=by unfold aF0 Z7;repeat' (first|with_reducible refine AD ?_ fun _=>?_|with_reducible refine AJ ?_ ?_|with_reducible exact aAi _ _|with_reducible exact Le.refl _|exact aAi _ _|refine AD ?_ fun _=>?_|refine AJ ?_ ?_|exact Le.refl _)
def aGi(a0:X3)(a1:X3):Option (Bool):=
 AF (aF0 a0 a1) fun r1=>
 some r1
theorem aBf(a0:X3)(a1:X3):Le (aGi a0 a1) (Zg a0 a1):=by unfold aGi Zg;repeat' (first|with_reducible refine AD ?_ fun _=>?_|with_reducible exact aA6 _ _|with_reducible exact Le.refl _|exact aA6 _ _|refine AD ?_ fun _=>?_|exact Le.refl _)
def E7(s0:List X3)(s1:X3)(s7:Int)(s8:Int):Option ((Int)⊕(Unit⊕Int)):=
 AE (decide (s8<s7)) (
  Ae s0 s8 fun x1=>
  AF (aGi x1 s1) fun r2=>
  AE (r2) (
   some (.inr (.inr s8))) (
   some (.inl (AB .add .i64 s8 1)))) (
  some (.inr (.inl ())))
theorem Gb(s0:List X3)(s1:X3)(s7:Int)(s8:Int):Le (E7 s0 s1 s7 s8) (D7 s0 s1 s7 s8):=by unfold E7 D7;repeat' (first|with_reducible refine AD ?_ fun _=>?_|with_reducible refine AJ ?_ ?_|with_reducible refine AY fun _=>?_|with_reducible exact aBf _ _|with_reducible exact Le.refl _|exact aBf _ _|refine AD ?_ fun _=>?_|refine AJ ?_ ?_|refine AY fun _=>?_|exact Le.refl _)
def Jn(s0:List X3)(s1:X3)(s7:Int)(s8:Int):Option (Unit⊕Int):=itE (fun s:Int=>E7 s0 s1 s7 s) 70 s8
theorem LY(s0:List X3)(s1:X3)(s7:Int)(s8:Int):Le (Jn s0 s1 s7 s8) (O0 s0 s1 s7 s8):=by unfold Jn O0;repeat' (first|with_reducible refine AP (fun _=>?_) _ _|with_reducible exact Gb _ _ _ _|with_reducible exact Le.refl _|exact Gb _ _ _ _|refine AP (fun _=>?_) _ _|exact Le.refl _)
def aD8(a0:List X3)(a1:X3):Option (Int):=
 AF (Jn a0 a1 (a0.length:Int) 0) fun o3=>
 Ap o3 (fun o4=>
  some (-1)) (fun o5=>
  some o5)
theorem ZO(a0:List X3)(a1:X3):Le (aD8 a0 a1) (Xq a0 a1):=by unfold aD8 Xq;repeat' (first|with_reducible refine AD ?_ fun _=>?_|with_reducible refine Aa (fun _=>?_) fun _=>?_|with_reducible exact LY _ _ _ _|with_reducible exact Le.refl _|exact LY _ _ _ _|refine AD ?_ fun _=>?_|refine Aa (fun _=>?_) fun _=>?_|exact Le.refl _)
def aGk(a0:Int)(a1:X3)(a2:AA):Option (Bool):=
 AF (aFy a2 a1) fun r1=>
 AE (r1) (
  AF (aD8 a2.symbols a1) fun r2=>
  some (decide (r2=a0))) (
  some false)
theorem aBg(a0:Int)(a1:X3)(a2:AA):Le (aGk a0 a1 a2) (Zh a0 a1 a2):=by unfold aGk Zh;repeat' (first|with_reducible refine AD ?_ fun _=>?_|with_reducible refine AJ ?_ ?_|with_reducible exact aA5 _ _|with_reducible exact ZO _ _|with_reducible exact Le.refl _|exact aA5 _ _|exact ZO _ _|refine AD ?_ fun _=>?_|refine AJ ?_ ?_|exact Le.refl _)
def E8(s1:AA)(s7:List X3)(s8:Int)(s9:Int):Option ((Int)⊕(Unit⊕Unit)):=
 AE (decide (s9<s8)) (
  Ae s7 s9 fun x1=>
  AF (aGk s9 x1 s1) fun r2=>
  AE (!r2) (
   some (.inr (.inr ()))) (
   some (.inl (AB .add .i64 s9 1)))) (
  some (.inr (.inl ())))
theorem Gc(s1:AA)(s7:List X3)(s8:Int)(s9:Int):Le (E8 s1 s7 s8 s9) (D8 s1 s7 s8 s9):=by unfold E8 D8;repeat' (first|with_reducible refine AD ?_ fun _=>?_|with_reducible refine AJ ?_ ?_|with_reducible refine AY fun _=>?_|with_reducible exact aBg _ _ _|with_reducible exact Le.refl _|exact aBg _ _ _|refine AD ?_ fun _=>?_|refine AJ ?_ ?_|refine AY fun _=>?_|exact Le.refl _)
def Jo(s1:AA)(s7:List X3)(s8:Int)(s9:Int):Option (Unit⊕Unit):=itE (fun s:Int=>E8 s1 s7 s8 s) 70 s9
theorem LZ(s1:AA)(s7:List X3)(s8:Int)(s9:Int):Le (Jo s1 s7 s8 s9) (O3 s1 s7 s8 s9):=by unfold Jo O3;repeat' (first|with_reducible refine AP (fun _=>?_) _ _|with_reducible exact Gc _ _ _ _|with_reducible exact Le.refl _|exact Gc _ _ _ _|refine AP (fun _=>?_) _ _|exact Le.refl _)
def aEa(a0:List X3)(a1:AA):Option (Bool):=
 AF (Jo a1 a0 (a0.length:Int) 0) fun o3=>
 Ap o3 (fun o4=>
  some true) (fun o5=>
  some false)
theorem ZP(a0:List X3)(a1:AA):Le (aEa a0 a1) (Xr a0 a1):=by unfold aEa Xr;repeat' (first|with_reducible refine AD ?_ fun _=>?_|with_reducible refine Aa (fun _=>?_) fun _=>?_|with_reducible exact LZ _ _ _ _|with_reducible exact Le.refl _|exact LZ _ _ _ _|refine AD ?_ fun _=>?_|refine Aa (fun _=>?_) fun _=>?_|exact Le.refl _)
def aGm(a0:X3)(a1:Int):Option (Bool):=
 AF (aCo a0 a1) fun r1=>
 some r1
theorem aBh(a0:X3)(a1:Int):Le (aGm a0 a1) (Zi a0 a1):=by unfold aGm Zi;repeat' (first|with_reducible refine AD ?_ fun _=>?_|with_reducible exact Ul _ _|with_reducible exact Le.refl _|exact Ul _ _|refine AD ?_ fun _=>?_|exact Le.refl _)
def FE(s0:List X3)(s1:Int)(s7:Int)(s8:Int):Option ((Int)⊕(Unit⊕Int)):=
 AE (decide (s8<s7)) (
  Ae s0 s8 fun x1=>
  AF (aGm x1 s1) fun r2=>
  AE (r2) (
   some (.inr (.inr s8))) (
   some (.inl (AB .add .i64 s8 1)))) (
  some (.inr (.inl ())))
theorem Gh(s0:List X3)(s1:Int)(s7:Int)(s8:Int):Le (FE s0 s1 s7 s8) (EB s0 s1 s7 s8):=by unfold FE EB;repeat' (first|with_reducible refine AD ?_ fun _=>?_|with_reducible refine AJ ?_ ?_|with_reducible refine AY fun _=>?_|with_reducible exact aBh _ _|with_reducible exact Le.refl _|exact aBh _ _|refine AD ?_ fun _=>?_|refine AJ ?_ ?_|refine AY fun _=>?_|exact Le.refl _)
def Jt(s0:List X3)(s1:Int)(s7:Int)(s8:Int):Option (Unit⊕Int):=itE (fun s:Int=>FE s0 s1 s7 s) 70 s8
theorem Lf(s0:List X3)(s1:Int)(s7:Int)(s8:Int):Le (Jt s0 s1 s7 s8) (PG s0 s1 s7 s8):=by unfold Jt PG;repeat' (first|with_reducible refine AP (fun _=>?_) _ _|with_reducible exact Gh _ _ _ _|with_reducible exact Le.refl _|exact Gh _ _ _ _|refine AP (fun _=>?_) _ _|exact Le.refl _)
def aEg(a0:List X3)(a1:Int):Option (Int):=
 AF (Jt a0 a1 (a0.length:Int) 0) fun o3=>
 Ap o3 (fun o4=>
  some (-1)) (fun o5=>
  some o5)
theorem ZU(a0:List X3)(a1:Int):Le (aEg a0 a1) (Xx a0 a1):=by unfold aEg Xx;repeat' (first|with_reducible refine AD ?_ fun _=>?_|with_reducible refine Aa (fun _=>?_) fun _=>?_|with_reducible exact Lf _ _ _ _|with_reducible exact Le.refl _|exact Lf _ _ _ _|refine AD ?_ fun _=>?_|refine Aa (fun _=>?_) fun _=>?_|exact Le.refl _)
def aF2(a0:List X3)(a1:Int):Option (Bool):=
 AF (aEg a0 a1) fun r1=>
 some (decide (0<=r1))
theorem aA7(a0:List X3)(a1:Int):Le (aF2 a0 a1) (Z8 a0 a1):=by unfold aF2 Z8;repeat' (first|with_reducible refine AD ?_ fun _=>?_|with_reducible exact ZU _ _|with_reducible exact Le.refl _|exact ZU _ _|refine AD ?_ fun _=>?_|exact Le.refl _)
def aGo(a0:Int)(a1:Xc)(a2:AA):Option (Bool):=
 AF (aF2 a2.symbols a0) fun r1=>
 some r1
theorem aBi(a0:Int)(a1:Xc)(a2:AA):Le (aGo a0 a1 a2) (Zj a0 a1 a2):=by unfold aGo Zj;repeat' (first|with_reducible refine AD ?_ fun _=>?_|with_reducible exact aA7 _ _|with_reducible exact Le.refl _|exact aA7 _ _|refine AD ?_ fun _=>?_|exact Le.refl _)
def E9(s1:AA)(s7:List Xc)(s8:Int)(s9:Int):Option ((Int)⊕(Unit⊕Unit)):=
 AE (decide (s9<s8)) (
  Ae s7 s9 fun x1=>
  AF (aGo s9 x1 s1) fun r2=>
  AE (!r2) (
   some (.inr (.inr ()))) (
   some (.inl (AB .add .i64 s9 1)))) (
  some (.inr (.inl ())))
theorem Gd(s1:AA)(s7:List Xc)(s8:Int)(s9:Int):Le (E9 s1 s7 s8 s9) (D9 s1 s7 s8 s9):=by unfold E9 D9;repeat' (first|with_reducible refine AD ?_ fun _=>?_|with_reducible refine AJ ?_ ?_|with_reducible refine AY fun _=>?_|with_reducible exact aBi _ _ _|with_reducible exact Le.refl _|exact aBi _ _ _|refine AD ?_ fun _=>?_|refine AJ ?_ ?_|refine AY fun _=>?_|exact Le.refl _)
def Jp(s1:AA)(s7:List Xc)(s8:Int)(s9:Int):Option (Unit⊕Unit):=itE (fun s:Int=>E9 s1 s7 s8 s) 70 s9
theorem La(s1:AA)(s7:List Xc)(s8:Int)(s9:Int):Le (Jp s1 s7 s8 s9) (O6 s1 s7 s8 s9):=by unfold Jp O6;repeat' (first|with_reducible refine AP (fun _=>?_) _ _|with_reducible exact Gd _ _ _ _|with_reducible exact Le.refl _|exact Gd _ _ _ _|refine AP (fun _=>?_) _ _|exact Le.refl _)
def aEc(a0:List Xc)(a1:AA):Option (Bool):=
 AF (Jp a1 a0 (a0.length:Int) 0) fun o3=>
 Ap o3 (fun o4=>
  some true) (fun o5=>
  some false)
theorem ZQ(a0:List Xc)(a1:AA):Le (aEc a0 a1) (Xs a0 a1):=by unfold aEc Xs;repeat' (first|with_reducible refine AD ?_ fun _=>?_|with_reducible refine Aa (fun _=>?_) fun _=>?_|with_reducible exact La _ _ _ _|with_reducible exact Le.refl _|exact La _ _ _ _|refine AD ?_ fun _=>?_|refine Aa (fun _=>?_) fun _=>?_|exact Le.refl _)
def Jc(s1:AA)(s8:List X5)(s9:Int)(s10:Int)(w600:List Int):Option ((List Int)):=
 Ae s8 s10 fun x5=>
 AF (aFw w600 x5.symbol) fun r6=>
 AF (OY s1 s8 s9 s10 (!r6) x5 w600) fun o7=>
 some o7
theorem LM(s1:AA)(s8:List X5)(s9:Int)(s10:Int)(w600:List Int):Le (Jc s1 s8 s9 s10 w600) (Mc s1 s8 s9 s10 w600):=by unfold Jc Mc;repeat' (first|with_reducible refine AD ?_ fun _=>?_|with_reducible refine AY fun _=>?_|with_reducible exact aA4 _ _|with_reducible exact Le.refl _|exact aA4 _ _|refine AD ?_ fun _=>?_|refine AY fun _=>?_|exact Le.refl _)
def E1(s1:AA)(s8:List X5)(s9:Int)(s10:Int)(w600:List Int):Option ((Int×List Int)⊕((List Int))):=
 AE (decide (s10<s9)) (
  AF (Jc s1 s8 s9 s10 w600) fun o8=>
  some (.inl ((AB .add .i64 s10 1),o8))) (
  some (.inr w600))
theorem GV(s1:AA)(s8:List X5)(s9:Int)(s10:Int)(w600:List Int):Le (E1 s1 s8 s9 s10 w600) (DF s1 s8 s9 s10 w600):=by unfold E1 DF;repeat' (first|with_reducible refine AD ?_ fun _=>?_|with_reducible refine AJ ?_ ?_|with_reducible exact LM _ _ _ _ _|with_reducible exact Le.refl _|exact LM _ _ _ _ _|refine AD ?_ fun _=>?_|refine AJ ?_ ?_|exact Le.refl _)
def Jd(s1:AA)(s8:List X5)(s9:Int)(s10:Int)(w600:List Int):Option ((List Int)):=itE (fun s:Int×List Int=>E1 s1 s8 s9 s.1 s.2) 70 (s10,w600)
theorem LN(s1:AA)(s8:List X5)(s9:Int)(s10:Int)(w600:List Int):Le (Jd s1 s8 s9 s10 w600) (Md s1 s8 s9 s10 w600):=by unfold Jd Md;repeat' (first|with_reducible refine AP (fun _=>?_) _ _|with_reducible exact GV _ _ _ _ _|with_reducible exact Le.refl _|exact GV _ _ _ _ _|refine AP (fun _=>?_) _ _|exact Le.refl _)
def aDz(a0:AA):Option (Bool):=
 AF (Jd a0 a0.trans (a0.trans.length:Int) 0 ([]:List Int)) fun o9=>
 AF (aEt o9 a0 o9) fun r10=>
 AE (r10) (
  AF (aEa a0.symbols a0) fun r11=>
  AE (r11) (
   AF (aEc a0.quants a0) fun r12=>
   some r12) (
   some false)) (
  some false)
theorem ZF(a0:AA):Le (aDz a0) (Xi a0):=by unfold aDz Xi;repeat' (first|with_reducible refine AD ?_ fun _=>?_|with_reducible refine AJ ?_ ?_|with_reducible exact LN _ _ _ _ _|with_reducible exact aAb _ _ _|with_reducible exact ZP _ _|with_reducible exact ZQ _ _|with_reducible exact Le.refl _|exact LN _ _ _ _ _|exact aAb _ _ _|exact ZP _ _|exact ZQ _ _|refine AD ?_ fun _=>?_|refine AJ ?_ ?_|exact Le.refl _)
def aFh(a0:AA):Option (Bool):=
 AF (Q4 a0) fun r1=>
 AE (r1) (
  AF (aDr a0) fun r2=>
  AE (r2) (
   AF (aFm a0) fun r3=>
   AE (r3) (
    AF (aDz a0) fun r4=>
    some r4) (
    some false)) (
   some false)) (
  some false)
theorem aAt(a0:AA):Le (aFh a0) (Yu a0):=by unfold aFh Yu;repeat' (first|with_reducible refine AD ?_ fun _=>?_|with_reducible refine AJ ?_ ?_|with_reducible exact ZB _|with_reducible exact aAz _|with_reducible exact ZF _|with_reducible exact Le.refl _|exact ZB _|exact aAz _|exact ZF _|refine AD ?_ fun _=>?_|refine AJ ?_ ?_|exact Le.refl _)
def J3(s1:Int)(s8:List X0)(s9:Int)(w4:X4)(s10:Int):Option (Unit⊕X4):=itE (fun s:Int=>J4 s1 s8 s9 w4 s) 70 s10
theorem Ln(s1:Int)(s8:List X0)(s9:Int)(w4:X4)(s10:Int):Le (J3 s1 s8 s9 w4 s10) (UL s1 s8 s9 w4 s10):=by unfold J3 UL;repeat' (first|with_reducible refine AP (fun _=>?_) _ _|with_reducible exact Le.refl _|refine AP (fun _=>?_) _ _|exact Le.refl _)
def aCm(a0:List X0)(a1:Int):Option (X4×Bool):=
 AF (J3 a1 a0 (a0.length:Int) (X4.mk 0 0 ([]:List UInt8) false) 0) fun o2=>
 Ap o2 (fun o3=>
  some (X4.mk 0 0 ([]:List UInt8) false,false)) (fun o4=>
  some (o4,true))
theorem UN(a0:List X0)(a1:Int):Le (aCm a0 a1) (Y6 a0 a1):=by unfold aCm Y6;repeat' (first|with_reducible refine AD ?_ fun _=>?_|with_reducible refine Aa (fun _=>?_) fun _=>?_|with_reducible exact Ln _ _ _ _ _|with_reducible exact Le.refl _|exact Ln _ _ _ _ _|refine AD ?_ fun _=>?_|refine Aa (fun _=>?_) fun _=>?_|exact Le.refl _)
def KB(s3:Int)(s10:Int)(w4:List UInt8):Option ((List UInt8)):=itE (fun s:Int×List UInt8=>KC s3 s.1 s.2) 70 (s10,w4)
theorem Lx(s3:Int)(s10:Int)(w4:List UInt8):Le (KB s3 s10 w4) (UX s3 s10 w4):=by unfold KB UX;repeat' (first|with_reducible refine AP (fun _=>?_) _ _|with_reducible exact Le.refl _|refine AP (fun _=>?_) _ _|exact Le.refl _)
def aE8(a0:Int):Option (List UInt8):=
 AF (KB (AB .xor .u64 (IntKind.wrap .u64 a0) 9223372036854775808) 0 (List.replicate 8 (0:UInt8))) fun o1=>
 BC (0<=(8:Int)/\fit 0 (8:Int).toNat 1) (
  BC (o1.length=8) (
   some (o1.take (List.replicate (8:Int).toNat (0:UInt8)).length++(List.replicate (8:Int).toNat (0:UInt8)).drop o1.length)))
theorem aAj(a0:Int):Le (aE8 a0) (Ye a0):=by unfold aE8 Ye;repeat' (first|with_reducible refine AD ?_ fun _=>?_|with_reducible refine A9 ?_|with_reducible exact Lx _ _ _|with_reducible exact Le.refl _|exact Lx _ _ _|refine AD ?_ fun _=>?_|refine A9 ?_|exact Le.refl _)
def Ju(s0:List UInt8)(s6:Int)(s7:Int)(w3:List UInt8):Option ((List UInt8)):=itE (fun s:Int×List UInt8=>Jv s0 s6 s.1 s.2) 70 (s7,w3)
theorem Lg(s0:List UInt8)(s6:Int)(s7:Int)(w3:List UInt8):Le (Ju s0 s6 s7 w3) (UB s0 s6 s7 w3):=by unfold Ju UB;repeat' (first|with_reducible refine AP (fun _=>?_) _ _|with_reducible exact Le.refl _|refine AP (fun _=>?_) _ _|exact Le.refl _)
def aEi(a0:List UInt8):Option (List UInt8):=
 AF (Ju a0 (a0.length:Int) 0 ([]:List UInt8)) fun o9=>
 BC (fit o9.length [(0:UInt8),(1:UInt8)].length 1) (
  some (o9++[(0:UInt8),(1:UInt8)]))
theorem ZV(a0:List UInt8):Le (aEi a0) (Xy a0):=by unfold aEi Xy;repeat' (first|with_reducible refine AD ?_ fun _=>?_|with_reducible refine A9 ?_|with_reducible exact Lg _ _ _ _|with_reducible exact Le.refl _|exact Lg _ _ _ _|refine AD ?_ fun _=>?_|refine A9 ?_|exact Le.refl _)
def aGs(a0:X4):Option (List UInt8):=
 AE (decide (a0.kind=1)) (
  AF (aE8 a0.int) fun r1=>
  BC (fit [u8w a0.kind].length r1.length 1) (
   some ([u8w a0.kind]++r1))) (
  AE (decide (a0.kind=2)) (
   AF (aEi a0.str) fun r2=>
   BC (fit [u8w a0.kind].length r2.length 1) (
    some ([u8w a0.kind]++r2))) (
   AE (a0.bool) (
    BC (fit [u8w a0.kind].length [(1:UInt8)].length 1) (
     some ([u8w a0.kind]++[(1:UInt8)]))) (
    BC (fit [u8w a0.kind].length [(0:UInt8)].length 1) (
     some ([u8w a0.kind]++[(0:UInt8)])))))
theorem aBn(a0:X4):Le (aGs a0) (Zq a0):=by unfold aGs Zq;repeat' (first|with_reducible refine AD ?_ fun _=>?_|with_reducible refine AJ ?_ ?_|with_reducible refine A9 ?_|with_reducible exact aAj _|with_reducible exact ZV _|with_reducible exact Le.refl _|exact aAj _|exact ZV _|refine AD ?_ fun _=>?_|refine AJ ?_ ?_|refine A9 ?_|exact Le.refl _)
def FA(s6:List X4)(s7:Int)(s8:Int)(w3:List UInt8):Option ((Int×List UInt8)⊕((List UInt8)⊕Unit)):=
 AE (decide (s8<s7)) (
  Ae s6 s8 fun x4=>
  AF (Yy x4) fun r5=>
  AE (!r5) (
   some (.inr (.inr ()))) (
   AF (aGs x4) fun r6=>
   BC (fit w3.length r6.length 1) (
    some (.inl ((AB .add .i64 s8 1),w3++r6))))) (
  some (.inr (.inl w3)))
theorem Ge(s6:List X4)(s7:Int)(s8:Int)(w3:List UInt8):Le (FA s6 s7 s8 w3) (HO s6 s7 s8 w3):=by unfold FA HO;repeat' (first|with_reducible refine AD ?_ fun _=>?_|with_reducible refine AJ ?_ ?_|with_reducible refine A9 ?_|with_reducible refine AY fun _=>?_|with_reducible exact aBn _|with_reducible exact Le.refl _|exact aBn _|refine AD ?_ fun _=>?_|refine AJ ?_ ?_|refine A9 ?_|refine AY fun _=>?_|exact Le.refl _)
def Jq(s6:List X4)(s7:Int)(s8:Int)(w3:List UInt8):Option ((List UInt8)⊕Unit):=itE (fun s:Int×List UInt8=>FA s6 s7 s.1 s.2) 70 (s8,w3)
theorem Lb(s6:List X4)(s7:Int)(s8:Int)(w3:List UInt8):Le (Jq s6 s7 s8 w3) (T1 s6 s7 s8 w3):=by unfold Jq T1;repeat' (first|with_reducible refine AP (fun _=>?_) _ _|with_reducible exact Ge _ _ _ _|with_reducible exact Le.refl _|exact Ge _ _ _ _|refine AP (fun _=>?_) _ _|exact Le.refl _)
def aCj(a0:List X4):Option (List UInt8):=
 AF (Jq a0 (a0.length:Int) 0 ([]:List UInt8)) fun o7=>
 Ap o7 (fun o8=>
  some o8) (fun o9=>
  some ([]:List UInt8))
theorem T3(a0:List X4):Le (aCj a0) (Xt a0):=by unfold aCj Xt;repeat' (first|with_reducible refine AD ?_ fun _=>?_|with_reducible refine Aa (fun _=>?_) fun _=>?_|with_reducible exact Lb _ _ _ _|with_reducible exact Le.refl _|exact Lb _ _ _ _|refine AD ?_ fun _=>?_|refine Aa (fun _=>?_) fun _=>?_|exact Le.refl _)
def Ji(s0:List Int)(s1:Int)(s6:Int)(s7:Int)(s8:Int):Option (Int):=itE (fun s:Int×Int=>Jj s0 s1 s6 s.1 s.2) 70 (s7,s8)
theorem LS(s0:List Int)(s1:Int)(s6:Int)(s7:Int)(s8:Int):Le (Ji s0 s1 s6 s7 s8) (Tp s0 s1 s6 s7 s8):=by unfold Ji Tp;repeat' (first|with_reducible refine AP (fun _=>?_) _ _|with_reducible exact Le.refl _|refine AP (fun _=>?_) _ _|exact Le.refl _)
def ZJ(a0:List Int)(a1:Int):Option (Int×Bool):=
 AF (Ji a0 a1 (a0.length:Int) 0 (a0.length:Int)) fun o5=>
 AE (decide (o5<(a0.length:Int))) (
  Ae a0 o5 fun x6=>
  AE (decide (x6=a1)) (
   some (o5,true)) (
   Ae a0 o5 fun x7=>
   AF (Zu x7) fun r8=>
   AE (r8) (
    AF (Zu a1) fun r9=>
    some (o5,r9)) (
    some (o5,false)))) (
  some (o5,false))
theorem Me(a0:List Int)(a1:Int):Le (ZJ a0 a1) (Xl a0 a1):=by unfold ZJ Xl;repeat' (first|with_reducible refine AD ?_ fun _=>?_|with_reducible refine AJ ?_ ?_|with_reducible refine AY fun _=>?_|with_reducible exact LS _ _ _ _ _|with_reducible exact Le.refl _|exact LS _ _ _ _ _|refine AD ?_ fun _=>?_|refine AJ ?_ ?_|refine AY fun _=>?_|exact Le.refl _)
def aGu(a1:Int):Option (List Int):=
 AF (ZJ ([]:List Int) a1) fun r1=>
 AE (r1.2) (
  some ([]:List Int)) (
  AF (Qv r1.1 [a1]) fun r2=>
  some r2)
theorem aBo(a1:Int):Le (aGu a1) (Zr a1):=by unfold aGu Zr;repeat' (first|with_reducible refine AD ?_ fun _=>?_|with_reducible refine AJ ?_ ?_|with_reducible exact Me _ _|with_reducible exact Le.refl _|exact Me _ _|refine AD ?_ fun _=>?_|refine AJ ?_ ?_|exact Le.refl _)
def aGw(a0:List UInt8)(a2:Int)(w1:AA)(w2:MP Int (List X0))(w3:MP (List UInt8) (List Int)):Option (AA×MP Int (List X0)×MP (List UInt8) (List Int)):=
 BC ((Cs ([]:List Int) w3 a0).2=false) (
  AF (aGu a2) fun r1=>
  some (w1,w2,GH w3 a0 r1))
theorem aBp(a0:List UInt8)(a2:Int)(w1:AA)(w2:MP Int (List X0))(w3:MP (List UInt8) (List Int)):Le (aGw a0 a2 w1 w2 w3) (Zs a0 a2 w1 w2 w3):=by unfold aGw Zs;repeat' (first|with_reducible refine AD ?_ fun _=>?_|with_reducible refine A9 ?_|with_reducible exact aBo _|with_reducible exact Le.refl _|exact aBo _|refine AD ?_ fun _=>?_|refine A9 ?_|exact Le.refl _)
def JP(s1:List X0)(s2:Int)(s6:Int)(s10:List UInt8)(s17:List X3)(s18:Int)(s19:Int)(s25:List AT)(s26:Int)(s27:Int)(s45:Bool)(w0:AA)(w11:X4)(w502:MP Int (List X0))(w503:MP (List UInt8) (List Int))(w997:Int):Option ((List UInt8)):=
 AE (s45) (
  AF (aCj [w11]) fun r5=>
  BC (s10.length+r5.length<=9223372036854775807) (
   some (s10++r5))) (
  some s10)
theorem LA(s1:List X0)(s2:Int)(s6:Int)(s10:List UInt8)(s17:List X3)(s18:Int)(s19:Int)(s25:List AT)(s26:Int)(s27:Int)(s45:Bool)(w0:AA)(w11:X4)(w502:MP Int (List X0))(w503:MP (List UInt8) (List Int))(w997:Int):Le (JP s1 s2 s6 s10 s17 s18 s19 s25 s26 s27 s45 w0 w11 w502 w503 w997) (Ny s1 s2 s6 s10 s17 s18 s19 s25 s26 s27 s45 w0 w11 w502 w503 w997):=by unfold JP Ny;repeat' (first|with_reducible refine AD ?_ fun _=>?_|with_reducible refine AJ ?_ ?_|with_reducible refine A9 ?_|with_reducible exact T3 _|with_reducible exact Le.refl _|exact T3 _|refine AD ?_ fun _=>?_|refine AJ ?_ ?_|refine A9 ?_|exact Le.refl _)
def JO(s1:List X0)(s2:Int)(s6:Int)(s17:List X3)(s18:Int)(s19:Int)(s25:List AT)(s26:Int)(s27:Int)(w0:AA)(w502:MP Int (List X0))(w503:MP (List UInt8) (List Int))(w997:Int):Option ((AA×MP Int (List X0)×MP (List UInt8) (List Int))):=
 Ae s25 s27 fun x2=>
 AE (!decide (x2.kind=2)) (
  some (w0,w502,w503)) (
  AF (Q1 s6 s27) fun r3=>
  AF (aCm s1 x2.n) fun r4=>
  AF (JP s1 s2 s6 r3 s17 s18 s19 s25 s26 s27 r4.2 w0 r4.1 w502 w503 w997) fun o6=>
  AF (aGw o6 s2 w0 w502 w503) fun r7=>
  some (r7.1,r7.2.1,r7.2.2))
theorem K9(s1:List X0)(s2:Int)(s6:Int)(s17:List X3)(s18:Int)(s19:Int)(s25:List AT)(s26:Int)(s27:Int)(w0:AA)(w502:MP Int (List X0))(w503:MP (List UInt8) (List Int))(w997:Int):Le (JO s1 s2 s6 s17 s18 s19 s25 s26 s27 w0 w502 w503 w997) (Nw s1 s2 s6 s17 s18 s19 s25 s26 s27 w0 w502 w503 w997):=by unfold JO Nw;repeat' (first|with_reducible refine AD ?_ fun _=>?_|with_reducible refine AJ ?_ ?_|with_reducible refine AY fun _=>?_|with_reducible exact UN _ _|with_reducible exact LA _ _ _ _ _ _ _ _ _ _ _ _ _ _ _ _|with_reducible exact aBp _ _ _ _ _|with_reducible exact Le.refl _|exact UN _ _|exact LA _ _ _ _ _ _ _ _ _ _ _ _ _ _ _ _|exact aBp _ _ _ _ _|refine AD ?_ fun _=>?_|refine AJ ?_ ?_|refine AY fun _=>?_|exact Le.refl _)
def Eu(s1:List X0)(s2:Int)(s6:Int)(s17:List X3)(s18:Int)(s19:Int)(s25:List AT)(s26:Int)(w997:Int)(s27:Int)(w0:AA)(w502:MP Int (List X0))(w503:MP (List UInt8) (List Int)):Option ((Int×AA×MP Int (List X0)×MP (List UInt8) (List Int))⊕((AA×MP Int (List X0)×MP (List UInt8) (List Int)))):=
 AE (decide (s27<s26)) (
  AF (JO s1 s2 s6 s17 s18 s19 s25 s26 s27 w0 w502 w503 w997) fun o8=>
  some (.inl ((AB .add .i64 s27 1),o8.1,o8.2.1,o8.2.2))) (
  some (.inr (w0,w502,w503)))
theorem GT(s1:List X0)(s2:Int)(s6:Int)(s17:List X3)(s18:Int)(s19:Int)(s25:List AT)(s26:Int)(w997:Int)(s27:Int)(w0:AA)(w502:MP Int (List X0))(w503:MP (List UInt8) (List Int)):Le (Eu s1 s2 s6 s17 s18 s19 s25 s26 w997 s27 w0 w502 w503) (HJ s1 s2 s6 s17 s18 s19 s25 s26 w997 s27 w0 w502 w503):=by unfold Eu HJ;repeat' (first|with_reducible refine AD ?_ fun _=>?_|with_reducible refine AJ ?_ ?_|with_reducible exact K9 _ _ _ _ _ _ _ _ _ _ _ _ _|with_reducible exact Le.refl _|exact K9 _ _ _ _ _ _ _ _ _ _ _ _ _|refine AD ?_ fun _=>?_|refine AJ ?_ ?_|exact Le.refl _)
def JR(s1:List X0)(s2:Int)(s6:Int)(s17:List X3)(s18:Int)(s19:Int)(s25:List AT)(s26:Int)(w997:Int)(s27:Int)(w0:AA)(w502:MP Int (List X0))(w503:MP (List UInt8) (List Int)):Option ((AA×MP Int (List X0)×MP (List UInt8) (List Int))):=itE (fun s:Int×AA×MP Int (List X0)×MP (List UInt8) (List Int)=>Eu s1 s2 s6 s17 s18 s19 s25 s26 w997 s.1 s.2.1 s.2.2.1 s.2.2.2) 70 (s27,w0,w502,w503)
theorem LC(s1:List X0)(s2:Int)(s6:Int)(s17:List X3)(s18:Int)(s19:Int)(s25:List AT)(s26:Int)(w997:Int)(s27:Int)(w0:AA)(w502:MP Int (List X0))(w503:MP (List UInt8) (List Int)):Le (JR s1 s2 s6 s17 s18 s19 s25 s26 w997 s27 w0 w502 w503) (TB s1 s2 s6 s17 s18 s19 s25 s26 w997 s27 w0 w502 w503):=by unfold JR TB;repeat' (first|with_reducible refine AP (fun _=>?_) _ _|with_reducible exact GT _ _ _ _ _ _ _ _ _ _ _ _ _|with_reducible exact Le.refl _|exact GT _ _ _ _ _ _ _ _ _ _ _ _ _|refine AP (fun _=>?_) _ _|exact Le.refl _)
def Et(s1:List X0)(s2:Int)(s17:List X3)(s18:Int)(w997:Int)(s19:Int)(w0:AA)(w502:MP Int (List X0))(w503:MP (List UInt8) (List Int)):Option ((Int×AA×MP Int (List X0)×MP (List UInt8) (List Int))⊕((AA×MP Int (List X0)×MP (List UInt8) (List Int)))):=
 AE (decide (s19<s18)) (
  Ae s17 s19 fun x1=>
  AF (JR s1 s2 s19 s17 s18 s19 x1.args (x1.args.length:Int) w997 0 w0 w502 w503) fun o9=>
  some (.inl ((AB .add .i64 s19 1),o9.1,o9.2.1,o9.2.2))) (
  some (.inr (w0,w502,w503)))
theorem GS(s1:List X0)(s2:Int)(s17:List X3)(s18:Int)(w997:Int)(s19:Int)(w0:AA)(w502:MP Int (List X0))(w503:MP (List UInt8) (List Int)):Le (Et s1 s2 s17 s18 w997 s19 w0 w502 w503) (HI s1 s2 s17 s18 w997 s19 w0 w502 w503):=by unfold Et HI;repeat' (first|with_reducible refine AD ?_ fun _=>?_|with_reducible refine AJ ?_ ?_|with_reducible refine AY fun _=>?_|with_reducible exact LC _ _ _ _ _ _ _ _ _ _ _ _ _|with_reducible exact Le.refl _|exact LC _ _ _ _ _ _ _ _ _ _ _ _ _|refine AD ?_ fun _=>?_|refine AJ ?_ ?_|refine AY fun _=>?_|exact Le.refl _)
def JQ(s1:List X0)(s2:Int)(s17:List X3)(s18:Int)(w997:Int)(s19:Int)(w0:AA)(w502:MP Int (List X0))(w503:MP (List UInt8) (List Int)):Option ((AA×MP Int (List X0)×MP (List UInt8) (List Int))):=itE (fun s:Int×AA×MP Int (List X0)×MP (List UInt8) (List Int)=>Et s1 s2 s17 s18 w997 s.1 s.2.1 s.2.2.1 s.2.2.2) 70 (s19,w0,w502,w503)
theorem LB(s1:List X0)(s2:Int)(s17:List X3)(s18:Int)(w997:Int)(s19:Int)(w0:AA)(w502:MP Int (List X0))(w503:MP (List UInt8) (List Int)):Le (JQ s1 s2 s17 s18 w997 s19 w0 w502 w503) (S9 s1 s2 s17 s18 w997 s19 w0 w502 w503):=by unfold JQ S9;repeat' (first|with_reducible refine AP (fun _=>?_) _ _|with_reducible exact GS _ _ _ _ _ _ _ _ _|with_reducible exact Le.refl _|exact GS _ _ _ _ _ _ _ _ _|refine AP (fun _=>?_) _ _|exact Le.refl _)
def aDo(a1:List X0)(a2:Int)(w0:AA)(w2:MP Int (List X0))(w3:MP (List UInt8) (List Int)):Option (AA×MP Int (List X0)×MP (List UInt8) (List Int)):=
 AF (JQ a1 a2 w0.symbols (w0.symbols.length:Int) a2 0 w0 w2 w3) fun o10=>
 some (o10.1,o10.2.1,o10.2.2)
theorem ZA(a1:List X0)(a2:Int)(w0:AA)(w2:MP Int (List X0))(w3:MP (List UInt8) (List Int)):Le (aDo a1 a2 w0 w2 w3) (Xa a1 a2 w0 w2 w3):=by unfold aDo Xa;repeat' (first|with_reducible refine AD ?_ fun _=>?_|with_reducible exact LB _ _ _ _ _ _ _ _ _|with_reducible exact Le.refl _|exact LB _ _ _ _ _ _ _ _ _|refine AD ?_ fun _=>?_|exact Le.refl _)
def aAo(a1:Int)(a2:List X0)(w0:AA)(w1:MP Int (List X0))(w2:MP (List UInt8) (List Int)):Option (Bool×AA×MP Int (List X0)×MP (List UInt8) (List Int)):=
 AE ((Cs ([]:List X0) w1 a1).2) (
  some (false,w0,w1,w2)) (
  AF (Qt a2) fun r1=>
  AF (aDo a2 a1 w0 (GH w1 a1 r1) w2) fun r2=>
  some (true,r2.1,r2.2.1,r2.2.2))
theorem aAp(a1:Int)(a2:List X0)(w0:AA)(w1:MP Int (List X0))(w2:MP (List UInt8) (List Int)):Le (aAo a1 a2 w0 w1 w2) (Yr a1 a2 w0 w1 w2):=by unfold aAo Yr;repeat' (first|with_reducible refine AD ?_ fun _=>?_|with_reducible refine AJ ?_ ?_|with_reducible exact ZA _ _ _ _ _|with_reducible exact Le.refl _|exact ZA _ _ _ _ _|refine AD ?_ fun _=>?_|refine AJ ?_ ?_|exact Le.refl _)
def aGy(a1:Int)(w0:List Int):Option (List Int):=
 AF (ZJ w0 a1) fun r1=>
 AE (r1.2) (
  some w0) (
  AF (Qx r1.1 w0 [a1]) fun r2=>
  some r2)
theorem aBq(a1:Int)(w0:List Int):Le (aGy a1 w0) (Zt a1 w0):=by unfold aGy Zt;repeat' (first|with_reducible refine AD ?_ fun _=>?_|with_reducible refine AJ ?_ ?_|with_reducible exact Me _ _|with_reducible exact Le.refl _|exact Me _ _|refine AD ?_ fun _=>?_|refine AJ ?_ ?_|exact Le.refl _)
def FC(s10:List Int)(s11:Int)(s12:Int)(w5:List Int):Option ((Int×List Int)⊕((List Int))):=
 AE (decide (s12<s11)) (
  Ae s10 s12 fun x2=>
  AF (aGy x2 w5) fun r3=>
  some (.inl ((AB .add .i64 s12 1),r3))) (
  some (.inr w5))
theorem Gf(s10:List Int)(s11:Int)(s12:Int)(w5:List Int):Le (FC s10 s11 s12 w5) (HP s10 s11 s12 w5):=by unfold FC HP;repeat' (first|with_reducible refine AD ?_ fun _=>?_|with_reducible refine AJ ?_ ?_|with_reducible refine AY fun _=>?_|with_reducible exact aBq _ _|with_reducible exact Le.refl _|exact aBq _ _|refine AD ?_ fun _=>?_|refine AJ ?_ ?_|refine AY fun _=>?_|exact Le.refl _)
def Jr(s10:List Int)(s11:Int)(s12:Int)(w5:List Int):Option ((List Int)):=itE (fun s:Int×List Int=>FC s10 s11 s.1 s.2) 70 (s12,w5)
theorem Lc(s10:List Int)(s11:Int)(s12:Int)(w5:List Int):Le (Jr s10 s11 s12 w5) (T4 s10 s11 s12 w5):=by unfold Jr T4;repeat' (first|with_reducible refine AP (fun _=>?_) _ _|with_reducible exact Gf _ _ _ _|with_reducible exact Le.refl _|exact Gf _ _ _ _|refine AP (fun _=>?_) _ _|exact Le.refl _)
def aCk(a0:List Int)(a1:List Int):Option (List Int):=
 AF (Qw a0) fun r1=>
 AF (Jr a1 (a1.length:Int) 0 r1) fun o4=>
 some o4
theorem T6(a0:List Int)(a1:List Int):Le (aCk a0 a1) (Xu a0 a1):=by unfold aCk Xu;repeat' (first|with_reducible refine AD ?_ fun _=>?_|with_reducible exact Lc _ _ _ _|with_reducible exact Le.refl _|exact Lc _ _ _ _|refine AD ?_ fun _=>?_|exact Le.refl _)
def Je(s1:List Int)(s10:List Int)(s11:Int)(s12:Int)(w5:List Int):Option ((List Int)):=
 Ae s10 s12 fun x5=>
 AF (ZJ s1 x5) fun r6=>
 AF (Ti s1 x5 s10 s11 s12 r6.2 w5) fun o7=>
 some o7
theorem LO(s1:List Int)(s10:List Int)(s11:Int)(s12:Int)(w5:List Int):Le (Je s1 s10 s11 s12 w5) (Oc s1 s10 s11 s12 w5):=by unfold Je Oc;repeat' (first|with_reducible refine AD ?_ fun _=>?_|with_reducible refine AY fun _=>?_|with_reducible exact Me _ _|with_reducible exact Le.refl _|exact Me _ _|refine AD ?_ fun _=>?_|refine AY fun _=>?_|exact Le.refl _)
def E2(s1:List Int)(s10:List Int)(s11:Int)(s12:Int)(w5:List Int):Option ((Int×List Int)⊕((List Int))):=
 AE (decide (s12<s11)) (
  AF (Je s1 s10 s11 s12 w5) fun o8=>
  some (.inl ((AB .add .i64 s12 1),o8))) (
  some (.inr w5))
theorem GW(s1:List Int)(s10:List Int)(s11:Int)(s12:Int)(w5:List Int):Le (E2 s1 s10 s11 s12 w5) (HM s1 s10 s11 s12 w5):=by unfold E2 HM;repeat' (first|with_reducible refine AD ?_ fun _=>?_|with_reducible refine AJ ?_ ?_|with_reducible exact LO _ _ _ _ _|with_reducible exact Le.refl _|exact LO _ _ _ _ _|refine AD ?_ fun _=>?_|refine AJ ?_ ?_|exact Le.refl _)
def Jf(s1:List Int)(s10:List Int)(s11:Int)(s12:Int)(w5:List Int):Option ((List Int)):=itE (fun s:Int×List Int=>E2 s1 s10 s11 s.1 s.2) 70 (s12,w5)
theorem LP(s1:List Int)(s10:List Int)(s11:Int)(s12:Int)(w5:List Int):Le (Jf s1 s10 s11 s12 w5) (Tk s1 s10 s11 s12 w5):=by unfold Jf Tk;repeat' (first|with_reducible refine AP (fun _=>?_) _ _|with_reducible exact GW _ _ _ _ _|with_reducible exact Le.refl _|exact GW _ _ _ _ _|refine AP (fun _=>?_) _ _|exact Le.refl _)
def aD1(a0:List Int)(a1:List Int):Option (List Int):=
 AF (Jf a1 a0 (a0.length:Int) 0 ([]:List Int)) fun o9=>
 some o9
theorem ZG(a0:List Int)(a1:List Int):Le (aD1 a0 a1) (Xj a0 a1):=by unfold aD1 Xj;repeat' (first|with_reducible refine AD ?_ fun _=>?_|with_reducible exact LP _ _ _ _ _|with_reducible exact Le.refl _|exact LP _ _ _ _ _|refine AD ?_ fun _=>?_|exact Le.refl _)
def JW(s2:Bool)(s7:List Int)(s8:Bool)(s13:List UInt8)(s14:List Int)(s24:List AT)(s25:Int)(s26:Int)(s58:Bool)(w0:AA)(w4:A8)(w501:MP Int (List X0))(w502:MP (List UInt8) (List Int)):Option ((List Int)):=
 AE (s58) (
  AF (aCk s14 ((Cs ([]:List Int) w502 s13).1)) fun r16=>
  some r16) (
  some s14)
theorem LH(s2:Bool)(s7:List Int)(s8:Bool)(s13:List UInt8)(s14:List Int)(s24:List AT)(s25:Int)(s26:Int)(s58:Bool)(w0:AA)(w4:A8)(w501:MP Int (List X0))(w502:MP (List UInt8) (List Int)):Le (JW s2 s7 s8 s13 s14 s24 s25 s26 s58 w0 w4 w501 w502) (OJ s2 s7 s8 s13 s14 s24 s25 s26 s58 w0 w4 w501 w502):=by unfold JW OJ;repeat' (first|with_reducible refine AD ?_ fun _=>?_|with_reducible refine AJ ?_ ?_|with_reducible exact T6 _ _|with_reducible exact Le.refl _|exact T6 _ _|refine AD ?_ fun _=>?_|refine AJ ?_ ?_|exact Le.refl _)
def JX(s2:Bool)(s7:List Int)(s8:Bool)(s14:List Int)(s24:List AT)(s25:Int)(s26:Int)(s67:Bool)(w0:AA)(w4:A8)(w501:MP Int (List X0))(w502:MP (List UInt8) (List Int)):Option ((List Int×Bool)):=
 AE (s67) (
  AF (Qy s14) fun r18=>
  some (r18,false)) (
  AF (aD1 s7 s14) fun r19=>
  some (r19,s8))
theorem LI(s2:Bool)(s7:List Int)(s8:Bool)(s14:List Int)(s24:List AT)(s25:Int)(s26:Int)(s67:Bool)(w0:AA)(w4:A8)(w501:MP Int (List X0))(w502:MP (List UInt8) (List Int)):Le (JX s2 s7 s8 s14 s24 s25 s26 s67 w0 w4 w501 w502) (OK s2 s7 s8 s14 s24 s25 s26 s67 w0 w4 w501 w502):=by unfold JX OK;repeat' (first|with_reducible refine AD ?_ fun _=>?_|with_reducible refine AJ ?_ ?_|with_reducible exact ZG _ _|with_reducible exact Le.refl _|exact ZG _ _|refine AD ?_ fun _=>?_|refine AJ ?_ ?_|exact Le.refl _)
def JV(s2:Bool)(s7:List Int)(s8:Bool)(s24:List AT)(s25:Int)(s26:Int)(w0:AA)(w4:A8)(w501:MP Int (List X0))(w502:MP (List UInt8) (List Int)):Option ((List Int×Bool)):=
 Ae s24 s26 fun x12=>
 AE (!decide (x12.kind=2)) (
  some (s7,s8)) (
  AF (aCm w4.bind x12.n) fun r13=>
  AF (Q1 w4.symbol s26) fun r14=>
  AF (aCj [r13.1]) fun r15=>
  BC (r14.length+r15.length<=9223372036854775807) (
   AF (JW s2 s7 s8 r14 ((Cs ([]:List Int) w502 (r14++r15)).1) s24 s25 s26 (!s2) w0 w4 w501 w502) fun o17=>
   AF (JX s2 s7 s8 o17 s24 s25 s26 s8 w0 w4 w501 w502) fun o20=>
   some (o20.1,o20.2)))
theorem LG(s2:Bool)(s7:List Int)(s8:Bool)(s24:List AT)(s25:Int)(s26:Int)(w0:AA)(w4:A8)(w501:MP Int (List X0))(w502:MP (List UInt8) (List Int)):Le (JV s2 s7 s8 s24 s25 s26 w0 w4 w501 w502) (OI s2 s7 s8 s24 s25 s26 w0 w4 w501 w502):=by unfold JV OI;repeat' (first|with_reducible refine AD ?_ fun _=>?_|with_reducible refine AJ ?_ ?_|with_reducible refine A9 ?_|with_reducible refine AY fun _=>?_|with_reducible exact UN _ _|with_reducible exact T3 _|with_reducible exact LH _ _ _ _ _ _ _ _ _ _ _ _ _|with_reducible exact LI _ _ _ _ _ _ _ _ _ _ _ _|with_reducible exact Le.refl _|exact UN _ _|exact T3 _|exact LH _ _ _ _ _ _ _ _ _ _ _ _ _|exact LI _ _ _ _ _ _ _ _ _ _ _ _|refine AD ?_ fun _=>?_|refine AJ ?_ ?_|refine A9 ?_|refine AY fun _=>?_|exact Le.refl _)
def Ev(s2:Bool)(s24:List AT)(s25:Int)(w0:AA)(w4:A8)(w501:MP Int (List X0))(w502:MP (List UInt8) (List Int))(s7:List Int)(s8:Bool)(s26:Int):Option ((List Int×Bool×Int)⊕((List Int×Bool))):=
 AE (decide (s26<s25)) (
  AF (JV s2 s7 s8 s24 s25 s26 w0 w4 w501 w502) fun o21=>
  some (.inl (o21.1,o21.2,(AB .add .i64 s26 1)))) (
  some (.inr (s7,s8)))
theorem GU(s2:Bool)(s24:List AT)(s25:Int)(w0:AA)(w4:A8)(w501:MP Int (List X0))(w502:MP (List UInt8) (List Int))(s7:List Int)(s8:Bool)(s26:Int):Le (Ev s2 s24 s25 w0 w4 w501 w502 s7 s8 s26) (HK s2 s24 s25 w0 w4 w501 w502 s7 s8 s26):=by unfold Ev HK;repeat' (first|with_reducible refine AD ?_ fun _=>?_|with_reducible refine AJ ?_ ?_|with_reducible exact LG _ _ _ _ _ _ _ _ _ _|with_reducible exact Le.refl _|exact LG _ _ _ _ _ _ _ _ _ _|refine AD ?_ fun _=>?_|refine AJ ?_ ?_|exact Le.refl _)
def JY(s2:Bool)(s24:List AT)(s25:Int)(w0:AA)(w4:A8)(w501:MP Int (List X0))(w502:MP (List UInt8) (List Int))(s7:List Int)(s8:Bool)(s26:Int):Option ((List Int×Bool)):=itE (fun s:List Int×Bool×Int=>Ev s2 s24 s25 w0 w4 w501 w502 s.1 s.2.1 s.2.2) 70 (s7,s8,s26)
theorem LJ(s2:Bool)(s24:List AT)(s25:Int)(w0:AA)(w4:A8)(w501:MP Int (List X0))(w502:MP (List UInt8) (List Int))(s7:List Int)(s8:Bool)(s26:Int):Le (JY s2 s24 s25 w0 w4 w501 w502 s7 s8 s26) (TS s2 s24 s25 w0 w4 w501 w502 s7 s8 s26):=by unfold JY TS;repeat' (first|with_reducible refine AP (fun _=>?_) _ _|with_reducible exact GU _ _ _ _ _ _ _ _ _ _|with_reducible exact Le.refl _|exact GU _ _ _ _ _ _ _ _ _ _|refine AP (fun _=>?_) _ _|exact Le.refl _)
def aDt(a1:A8)(a2:Bool)(w0:AA)(w1:MP Int (List X0))(w2:MP (List UInt8) (List Int)):Option (List Int×AA×MP Int (List X0)×MP (List UInt8) (List Int)):=
 Ae w0.symbols a1.symbol fun x1=>
 AF (JY a2 x1.args (x1.args.length:Int) w0 a1 w1 w2 ([]:List Int) true 0) fun o22=>
 AE (o22.2) (
  none) (
  some (o22.1,w0,w1,w2))
theorem ZD(a1:A8)(a2:Bool)(w0:AA)(w1:MP Int (List X0))(w2:MP (List UInt8) (List Int)):Le (aDt a1 a2 w0 w1 w2) (Xe a1 a2 w0 w1 w2):=by unfold aDt Xe;repeat' (first|with_reducible refine AD ?_ fun _=>?_|with_reducible refine AJ ?_ ?_|with_reducible refine AY fun _=>?_|with_reducible exact LJ _ _ _ _ _ _ _ _ _ _|with_reducible exact Le.refl _|exact LJ _ _ _ _ _ _ _ _ _ _|refine AD ?_ fun _=>?_|refine AJ ?_ ?_|refine AY fun _=>?_|exact Le.refl _)
def FH(s2:Bool)(s12:List A8)(s13:Int)(s7:List Int)(s14:Int)(w0:AA)(w501:MP Int (List X0))(w502:MP (List UInt8) (List Int)):Option ((List Int×Int×AA×MP Int (List X0)×MP (List UInt8) (List Int))⊕((List Int×AA×MP Int (List X0)×MP (List UInt8) (List Int)))):=
 AE (decide (s14<s13)) (
  Ae s12 s14 fun x4=>
  AF (aDt x4 s2 w0 w501 w502) fun r5=>
  AF (aCk s7 r5.1) fun r6=>
  some (.inl (r6,(AB .add .i64 s14 1),r5.2.1,r5.2.2.1,r5.2.2.2))) (
  some (.inr (s7,w0,w501,w502)))
theorem Gi(s2:Bool)(s12:List A8)(s13:Int)(s7:List Int)(s14:Int)(w0:AA)(w501:MP Int (List X0))(w502:MP (List UInt8) (List Int)):Le (FH s2 s12 s13 s7 s14 w0 w501 w502) (HQ s2 s12 s13 s7 s14 w0 w501 w502):=by unfold FH HQ;repeat' (first|with_reducible refine AD ?_ fun _=>?_|with_reducible refine AJ ?_ ?_|with_reducible refine AY fun _=>?_|with_reducible exact ZD _ _ _ _ _|with_reducible exact T6 _ _|with_reducible exact Le.refl _|exact ZD _ _ _ _ _|exact T6 _ _|refine AD ?_ fun _=>?_|refine AJ ?_ ?_|refine AY fun _=>?_|exact Le.refl _)
def Jy(s2:Bool)(s12:List A8)(s13:Int)(s7:List Int)(s14:Int)(w0:AA)(w501:MP Int (List X0))(w502:MP (List UInt8) (List Int)):Option ((List Int×AA×MP Int (List X0)×MP (List UInt8) (List Int))):=itE (fun s:List Int×Int×AA×MP Int (List X0)×MP (List UInt8) (List Int)=>FH s2 s12 s13 s.1 s.2.1 s.2.2.1 s.2.2.2.1 s.2.2.2.2) 70 (s7,s14,w0,w501,w502)
theorem Li(s2:Bool)(s12:List A8)(s13:Int)(s7:List Int)(s14:Int)(w0:AA)(w501:MP Int (List X0))(w502:MP (List UInt8) (List Int)):Le (Jy s2 s12 s13 s7 s14 w0 w501 w502) (UF s2 s12 s13 s7 s14 w0 w501 w502):=by unfold Jy UF;repeat' (first|with_reducible refine AP (fun _=>?_) _ _|with_reducible exact Gi _ _ _ _ _ _ _ _|with_reducible exact Le.refl _|exact Gi _ _ _ _ _ _ _ _|refine AP (fun _=>?_) _ _|exact Le.refl _)
def aEl(a1:List A8)(a2:Bool)(w0:AA)(w1:MP Int (List X0))(w2:MP (List UInt8) (List Int)):Option (List Int×AA×MP Int (List X0)×MP (List UInt8) (List Int)):=
 AF (Jy a2 a1 (a1.length:Int) ([]:List Int) 0 w0 w1 w2) fun o7=>
 some (o7.1,o7.2.1,o7.2.2.1,o7.2.2.2)
theorem ZX(a1:List A8)(a2:Bool)(w0:AA)(w1:MP Int (List X0))(w2:MP (List UInt8) (List Int)):Le (aEl a1 a2 w0 w1 w2) (Y1 a1 a2 w0 w1 w2):=by unfold aEl Y1;repeat' (first|with_reducible refine AD ?_ fun _=>?_|with_reducible exact Li _ _ _ _ _ _ _ _|with_reducible exact Le.refl _|exact Li _ _ _ _ _ _ _ _|refine AD ?_ fun _=>?_|exact Le.refl _)
def aGq(a1:List A8)(w0:AA)(w1:MP Int (List X0))(w2:MP (List UInt8) (List Int)):Option (List Int×AA×MP Int (List X0)×MP (List UInt8) (List Int)):=
 AF (aEl a1 false w0 w1 w2) fun r1=>
 some (r1.1,r1.2.1,r1.2.2.1,r1.2.2.2)
theorem aBj(a1:List A8)(w0:AA)(w1:MP Int (List X0))(w2:MP (List UInt8) (List Int)):Le (aGq a1 w0 w1 w2) (Zl a1 w0 w1 w2):=by unfold aGq Zl;repeat' (first|with_reducible refine AD ?_ fun _=>?_|with_reducible exact ZX _ _ _ _ _|with_reducible exact Le.refl _|exact ZX _ _ _ _ _|refine AD ?_ fun _=>?_|exact Le.refl _)
def EI(o3:AA×MP Int (List X0)×MP (List UInt8) (List Int)):Option (Bool):=
 AF (Zk 5) fun r4=>
 AF (aAo 4 [r4] o3.1 o3.2.1 o3.2.2) fun r5=>
 AF (Zk 6) fun r6=>
 AF (aAo 5 [r6] r5.2.1 r5.2.2.1 r5.2.2.2) fun r7=>
 AF (aAo 6 ([]:List X0) r7.2.1 r7.2.2.1 r7.2.2.2) fun r8=>
 AF (Zk 5) fun r9=>
 AF (aGq ([A8.mk 0 [r9] ([]:List X0)]) r8.2.1 r8.2.2.1 r8.2.2.2) fun r10=>
 AE (decide ((r10.1.length:Int)=2)) (
  Ae r10.1 0 fun x11=>
  AE (decide (x11=4)) (
   Ae r10.1 1 fun x12=>
   some (decide (x12=6))) (
   some false)) (
  some false)
theorem Fq(o3:AA×MP Int (List X0)×MP (List UInt8) (List Int)):Le (EI o3) (Eh o3):=by unfold EI Eh;repeat' (first|with_reducible refine AD ?_ fun _=>?_|with_reducible refine AJ ?_ ?_|with_reducible refine AY fun _=>?_|with_reducible exact aAp _ _ _ _ _|with_reducible exact aBj _ _ _ _|with_reducible exact Le.refl _|exact aAp _ _ _ _ _|exact aBj _ _ _ _|refine AD ?_ fun _=>?_|refine AJ ?_ ?_|refine AY fun _=>?_|exact Le.refl _)
def Fp:Option (Bool):=
 AF (aFh CS) fun r1=>
 AE (r1) (
  EI (CS,(GG:MP Int (List X0)),(GG:MP (List UInt8) (List Int)))) (
  some false)
theorem Is:Le (Fp) (Da):=by unfold Fp Da;repeat' (first|with_reducible refine AD ?_ fun _=>?_|with_reducible refine AJ ?_ ?_|with_reducible exact aAt _|with_reducible exact Fq _|with_reducible exact Le.refl _|exact aAt _|exact Fq _|refine AD ?_ fun _=>?_|refine AJ ?_ ?_|exact Le.refl _)
theorem Ir:Da=some true:=Is _ (by kernel_rfl)
theorem Wq:Zm=some true:=by
 have h:=Ir;unfold Da at h;cases hc:Yu CS with
 |none=>rw[hc]at h;cases h
 |some b=>
  rw[hc,AH]at h
  cases b with
  |false=>cases h
  |true=>
   rw[AW]at h
   have h1:Zp CS=none:=by unfold Zp;rw[hc];rfl
   have h2:Zv CS=some (CS,GG,GG):=by unfold Zv;rw[hc];rfl
   have e:Zm=AF (Wz (Zp CS) (Zv CS)) fun o1=>Ap o1 (fun _=>some false) fun o3=>Eh o3:=rfl
   rw[e,h1,h2]
   exact h
end
end Go.Ac
