/- Own work: the plain law. -/
import Derived.Test.YtnjgfcpccmiglaaGreatDoorP25pK0
import Derived.Test.YtnjgfcpccmiglaaGreatDoorAcD
set_option linter.unusedVariables false
set_option linter.unusedSimpArgs false
namespace Go.Ac
noncomputable section
def aCd(s:List UInt8):Option Bool:=some (spB s)
theorem En(s:List UInt8):Le (aCd s) (Qm s):=fun _ h=>(aLt s).trans h
def NO(s0:List X8)(s1:List UInt8)(s7:Int)(s8:Int):Option (Unit⊕Int):=itE (fun s:Int=>G5 s0 s1 s7 s) 70 s8
theorem Pp(s0:List X8)(s1:List UInt8)(s7:Int)(s8:Int):Le (NO s0 s1 s7 s8) (WU s0 s1 s7 s8):=by unfold NO WU;repeat' (first|with_reducible refine AS (fun _=>?_) _ _|with_reducible exact Le.refl _|refine AS (fun _=>?_) _ _|exact Le.refl _)
def aX0(a0:List X8)(a1:List UInt8):Option (Int):=
 AG (NO a0 a1 (a0.length:Int) 0) fun o3=>
 As o3 (fun o4=>
  some (-1)) (fun o5=>
  some o5)
theorem aRf(a0:List X8)(a1:List UInt8):Le (aX0 a0 a1) (Yl a0 a1):=by unfold aX0 Yl;repeat' (first|with_reducible refine AF ?_ fun _=>?_|with_reducible refine Ap (fun _=>?_) fun _=>?_|with_reducible exact Pp _ _ _ _|with_reducible exact Le.refl _|exact Pp _ _ _ _|refine AF ?_ fun _=>?_|refine Ap (fun _=>?_) fun _=>?_|exact Le.refl _)
def aUk(a0:List X8)(a1:List UInt8):Option (Int×Bool):=
 AG (aX0 a0 a1) fun r1=>
 some ((Fv r1 0),decide (0<=r1))
theorem aPo(a0:List X8)(a1:List UInt8):Le (aUk a0 a1) (Q5 a0 a1):=by unfold aUk Q5;repeat' (first|with_reducible refine AF ?_ fun _=>?_|with_reducible exact aRf _ _|with_reducible exact Le.refl _|exact aRf _ _|refine AF ?_ fun _=>?_|exact Le.refl _)
def NN(s0:List (List UInt8))(s1:List UInt8)(s7:Int)(s8:Int):Option (Unit⊕Int):=itE (fun s:Int=>Gz s0 s1 s7 s) 70 s8
theorem Pn(s0:List (List UInt8))(s1:List UInt8)(s7:Int)(s8:Int):Le (NN s0 s1 s7 s8) (WF s0 s1 s7 s8):=by unfold NN WF;repeat' (first|with_reducible refine AS (fun _=>?_) _ _|with_reducible exact Le.refl _|refine AS (fun _=>?_) _ _|exact Le.refl _)
def aTx(a0:List (List UInt8))(a1:List UInt8):Option (Int):=
 AG (NN a0 a1 (a0.length:Int) 0) fun o2=>
 As o2 (fun o3=>
  some (-1)) (fun o4=>
  some o4)
theorem aGl(a0:List (List UInt8))(a1:List UInt8):Le (aTx a0 a1) (Yg a0 a1):=by unfold aTx Yg;repeat' (first|with_reducible refine AF ?_ fun _=>?_|with_reducible refine Ap (fun _=>?_) fun _=>?_|with_reducible exact Pn _ _ _ _|with_reducible exact Le.refl _|exact Pn _ _ _ _|refine AF ?_ fun _=>?_|refine Ap (fun _=>?_) fun _=>?_|exact Le.refl _)
def aUm(a0:List (List UInt8))(a1:List UInt8):Option (Bool):=
 AG (aTx a0 a1) fun r1=>
 some (decide (0<=r1))
theorem aPp(a0:List (List UInt8))(a1:List UInt8):Le (aUm a0 a1) (Q7 a0 a1):=by unfold aUm Q7;repeat' (first|with_reducible refine AF ?_ fun _=>?_|with_reducible exact aGl _ _|with_reducible exact Le.refl _|exact aGl _ _|refine AF ?_ fun _=>?_|exact Le.refl _)
def aY9(a0:List UInt8):Option (Bool):=
 AG (aCd a0) fun r1=>
 AE (r1) (
  AG (aUm By a0) fun r2=>
  some r2) (
  some false)
theorem aSb(a0:List UInt8):Le (aY9 a0) (Zt a0):=by unfold aY9 Zt;repeat' (first|with_reducible refine AF ?_ fun _=>?_|with_reducible refine AO ?_ ?_|with_reducible exact En _|with_reducible exact aPp _ _|with_reducible exact Le.refl _|exact En _|exact aPp _ _|refine AF ?_ fun _=>?_|refine AO ?_ ?_|exact Le.refl _)
def aRr(a0:List UInt8):Option (Bool):=
 AG (aCd a0) fun r1=>
 AE (r1) (
  AG (aY9 a0) fun r2=>
  AE (!r2) (
   some (!decide (a0=([95]:List UInt8)))) (
   some false)) (
  some false)
theorem Rx(a0:List UInt8):Le (aRr a0) (Z1 a0):=by unfold aRr Z1;repeat' (first|with_reducible refine AF ?_ fun _=>?_|with_reducible refine AO ?_ ?_|with_reducible exact En _|with_reducible exact aSb _|with_reducible exact Le.refl _|exact En _|exact aSb _|refine AF ?_ fun _=>?_|refine AO ?_ ?_|exact Le.refl _)
def NS(s0:List Int)(s7:Int)(s8:Int):Option (Unit⊕Int):=itE (fun s:Int=>G9 s0 s7 s) 70 s8
theorem Pt(s0:List Int)(s7:Int)(s8:Int):Le (NS s0 s7 s8) (Wh s0 s7 s8):=by unfold NS Wh;repeat' (first|with_reducible refine AS (fun _=>?_) _ _|with_reducible exact Le.refl _|refine AS (fun _=>?_) _ _|exact Le.refl _)
def aX8(a0:List Int):Option (Int):=
 AG (NS a0 (a0.length:Int) 0) fun o3=>
 As o3 (fun o4=>
  some (-1)) (fun o5=>
  some o5)
theorem aRj(a0:List Int):Le (aX8 a0) (Yp a0):=by unfold aX8 Yp;repeat' (first|with_reducible refine AF ?_ fun _=>?_|with_reducible refine Ap (fun _=>?_) fun _=>?_|with_reducible exact Pt _ _ _|with_reducible exact Le.refl _|exact Pt _ _ _|refine AF ?_ fun _=>?_|refine Ap (fun _=>?_) fun _=>?_|exact Le.refl _)
def aUo(a0:List Int):Option (Bool):=
 AG (aX8 a0) fun r1=>
 some (decide (0<=r1))
theorem aPq(a0:List Int):Le (aUo a0) (Q8 a0):=by unfold aUo Q8;repeat' (first|with_reducible refine AF ?_ fun _=>?_|with_reducible exact aRj _|with_reducible exact Le.refl _|exact aRj _|refine AF ?_ fun _=>?_|exact Le.refl _)
def aZf(a0:List X8)(a1:Int):Option (Int):=
 Ab a0 a1 fun x1=>
 AG (aUk a0 x1.name) fun r2=>
 AG (aRr x1.name) fun r3=>
 AE (!r3) (
  some 11) (
  AE (decide (r2.1<a1)) (
   some 10) (
   AE (decide (8<(x1.types.length:Int))) (
    some 14) (
    AG (aUo x1.types) fun r4=>
    AE (r4) (
     some 8) (
     some 0))))
theorem aSf(a0:List X8)(a1:Int):Le (aZf a0 a1) (Zw a0 a1):=by unfold aZf Zw;repeat' (first|with_reducible refine AF ?_ fun _=>?_|with_reducible refine AO ?_ ?_|with_reducible refine Af fun _=>?_|with_reducible exact aPo _ _|with_reducible exact Rx _|with_reducible exact aPq _|with_reducible exact Le.refl _|exact aPo _ _|exact Rx _|exact aPq _|refine AF ?_ fun _=>?_|refine AO ?_ ?_|refine Af fun _=>?_|exact Le.refl _)
def Gs(s0:List X8)(s10:Int)(s11:Int):Option ((Int)⊕(Unit⊕(Int×Int))):=
 AE (decide (s11<s10)) (
  AG (aZf s0 s11) fun r1=>
  AE (!decide (r1=0)) (
   some (.inr (.inr (s11,r1)))) (
   some (.inl (AB .add .i64 s11 1)))) (
  some (.inr (.inl ())))
theorem Iw(s0:List X8)(s10:Int)(s11:Int):Le (Gs s0 s10 s11) (EB s0 s10 s11):=by unfold Gs EB;repeat' (first|with_reducible refine AF ?_ fun _=>?_|with_reducible refine AO ?_ ?_|with_reducible exact aSf _ _|with_reducible exact Le.refl _|exact aSf _ _|refine AF ?_ fun _=>?_|refine AO ?_ ?_|exact Le.refl _)
def NG(s0:List X8)(s10:Int)(s11:Int):Option (Unit⊕(Int×Int)):=itE (fun s:Int=>Gs s0 s10 s) 70 s11
theorem Ph(s0:List X8)(s10:Int)(s11:Int):Le (NG s0 s10 s11) (Vu s0 s10 s11):=by unfold NG Vu;repeat' (first|with_reducible refine AS (fun _=>?_) _ _|with_reducible exact Iw _ _ _|with_reducible exact Le.refl _|exact Iw _ _ _|refine AS (fun _=>?_) _ _|exact Le.refl _)
def aXh(a0:List X8):Option (Int×Int):=
 AE (decide (32<(a0.length:Int))) (
  some (32,14)) (
  AG (NG a0 (a0.length:Int) 0) fun o2=>
  As o2 (fun o3=>
   some ((-1),0)) (fun o4=>
   some (o4.1,o4.2)))
theorem aQ8(a0:List X8):Le (aXh a0) (Y7 a0):=by unfold aXh Y7;repeat' (first|with_reducible refine AF ?_ fun _=>?_|with_reducible refine AO ?_ ?_|with_reducible refine Ap (fun _=>?_) fun _=>?_|with_reducible exact Ph _ _ _|with_reducible exact Le.refl _|exact Ph _ _ _|refine AF ?_ fun _=>?_|refine AO ?_ ?_|refine Ap (fun _=>?_) fun _=>?_|exact Le.refl _)
def aUq(a0:Int)(a1:List UInt8)(a2:List (List UInt8)):Option (Bool):=
 AG (aRr a1) fun r1=>
 AE (r1) (
  AG (aTx a2 a1) fun r2=>
  some (decide (r2=a0))) (
  some false)
theorem aPr(a0:Int)(a1:List UInt8)(a2:List (List UInt8)):Le (aUq a0 a1 a2) (Q9 a0 a1 a2):=by unfold aUq Q9;repeat' (first|with_reducible refine AF ?_ fun _=>?_|with_reducible refine AO ?_ ?_|with_reducible exact Rx _|with_reducible exact aGl _ _|with_reducible exact Le.refl _|exact Rx _|exact aGl _ _|refine AF ?_ fun _=>?_|refine AO ?_ ?_|exact Le.refl _)
def Gx(s1:List (List UInt8))(s7:List (List UInt8))(s8:Int)(s9:Int):Option ((Int)⊕(Unit⊕Unit)):=
 AE (decide (s9<s8)) (
  Ab s7 s9 fun x1=>
  AG (aUq s9 x1 s1) fun r2=>
  AE (!r2) (
   some (.inr (.inr ()))) (
   some (.inl (AB .add .i64 s9 1)))) (
  some (.inr (.inl ())))
theorem I0(s1:List (List UInt8))(s7:List (List UInt8))(s8:Int)(s9:Int):Le (Gx s1 s7 s8 s9) (FD s1 s7 s8 s9):=by unfold Gx FD;repeat' (first|with_reducible refine AF ?_ fun _=>?_|with_reducible refine AO ?_ ?_|with_reducible refine Af fun _=>?_|with_reducible exact aPr _ _ _|with_reducible exact Le.refl _|exact aPr _ _ _|refine AF ?_ fun _=>?_|refine AO ?_ ?_|refine Af fun _=>?_|exact Le.refl _)
def NK(s1:List (List UInt8))(s7:List (List UInt8))(s8:Int)(s9:Int):Option (Unit⊕Unit):=itE (fun s:Int=>Gx s1 s7 s8 s) 70 s9
theorem Pl(s1:List (List UInt8))(s7:List (List UInt8))(s8:Int)(s9:Int):Le (NK s1 s7 s8 s9) (V8 s1 s7 s8 s9):=by unfold NK V8;repeat' (first|with_reducible refine AS (fun _=>?_) _ _|with_reducible exact I0 _ _ _ _|with_reducible exact Le.refl _|exact I0 _ _ _ _|refine AS (fun _=>?_) _ _|exact Le.refl _)
def aXq(a0:List (List UInt8))(a1:List (List UInt8)):Option (Bool):=
 AG (NK a1 a0 (a0.length:Int) 0) fun o3=>
 As o3 (fun o4=>
  some true) (fun o5=>
  some false)
theorem aRc(a0:List (List UInt8))(a1:List (List UInt8)):Le (aXq a0 a1) (Yd a0 a1):=by unfold aXq Yd;repeat' (first|with_reducible refine AF ?_ fun _=>?_|with_reducible refine Ap (fun _=>?_) fun _=>?_|with_reducible exact Pl _ _ _ _|with_reducible exact Le.refl _|exact Pl _ _ _ _|refine AF ?_ fun _=>?_|refine Ap (fun _=>?_) fun _=>?_|exact Le.refl _)
def aTy(a0:List (List UInt8)):Option (Bool):=
 AG (aXq a0 a0) fun r1=>
 some r1
theorem aR5(a0:List (List UInt8)):Le (aTy a0) (Zo a0):=by unfold aTy Zo;repeat' (first|with_reducible refine AF ?_ fun _=>?_|with_reducible exact aRc _ _|with_reducible exact Le.refl _|exact aRc _ _|refine AF ?_ fun _=>?_|exact Le.refl _)
def NP(s7:List Xd)(s8:Int)(s9:Int):Option (Unit⊕Unit):=itE (fun s:Int=>G6 s7 s8 s) 70 s9
theorem Pq(s7:List Xd)(s8:Int)(s9:Int):Le (NP s7 s8 s9) (WX s7 s8 s9):=by unfold NP WX;repeat' (first|with_reducible refine AS (fun _=>?_) _ _|with_reducible exact Le.refl _|refine AS (fun _=>?_) _ _|exact Le.refl _)
def aX2(a0:List Xd):Option (Bool):=
 AG (NP a0 (a0.length:Int) 0) fun o3=>
 As o3 (fun o4=>
  some true) (fun o5=>
  some false)
theorem aRg(a0:List Xd):Le (aX2 a0) (Ym a0):=by unfold aX2 Ym;repeat' (first|with_reducible refine AF ?_ fun _=>?_|with_reducible refine Ap (fun _=>?_) fun _=>?_|with_reducible exact Pq _ _ _|with_reducible exact Le.refl _|exact Pq _ _ _|refine AF ?_ fun _=>?_|refine Ap (fun _=>?_) fun _=>?_|exact Le.refl _)
def NQ(s7:List Xi)(s8:Int)(s9:Int):Option (Unit⊕Unit):=itE (fun s:Int=>G7 s7 s8 s) 70 s9
theorem Pr(s7:List Xi)(s8:Int)(s9:Int):Le (NQ s7 s8 s9) (Wa s7 s8 s9):=by unfold NQ Wa;repeat' (first|with_reducible refine AS (fun _=>?_) _ _|with_reducible exact Le.refl _|refine AS (fun _=>?_) _ _|exact Le.refl _)
def aX4(a0:List Xi):Option (Bool):=
 AG (NQ a0 (a0.length:Int) 0) fun o3=>
 As o3 (fun o4=>
  some true) (fun o5=>
  some false)
theorem aRh(a0:List Xi):Le (aX4 a0) (Yn a0):=by unfold aX4 Yn;repeat' (first|with_reducible refine AF ?_ fun _=>?_|with_reducible refine Ap (fun _=>?_) fun _=>?_|with_reducible exact Pr _ _ _|with_reducible exact Le.refl _|exact Pr _ _ _|refine AF ?_ fun _=>?_|refine Ap (fun _=>?_) fun _=>?_|exact Le.refl _)
def Ml(s14:List Xd)(s15:Int)(w1:AA)(s16:Int)(w3:List (List UInt8)):Option ((List (List UInt8))):=itE (fun s:Int×List (List UInt8)=>Eu s14 s15 w1 s.1 s.2) 70 (s16,w3)
theorem Oo(s14:List Xd)(s15:Int)(w1:AA)(s16:Int)(w3:List (List UInt8)):Le (Ml s14 s15 w1 s16 w3) (RX s14 s15 w1 s16 w3):=by unfold Ml RX;repeat' (first|with_reducible refine AS (fun _=>?_) _ _|with_reducible exact Le.refl _|refine AS (fun _=>?_) _ _|exact Le.refl _)
def Mm(s27:List Xi)(s28:Int)(w1:AA)(s29:Int)(w3:List (List UInt8)):Option ((List (List UInt8))):=itE (fun s:Int×List (List UInt8)=>Ev s27 s28 w1 s.1 s.2) 70 (s29,w3)
theorem Oq(s27:List Xi)(s28:Int)(w1:AA)(s29:Int)(w3:List (List UInt8)):Le (Mm s27 s28 w1 s29 w3) (RY s27 s28 w1 s29 w3):=by unfold Mm RY;repeat' (first|with_reducible refine AS (fun _=>?_) _ _|with_reducible exact Le.refl _|refine AS (fun _=>?_) _ _|exact Le.refl _)
def Mn(s40:List Yc)(s41:Int)(w1:AA)(w3:List (List UInt8))(s42:Int)(w4:List (List UInt8)):Option ((List (List UInt8))):=itE (fun s:Int×List (List UInt8)=>Ew s40 s41 w1 w3 s.1 s.2) 70 (s42,w4)
theorem Ot(s40:List Yc)(s41:Int)(w1:AA)(w3:List (List UInt8))(s42:Int)(w4:List (List UInt8)):Le (Mn s40 s41 w1 w3 s42 w4) (RZ s40 s41 w1 w3 s42 w4):=by unfold Mn RZ;repeat' (first|with_reducible refine AS (fun _=>?_) _ _|with_reducible exact Le.refl _|refine AS (fun _=>?_) _ _|exact Le.refl _)
def aWg(a0:AA):Option (Bool):=
 AG (Ml a0.quants (a0.quants.length:Int) a0 0 ([]:List (List UInt8))) fun o3=>
 AG (Mm a0.frees (a0.frees.length:Int) a0 0 o3) fun o5=>
 AG (Mn a0.states (a0.states.length:Int) a0 o5 0 ([]:List (List UInt8))) fun o8=>
 AG (aXh a0.decls) fun r9=>
 AE (decide (r9.2=0)) (
  AG (aRr a0.name) fun r10=>
  AE (r10) (
   AG (aTy o5) fun r11=>
   AE (r11) (
    AG (aTy o8) fun r12=>
    AE (r12) (
     AG (aX2 a0.quants) fun r13=>
     AE (r13) (
      AG (aX4 a0.frees) fun r14=>
      AE (r14) (
       AE (decide (0<=a0.start)) (
        some (decide (a0.start<(a0.states.length:Int)))) (
        some false)) (
       some false)) (
      some false)) (
     some false)) (
    some false)) (
   some false)) (
  some false)
theorem aQk(a0:AA):Le (aWg a0) (Xc a0):=by unfold aWg Xc;repeat' (first|with_reducible refine AF ?_ fun _=>?_|with_reducible refine AO ?_ ?_|with_reducible exact Oo _ _ _ _ _|with_reducible exact Oq _ _ _ _ _|with_reducible exact Ot _ _ _ _ _ _|with_reducible exact aQ8 _|with_reducible exact Rx _|with_reducible exact aR5 _|with_reducible exact aRg _|with_reducible exact aRh _|with_reducible exact Le.refl _|exact Oo _ _ _ _ _|exact Oq _ _ _ _ _|exact Ot _ _ _ _ _ _|exact aQ8 _|exact Rx _|exact aR5 _|exact aRg _|exact aRh _|refine AF ?_ fun _=>?_|refine AO ?_ ?_|exact Le.refl _)
def Ms(s15:List Xb)(s16:Int)(w1:AA)(s17:Int)(w3:List X4):Option ((List X4)):=itE (fun s:Int×List X4=>GU s15 s16 w1 s.1 s.2) 70 (s17,w3)
theorem O1(s15:List Xb)(s16:Int)(w1:AA)(s17:Int)(w3:List X4):Le (Ms s15 s16 w1 s17 w3) (Mr s15 s16 w1 s17 w3):=by unfold Ms Mr;repeat' (first|with_reducible refine AS (fun _=>?_) _ _|with_reducible exact Le.refl _|refine AS (fun _=>?_) _ _|exact Le.refl _)
def aWm(a0:AA):Option (List X4):=
 Az (0<=(a0.nodes.length:Int)/\fit 0 (a0.nodes.length:Int).toNat 24) (
  AG (Ms a0.nodes (a0.nodes.length:Int) a0 0 (List.replicate (a0.nodes.length:Int).toNat (X4.mk 0 0 0))) fun o16=>
  some o16)
theorem aQn(a0:AA):Le (aWm a0) (Xk a0):=by unfold aWm Xk;repeat' (first|with_reducible refine AF ?_ fun _=>?_|with_reducible refine Ba ?_|with_reducible exact O1 _ _ _ _ _|with_reducible exact Le.refl _|exact O1 _ _ _ _ _|refine AF ?_ fun _=>?_|refine Ba ?_|exact Le.refl _)
def NT(s0:List A9)(s1:A9)(s7:Int)(s8:Int):Option (Unit⊕Int):=itE (fun s:Int=>HA s0 s1 s7 s) 70 s8
theorem Pu(s0:List A9)(s1:A9)(s7:Int)(s8:Int):Le (NT s0 s1 s7 s8) (Wl s0 s1 s7 s8):=by unfold NT Wl;repeat' (first|with_reducible refine AS (fun _=>?_) _ _|with_reducible exact Le.refl _|refine AS (fun _=>?_) _ _|exact Le.refl _)
def aYa(a0:List A9)(a1:A9):Option (Int):=
 AG (NT a0 a1 (a0.length:Int) 0) fun o3=>
 As o3 (fun o4=>
  some (-1)) (fun o5=>
  some o5)
theorem aRk(a0:List A9)(a1:A9):Le (aYa a0 a1) (Yq a0 a1):=by unfold aYa Yq;repeat' (first|with_reducible refine AF ?_ fun _=>?_|with_reducible refine Ap (fun _=>?_) fun _=>?_|with_reducible exact Pu _ _ _ _|with_reducible exact Le.refl _|exact Pu _ _ _ _|refine AF ?_ fun _=>?_|refine Ap (fun _=>?_) fun _=>?_|exact Le.refl _)
def aZh(a0:List A9)(a1:A9):Option (Bool):=
 AG (aYa a0 a1) fun r1=>
 some (decide (0<=r1))
theorem aSg(a0:List A9)(a1:A9):Le (aZh a0 a1) (Zx a0 a1):=by unfold aZh Zx;repeat' (first|with_reducible refine AF ?_ fun _=>?_|with_reducible exact aRk _ _|with_reducible exact Le.refl _|exact aRk _ _|refine AF ?_ fun _=>?_|exact Le.refl _)
def aUs(a0:Int)(a1:A9)(a2:X5)(a3:AA)(w0:List X4)(w1:Int):Option (Bool×List X4×Int):=
 Az ((0:Int)<=0/\(0:Int)<=a0/\a0<=(a2.sets.length:Int)) (
  AG (aZh (sub a2.sets 0 a0) a1) fun r1=>
  AE (decide (0<=a1.free)) (
   AE (decide (a1.free<(a3.frees.length:Int))) (
    AE (!r1) (
     Ab a3.frees a1.free fun x2=>
     AG (Qs a1.expr x2.init_.kind w0 w1) fun r3=>
     some (r3.1,w0,r3.2)) (
     some (false,w0,w1))) (
    some (false,w0,w1))) (
   some (false,w0,w1)))
theorem aPs(a0:Int)(a1:A9)(a2:X5)(a3:AA)(w0:List X4)(w1:Int):Le (aUs a0 a1 a2 a3 w0 w1) (Qa a0 a1 a2 a3 w0 w1):=by unfold aUs Qa;repeat' (first|with_reducible refine AF ?_ fun _=>?_|with_reducible refine AO ?_ ?_|with_reducible refine Ba ?_|with_reducible refine Af fun _=>?_|with_reducible exact aSg _ _|with_reducible exact Le.refl _|exact aSg _ _|refine AF ?_ fun _=>?_|refine AO ?_ ?_|refine Ba ?_|refine Af fun _=>?_|exact Le.refl _)
def Gh(s1_1:X5)(s1_2:AA)(s7:List A9)(s8:Int)(w997_1:X5)(w997_2:AA)(s9:Int)(w0:List X4)(w1:Int):Option ((Int×List X4×Int)⊕((List X4×Int)⊕(List X4×Int))):=
 AE (decide (s9<s8)) (
  Ab s7 s9 fun x1=>
  AG (aUs s9 x1 s1_1 s1_2 w0 w1) fun r2=>
  AE (!r2.1) (
   some (.inr (.inr (r2.2.1,r2.2.2)))) (
   some (.inl ((AB .add .i64 s9 1),r2.2.1,r2.2.2)))) (
  some (.inr (.inl (w0,w1))))
theorem Ip(s1_1:X5)(s1_2:AA)(s7:List A9)(s8:Int)(w997_1:X5)(w997_2:AA)(s9:Int)(w0:List X4)(w1:Int):Le (Gh s1_1 s1_2 s7 s8 w997_1 w997_2 s9 w0 w1) (DP s1_1 s1_2 s7 s8 w997_1 w997_2 s9 w0 w1):=by unfold Gh DP;repeat' (first|with_reducible refine AF ?_ fun _=>?_|with_reducible refine AO ?_ ?_|with_reducible refine Af fun _=>?_|with_reducible exact aPs _ _ _ _ _ _|with_reducible exact Le.refl _|exact aPs _ _ _ _ _ _|refine AF ?_ fun _=>?_|refine AO ?_ ?_|refine Af fun _=>?_|exact Le.refl _)
def M8(s1_1:X5)(s1_2:AA)(s7:List A9)(s8:Int)(w997_1:X5)(w997_2:AA)(s9:Int)(w0:List X4)(w1:Int):Option ((List X4×Int)⊕(List X4×Int)):=itE (fun s:Int×List X4×Int=>Gh s1_1 s1_2 s7 s8 w997_1 w997_2 s.1 s.2.1 s.2.2) 70 (s9,w0,w1)
theorem PR(s1_1:X5)(s1_2:AA)(s7:List A9)(s8:Int)(w997_1:X5)(w997_2:AA)(s9:Int)(w0:List X4)(w1:Int):Le (M8 s1_1 s1_2 s7 s8 w997_1 w997_2 s9 w0 w1) (M7 s1_1 s1_2 s7 s8 w997_1 w997_2 s9 w0 w1):=by unfold M8 M7;repeat' (first|with_reducible refine AS (fun _=>?_) _ _|with_reducible exact Ip _ _ _ _ _ _ _ _ _|with_reducible exact Le.refl _|exact Ip _ _ _ _ _ _ _ _ _|refine AS (fun _=>?_) _ _|exact Le.refl _)
def aTu(a0:List A9)(a1_1:X5)(a1_2:AA)(w0:List X4)(w1:Int):Option (Bool×List X4×Int):=
 AG (M8 a1_1 a1_2 a0 (a0.length:Int) a1_1 a1_2 0 w0 w1) fun o3=>
 As o3 (fun o4=>
  some (true,o4.1,o4.2)) (fun o5=>
  some (false,o5.1,o5.2))
theorem aQx(a0:List A9)(a1_1:X5)(a1_2:AA)(w0:List X4)(w1:Int):Le (aTu a0 a1_1 a1_2 w0 w1) (Xx a0 a1_1 a1_2 w0 w1):=by unfold aTu Xx;repeat' (first|with_reducible refine AF ?_ fun _=>?_|with_reducible refine Ap (fun _=>?_) fun _=>?_|with_reducible exact PR _ _ _ _ _ _ _ _ _|with_reducible exact Le.refl _|exact PR _ _ _ _ _ _ _ _ _|refine AF ?_ fun _=>?_|refine Ap (fun _=>?_) fun _=>?_|exact Le.refl _)
def NU(s0:List AX)(s7:Int)(w3:AX)(s8:Int):Option (Unit⊕Int):=itE (fun s:Int=>HB s0 s7 w3 s) 70 s8
theorem Pv(s0:List AX)(s7:Int)(w3:AX)(s8:Int):Le (NU s0 s7 w3 s8) (Wo s0 s7 w3 s8):=by unfold NU Wo;repeat' (first|with_reducible refine AS (fun _=>?_) _ _|with_reducible exact Le.refl _|refine AS (fun _=>?_) _ _|exact Le.refl _)
def aYc(a0:List AX)(a1:AX):Option (Int):=
 AG (NU a0 (a0.length:Int) a1 0) fun o2=>
 As o2 (fun o3=>
  some (-1)) (fun o4=>
  some o4)
theorem aRl(a0:List AX)(a1:AX):Le (aYc a0 a1) (Yr a0 a1):=by unfold aYc Yr;repeat' (first|with_reducible refine AF ?_ fun _=>?_|with_reducible refine Ap (fun _=>?_) fun _=>?_|with_reducible exact Pv _ _ _ _|with_reducible exact Le.refl _|exact Pv _ _ _ _|refine AF ?_ fun _=>?_|refine Ap (fun _=>?_) fun _=>?_|exact Le.refl _)
def aUu(a0:List AX)(a1:AX):Option (Bool):=
 AG (aYc a0 a1) fun r1=>
 some (decide (0<=r1))
theorem aPt(a0:List AX)(a1:AX):Le (aUu a0 a1) (Qb a0 a1):=by unfold aUu Qb;repeat' (first|with_reducible refine AF ?_ fun _=>?_|with_reducible exact aRl _ _|with_reducible exact Le.refl _|exact aRl _ _|refine AF ?_ fun _=>?_|exact Le.refl _)
def aTz(a0:X2)(a1:Int):Option (Bool):=
 AG (aUu a0.args (AX.mk 2 a1 (X3.mk 0 0 ([]:List UInt8) false))) fun r1=>
 some r1
theorem aIa(a0:X2)(a1:Int):Le (aTz a0 a1) (Zq a0 a1):=by unfold aTz Zq;repeat' (first|with_reducible refine AF ?_ fun _=>?_|with_reducible exact aPt _ _|with_reducible exact Le.refl _|exact aPt _ _|refine AF ?_ fun _=>?_|exact Le.refl _)
def aUw(a0:Int)(a1:Xb)(a2:AA)(a3:X5):Option (Bool):=
 AE (!decide (a1.op=2)) (
  some true) (
  Ab a2.symbols a3.symbol fun x1=>
  AG (aTz x1 a1.a) fun r2=>
  some r2)
theorem aPu(a0:Int)(a1:Xb)(a2:AA)(a3:X5):Le (aUw a0 a1 a2 a3) (Qc a0 a1 a2 a3):=by unfold aUw Qc;repeat' (first|with_reducible refine AF ?_ fun _=>?_|with_reducible refine AO ?_ ?_|with_reducible refine Af fun _=>?_|with_reducible exact aIa _ _|with_reducible exact Le.refl _|exact aIa _ _|refine AF ?_ fun _=>?_|refine AO ?_ ?_|refine Af fun _=>?_|exact Le.refl _)
def Gq(s1_1:AA)(s1_2:X5)(s7:List Xb)(s8:Int)(s9:Int):Option ((Int)⊕(Unit⊕Unit)):=
 AE (decide (s9<s8)) (
  Ab s7 s9 fun x1=>
  AG (aUw s9 x1 s1_1 s1_2) fun r2=>
  AE (!r2) (
   some (.inr (.inr ()))) (
   some (.inl (AB .add .i64 s9 1)))) (
  some (.inr (.inl ())))
theorem Iv(s1_1:AA)(s1_2:X5)(s7:List Xb)(s8:Int)(s9:Int):Le (Gq s1_1 s1_2 s7 s8 s9) (E5 s1_1 s1_2 s7 s8 s9):=by unfold Gq E5;repeat' (first|with_reducible refine AF ?_ fun _=>?_|with_reducible refine AO ?_ ?_|with_reducible refine Af fun _=>?_|with_reducible exact aPu _ _ _ _|with_reducible exact Le.refl _|exact aPu _ _ _ _|refine AF ?_ fun _=>?_|refine AO ?_ ?_|refine Af fun _=>?_|exact Le.refl _)
def ND(s1_1:AA)(s1_2:X5)(s7:List Xb)(s8:Int)(s9:Int):Option (Unit⊕Unit):=itE (fun s:Int=>Gq s1_1 s1_2 s7 s8 s) 70 s9
theorem Pd(s1_1:AA)(s1_2:X5)(s7:List Xb)(s8:Int)(s9:Int):Le (ND s1_1 s1_2 s7 s8 s9) (Vm s1_1 s1_2 s7 s8 s9):=by unfold ND Vm;repeat' (first|with_reducible refine AS (fun _=>?_) _ _|with_reducible exact Iv _ _ _ _ _|with_reducible exact Le.refl _|exact Iv _ _ _ _ _|refine AS (fun _=>?_) _ _|exact Le.refl _)
def aTv(a0:List Xb)(a1_1:AA)(a1_2:X5):Option (Bool):=
 AG (ND a1_1 a1_2 a0 (a0.length:Int) 0) fun o3=>
 As o3 (fun o4=>
  some true) (fun o5=>
  some false)
theorem aQ5(a0:List Xb)(a1_1:AA)(a1_2:X5):Le (aTv a0 a1_1 a1_2) (Y4 a0 a1_1 a1_2):=by unfold aTv Y4;repeat' (first|with_reducible refine AF ?_ fun _=>?_|with_reducible refine Ap (fun _=>?_) fun _=>?_|with_reducible exact Pd _ _ _ _ _|with_reducible exact Le.refl _|exact Pd _ _ _ _ _|refine AF ?_ fun _=>?_|refine Ap (fun _=>?_) fun _=>?_|exact Le.refl _)
def aZj(a0:Int)(a1:X5)(a3:AA)(w0:Int)(w1:List X4):Option (Bool×Int×List X4):=
 AE (decide (a1.from_<0)) (
  some (false,w0,w1)) (
  AE (decide ((a3.states.length:Int)<=a1.from_)) (
   some (false,w0,w1)) (
   AE (decide (a1.to<0)) (
    some (false,w0,w1)) (
    AE (decide ((a3.states.length:Int)<=a1.to)) (
     some (false,w0,w1)) (
     AE (decide (a1.symbol<0)) (
      some (false,w0,w1)) (
      AE (decide ((a3.symbols.length:Int)<=a1.symbol)) (
       some (false,w0,w1)) (
       AE (!decide (a1.guard=(-1))) (
        AG (Qs a1.guard 3 w1 w0) fun r1=>
        AE (!r1.1) (
         some (false,r1.2,w1)) (
         AG (aTu a1.sets a1 a3 w1 r1.2) fun r2=>
         AE (r2.1) (
          Az ((0:Int)<=w0/\(w0:Int)<=r2.2.2/\r2.2.2<=(a3.nodes.length:Int)) (
           AG (aTv (sub a3.nodes w0 r2.2.2) a3 a1) fun r3=>
           some (r3,r2.2.2,r2.2.1))) (
          some (false,r2.2.2,r2.2.1)))) (
        AG (aTu a1.sets a1 a3 w1 w0) fun r4=>
        AE (r4.1) (
         Az ((0:Int)<=w0/\(w0:Int)<=r4.2.2/\r4.2.2<=(a3.nodes.length:Int)) (
          AG (aTv (sub a3.nodes w0 r4.2.2) a3 a1) fun r5=>
          some (r5,r4.2.2,r4.2.1))) (
         some (false,r4.2.2,r4.2.1)))))))))
theorem aSh(a0:Int)(a1:X5)(a3:AA)(w0:Int)(w1:List X4):Le (aZj a0 a1 a3 w0 w1) (Zy a0 a1 a3 w0 w1):=by unfold aZj Zy;repeat' (first|with_reducible refine AF ?_ fun _=>?_|with_reducible refine AO ?_ ?_|with_reducible refine Ba ?_|with_reducible exact aQx _ _ _ _ _|with_reducible exact aQ5 _ _ _|with_reducible exact Le.refl _|exact aQx _ _ _ _ _|exact aQ5 _ _ _|refine AF ?_ fun _=>?_|refine AO ?_ ?_|refine Ba ?_|exact Le.refl _)
def Gn(s1:AA)(s7:List X5)(s8:Int)(w997:AA)(s9:Int)(w0:Int)(w1:List X4):Option ((Int×Int×List X4)⊕((Int×List X4)⊕(Int×List X4))):=
 AE (decide (s9<s8)) (
  Ab s7 s9 fun x1=>
  AG (aZj s9 x1 s1 w0 w1) fun r2=>
  AE (!r2.1) (
   some (.inr (.inr (r2.2.1,r2.2.2)))) (
   some (.inl ((AB .add .i64 s9 1),r2.2.1,r2.2.2)))) (
  some (.inr (.inl (w0,w1))))
theorem Iu(s1:AA)(s7:List X5)(s8:Int)(w997:AA)(s9:Int)(w0:Int)(w1:List X4):Le (Gn s1 s7 s8 w997 s9 w0 w1) (EA s1 s7 s8 w997 s9 w0 w1):=by unfold Gn EA;repeat' (first|with_reducible refine AF ?_ fun _=>?_|with_reducible refine AO ?_ ?_|with_reducible refine Af fun _=>?_|with_reducible exact aSh _ _ _ _ _|with_reducible exact Le.refl _|exact aSh _ _ _ _ _|refine AF ?_ fun _=>?_|refine AO ?_ ?_|refine Af fun _=>?_|exact Le.refl _)
def NC(s1:AA)(s7:List X5)(s8:Int)(w997:AA)(s9:Int)(w0:Int)(w1:List X4):Option ((Int×List X4)⊕(Int×List X4)):=itE (fun s:Int×Int×List X4=>Gn s1 s7 s8 w997 s.1 s.2.1 s.2.2) 70 (s9,w0,w1)
theorem Pc(s1:AA)(s7:List X5)(s8:Int)(w997:AA)(s9:Int)(w0:Int)(w1:List X4):Le (NC s1 s7 s8 w997 s9 w0 w1) (LK s1 s7 s8 w997 s9 w0 w1):=by unfold NC LK;repeat' (first|with_reducible refine AS (fun _=>?_) _ _|with_reducible exact Iu _ _ _ _ _ _ _|with_reducible exact Le.refl _|exact Iu _ _ _ _ _ _ _|refine AS (fun _=>?_) _ _|exact Le.refl _)
def aXc(a0:List X5)(a1:AA)(w0:Int)(w1:List X4):Option (Bool×Int×List X4):=
 AG (NC a1 a0 (a0.length:Int) a1 0 w0 w1) fun o3=>
 As o3 (fun o4=>
  some (true,o4.1,o4.2)) (fun o5=>
  some (false,o5.1,o5.2))
theorem aQ4(a0:List X5)(a1:AA)(w0:Int)(w1:List X4):Le (aXc a0 a1 w0 w1) (Y3 a0 a1 w0 w1):=by unfold aXc Y3;repeat' (first|with_reducible refine AF ?_ fun _=>?_|with_reducible refine Ap (fun _=>?_) fun _=>?_|with_reducible exact Pc _ _ _ _ _ _ _|with_reducible exact Le.refl _|exact Pc _ _ _ _ _ _ _|refine AF ?_ fun _=>?_|refine Ap (fun _=>?_) fun _=>?_|exact Le.refl _)
def aY6(a0:AA):Option (Bool):=
 AG (aWm a0) fun r1=>
 AG (aXc a0.trans a0 0 r1) fun r2=>
 AE (r2.1) (
  some (decide (r2.2.1=(r1.length:Int)))) (
  some false)
theorem aSa(a0:AA):Le (aY6 a0) (Zs a0):=by unfold aY6 Zs;repeat' (first|with_reducible refine AF ?_ fun _=>?_|with_reducible refine AO ?_ ?_|with_reducible exact aQn _|with_reducible exact aQ4 _ _ _ _|with_reducible exact Le.refl _|exact aQn _|exact aQ4 _ _ _ _|refine AF ?_ fun _=>?_|refine AO ?_ ?_|exact Le.refl _)
def NV(s0:List Int)(s1:Int)(s7:Int)(s8:Int):Option (Unit⊕Int):=itE (fun s:Int=>HC s0 s1 s7 s) 70 s8
theorem Pw(s0:List Int)(s1:Int)(s7:Int)(s8:Int):Le (NV s0 s1 s7 s8) (Wr s0 s1 s7 s8):=by unfold NV Wr;repeat' (first|with_reducible refine AS (fun _=>?_) _ _|with_reducible exact Le.refl _|refine AS (fun _=>?_) _ _|exact Le.refl _)
def aYe(a0:List Int)(a1:Int):Option (Int):=
 AG (NV a0 a1 (a0.length:Int) 0) fun o2=>
 As o2 (fun o3=>
  some (-1)) (fun o4=>
  some o4)
theorem aRm(a0:List Int)(a1:Int):Le (aYe a0 a1) (Ys a0 a1):=by unfold aYe Ys;repeat' (first|with_reducible refine AF ?_ fun _=>?_|with_reducible refine Ap (fun _=>?_) fun _=>?_|with_reducible exact Pw _ _ _ _|with_reducible exact Le.refl _|exact Pw _ _ _ _|refine AF ?_ fun _=>?_|refine Ap (fun _=>?_) fun _=>?_|exact Le.refl _)
def aZl(a0:List Int)(a1:Int):Option (Bool):=
 AG (aYe a0 a1) fun r1=>
 some (decide (0<=r1))
theorem aSi(a0:List Int)(a1:Int):Le (aZl a0 a1) (Zz a0 a1):=by unfold aZl Zz;repeat' (first|with_reducible refine AF ?_ fun _=>?_|with_reducible exact aRm _ _|with_reducible exact Le.refl _|exact aRm _ _|refine AF ?_ fun _=>?_|exact Le.refl _)
def NR(s1_1:AA)(s1_2:List Int)(s7:List Int)(s8:Int)(s9:Int):Option (Unit⊕Unit):=itE (fun s:Int=>G8 s1_1 s1_2 s7 s8 s) 70 s9
theorem Ps(s1_1:AA)(s1_2:List Int)(s7:List Int)(s8:Int)(s9:Int):Le (NR s1_1 s1_2 s7 s8 s9) (Wd s1_1 s1_2 s7 s8 s9):=by unfold NR Wd;repeat' (first|with_reducible refine AS (fun _=>?_) _ _|with_reducible exact Le.refl _|refine AS (fun _=>?_) _ _|exact Le.refl _)
def aX6(a0:List Int)(a1_1:AA)(a1_2:List Int):Option (Bool):=
 AG (NR a1_1 a1_2 a0 (a0.length:Int) 0) fun o3=>
 As o3 (fun o4=>
  some true) (fun o5=>
  some false)
theorem aRi(a0:List Int)(a1_1:AA)(a1_2:List Int):Le (aX6 a0 a1_1 a1_2) (Yo a0 a1_1 a1_2):=by unfold aX6 Yo;repeat' (first|with_reducible refine AF ?_ fun _=>?_|with_reducible refine Ap (fun _=>?_) fun _=>?_|with_reducible exact Ps _ _ _ _ _|with_reducible exact Le.refl _|exact Ps _ _ _ _ _|refine AF ?_ fun _=>?_|refine Ap (fun _=>?_) fun _=>?_|exact Le.refl _)
def NW(s1:List Int)(s2:AA)(s15:List AX)(s16:Int)(s17:Int):Option (Unit⊕Unit):=itE (fun s:Int=>HD s1 s2 s15 s16 s) 70 s17
theorem Px(s1:List Int)(s2:AA)(s15:List AX)(s16:Int)(s17:Int):Le (NW s1 s2 s15 s16 s17) (Wv s1 s2 s15 s16 s17):=by unfold NW Wv;repeat' (first|with_reducible refine AS (fun _=>?_) _ _|with_reducible exact Le.refl _|refine AS (fun _=>?_) _ _|exact Le.refl _)
def aYg(a0:List AX)(a1:List Int)(a2:AA):Option (Bool):=
 AE (!decide ((a0.length:Int)=(a1.length:Int))) (
  some false) (
  AG (NW a1 a2 a0 (a0.length:Int) 0) fun o4=>
  As o4 (fun o5=>
   some true) (fun o6=>
   some false))
theorem aRn(a0:List AX)(a1:List Int)(a2:AA):Le (aYg a0 a1 a2) (Yt a0 a1 a2):=by unfold aYg Yt;repeat' (first|with_reducible refine AF ?_ fun _=>?_|with_reducible refine AO ?_ ?_|with_reducible refine Ap (fun _=>?_) fun _=>?_|with_reducible exact Px _ _ _ _ _|with_reducible exact Le.refl _|exact Px _ _ _ _ _|refine AF ?_ fun _=>?_|refine AO ?_ ?_|refine Ap (fun _=>?_) fun _=>?_|exact Le.refl _)
def aUc(a0:AA)(a1:X2):Option (Bool):=
 AE (decide (a1.event<0)) (
  some false) (
  AE (decide ((a0.decls.length:Int)<=a1.event)) (
   some false) (
   Ab a0.decls a1.event fun x1=>
   AG (aYg a1.args x1.types a0) fun r2=>
   some r2))
theorem aPk(a0:AA)(a1:X2):Le (aUc a0 a1) (Q0 a0 a1):=by unfold aUc Q0;repeat' (first|with_reducible refine AF ?_ fun _=>?_|with_reducible refine AO ?_ ?_|with_reducible refine Af fun _=>?_|with_reducible exact aRn _ _ _|with_reducible exact Le.refl _|exact aRn _ _ _|refine AF ?_ fun _=>?_|refine AO ?_ ?_|refine Af fun _=>?_|exact Le.refl _)
def NX(s0:List AX)(s1:List AX)(s12:Int)(s13:Int):Option (Unit⊕Unit):=itE (fun s:Int=>HE s0 s1 s12 s) 70 s13
theorem Py(s0:List AX)(s1:List AX)(s12:Int)(s13:Int):Le (NX s0 s1 s12 s13) (Wy s0 s1 s12 s13):=by unfold NX Wy;repeat' (first|with_reducible refine AS (fun _=>?_) _ _|with_reducible exact Le.refl _|refine AS (fun _=>?_) _ _|exact Le.refl _)
def aYi(a0:List AX)(a1:List AX):Option (Bool):=
 AE (!decide ((a0.length:Int)=(a1.length:Int))) (
  some false) (
  AG (NX a0 a1 (a0.length:Int) 0) fun o3=>
  As o3 (fun o4=>
   some true) (fun o5=>
   some false))
theorem aRo(a0:List AX)(a1:List AX):Le (aYi a0 a1) (Yu a0 a1):=by unfold aYi Yu;repeat' (first|with_reducible refine AF ?_ fun _=>?_|with_reducible refine AO ?_ ?_|with_reducible refine Ap (fun _=>?_) fun _=>?_|with_reducible exact Py _ _ _ _|with_reducible exact Le.refl _|exact Py _ _ _ _|refine AF ?_ fun _=>?_|refine AO ?_ ?_|refine Ap (fun _=>?_) fun _=>?_|exact Le.refl _)
def aUe(a0:X2)(a1:X2):Option (Bool):=
 AE (decide (a0.event=a1.event)) (
  AG (aYi a0.args a1.args) fun r1=>
  some r1) (
  some false)
theorem aPl(a0:X2)(a1:X2):Le (aUe a0 a1) (Q1 a0 a1):=by unfold aUe Q1;repeat' (first|with_reducible refine AF ?_ fun _=>?_|with_reducible refine AO ?_ ?_|with_reducible exact aRo _ _|with_reducible exact Le.refl _|exact aRo _ _|refine AF ?_ fun _=>?_|refine AO ?_ ?_|exact Le.refl _)
def aUy(a0:X2)(a1:X2):Option (Bool):=
 AG (aUe a0 a1) fun r1=>
 some r1
theorem aPv(a0:X2)(a1:X2):Le (aUy a0 a1) (Qd a0 a1):=by unfold aUy Qd;repeat' (first|with_reducible refine AF ?_ fun _=>?_|with_reducible exact aPl _ _|with_reducible exact Le.refl _|exact aPl _ _|refine AF ?_ fun _=>?_|exact Le.refl _)
def Gu(s0:List X2)(s1:X2)(s7:Int)(s8:Int):Option ((Int)⊕(Unit⊕Int)):=
 AE (decide (s8<s7)) (
  Ab s0 s8 fun x1=>
  AG (aUy x1 s1) fun r2=>
  AE (r2) (
   some (.inr (.inr s8))) (
   some (.inl (AB .add .i64 s8 1)))) (
  some (.inr (.inl ())))
theorem Ix(s0:List X2)(s1:X2)(s7:Int)(s8:Int):Le (Gu s0 s1 s7 s8) (E9 s0 s1 s7 s8):=by unfold Gu E9;repeat' (first|with_reducible refine AF ?_ fun _=>?_|with_reducible refine AO ?_ ?_|with_reducible refine Af fun _=>?_|with_reducible exact aPv _ _|with_reducible exact Le.refl _|exact aPv _ _|refine AF ?_ fun _=>?_|refine AO ?_ ?_|refine Af fun _=>?_|exact Le.refl _)
def NH(s0:List X2)(s1:X2)(s7:Int)(s8:Int):Option (Unit⊕Int):=itE (fun s:Int=>Gu s0 s1 s7 s) 70 s8
theorem Pi(s0:List X2)(s1:X2)(s7:Int)(s8:Int):Le (NH s0 s1 s7 s8) (Vz s0 s1 s7 s8):=by unfold NH Vz;repeat' (first|with_reducible refine AS (fun _=>?_) _ _|with_reducible exact Ix _ _ _ _|with_reducible exact Le.refl _|exact Ix _ _ _ _|refine AS (fun _=>?_) _ _|exact Le.refl _)
def aXk(a0:List X2)(a1:X2):Option (Int):=
 AG (NH a0 a1 (a0.length:Int) 0) fun o3=>
 As o3 (fun o4=>
  some (-1)) (fun o5=>
  some o5)
theorem aQ9(a0:List X2)(a1:X2):Le (aXk a0 a1) (Y9 a0 a1):=by unfold aXk Y9;repeat' (first|with_reducible refine AF ?_ fun _=>?_|with_reducible refine Ap (fun _=>?_) fun _=>?_|with_reducible exact Pi _ _ _ _|with_reducible exact Le.refl _|exact Pi _ _ _ _|refine AF ?_ fun _=>?_|refine Ap (fun _=>?_) fun _=>?_|exact Le.refl _)
def aU0(a0:Int)(a1:X2)(a2:AA):Option (Bool):=
 AG (aUc a2 a1) fun r1=>
 AE (r1) (
  AG (aXk a2.symbols a1) fun r2=>
  some (decide (r2=a0))) (
  some false)
theorem aPw(a0:Int)(a1:X2)(a2:AA):Le (aU0 a0 a1 a2) (Qe a0 a1 a2):=by unfold aU0 Qe;repeat' (first|with_reducible refine AF ?_ fun _=>?_|with_reducible refine AO ?_ ?_|with_reducible exact aPk _ _|with_reducible exact aQ9 _ _|with_reducible exact Le.refl _|exact aPk _ _|exact aQ9 _ _|refine AF ?_ fun _=>?_|refine AO ?_ ?_|exact Le.refl _)
def Gv(s1:AA)(s7:List X2)(s8:Int)(s9:Int):Option ((Int)⊕(Unit⊕Unit)):=
 AE (decide (s9<s8)) (
  Ab s7 s9 fun x1=>
  AG (aU0 s9 x1 s1) fun r2=>
  AE (!r2) (
   some (.inr (.inr ()))) (
   some (.inl (AB .add .i64 s9 1)))) (
  some (.inr (.inl ())))
theorem Iy(s1:AA)(s7:List X2)(s8:Int)(s9:Int):Le (Gv s1 s7 s8 s9) (FA s1 s7 s8 s9):=by unfold Gv FA;repeat' (first|with_reducible refine AF ?_ fun _=>?_|with_reducible refine AO ?_ ?_|with_reducible refine Af fun _=>?_|with_reducible exact aPw _ _ _|with_reducible exact Le.refl _|exact aPw _ _ _|refine AF ?_ fun _=>?_|refine AO ?_ ?_|refine Af fun _=>?_|exact Le.refl _)
def NI(s1:AA)(s7:List X2)(s8:Int)(s9:Int):Option (Unit⊕Unit):=itE (fun s:Int=>Gv s1 s7 s8 s) 70 s9
theorem Pj(s1:AA)(s7:List X2)(s8:Int)(s9:Int):Le (NI s1 s7 s8 s9) (V2 s1 s7 s8 s9):=by unfold NI V2;repeat' (first|with_reducible refine AS (fun _=>?_) _ _|with_reducible exact Iy _ _ _ _|with_reducible exact Le.refl _|exact Iy _ _ _ _|refine AS (fun _=>?_) _ _|exact Le.refl _)
def aXm(a0:List X2)(a1:AA):Option (Bool):=
 AG (NI a1 a0 (a0.length:Int) 0) fun o3=>
 As o3 (fun o4=>
  some true) (fun o5=>
  some false)
theorem aRa(a0:List X2)(a1:AA):Le (aXm a0 a1) (Ya a0 a1):=by unfold aXm Ya;repeat' (first|with_reducible refine AF ?_ fun _=>?_|with_reducible refine Ap (fun _=>?_) fun _=>?_|with_reducible exact Pj _ _ _ _|with_reducible exact Le.refl _|exact Pj _ _ _ _|refine AF ?_ fun _=>?_|refine Ap (fun _=>?_) fun _=>?_|exact Le.refl _)
def aU2(a0:X2)(a1:Int):Option (Bool):=
 AG (aTz a0 a1) fun r1=>
 some r1
theorem aPx(a0:X2)(a1:Int):Le (aU2 a0 a1) (Qf a0 a1):=by unfold aU2 Qf;repeat' (first|with_reducible refine AF ?_ fun _=>?_|with_reducible exact aIa _ _|with_reducible exact Le.refl _|exact aIa _ _|refine AF ?_ fun _=>?_|exact Le.refl _)
def Gy(s0:List X2)(s1:Int)(s7:Int)(s8:Int):Option ((Int)⊕(Unit⊕Int)):=
 AE (decide (s8<s7)) (
  Ab s0 s8 fun x1=>
  AG (aU2 x1 s1) fun r2=>
  AE (r2) (
   some (.inr (.inr s8))) (
   some (.inl (AB .add .i64 s8 1)))) (
  some (.inr (.inl ())))
theorem I4(s0:List X2)(s1:Int)(s7:Int)(s8:Int):Le (Gy s0 s1 s7 s8) (FE s0 s1 s7 s8):=by unfold Gy FE;repeat' (first|with_reducible refine AF ?_ fun _=>?_|with_reducible refine AO ?_ ?_|with_reducible refine Af fun _=>?_|with_reducible exact aPx _ _|with_reducible exact Le.refl _|exact aPx _ _|refine AF ?_ fun _=>?_|refine AO ?_ ?_|refine Af fun _=>?_|exact Le.refl _)
def NL(s0:List X2)(s1:Int)(s7:Int)(s8:Int):Option (Unit⊕Int):=itE (fun s:Int=>Gy s0 s1 s7 s) 70 s8
theorem Pm(s0:List X2)(s1:Int)(s7:Int)(s8:Int):Le (NL s0 s1 s7 s8) (WB s0 s1 s7 s8):=by unfold NL WB;repeat' (first|with_reducible refine AS (fun _=>?_) _ _|with_reducible exact I4 _ _ _ _|with_reducible exact Le.refl _|exact I4 _ _ _ _|refine AS (fun _=>?_) _ _|exact Le.refl _)
def aXs(a0:List X2)(a1:Int):Option (Int):=
 AG (NL a0 a1 (a0.length:Int) 0) fun o3=>
 As o3 (fun o4=>
  some (-1)) (fun o5=>
  some o5)
theorem aRd(a0:List X2)(a1:Int):Le (aXs a0 a1) (Ye a0 a1):=by unfold aXs Ye;repeat' (first|with_reducible refine AF ?_ fun _=>?_|with_reducible refine Ap (fun _=>?_) fun _=>?_|with_reducible exact Pm _ _ _ _|with_reducible exact Le.refl _|exact Pm _ _ _ _|refine AF ?_ fun _=>?_|refine Ap (fun _=>?_) fun _=>?_|exact Le.refl _)
def aUg(a0:List X2)(a1:Int):Option (Bool):=
 AG (aXs a0 a1) fun r1=>
 some (decide (0<=r1))
theorem aPm(a0:List X2)(a1:Int):Le (aUg a0 a1) (Q3 a0 a1):=by unfold aUg Q3;repeat' (first|with_reducible refine AF ?_ fun _=>?_|with_reducible exact aRd _ _|with_reducible exact Le.refl _|exact aRd _ _|refine AF ?_ fun _=>?_|exact Le.refl _)
def aU4(a0:Int)(a1:Xd)(a2:AA):Option (Bool):=
 AG (aUg a2.symbols a0) fun r1=>
 some r1
theorem aPy(a0:Int)(a1:Xd)(a2:AA):Le (aU4 a0 a1 a2) (Qg a0 a1 a2):=by unfold aU4 Qg;repeat' (first|with_reducible refine AF ?_ fun _=>?_|with_reducible exact aPm _ _|with_reducible exact Le.refl _|exact aPm _ _|refine AF ?_ fun _=>?_|exact Le.refl _)
def Gw(s1:AA)(s7:List Xd)(s8:Int)(s9:Int):Option ((Int)⊕(Unit⊕Unit)):=
 AE (decide (s9<s8)) (
  Ab s7 s9 fun x1=>
  AG (aU4 s9 x1 s1) fun r2=>
  AE (!r2) (
   some (.inr (.inr ()))) (
   some (.inl (AB .add .i64 s9 1)))) (
  some (.inr (.inl ())))
theorem Iz(s1:AA)(s7:List Xd)(s8:Int)(s9:Int):Le (Gw s1 s7 s8 s9) (FC s1 s7 s8 s9):=by unfold Gw FC;repeat' (first|with_reducible refine AF ?_ fun _=>?_|with_reducible refine AO ?_ ?_|with_reducible refine Af fun _=>?_|with_reducible exact aPy _ _ _|with_reducible exact Le.refl _|exact aPy _ _ _|refine AF ?_ fun _=>?_|refine AO ?_ ?_|refine Af fun _=>?_|exact Le.refl _)
def NJ(s1:AA)(s7:List Xd)(s8:Int)(s9:Int):Option (Unit⊕Unit):=itE (fun s:Int=>Gw s1 s7 s8 s) 70 s9
theorem Pk(s1:AA)(s7:List Xd)(s8:Int)(s9:Int):Le (NJ s1 s7 s8 s9) (V5 s1 s7 s8 s9):=by unfold NJ V5;repeat' (first|with_reducible refine AS (fun _=>?_) _ _|with_reducible exact Iz _ _ _ _|with_reducible exact Le.refl _|exact Iz _ _ _ _|refine AS (fun _=>?_) _ _|exact Le.refl _)
def aXo(a0:List Xd)(a1:AA):Option (Bool):=
 AG (NJ a1 a0 (a0.length:Int) 0) fun o3=>
 As o3 (fun o4=>
  some true) (fun o5=>
  some false)
theorem aRb(a0:List Xd)(a1:AA):Le (aXo a0 a1) (Yb a0 a1):=by unfold aXo Yb;repeat' (first|with_reducible refine AF ?_ fun _=>?_|with_reducible refine Ap (fun _=>?_) fun _=>?_|with_reducible exact Pk _ _ _ _|with_reducible exact Le.refl _|exact Pk _ _ _ _|refine AF ?_ fun _=>?_|refine Ap (fun _=>?_) fun _=>?_|exact Le.refl _)
def Mv(s1:AA)(s8:List X5)(s9:Int)(s10:Int)(w600:List Int):Option ((List Int)):=
 Ab s8 s10 fun x5=>
 AG (aZl w600 x5.symbol) fun r6=>
 AG (UI s1 s8 s9 s10 (!r6) x5 w600) fun o7=>
 some o7
theorem O4(s1:AA)(s8:List X5)(s9:Int)(s10:Int)(w600:List Int):Le (Mv s1 s8 s9 s10 w600) (Rh s1 s8 s9 s10 w600):=by unfold Mv Rh;repeat' (first|with_reducible refine AF ?_ fun _=>?_|with_reducible refine Af fun _=>?_|with_reducible exact aSi _ _|with_reducible exact Le.refl _|exact aSi _ _|refine AF ?_ fun _=>?_|refine Af fun _=>?_|exact Le.refl _)
def GW(s1:AA)(s8:List X5)(s9:Int)(s10:Int)(w600:List Int):Option ((Int×List Int)⊕((List Int))):=
 AE (decide (s10<s9)) (
  AG (Mv s1 s8 s9 s10 w600) fun o8=>
  some (.inl ((AB .add .i64 s10 1),o8))) (
  some (.inr w600))
theorem Ik(s1:AA)(s8:List X5)(s9:Int)(s10:Int)(w600:List Int):Le (GW s1 s8 s9 s10 w600) (D5 s1 s8 s9 s10 w600):=by unfold GW D5;repeat' (first|with_reducible refine AF ?_ fun _=>?_|with_reducible refine AO ?_ ?_|with_reducible exact O4 _ _ _ _ _|with_reducible exact Le.refl _|exact O4 _ _ _ _ _|refine AF ?_ fun _=>?_|refine AO ?_ ?_|exact Le.refl _)
def Mw(s1:AA)(s8:List X5)(s9:Int)(s10:Int)(w600:List Int):Option ((List Int)):=itE (fun s:Int×List Int=>GW s1 s8 s9 s.1 s.2) 70 (s10,w600)
theorem O5(s1:AA)(s8:List X5)(s9:Int)(s10:Int)(w600:List Int):Le (Mw s1 s8 s9 s10 w600) (Ri s1 s8 s9 s10 w600):=by unfold Mw Ri;repeat' (first|with_reducible refine AS (fun _=>?_) _ _|with_reducible exact Ik _ _ _ _ _|with_reducible exact Le.refl _|exact Ik _ _ _ _ _|refine AS (fun _=>?_) _ _|exact Le.refl _)
def aWq(a0:AA):Option (Bool):=
 AG (Mw a0 a0.trans (a0.trans.length:Int) 0 ([]:List Int)) fun o9=>
 AG (aX6 o9 a0 o9) fun r10=>
 AE (r10) (
  AG (aXm a0.symbols a0) fun r11=>
  AE (r11) (
   AG (aXo a0.quants a0) fun r12=>
   some r12) (
   some false)) (
  some false)
theorem aQq(a0:AA):Le (aWq a0) (Xn a0):=by unfold aWq Xn;repeat' (first|with_reducible refine AF ?_ fun _=>?_|with_reducible refine AO ?_ ?_|with_reducible exact O5 _ _ _ _ _|with_reducible exact aRi _ _ _|with_reducible exact aRa _ _|with_reducible exact aRb _ _|with_reducible exact Le.refl _|exact O5 _ _ _ _ _|exact aRi _ _ _|exact aRa _ _|exact aRb _ _|refine AF ?_ fun _=>?_|refine AO ?_ ?_|exact Le.refl _)
def aY0(a0:AA):Option (Bool):=
 AG (Qu a0) fun r1=>
 AE (r1) (
  AG (aWg a0) fun r2=>
  AE (r2) (
   AG (aY6 a0) fun r3=>
   AE (r3) (
    AG (aWq a0) fun r4=>
    some r4) (
    some false)) (
   some false)) (
  some false)
theorem aR1(a0:AA):Le (aY0 a0) (Zh a0):=by unfold aY0 Zh;repeat' (first|with_reducible refine AF ?_ fun _=>?_|with_reducible refine AO ?_ ?_|with_reducible exact aQk _|with_reducible exact aSa _|with_reducible exact aQq _|with_reducible exact Le.refl _|exact aQk _|exact aSa _|exact aQq _|refine AF ?_ fun _=>?_|refine AO ?_ ?_|exact Le.refl _)
def NE(s1:Int)(s8:List X0)(s9:Int)(w4:X3)(s10:Int):Option (Unit⊕X3):=itE (fun s:Int=>Gr s1 s8 s9 w4 s) 70 s10
theorem Pe(s1:Int)(s8:List X0)(s9:Int)(w4:X3)(s10:Int):Le (NE s1 s8 s9 w4 s10) (Vp s1 s8 s9 w4 s10):=by unfold NE Vp;repeat' (first|with_reducible refine AS (fun _=>?_) _ _|with_reducible exact Le.refl _|refine AS (fun _=>?_) _ _|exact Le.refl _)
def aTw(a0:List X0)(a1:Int):Option (X3×Bool):=
 AG (NE a1 a0 (a0.length:Int) (X3.mk 0 0 ([]:List UInt8) false) 0) fun o2=>
 As o2 (fun o3=>
  some (X3.mk 0 0 ([]:List UInt8) false,false)) (fun o4=>
  some (o4,true))
theorem aF8(a0:List X0)(a1:Int):Le (aTw a0 a1) (Y5 a0 a1):=by unfold aTw Y5;repeat' (first|with_reducible refine AF ?_ fun _=>?_|with_reducible refine Ap (fun _=>?_) fun _=>?_|with_reducible exact Pe _ _ _ _ _|with_reducible exact Le.refl _|exact Pe _ _ _ _ _|refine AF ?_ fun _=>?_|refine Ap (fun _=>?_) fun _=>?_|exact Le.refl _)
def NF(s3:Int)(s10:Int)(w4:List UInt8):Option ((List UInt8)):=itE (fun s:Int×List UInt8=>E6 s3 s.1 s.2) 70 (s10,w4)
theorem Pg(s3:Int)(s10:Int)(w4:List UInt8):Le (NF s3 s10 w4) (Jn s3 s10 w4):=by unfold NF Jn;repeat' (first|with_reducible refine AS (fun _=>?_) _ _|with_reducible exact Le.refl _|refine AS (fun _=>?_) _ _|exact Le.refl _)
def aXf(a0:Int):Option (List UInt8):=
 AG (NF (AB .xor .u64 (IntKind.wrap .u64 a0) 9223372036854775808) 0 (List.replicate 8 (0:UInt8))) fun o1=>
 Az (0<=(8:Int)/\fit 0 (8:Int).toNat 1) (
  Az (o1.length=8) (
   some (o1.take (List.replicate (8:Int).toNat (0:UInt8)).length++(List.replicate (8:Int).toNat (0:UInt8)).drop o1.length)))
theorem aQ7(a0:Int):Le (aXf a0) (Y6 a0):=by unfold aXf Y6;repeat' (first|with_reducible refine AF ?_ fun _=>?_|with_reducible refine Ba ?_|with_reducible exact Pg _ _ _|with_reducible exact Le.refl _|exact Pg _ _ _|refine AF ?_ fun _=>?_|refine Ba ?_|exact Le.refl _)
def M5(s0:List UInt8)(s6:Int)(s7:Int)(w3:List UInt8):Option ((List UInt8)):=itE (fun s:Int×List UInt8=>Gf s0 s6 s.1 s.2) 70 (s7,w3)
theorem PN(s0:List UInt8)(s6:Int)(s7:Int)(w3:List UInt8):Le (M5 s0 s6 s7 w3) (Rp s0 s6 s7 w3):=by unfold M5 Rp;repeat' (first|with_reducible refine AS (fun _=>?_) _ _|with_reducible exact Le.refl _|refine AS (fun _=>?_) _ _|exact Le.refl _)
def aW4(a0:List UInt8):Option (List UInt8):=
 AG (M5 a0 (a0.length:Int) 0 ([]:List UInt8)) fun o9=>
 Az (fit o9.length [(0:UInt8),(1:UInt8)].length 1) (
  some (o9++[(0:UInt8),(1:UInt8)]))
theorem aQv(a0:List UInt8):Le (aW4 a0) (Xv a0):=by unfold aW4 Xv;repeat' (first|with_reducible refine AF ?_ fun _=>?_|with_reducible refine Ba ?_|with_reducible exact PN _ _ _ _|with_reducible exact Le.refl _|exact PN _ _ _ _|refine AF ?_ fun _=>?_|refine Ba ?_|exact Le.refl _)
def aZc(a0:X3):Option (List UInt8):=
 AE (decide (a0.kind=1)) (
  AG (aXf a0.int) fun r1=>
  Az (fit [u8w a0.kind].length r1.length 1) (
   some ([u8w a0.kind]++r1))) (
  AE (decide (a0.kind=2)) (
   AG (aW4 a0.str) fun r2=>
   Az (fit [u8w a0.kind].length r2.length 1) (
    some ([u8w a0.kind]++r2))) (
   AE (a0.bool) (
    Az (fit [u8w a0.kind].length [(1:UInt8)].length 1) (
     some ([u8w a0.kind]++[(1:UInt8)]))) (
    Az (fit [u8w a0.kind].length [(0:UInt8)].length 1) (
     some ([u8w a0.kind]++[(0:UInt8)])))))
theorem aSc(a0:X3):Le (aZc a0) (Zu a0):=by unfold aZc Zu;repeat' (first|with_reducible refine AF ?_ fun _=>?_|with_reducible refine AO ?_ ?_|with_reducible refine Ba ?_|with_reducible exact aQ7 _|with_reducible exact aQv _|with_reducible exact Le.refl _|exact aQ7 _|exact aQv _|refine AF ?_ fun _=>?_|refine AO ?_ ?_|refine Ba ?_|exact Le.refl _)
def Gg(s6:List X3)(s7:Int)(s8:Int)(w3:List UInt8):Option ((Int×List UInt8)⊕((List UInt8)⊕Unit)):=
 AE (decide (s8<s7)) (
  Ab s6 s8 fun x4=>
  AG (Zp x4) fun r5=>
  AE (!r5) (
   some (.inr (.inr ()))) (
   AG (aZc x4) fun r6=>
   Az (fit w3.length r6.length 1) (
    some (.inl ((AB .add .i64 s8 1),w3++r6))))) (
  some (.inr (.inl w3)))
theorem Io(s6:List X3)(s7:Int)(s8:Int)(w3:List UInt8):Le (Gg s6 s7 s8 w3) (E3 s6 s7 s8 w3):=by unfold Gg E3;repeat' (first|with_reducible refine AF ?_ fun _=>?_|with_reducible refine AO ?_ ?_|with_reducible refine Ba ?_|with_reducible refine Af fun _=>?_|with_reducible exact aSc _|with_reducible exact Le.refl _|exact aSc _|refine AF ?_ fun _=>?_|refine AO ?_ ?_|refine Ba ?_|refine Af fun _=>?_|exact Le.refl _)
def M6(s6:List X3)(s7:Int)(s8:Int)(w3:List UInt8):Option ((List UInt8)⊕Unit):=itE (fun s:Int×List UInt8=>Gg s6 s7 s.1 s.2) 70 (s8,w3)
theorem PO(s6:List X3)(s7:Int)(s8:Int)(w3:List UInt8):Le (M6 s6 s7 s8 w3) (Rq s6 s7 s8 w3):=by unfold M6 Rq;repeat' (first|with_reducible refine AS (fun _=>?_) _ _|with_reducible exact Io _ _ _ _|with_reducible exact Le.refl _|exact Io _ _ _ _|refine AS (fun _=>?_) _ _|exact Le.refl _)
def aTt(a0:List X3):Option (List UInt8):=
 AG (M6 a0 (a0.length:Int) 0 ([]:List UInt8)) fun o7=>
 As o7 (fun o8=>
  some o8) (fun o9=>
  some ([]:List UInt8))
theorem aFu(a0:List X3):Le (aTt a0) (Xw a0):=by unfold aTt Xw;repeat' (first|with_reducible refine AF ?_ fun _=>?_|with_reducible refine Ap (fun _=>?_) fun _=>?_|with_reducible exact PO _ _ _ _|with_reducible exact Le.refl _|exact PO _ _ _ _|refine AF ?_ fun _=>?_|refine Ap (fun _=>?_) fun _=>?_|exact Le.refl _)
def M2(s0:List Int)(s1:Int)(s6:Int)(s7:Int)(s8:Int):Option (Int):=itE (fun s:Int×Int=>E2 s0 s1 s6 s.1 s.2) 70 (s7,s8)
theorem PB(s0:List Int)(s1:Int)(s6:Int)(s7:Int)(s8:Int):Le (M2 s0 s1 s6 s7 s8) (Uy s0 s1 s6 s7 s8):=by unfold M2 Uy;repeat' (first|with_reducible refine AS (fun _=>?_) _ _|with_reducible exact Le.refl _|refine AS (fun _=>?_) _ _|exact Le.refl _)
def aQt(a0:List Int)(a1:Int):Option (Int×Bool):=
 AG (M2 a0 a1 (a0.length:Int) 0 (a0.length:Int)) fun o5=>
 AE (decide (o5<(a0.length:Int))) (
  Ab a0 o5 fun x6=>
  AE (decide (x6=a1)) (
   some (o5,true)) (
   Ab a0 o5 fun x7=>
   AG (Qj x7) fun r8=>
   AE (r8) (
    AG (Qj a1) fun r9=>
    some (o5,r9)) (
    some (o5,false)))) (
  some (o5,false))
theorem Rl(a0:List Int)(a1:Int):Le (aQt a0 a1) (Xr a0 a1):=by unfold aQt Xr;repeat' (first|with_reducible refine AF ?_ fun _=>?_|with_reducible refine AO ?_ ?_|with_reducible refine Af fun _=>?_|with_reducible exact PB _ _ _ _ _|with_reducible exact Le.refl _|exact PB _ _ _ _ _|refine AF ?_ fun _=>?_|refine AO ?_ ?_|refine Af fun _=>?_|exact Le.refl _)
def aRy(a1:Int)(w0:List Int):Option (List Int):=
 AG (aQt w0 a1) fun r1=>
 AE (r1.2) (
  some w0) (
  AG (U8 r1.1 w0 [a1]) fun r2=>
  some r2)
theorem Ry(a1:Int)(w0:List Int):Le (aRy a1 w0) (Zb a1 w0):=by unfold aRy Zb;repeat' (first|with_reducible refine AF ?_ fun _=>?_|with_reducible refine AO ?_ ?_|with_reducible exact Rl _ _|with_reducible exact Le.refl _|exact Rl _ _|refine AF ?_ fun _=>?_|refine AO ?_ ?_|exact Le.refl _)
def aUi(a0:List UInt8)(a2:Int)(w1:AA)(w2:MP Int (List X0))(w3:MP (List UInt8) (List Int)):Option (AA×MP Int (List X0)×MP (List UInt8) (List Int)):=
 AG (aRy a2 ((A5 [] w3 a0).1)) fun r1=>
 some (w1,w2,(CJ w3 a0 r1))
theorem aPn(a0:List UInt8)(a2:Int)(w1:AA)(w2:MP Int (List X0))(w3:MP (List UInt8) (List Int)):Le (aUi a0 a2 w1 w2 w3) (Q4 a0 a2 w1 w2 w3):=by unfold aUi Q4;repeat' (first|with_reducible refine AF ?_ fun _=>?_|with_reducible exact Ry _ _|with_reducible exact Le.refl _|exact Ry _ _|refine AF ?_ fun _=>?_|exact Le.refl _)
def Mi(s1:List X0)(s2:Int)(s6:Int)(s10:List UInt8)(s17:List X2)(s18:Int)(s19:Int)(s25:List AX)(s26:Int)(s27:Int)(s45:Bool)(w0:AA)(w11:X3)(w502:MP Int (List X0))(w503:MP (List UInt8) (List Int))(w997:Int):Option ((List UInt8)):=
 AE (s45) (
  AG (aTt [w11]) fun r5=>
  Az (s10.length+r5.length<=9223372036854775807) (
   some (s10++r5))) (
  some s10)
theorem Og(s1:List X0)(s2:Int)(s6:Int)(s10:List UInt8)(s17:List X2)(s18:Int)(s19:Int)(s25:List AX)(s26:Int)(s27:Int)(s45:Bool)(w0:AA)(w11:X3)(w502:MP Int (List X0))(w503:MP (List UInt8) (List Int))(w997:Int):Le (Mi s1 s2 s6 s10 s17 s18 s19 s25 s26 s27 s45 w0 w11 w502 w503 w997) (IJ s1 s2 s6 s10 s17 s18 s19 s25 s26 s27 s45 w0 w11 w502 w503 w997):=by unfold Mi IJ;repeat' (first|with_reducible refine AF ?_ fun _=>?_|with_reducible refine AO ?_ ?_|with_reducible refine Ba ?_|with_reducible exact aFu _|with_reducible exact Le.refl _|exact aFu _|refine AF ?_ fun _=>?_|refine AO ?_ ?_|refine Ba ?_|exact Le.refl _)
def Mh(s1:List X0)(s2:Int)(s6:Int)(s17:List X2)(s18:Int)(s19:Int)(s25:List AX)(s26:Int)(s27:Int)(w0:AA)(w502:MP Int (List X0))(w503:MP (List UInt8) (List Int))(w997:Int):Option ((AA×MP Int (List X0)×MP (List UInt8) (List Int))):=
 Ab s25 s27 fun x2=>
 AE (!decide (x2.kind=2)) (
  some (w0,w502,w503)) (
  AG (Qi s6 s27) fun r3=>
  AG (aTw s1 x2.n) fun r4=>
  AG (Mi s1 s2 s6 r3 s17 s18 s19 s25 s26 s27 r4.2 w0 r4.1 w502 w503 w997) fun o6=>
  AG (aUi o6 s2 w0 w502 w503) fun r7=>
  some (r7.1,r7.2.1,r7.2.2))
theorem Of(s1:List X0)(s2:Int)(s6:Int)(s17:List X2)(s18:Int)(s19:Int)(s25:List AX)(s26:Int)(s27:Int)(w0:AA)(w502:MP Int (List X0))(w503:MP (List UInt8) (List Int))(w997:Int):Le (Mh s1 s2 s6 s17 s18 s19 s25 s26 s27 w0 w502 w503 w997) (RW s1 s2 s6 s17 s18 s19 s25 s26 s27 w0 w502 w503 w997):=by unfold Mh RW;repeat' (first|with_reducible refine AF ?_ fun _=>?_|with_reducible refine AO ?_ ?_|with_reducible refine Af fun _=>?_|with_reducible exact aF8 _ _|with_reducible exact Og _ _ _ _ _ _ _ _ _ _ _ _ _ _ _ _|with_reducible exact aPn _ _ _ _ _|with_reducible exact Le.refl _|exact aF8 _ _|exact Og _ _ _ _ _ _ _ _ _ _ _ _ _ _ _ _|exact aPn _ _ _ _ _|refine AF ?_ fun _=>?_|refine AO ?_ ?_|refine Af fun _=>?_|exact Le.refl _)
def GF(s1:List X0)(s2:Int)(s6:Int)(s17:List X2)(s18:Int)(s19:Int)(s25:List AX)(s26:Int)(w997:Int)(s27:Int)(w0:AA)(w502:MP Int (List X0))(w503:MP (List UInt8) (List Int)):Option ((Int×AA×MP Int (List X0)×MP (List UInt8) (List Int))⊕((AA×MP Int (List X0)×MP (List UInt8) (List Int)))):=
 AE (decide (s27<s26)) (
  AG (Mh s1 s2 s6 s17 s18 s19 s25 s26 s27 w0 w502 w503 w997) fun o8=>
  some (.inl ((AB .add .i64 s27 1),o8.1,o8.2.1,o8.2.2))) (
  some (.inr (w0,w502,w503)))
theorem Ii(s1:List X0)(s2:Int)(s6:Int)(s17:List X2)(s18:Int)(s19:Int)(s25:List AX)(s26:Int)(w997:Int)(s27:Int)(w0:AA)(w502:MP Int (List X0))(w503:MP (List UInt8) (List Int)):Le (GF s1 s2 s6 s17 s18 s19 s25 s26 w997 s27 w0 w502 w503) (D3 s1 s2 s6 s17 s18 s19 s25 s26 w997 s27 w0 w502 w503):=by unfold GF D3;repeat' (first|with_reducible refine AF ?_ fun _=>?_|with_reducible refine AO ?_ ?_|with_reducible exact Of _ _ _ _ _ _ _ _ _ _ _ _ _|with_reducible exact Le.refl _|exact Of _ _ _ _ _ _ _ _ _ _ _ _ _|refine AF ?_ fun _=>?_|refine AO ?_ ?_|exact Le.refl _)
def Mk(s1:List X0)(s2:Int)(s6:Int)(s17:List X2)(s18:Int)(s19:Int)(s25:List AX)(s26:Int)(w997:Int)(s27:Int)(w0:AA)(w502:MP Int (List X0))(w503:MP (List UInt8) (List Int)):Option ((AA×MP Int (List X0)×MP (List UInt8) (List Int))):=itE (fun s:Int×AA×MP Int (List X0)×MP (List UInt8) (List Int)=>GF s1 s2 s6 s17 s18 s19 s25 s26 w997 s.1 s.2.1 s.2.2.1 s.2.2.2) 70 (s27,w0,w502,w503)
theorem Ok(s1:List X0)(s2:Int)(s6:Int)(s17:List X2)(s18:Int)(s19:Int)(s25:List AX)(s26:Int)(w997:Int)(s27:Int)(w0:AA)(w502:MP Int (List X0))(w503:MP (List UInt8) (List Int)):Le (Mk s1 s2 s6 s17 s18 s19 s25 s26 w997 s27 w0 w502 w503) (LE s1 s2 s6 s17 s18 s19 s25 s26 w997 s27 w0 w502 w503):=by unfold Mk LE;repeat' (first|with_reducible refine AS (fun _=>?_) _ _|with_reducible exact Ii _ _ _ _ _ _ _ _ _ _ _ _ _|with_reducible exact Le.refl _|exact Ii _ _ _ _ _ _ _ _ _ _ _ _ _|refine AS (fun _=>?_) _ _|exact Le.refl _)
def GE(s1:List X0)(s2:Int)(s17:List X2)(s18:Int)(w997:Int)(s19:Int)(w0:AA)(w502:MP Int (List X0))(w503:MP (List UInt8) (List Int)):Option ((Int×AA×MP Int (List X0)×MP (List UInt8) (List Int))⊕((AA×MP Int (List X0)×MP (List UInt8) (List Int)))):=
 AE (decide (s19<s18)) (
  Ab s17 s19 fun x1=>
  AG (Mk s1 s2 s19 s17 s18 s19 x1.args (x1.args.length:Int) w997 0 w0 w502 w503) fun o9=>
  some (.inl ((AB .add .i64 s19 1),o9.1,o9.2.1,o9.2.2))) (
  some (.inr (w0,w502,w503)))
theorem Ih(s1:List X0)(s2:Int)(s17:List X2)(s18:Int)(w997:Int)(s19:Int)(w0:AA)(w502:MP Int (List X0))(w503:MP (List UInt8) (List Int)):Le (GE s1 s2 s17 s18 w997 s19 w0 w502 w503) (D2 s1 s2 s17 s18 w997 s19 w0 w502 w503):=by unfold GE D2;repeat' (first|with_reducible refine AF ?_ fun _=>?_|with_reducible refine AO ?_ ?_|with_reducible refine Af fun _=>?_|with_reducible exact Ok _ _ _ _ _ _ _ _ _ _ _ _ _|with_reducible exact Le.refl _|exact Ok _ _ _ _ _ _ _ _ _ _ _ _ _|refine AF ?_ fun _=>?_|refine AO ?_ ?_|refine Af fun _=>?_|exact Le.refl _)
def Mj(s1:List X0)(s2:Int)(s17:List X2)(s18:Int)(w997:Int)(s19:Int)(w0:AA)(w502:MP Int (List X0))(w503:MP (List UInt8) (List Int)):Option ((AA×MP Int (List X0)×MP (List UInt8) (List Int))):=itE (fun s:Int×AA×MP Int (List X0)×MP (List UInt8) (List Int)=>GE s1 s2 s17 s18 w997 s.1 s.2.1 s.2.2.1 s.2.2.2) 70 (s19,w0,w502,w503)
theorem Oi(s1:List X0)(s2:Int)(s17:List X2)(s18:Int)(w997:Int)(s19:Int)(w0:AA)(w502:MP Int (List X0))(w503:MP (List UInt8) (List Int)):Le (Mj s1 s2 s17 s18 w997 s19 w0 w502 w503) (LD s1 s2 s17 s18 w997 s19 w0 w502 w503):=by unfold Mj LD;repeat' (first|with_reducible refine AS (fun _=>?_) _ _|with_reducible exact Ih _ _ _ _ _ _ _ _ _|with_reducible exact Le.refl _|exact Ih _ _ _ _ _ _ _ _ _|refine AS (fun _=>?_) _ _|exact Le.refl _)
def aWb(a1:List X0)(a2:Int)(w0:AA)(w2:MP Int (List X0))(w3:MP (List UInt8) (List Int)):Option (AA×MP Int (List X0)×MP (List UInt8) (List Int)):=
 AG (Mj a1 a2 w0.symbols (w0.symbols.length:Int) a2 0 w0 w2 w3) fun o10=>
 some (o10.1,o10.2.1,o10.2.2)
theorem aQi(a1:List X0)(a2:Int)(w0:AA)(w2:MP Int (List X0))(w3:MP (List UInt8) (List Int)):Le (aWb a1 a2 w0 w2 w3) (X7 a1 a2 w0 w2 w3):=by unfold aWb X7;repeat' (first|with_reducible refine AF ?_ fun _=>?_|with_reducible exact Oi _ _ _ _ _ _ _ _ _|with_reducible exact Le.refl _|exact Oi _ _ _ _ _ _ _ _ _|refine AF ?_ fun _=>?_|exact Le.refl _)
def aRu(a1:Int)(a2:List X0)(w0:AA)(w1:MP Int (List X0))(w2:MP (List UInt8) (List Int)):Option (Bool×AA×MP Int (List X0)×MP (List UInt8) (List Int)):=
 AE ((A5 ([]:List X0) w1 a1).2) (
  some (false,w0,w1,w2)) (
  AG (U6 a2) fun r1=>
  AG (aWb a2 a1 w0 (CJ w1 a1 r1) w2) fun r2=>
  some (true,r2.1,r2.2.1,r2.2.2))
theorem aRv(a1:Int)(a2:List X0)(w0:AA)(w1:MP Int (List X0))(w2:MP (List UInt8) (List Int)):Le (aRu a1 a2 w0 w1 w2) (Z6 a1 a2 w0 w1 w2):=by unfold aRu Z6;repeat' (first|with_reducible refine AF ?_ fun _=>?_|with_reducible refine AO ?_ ?_|with_reducible exact aQi _ _ _ _ _|with_reducible exact Le.refl _|exact aQi _ _ _ _ _|refine AF ?_ fun _=>?_|refine AO ?_ ?_|exact Le.refl _)
def Gj(s11:Int)(w0:List Int)(w1:List Int)(s12:Int)(w5:List Int):Option ((Int×List Int)⊕((List Int))):=
 AE (decide (s12<s11)) (
  Az (0<=s12/\s12+1<=(w1.length:Int)) (
   Ab w1 s12 fun x2=>
   AG (aRy x2 w5) fun r3=>
   some (.inl ((AB .add .i64 s12 1),r3)))) (
  some (.inr w5))
theorem Ir(s11:Int)(w0:List Int)(w1:List Int)(s12:Int)(w5:List Int):Le (Gj s11 w0 w1 s12 w5) (D8 s11 w0 w1 s12 w5):=by unfold Gj D8;repeat' (first|with_reducible refine AF ?_ fun _=>?_|with_reducible refine AO ?_ ?_|with_reducible refine Ba ?_|with_reducible refine Af fun _=>?_|with_reducible exact Ry _ _|with_reducible exact Le.refl _|exact Ry _ _|refine AF ?_ fun _=>?_|refine AO ?_ ?_|refine Ba ?_|refine Af fun _=>?_|exact Le.refl _)
def NA(s11:Int)(w0:List Int)(w1:List Int)(s12:Int)(w5:List Int):Option ((List Int)):=itE (fun s:Int×List Int=>Gj s11 w0 w1 s.1 s.2) 70 (s12,w5)
theorem PV(s11:Int)(w0:List Int)(w1:List Int)(s12:Int)(w5:List Int):Le (NA s11 w0 w1 s12 w5) (LI s11 w0 w1 s12 w5):=by unfold NA LI;repeat' (first|with_reducible refine AS (fun _=>?_) _ _|with_reducible exact Ir _ _ _ _ _|with_reducible exact Le.refl _|exact Ir _ _ _ _ _|refine AS (fun _=>?_) _ _|exact Le.refl _)
def aW7(w0:List Int)(w1:List Int):Option (List Int):=
 AG (Um w0) fun r1=>
 AG (NA (w1.length:Int) w0 w1 0 r1) fun o4=>
 some o4
theorem aQ1(w0:List Int)(w1:List Int):Le (aW7 w0 w1) (Xz w0 w1):=by unfold aW7 Xz;repeat' (first|with_reducible refine AF ?_ fun _=>?_|with_reducible exact PV _ _ _ _ _|with_reducible exact Le.refl _|exact PV _ _ _ _ _|refine AF ?_ fun _=>?_|exact Le.refl _)
def Mo(s1:List Int)(s10:List Int)(s11:Int)(s12:Int)(w5:List Int):Option ((List Int)):=
 Ab s10 s12 fun x5=>
 AG (aQt s1 x5) fun r6=>
 AG (T0 s1 x5 s10 s11 s12 r6.2 w5) fun o7=>
 some o7
theorem Ox(s1:List Int)(s10:List Int)(s11:Int)(s12:Int)(w5:List Int):Le (Mo s1 s10 s11 s12 w5) (Re s1 s10 s11 s12 w5):=by unfold Mo Re;repeat' (first|with_reducible refine AF ?_ fun _=>?_|with_reducible refine Af fun _=>?_|with_reducible exact Rl _ _|with_reducible exact Le.refl _|exact Rl _ _|refine AF ?_ fun _=>?_|refine Af fun _=>?_|exact Le.refl _)
def GQ(s1:List Int)(s10:List Int)(s11:Int)(s12:Int)(w5:List Int):Option ((Int×List Int)⊕((List Int))):=
 AE (decide (s12<s11)) (
  AG (Mo s1 s10 s11 s12 w5) fun o8=>
  some (.inl ((AB .add .i64 s12 1),o8))) (
  some (.inr w5))
theorem Ij(s1:List Int)(s10:List Int)(s11:Int)(s12:Int)(w5:List Int):Le (GQ s1 s10 s11 s12 w5) (D4 s1 s10 s11 s12 w5):=by unfold GQ D4;repeat' (first|with_reducible refine AF ?_ fun _=>?_|with_reducible refine AO ?_ ?_|with_reducible exact Ox _ _ _ _ _|with_reducible exact Le.refl _|exact Ox _ _ _ _ _|refine AF ?_ fun _=>?_|refine AO ?_ ?_|exact Le.refl _)
def Mp(s1:List Int)(s10:List Int)(s11:Int)(s12:Int)(w5:List Int):Option ((List Int)):=itE (fun s:Int×List Int=>GQ s1 s10 s11 s.1 s.2) 70 (s12,w5)
theorem Oz(s1:List Int)(s10:List Int)(s11:Int)(s12:Int)(w5:List Int):Le (Mp s1 s10 s11 s12 w5) (IK s1 s10 s11 s12 w5):=by unfold Mp IK;repeat' (first|with_reducible refine AS (fun _=>?_) _ _|with_reducible exact Ij _ _ _ _ _|with_reducible exact Le.refl _|exact Ij _ _ _ _ _|refine AS (fun _=>?_) _ _|exact Le.refl _)
def aWj(a0:List Int)(a1:List Int):Option (List Int):=
 AG (Mp a1 a0 (a0.length:Int) 0 ([]:List Int)) fun o9=>
 some o9
theorem aQm(a0:List Int)(a1:List Int):Le (aWj a0 a1) (Xh a0 a1):=by unfold aWj Xh;repeat' (first|with_reducible refine AF ?_ fun _=>?_|with_reducible exact Oz _ _ _ _ _|with_reducible exact Le.refl _|exact Oz _ _ _ _ _|refine AF ?_ fun _=>?_|exact Le.refl _)
def M3(s10:List Int)(s11:Int)(s12:Int)(w0:List Int)(w5:List Int):Option ((List Int)):=
 Ab s10 s12 fun x5=>
 AG (aQt w0 x5) fun r6=>
 AG (aFc x5 s10 s11 s12 r6.2 w0 w5) fun o7=>
 some o7
theorem PC(s10:List Int)(s11:Int)(s12:Int)(w0:List Int)(w5:List Int):Le (M3 s10 s11 s12 w0 w5) (VB s10 s11 s12 w0 w5):=by unfold M3 VB;repeat' (first|with_reducible refine AF ?_ fun _=>?_|with_reducible refine Af fun _=>?_|with_reducible exact Rl _ _|with_reducible exact Le.refl _|exact Rl _ _|refine AF ?_ fun _=>?_|refine Af fun _=>?_|exact Le.refl _)
def Gb(s10:List Int)(s11:Int)(w0:List Int)(s12:Int)(w5:List Int):Option ((Int×List Int)⊕((List Int))):=
 AE (decide (s12<s11)) (
  AG (M3 s10 s11 s12 w0 w5) fun o8=>
  some (.inl ((AB .add .i64 s12 1),o8))) (
  some (.inr w5))
theorem Im(s10:List Int)(s11:Int)(w0:List Int)(s12:Int)(w5:List Int):Le (Gb s10 s11 w0 s12 w5) (Jl s10 s11 w0 s12 w5):=by unfold Gb Jl;repeat' (first|with_reducible refine AF ?_ fun _=>?_|with_reducible refine AO ?_ ?_|with_reducible exact PC _ _ _ _ _|with_reducible exact Le.refl _|exact PC _ _ _ _ _|refine AF ?_ fun _=>?_|refine AO ?_ ?_|exact Le.refl _)
def M4(s10:List Int)(s11:Int)(w0:List Int)(s12:Int)(w5:List Int):Option ((List Int)):=itE (fun s:Int×List Int=>Gb s10 s11 w0 s.1 s.2) 70 (s12,w5)
theorem PD(s10:List Int)(s11:Int)(w0:List Int)(s12:Int)(w5:List Int):Le (M4 s10 s11 w0 s12 w5) (aFe s10 s11 w0 s12 w5):=by unfold M4 aFe;repeat' (first|with_reducible refine AS (fun _=>?_) _ _|with_reducible exact Im _ _ _ _ _|with_reducible exact Le.refl _|exact Im _ _ _ _ _|refine AS (fun _=>?_) _ _|exact Le.refl _)
def aWy(a0:List Int)(w0:List Int):Option (List Int):=
 AG (M4 a0 (a0.length:Int) w0 0 ([]:List Int)) fun o9=>
 some o9
theorem aQu(a0:List Int)(w0:List Int):Le (aWy a0 w0) (Xs a0 w0):=by unfold aWy Xs;repeat' (first|with_reducible refine AF ?_ fun _=>?_|with_reducible exact PD _ _ _ _ _|with_reducible exact Le.refl _|exact PD _ _ _ _ _|refine AF ?_ fun _=>?_|exact Le.refl _)
def aU6(xs:List Int):Option (List Int):=aZs Qz xs
theorem aP0(xs:List Int):Le (aU6 xs) (Qk xs):=by unfold aU6 Qk;repeat' (first|with_reducible refine aKm fun _=>?_|with_reducible exact Le.refl _|refine aKm fun _=>?_|exact Le.refl _)
def Mu(w0:AA)(w501:MP Int (List X0))(w502:MP (List UInt8) (List Int))(w3:List Int):Option (List Int):=aAp (GV w0 w501 w502) (w501.es.map (·.2)) (fun(x:Int×List X0) (s:List Int)=>E1 w0 w501 w502 x.1 x.2 s) w3
theorem O3(w0:AA)(w501:MP Int (List X0))(w502:MP (List UInt8) (List Int))(w3:List Int):Le (Mu w0 w501 w502 w3) (Rg w0 w501 w502 w3):=by unfold Mu Rg;repeat' (first|with_reducible refine QJ fun _ _=>?_|with_reducible exact Le.refl _|refine QJ fun _ _=>?_|exact Le.refl _)
def Mt(w0:AA)(w501:MP Int (List X0))(w502:MP (List UInt8) (List Int)):Option ((List Int)):=
 AG (Mu w0 w501 w502 ([]:List Int)) fun o1=>
 some o1
theorem O2(w0:AA)(w501:MP Int (List X0))(w502:MP (List UInt8) (List Int)):Le (Mt w0 w501 w502) (Rf w0 w501 w502):=by unfold Mt Rf;repeat' (first|with_reducible refine AF ?_ fun _=>?_|with_reducible exact O3 _ _ _ _|with_reducible exact Le.refl _|exact O3 _ _ _ _|refine AF ?_ fun _=>?_|exact Le.refl _)
def aWo(w0:AA)(w1:MP Int (List X0))(w2:MP (List UInt8) (List Int)):Option (List Int×AA×MP Int (List X0)×MP (List UInt8) (List Int)):=
 AG (Mt w0 w1 w2) fun o2=>
 AG (aU6 o2) fun r3=>
 some (r3,w0,w1,w2)
theorem aQo(w0:AA)(w1:MP Int (List X0))(w2:MP (List UInt8) (List Int)):Le (aWo w0 w1 w2) (Xl w0 w1 w2):=by unfold aWo Xl;repeat' (first|with_reducible refine AF ?_ fun _=>?_|with_reducible exact O2 _ _ _|with_reducible exact aP0 _|with_reducible exact Le.refl _|exact O2 _ _ _|exact aP0 _|refine AF ?_ fun _=>?_|exact Le.refl _)
def My(s2:Bool)(s7:List Int)(s8:Bool)(s24:List AX)(s25:Int)(s26:Int)(w0:AA)(w4:Ae)(w501:MP Int (List X0))(w502:MP (List UInt8) (List Int)):Option ((List Int×Bool)):=
 Ab s24 s26 fun x12=>
 AE (!decide (x12.kind=2)) (
  some (s7,s8)) (
  AG (aTw w4.bind x12.n) fun r13=>
  AG (Qi w4.symbol s26) fun r14=>
  AG (aTt [r13.1]) fun r15=>
  Az (r14.length+r15.length<=9223372036854775807) (
   AE (!s2) (
    Az ((r14++r15)≠r14) (
     AG (aW7 ((A5 [] w502 (r14++r15)).1) ((A5 [] w502 r14).1)) fun r16=>
     AE (s8) (
      AG (Un r16) fun r17=>
      some (r17,false)) (
      AG (aWj s7 r16) fun r18=>
      some (r18,s8)))) (
    AE (s8) (
     AG (Uo ((A5 [] w502 (r14++r15)).1)) fun r19=>
     some (r19,false)) (
     AG (aWy s7 ((A5 [] w502 (r14++r15)).1)) fun r20=>
     some (r20,s8)))))
theorem O7(s2:Bool)(s7:List Int)(s8:Bool)(s24:List AX)(s25:Int)(s26:Int)(w0:AA)(w4:Ae)(w501:MP Int (List X0))(w502:MP (List UInt8) (List Int)):Le (My s2 s7 s8 s24 s25 s26 w0 w4 w501 w502) (Mx s2 s7 s8 s24 s25 s26 w0 w4 w501 w502):=by unfold My Mx;repeat' (first|with_reducible refine AF ?_ fun _=>?_|with_reducible refine AO ?_ ?_|with_reducible refine Ba ?_|with_reducible refine Af fun _=>?_|with_reducible exact aF8 _ _|with_reducible exact aFu _|with_reducible exact aQ1 _ _|with_reducible exact aQm _ _|with_reducible exact aQu _ _|with_reducible exact Le.refl _|exact aF8 _ _|exact aFu _|exact aQ1 _ _|exact aQm _ _|exact aQu _ _|refine AF ?_ fun _=>?_|refine AO ?_ ?_|refine Ba ?_|refine Af fun _=>?_|exact Le.refl _)
def GZ(s2:Bool)(s24:List AX)(s25:Int)(w0:AA)(w4:Ae)(w501:MP Int (List X0))(w502:MP (List UInt8) (List Int))(s7:List Int)(s8:Bool)(s26:Int):Option ((List Int×Bool×Int)⊕((List Int×Bool))):=
 AE (decide (s26<s25)) (
  AG (My s2 s7 s8 s24 s25 s26 w0 w4 w501 w502) fun o21=>
  some (.inl (o21.1,o21.2,(AB .add .i64 s26 1)))) (
  some (.inr (s7,s8)))
theorem Il(s2:Bool)(s24:List AX)(s25:Int)(w0:AA)(w4:Ae)(w501:MP Int (List X0))(w502:MP (List UInt8) (List Int))(s7:List Int)(s8:Bool)(s26:Int):Le (GZ s2 s24 s25 w0 w4 w501 w502 s7 s8 s26) (D6 s2 s24 s25 w0 w4 w501 w502 s7 s8 s26):=by unfold GZ D6;repeat' (first|with_reducible refine AF ?_ fun _=>?_|with_reducible refine AO ?_ ?_|with_reducible exact O7 _ _ _ _ _ _ _ _ _ _|with_reducible exact Le.refl _|exact O7 _ _ _ _ _ _ _ _ _ _|refine AF ?_ fun _=>?_|refine AO ?_ ?_|exact Le.refl _)
def Mz(s2:Bool)(s24:List AX)(s25:Int)(w0:AA)(w4:Ae)(w501:MP Int (List X0))(w502:MP (List UInt8) (List Int))(s7:List Int)(s8:Bool)(s26:Int):Option ((List Int×Bool)):=itE (fun s:List Int×Bool×Int=>GZ s2 s24 s25 w0 w4 w501 w502 s.1 s.2.1 s.2.2) 70 (s7,s8,s26)
theorem O9(s2:Bool)(s24:List AX)(s25:Int)(w0:AA)(w4:Ae)(w501:MP Int (List X0))(w502:MP (List UInt8) (List Int))(s7:List Int)(s8:Bool)(s26:Int):Le (Mz s2 s24 s25 w0 w4 w501 w502 s7 s8 s26) (LG s2 s24 s25 w0 w4 w501 w502 s7 s8 s26):=by unfold Mz LG;repeat' (first|with_reducible refine AS (fun _=>?_) _ _|with_reducible exact Il _ _ _ _ _ _ _ _ _ _|with_reducible exact Le.refl _|exact Il _ _ _ _ _ _ _ _ _ _|refine AS (fun _=>?_) _ _|exact Le.refl _)
def aWu(a1:Ae)(a2:Bool)(w0:AA)(w1:MP Int (List X0))(w2:MP (List UInt8) (List Int)):Option (List Int×AA×MP Int (List X0)×MP (List UInt8) (List Int)):=
 Ab w0.symbols a1.symbol fun x1=>
 AG (Mz a2 x1.args (x1.args.length:Int) w0 a1 w1 w2 ([]:List Int) true 0) fun o22=>
 AE (o22.2) (
  AG (aWo w0 w1 w2) fun r23=>
  some (r23.1,r23.2.1,r23.2.2.1,r23.2.2.2)) (
  some (o22.1,w0,w1,w2))
theorem aQr(a1:Ae)(a2:Bool)(w0:AA)(w1:MP Int (List X0))(w2:MP (List UInt8) (List Int)):Le (aWu a1 a2 w0 w1 w2) (Xp a1 a2 w0 w1 w2):=by unfold aWu Xp;repeat' (first|with_reducible refine AF ?_ fun _=>?_|with_reducible refine AO ?_ ?_|with_reducible refine Af fun _=>?_|with_reducible exact O9 _ _ _ _ _ _ _ _ _ _|with_reducible exact aQo _ _ _|with_reducible exact Le.refl _|exact O9 _ _ _ _ _ _ _ _ _ _|exact aQo _ _ _|refine AF ?_ fun _=>?_|refine AO ?_ ?_|refine Af fun _=>?_|exact Le.refl _)
def Gk(s10:List Int)(s11:Int)(s12:Int)(w5:List Int):Option ((Int×List Int)⊕((List Int))):=
 AE (decide (s12<s11)) (
  Ab s10 s12 fun x2=>
  AG (aRy x2 w5) fun r3=>
  some (.inl ((AB .add .i64 s12 1),r3))) (
  some (.inr w5))
theorem It(s10:List Int)(s11:Int)(s12:Int)(w5:List Int):Le (Gk s10 s11 s12 w5) (D9 s10 s11 s12 w5):=by unfold Gk D9;repeat' (first|with_reducible refine AF ?_ fun _=>?_|with_reducible refine AO ?_ ?_|with_reducible refine Af fun _=>?_|with_reducible exact Ry _ _|with_reducible exact Le.refl _|exact Ry _ _|refine AF ?_ fun _=>?_|refine AO ?_ ?_|refine Af fun _=>?_|exact Le.refl _)
def NB(s10:List Int)(s11:Int)(s12:Int)(w5:List Int):Option ((List Int)):=itE (fun s:Int×List Int=>Gk s10 s11 s.1 s.2) 70 (s12,w5)
theorem PY(s10:List Int)(s11:Int)(s12:Int)(w5:List Int):Le (NB s10 s11 s12 w5) (LJ s10 s11 s12 w5):=by unfold NB LJ;repeat' (first|with_reducible refine AS (fun _=>?_) _ _|with_reducible exact It _ _ _ _|with_reducible exact Le.refl _|exact It _ _ _ _|refine AS (fun _=>?_) _ _|exact Le.refl _)
def aW9(a0:List Int)(a1:List Int):Option (List Int):=
 AG (Up a0) fun r1=>
 AG (NB a1 (a1.length:Int) 0 r1) fun o4=>
 some o4
theorem aQ2(a0:List Int)(a1:List Int):Le (aW9 a0 a1) (Y0 a0 a1):=by unfold aW9 Y0;repeat' (first|with_reducible refine AF ?_ fun _=>?_|with_reducible exact PY _ _ _ _|with_reducible exact Le.refl _|exact PY _ _ _ _|refine AF ?_ fun _=>?_|exact Le.refl _)
def Gi(s2:Bool)(s12:List Ae)(s13:Int)(s7:List Int)(s14:Int)(w0:AA)(w501:MP Int (List X0))(w502:MP (List UInt8) (List Int)):Option ((List Int×Int×AA×MP Int (List X0)×MP (List UInt8) (List Int))⊕((List Int×AA×MP Int (List X0)×MP (List UInt8) (List Int)))):=
 AE (decide (s14<s13)) (
  Ab s12 s14 fun x4=>
  AG (aWu x4 s2 w0 w501 w502) fun r5=>
  AG (aW9 s7 r5.1) fun r6=>
  some (.inl (r6,(AB .add .i64 s14 1),r5.2.1,r5.2.2.1,r5.2.2.2))) (
  some (.inr (s7,w0,w501,w502)))
theorem Iq(s2:Bool)(s12:List Ae)(s13:Int)(s7:List Int)(s14:Int)(w0:AA)(w501:MP Int (List X0))(w502:MP (List UInt8) (List Int)):Le (Gi s2 s12 s13 s7 s14 w0 w501 w502) (D7 s2 s12 s13 s7 s14 w0 w501 w502):=by unfold Gi D7;repeat' (first|with_reducible refine AF ?_ fun _=>?_|with_reducible refine AO ?_ ?_|with_reducible refine Af fun _=>?_|with_reducible exact aQr _ _ _ _ _|with_reducible exact aQ2 _ _|with_reducible exact Le.refl _|exact aQr _ _ _ _ _|exact aQ2 _ _|refine AF ?_ fun _=>?_|refine AO ?_ ?_|refine Af fun _=>?_|exact Le.refl _)
def M9(s2:Bool)(s12:List Ae)(s13:Int)(s7:List Int)(s14:Int)(w0:AA)(w501:MP Int (List X0))(w502:MP (List UInt8) (List Int)):Option ((List Int×AA×MP Int (List X0)×MP (List UInt8) (List Int))):=itE (fun s:List Int×Int×AA×MP Int (List X0)×MP (List UInt8) (List Int)=>Gi s2 s12 s13 s.1 s.2.1 s.2.2.1 s.2.2.2.1 s.2.2.2.2) 70 (s7,s14,w0,w501,w502)
theorem PT(s2:Bool)(s12:List Ae)(s13:Int)(s7:List Int)(s14:Int)(w0:AA)(w501:MP Int (List X0))(w502:MP (List UInt8) (List Int)):Le (M9 s2 s12 s13 s7 s14 w0 w501 w502) (LH s2 s12 s13 s7 s14 w0 w501 w502):=by unfold M9 LH;repeat' (first|with_reducible refine AS (fun _=>?_) _ _|with_reducible exact Iq _ _ _ _ _ _ _ _|with_reducible exact Le.refl _|exact Iq _ _ _ _ _ _ _ _|refine AS (fun _=>?_) _ _|exact Le.refl _)
def aW6(a1:List Ae)(a2:Bool)(w0:AA)(w1:MP Int (List X0))(w2:MP (List UInt8) (List Int)):Option (List Int×AA×MP Int (List X0)×MP (List UInt8) (List Int)):=
 AG (M9 a2 a1 (a1.length:Int) ([]:List Int) 0 w0 w1 w2) fun o7=>
 some (o7.1,o7.2.1,o7.2.2.1,o7.2.2.2)
theorem aQz(a1:List Ae)(a2:Bool)(w0:AA)(w1:MP Int (List X0))(w2:MP (List UInt8) (List Int)):Le (aW6 a1 a2 w0 w1 w2) (Xy a1 a2 w0 w1 w2):=by unfold aW6 Xy;repeat' (first|with_reducible refine AF ?_ fun _=>?_|with_reducible exact PT _ _ _ _ _ _ _ _|with_reducible exact Le.refl _|exact PT _ _ _ _ _ _ _ _|refine AF ?_ fun _=>?_|exact Le.refl _)
def aZe(a1:List Ae)(w0:AA)(w1:MP Int (List X0))(w2:MP (List UInt8) (List Int)):Option (List Int×AA×MP Int (List X0)×MP (List UInt8) (List Int)):=
 AG (aW6 a1 false w0 w1 w2) fun r1=>
 some (r1.1,r1.2.1,r1.2.2.1,r1.2.2.2)
theorem aSd(a1:List Ae)(w0:AA)(w1:MP Int (List X0))(w2:MP (List UInt8) (List Int)):Le (aZe a1 w0 w1 w2) (Zv a1 w0 w1 w2):=by unfold aZe Zv;repeat' (first|with_reducible refine AF ?_ fun _=>?_|with_reducible exact aQz _ _ _ _ _|with_reducible exact Le.refl _|exact aQz _ _ _ _ _|refine AF ?_ fun _=>?_|exact Le.refl _)
def FS(o3:AA×MP Int (List X0)×MP (List UInt8) (List Int)):Option (Bool):=
 AG (Qh 5) fun r4=>
 AG (aRu 4 [r4] o3.1 o3.2.1 o3.2.2) fun r5=>
 AG (Qh 6) fun r6=>
 AG (aRu 5 [r6] r5.2.1 r5.2.2.1 r5.2.2.2) fun r7=>
 AG (aRu 6 ([]:List X0) r7.2.1 r7.2.2.1 r7.2.2.2) fun r8=>
 AG (Qh 5) fun r9=>
 AG (aZe ([Ae.mk 0 [r9] ([]:List X0)]) r8.2.1 r8.2.2.1 r8.2.2.2) fun r10=>
 AE (decide ((r10.1.length:Int)=2)) (
  Ab r10.1 0 fun x11=>
  AE (decide (x11=4)) (
   Ab r10.1 1 fun x12=>
   some (decide (x12=6))) (
   some false)) (
  some false)
theorem Hm(o3:AA×MP Int (List X0)×MP (List UInt8) (List Int)):Le (FS o3) (F4 o3):=by unfold FS F4;repeat' (first|with_reducible refine AF ?_ fun _=>?_|with_reducible refine AO ?_ ?_|with_reducible refine Af fun _=>?_|with_reducible exact aRv _ _ _ _ _|with_reducible exact aSd _ _ _ _|with_reducible exact Le.refl _|exact aRv _ _ _ _ _|exact aSd _ _ _ _|refine AF ?_ fun _=>?_|refine AO ?_ ?_|refine Af fun _=>?_|exact Le.refl _)
def Hl:Option (Bool):=
 AG (aY0 C4) fun r1=>
 AE (r1) (
  FS (C4,(Ce:MP Int (List X0)),(Ce:MP (List UInt8) (List Int)))) (
  some false)
theorem Lx:Le (Hl) (EY):=by unfold Hl EY;repeat' (first|with_reducible refine AF ?_ fun _=>?_|with_reducible refine AO ?_ ?_|with_reducible exact aR1 _|with_reducible exact Hm _|with_reducible exact Le.refl _|exact aR1 _|exact Hm _|refine AF ?_ fun _=>?_|refine AO ?_ ?_|exact Le.refl _)
theorem Lv:EY=some true:=Lx _ (by kernel_rfl)
theorem aU8:Ql=some true:=by
 have h:=Lv;unfold EY at h;cases hc:Zh C4 with
 |none=>rw[hc]at h;cases h
 |some b=>
  rw[hc,AD]at h
  cases b with
  |false=>cases h
  |true=>
   rw[AP]at h
   have h1:Qo C4=none:=by unfold Qo;rw[hc];rfl
   have h2:Qp C4=some (C4,Ce,Ce):=by unfold Qp;rw[hc];rfl
   have e:Ql=AG (aKk (Qo C4) (Qp C4)) fun o1=>As o1 (fun _=>some false) fun o3=>F4 o3:=rfl
   rw[e,h1,h2]
   exact h
end
end Go.Ac
