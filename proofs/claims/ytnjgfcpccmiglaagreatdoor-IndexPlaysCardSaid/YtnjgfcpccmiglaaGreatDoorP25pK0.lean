/- Own work: the plain law. -/
import Derived.Test.YtnjgfcpccmiglaaGreatDoorP25qB
set_option linter.unusedVariables false
set_option linter.unusedSimpArgs false
namespace Go.Ac
noncomputable section
def C4:AA:=(AA.mk ([113]:List UInt8) ([X8.mk ([97]:List UInt8) [1]]) ([Xd.mk false ([120]:List UInt8) 1]) ([]:List Xi) ([Yc.mk ([115]:List UInt8) false false]) 0 ([X2.mk 0 ([AX.mk 2 0 (X3.mk 0 0 ([]:List UInt8) false)])]) ([]:List Xb) ([]:List X5))
def F4(o3:AA×MP Int (List X0)×MP (List UInt8) (List Int)):Option (Bool):=
 AG (Qh 5) fun r4=>
 AG (Z6 4 [r4] o3.1 o3.2.1 o3.2.2) fun r5=>
 AG (Qh 6) fun r6=>
 AG (Z6 5 [r6] r5.2.1 r5.2.2.1 r5.2.2.2) fun r7=>
 AG (Z6 6 ([]:List X0) r7.2.1 r7.2.2.1 r7.2.2.2) fun r8=>
 AG (Qh 5) fun r9=>
 AG (Zv ([Ae.mk 0 [r9] ([]:List X0)]) r8.2.1 r8.2.2.1 r8.2.2.2) fun r10=>
 AE (decide ((r10.1.length:Int)=2)) (
  Ab r10.1 0 fun x11=>
  AE (decide (x11=4)) (
   Ab r10.1 1 fun x12=>
   some (decide (x12=6))) (
   some false)) (
  some false)
def EY:Option (Bool):=
 AG (Zh C4) fun r1=>
 AE (r1) (
  F4 (C4,(Ce:MP Int (List X0)),(Ce:MP (List UInt8) (List Int)))) (
  some false)
end
end Go.Ac
