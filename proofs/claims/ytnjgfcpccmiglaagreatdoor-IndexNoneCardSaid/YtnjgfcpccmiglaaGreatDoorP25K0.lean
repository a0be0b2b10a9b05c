/- Own work: the plain law. -/
import Derived.Test.YtnjgfcpccmiglaaGreatDoorP25B
set_option linter.unusedVariables false
set_option linter.unusedSimpArgs false
namespace Go.Ac
noncomputable section
def CS:AA:=(AA.mk ([113]:List UInt8) ([X9.mk ([97]:List UInt8) [1]]) ([Xc.mk false ([120]:List UInt8) 1]) ([]:List Xf) ([Xv.mk ([115]:List UInt8) false false]) 0 ([X3.mk 0 ([AT.mk 2 0 (X4.mk 0 0 ([]:List UInt8) false)])]) ([]:List X8) ([]:List X5))
def Eh(o3:AA×MP Int (List X0)×MP (List UInt8) (List Int)):Option (Bool):=
 AF (Zk 5) fun r4=>
 AF (Yr 4 [r4] o3.1 o3.2.1 o3.2.2) fun r5=>
 AF (Zk 6) fun r6=>
 AF (Yr 5 [r6] r5.2.1 r5.2.2.1 r5.2.2.2) fun r7=>
 AF (Yr 6 ([]:List X0) r7.2.1 r7.2.2.1 r7.2.2.2) fun r8=>
 AF (Zk 5) fun r9=>
 AF (Zl ([A8.mk 0 [r9] ([]:List X0)]) r8.2.1 r8.2.2.1 r8.2.2.2) fun r10=>
 AE (decide ((r10.1.length:Int)=2)) (
  Ae r10.1 0 fun x11=>
  AE (decide (x11=4)) (
   Ae r10.1 1 fun x12=>
   some (decide (x12=6))) (
   some false)) (
  some false)
def Da:Option (Bool):=
 AF (Yu CS) fun r1=>
 AE (r1) (
  Eh (CS,(GG:MP Int (List X0)),(GG:MP (List UInt8) (List Int)))) (
  some false)
end
end Go.Ac
