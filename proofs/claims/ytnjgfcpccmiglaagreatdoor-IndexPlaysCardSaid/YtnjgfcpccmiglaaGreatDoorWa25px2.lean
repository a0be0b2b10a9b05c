/- Own work, printed: the functions compute these. -/
import Derived.Test.YtnjgfcpccmiglaaGreatDoorWa25px1
set_option linter.unusedVariables false
set_option linter.unusedSimpArgs false
namespace Go.Ac
open Go.Proofs
variable {d9 eM eN:List X0}
variable {dA dB dD dE dG dH dJ:Int}
variable {dC:List X2}
variable {dF:List AX}
variable {dK fH:AA}
variable {dL:MP Int (List X0)}
variable {dM:MP (List UInt8) (List Int)}
variable {dN:(AA×MP Int (List X0)×MP (List UInt8) (List Int))}
variable {dO:AA×MP Int (List X0)×MP (List UInt8) (List Int)}
variable {dP:Bool×AA×MP Int (List X0)×MP (List UInt8) (List Int)}
variable {dQ dR dS:List Int}
variable {dV:(List Int)}
variable {dX eA:Bool}
variable {dY:List Int×AA×MP Int (List X0)×MP (List UInt8) (List Int)}
variable {eB:Ae}
variable {eC:(List Int×Bool)}
variable {eE:List Ae}
variable {eF:(List Int×AA×MP Int (List X0)×MP (List UInt8) (List Int))}
variable {eG:List X8}
variable {eH:Xm}
variable {eI:Unit⊕Unit}
variable {eJ eQ:X3}
variable {eK:Unit⊕X3}
variable {eL:X3×Bool}
variable {eO:(List X0)}
variable {eS:X0}
variable {eT:X2}
variable {eU:AX}
variable {eV:(List X0)⊕Unit}
variable {eW:(List X0×List X0)⊕Unit}
variable {eX:Ae×Bool}
variable {eY:(List Ae)}
variable {eZ:List X6}
variable {f0:Xg}
variable {f8:List X6×Bool}
variable {f9:List UInt8}
variable {fA:(List UInt8)}
variable {fB:Int×AA×MP Int (List X0)×MP (List UInt8) (List Int)}
variable {fC fD:List (List UInt8)}
variable {fE:(List (List UInt8))}
variable {fF:List (List UInt8)×AA×MP Int (List X0)×MP (List UInt8) (List Int)}
variable {fG:List Xg}
variable {fI:(Bool×AA×MP Int (List X0)×MP (List UInt8) (List Int))}
variable {fJ:(List X6×AA×MP (List UInt8) (List Int)×MP Int (List X0))⊕Unit}
variable {fK:(List X6×AA×MP Int (List X0)×MP (List UInt8) (List Int))⊕Unit}
def TG(us:List Value)(s1:List X0)(s2 s6:Int)(s17:List X2)(s18 s19:Int)(s25:List AX)(s26 w997:Int)(o:(AA×MP Int (List X0)×MP (List UInt8) (List Int))):Ex×St:=(.exit 2,⟨sp 57 0 [sD 1 (D.l X0.D) s1,(2,.clo (.func 30) [] [.box 1 0,.eptr (D.cells (dZ s2))]),sD 17 (D.l X2.D) s17,sI 18 s18,sI 19 s19],[(0,.cells ((AW (AA.D o.1))++[.row 502,.row 503])),(1,.cells ([.box 0 0])),(502,.map o.2.1.clk (MP.dl dZ (D.l X0.D) o.2.1)),(503,.mapR 996 o.2.2.clk (ksR D.s o.2.2) []),(996,.rows 3 (xsR dZ o.2.2 [])),(997,.vals [.box 0 0,.clo (.func 30) [] [.box 1 0,.eptr (D.cells (dZ w997))]] us)],[]⟩)
theorem aC7(rd:Option Nat)(us:List Value)(h:LE d9 dA dB dC dD dE dF dG dH dJ dK dL dM=some dN):Lq 29 rd 1638 (TF us d9 dA dB dC dD dE dF dG dH dJ dK dL dM) ((TG us d9 dA dB dC dD dE dF dG dH) dN):=
 lL (fun s:Int×AA×MP Int (List X0)×MP (List UInt8) (List Int)=>TF us d9 dA dB dC dD dE dF dG dH s.1 s.2.1 s.2.2.1 s.2.2.2) (TG us d9 dA dB dC dD dE dF dG dH) (dJ,dK,dL,dM) (fun⟨dJ,dK,dL,dM⟩ o h=>by
 unfold D3 at h
 refine iB 28 h (fun h=>?_) fun h=>?_
 obtain⟨o8,h13,h⟩:=bS h
 refine gl (aC4 rd us h13) ?_
 exact lb h
 exact lb h) h
def TD(us:List Value)(s1:List X0)(s2:Int)(s17:List X2)(s18 w997 s19:Int)(w0:AA)(w502:MP Int (List X0))(w503:MP (List UInt8) (List Int)):St:=⟨sp 57 0 [sD 1 (D.l X0.D) s1,(2,.clo (.func 30) [] [.box 1 0,.eptr (D.cells (dZ s2))]),sD 17 (D.l X2.D) s17,sI 18 s18,sI 19 s19],[(0,.cells ((AW (AA.D w0))++[.row 502,.row 503])),(1,.cells ([.box 0 0])),(502,.map w502.clk (MP.dl dZ (D.l X0.D) w502)),(503,.mapR 996 w503.clk (ksR D.s w503) []),(996,.rows 3 (xsR dZ w503 [])),(997,.vals [.box 0 0,.clo (.func 30) [] [.box 1 0,.eptr (D.cells (dZ w997))]] us)],[]⟩
def TE(us:List Value)(s1:List X0)(s2:Int)(s17:List X2)(s18 w997:Int)(o:(AA×MP Int (List X0)×MP (List UInt8) (List Int))):Ex×St:=(.exit 0,⟨sp 57 0 [],[(0,.cells ((AW (AA.D o.1))++[.row 502,.row 503])),(1,.cells ([.box 0 0])),(502,.map o.2.1.clk (MP.dl dZ (D.l X0.D) o.2.1)),(503,.mapR 996 o.2.2.clk (ksR D.s o.2.2) []),(996,.rows 3 (xsR dZ o.2.2 [])),(997,.vals [.box 0 0,.clo (.func 30) [] [.box 1 0,.eptr (D.cells (dZ w997))]] us)],[]⟩)
theorem aC6(rd:Option Nat)(us:List Value)(h:LD d9 dA dC dB dD dE dK dL dM=some dN):Lq 29 rd 6 (TD us d9 dA dC dB dD dE dK dL dM) ((TE us d9 dA dC dB dD) dN):=
 lL (fun s:Int×AA×MP Int (List X0)×MP (List UInt8) (List Int)=>TD us d9 dA dC dB dD s.1 s.2.1 s.2.2.1 s.2.2.2) (TE us d9 dA dC dB dD) (dE,dK,dL,dM) (fun⟨dE,dK,dL,dM⟩ o h=>by
 unfold D2 at h
 refine iB 20 h (fun h=>?_) fun h=>?_
 refine xX 22 X2.D h fun x1 h=>?_
 refine gN 26 AX.D x1.args ?_
 obtain⟨o9,h14,h⟩:=bS h
 refine gl (aC7 rd us h14) ?_
 exact lb h
 exact lb h) h
theorem aWc(h:X7 d9 dA dK dL dM=some dO):AM Tryz.prog 29 [.box 0 0,.d ((D.l X0.D) d9),.clo (.func 30) [] [.box 1 0,.eptr (D.cells (dZ dA))]] [(0,.cells ((AW (AA.D dK))++[.row 2,.row 3])),(1,.cells ([.box 0 0])),(2,.map dL.clk (MP.dl dZ (D.l X0.D) dL)),(3,.mapR 996 dM.clk (ksR D.s dM) []),(996,.rows 3 (xsR dZ dM []))] (.tup []) [(0,.cells ((AW (AA.D dO.1))++[.row 4,.row 5])),(1,.cells ([.box 0 0])),(4,.map dO.2.1.clk (MP.dl dZ (D.l X0.D) dO.2.1)),(5,.mapR 995 dO.2.2.clk (ksR D.s dO.2.2) []),(995,.rows 3 (xsR dZ dO.2.2 []))]:=by unfold X7 at h;refine XG.call (ks:=[0,2]) mixed fun us=>?_;apply g0 (o:=dO);refine gN 18 X2.D dK.symbols ?_;obtain⟨o10,h15,h⟩:=bS h;refine gL [.live [1,2,17,18,19],.keep [0,1,2,3,996,997],.ren 2 502,.ren 3 503,.sort] (aC6 none us h15) ?_;exact lX h [.live [],.keep [0,1,502,503,996,997],.ren 502 4,.ren 503 5,.ren 996 995,.sort]
theorem aHv(h:Z6 dA d9 dK dL dM=some dP):AM Tryz.prog 11 [.box 0 0,dI dA,.d ((D.l X0.D) d9)] [(0,.cells ((AW (AA.D dK))++[.row 1,.row 2])),(1,.map dL.clk (MP.dl dZ (D.l X0.D) dL)),(2,.mapR 996 dM.clk (ksR D.s dM) []),(996,.rows 3 (xsR dZ dM []))] (.d (D.b dP.1)) [(0,.cells ((AW (AA.D dP.2.1))++[.row 3,.row 4])),(3,.map dP.2.2.1.clk (MP.dl dZ (D.l X0.D) dP.2.2.1)),(4,.mapR 995 dP.2.2.2.clk (ksR D.s dP.2.2.2) []),(995,.rows 3 (xsR dZ dP.2.2.2 []))]:=by unfold Z6 at h;refine XG.call (ks:=[0]) mixed fun us=>?_;apply g0 (o:=dP);refine gG 17 (.mg ((D.l X0.D) (A5 ([]:List X0) dL dA).1) (A5 ([]:List X0) dL dA).2) (aBj (aT4 Tryz.underlying3) (D.l X0.D) ([]:List X0) dL dA)<|gW 4 .frz ?_;refine iB 20 h (fun h=>?_) fun h=>?_;exact lX h [.live [6],.keep [0,1,2,996,997],.ren 1 3,.ren 2 4,.ren 996 995,.sort];obtain⟨r1,h2,h⟩:=bS h;refine gC 27 (aVk h2)<|gQ (aOg (aT4 Tryz.underlying3) (D.l X0.D) dL dA r1)<|gW 10024 (.mp (CJ dL dA r1).clk (MP.dl dZ (D.l X0.D) (CJ dL dA r1))) ?_;obtain⟨r2,h3,h⟩:=bS h;refine gG 31 (.cx false [(0,0),(1,3),(2,1),(3,2),(996,996)] [(4,31),(5,438),(995,994)] (.tup []) [(0,.cells ((AW (AA.D r2.1))++[.row 4,.row 5])),(1,.cells ([.box 0 0])),(4,.map r2.2.1.clk (MP.dl dZ (D.l X0.D) r2.2.1)),(5,.mapR 995 r2.2.2.clk (ksR D.s r2.2.2) []),(995,.rows 3 (xsR dZ r2.2.2 []))]) (aWc h3) ?_;exact lX h [.live [6],.keep [0,31,438,994,997],.ren 31 3,.ren 438 4,.ren 994 995,.sort]
theorem aV0(h:Um dQ=some dR):AM Tryz.prog 109 [.row 0] [rW 0 3 1 dZ dQ] (.row 1) [rW 0 3 1 dZ dQ,rW 1 3 1 dZ dR]:=
 ZY (ρ:=⟨fun _=>109,fun n=>if n=4 then 4 else if n=22 then 52 else 3,id⟩) (by_:=8) dZ rfl rfl (LW mixed ⟨ "slices.Clone[[]int,int]",by decide,(Tryz.func109).trans (by kernel_rfl)⟩ Tryz.underlying4 Tryz.underlying52 (by kernel_rfl) (by kernel_rfl) (by kernel_rfl) (by kernel_rfl)) (by kernel_rfl) (by decide) dQ dR h
def VX(us:List Value)(s11:Int)(w0 w1:List Int)(s12:Int)(w5:List Int):St:=⟨sp 21 0 [rx 5,(10,.row 1),sI 11 s11,sI 12 s12],[rW 0 3 1 dZ w0,rW 1 3 1 dZ w1,rW 5 3 1 dZ w5,(997,.vals [.row 0,.row 1] us)],[]⟩
def VY(us:List Value)(s11:Int)(w0 w1:List Int)(o:(List Int)):Ex×St:=(.exit 0,⟨sp 21 0 [rx 5],[rW 0 3 1 dZ w0,rW 1 3 1 dZ w1,rW 5 3 1 dZ o,(997,.vals [.row 0,.row 1] us)],[]⟩)
theorem aFx(rd:Option Nat)(us:List Value)(h:LI dA dQ dR dB dS=some dV):Lq 59 rd 58 (VX us dA dQ dR dB dS) ((VY us dA dQ dR) dV):=
 lL (fun s:Int×List Int=>VX us dA dQ dR s.1 s.2) (VY us dA dQ dR) (dB,dS) (fun⟨dB,dS⟩ o h=>by
 unfold D8 at h
 refine iB 13 h (fun h=>?_) fun h=>?_
 obtain⟨h3,h⟩:=cS h
 refine gQ h3.1<|gQ (Du dZ h3.2) ?_
 obtain⟨x2,h4,h⟩:=xS h
 refine gG 15 (.el (dZ x2)) (FL dZ h4) ?_
 obtain⟨r3,h5,h⟩:=bS h
 refine gG 18 (.cx false [(0,5)] [(1,18)] (.row 1) [rW 1 3 1 dZ r3]) (aMz h5) ?_
 exact lB h [.live [5,10,11,12],.keep [0,1,18,997],.ren 18 5,.sort]
 exact lb h) h
theorem aW8(h:Xz dQ dR=some dS):AM Tryz.prog 59 [.row 0,.row 1] [rW 0 3 1 dZ dQ,rW 1 3 1 dZ dR] (.d ((D.l dZ) dS)) [rW 0 3 1 dZ dQ,rW 1 3 1 dZ dR]:=by unfold Xz at h;refine XG.call (ks:=[0,1]) mixed fun us=>?_;apply g0 (o:=dS);refine gW 11 (.int (dR.length:Int)) ?_;obtain⟨r1,h1,h⟩:=bS h;refine gG 9 (.cx true [(0,0)] [(1,9)] (.row 1) [rW 0 3 1 dZ dQ,rW 1 3 1 dZ r1]) (aV0 h1)<|gQ (CY dZ dR) ?_;obtain⟨o4,h6,h⟩:=bS h;refine gL [.live [5,10,11,12],.keep [0,1,9,997],.ren 9 5,.sort] (aFx none us h6) ?_;exact lX h [.frz 5,.look 4,.live [4],.keep [0,1,997]]
theorem aV1(h:Un dQ=some dR):AM Tryz.prog 109 [.d (D.l dZ dQ)] [] (.d (D.l dZ dR)) []:=
 QG (ρ:=⟨fun _=>109,fun n=>if n=4 then 4 else if n=22 then 52 else 3,id⟩) (by_:=8) dZ rfl (LW mixed ⟨ "slices.Clone[[]int,int]",by decide,(Tryz.func109).trans (by kernel_rfl)⟩ Tryz.underlying4 Tryz.underlying52 (by kernel_rfl) (by kernel_rfl) (by kernel_rfl) (by kernel_rfl)) (by kernel_rfl) (by decide) dQ dR h
theorem aEa(rd:Option Nat)(h:T0 dQ dA dR dB dD dX dS=some dV):Lq 110 rd 14951 ⟨sp 29 0 [sD 1 (D.l dZ) dQ,rx 5,sI 7 dA,sD 10 (D.l dZ) dR,sI 11 dB,sI 12 dD,sD 22 D.b dX],[(5,.row 3 1 (dS.map dZ))],[]⟩ (.normal,⟨sp 29 0 [sD 1 (D.l dZ) dQ,rx 5,sD 10 (D.l dZ) dR,sI 11 dB,sI 12 dD],[(5,.row 3 1 (dV.map dZ))],[]⟩):=by unfold T0 at h;apply g0 (o:=dV);cases dX;replace h:=B1 h;exact lp h;replace h:=B2 h;refine gQ (Ad dZ [dA])<|gG 26 (.sl ((dS++[dA]).map dZ)) (Ad dZ [dA]) ?_;obtain⟨h12,h⟩:=cS h;refine gQ (Am dZ h12)<|gQ (Ak dZ dS [dA]) ?_;exact lP h [.live [1,5,10,11,12],.keep [26],.ren 26 5,.sort]
theorem aD9(rd:Option Nat)(h:Re dQ dR dA dB dS=some dV):Lq 110 rd 934 ⟨sp 29 0 [sD 1 (D.l dZ) dQ,rx 5,sD 10 (D.l dZ) dR,sI 11 dA,sI 12 dB],[(5,.row 3 1 (dS.map dZ))],[]⟩ (.normal,⟨sp 29 0 [sD 1 (D.l dZ) dQ,rx 5,sD 10 (D.l dZ) dR,sI 11 dA,sI 12 dB],[(5,.row 3 1 (dV.map dZ))],[]⟩):=by unfold Re at h;apply g0 (o:=dV);refine xX 14 dZ h fun x5 h=>?_;obtain⟨r6,h10,h⟩:=bS h;refine gC 19 (aFa h10) ?_;obtain⟨o7,h13,h⟩:=bS h;refine gl (aEa rd h13) ?_;exact lp h
def T3(s1 s10:List Int)(s11 s12:Int)(w5:List Int):St:=⟨sp 29 0 [sD 1 (D.l dZ) s1,rx 5,sD 10 (D.l dZ) s10,sI 11 s11,sI 12 s12],[(5,.row 3 1 (w5.map dZ))],[]⟩
def T4(s1 s10:List Int)(s11:Int)(o:(List Int)):Ex×St:=(.exit 0,⟨sp 29 0 [rx 5],[(5,.row 3 1 (o.map dZ))],[]⟩)
theorem aEb(rd:Option Nat)(h:IK dQ dR dA dB dS=some dV):Lq 110 rd 58 (T3 dQ dR dA dB dS) ((T4 dQ dR dA) dV):=
 lL (fun s:Int×List Int=>T3 dQ dR dA s.1 s.2) (T4 dQ dR dA) (dB,dS) (fun⟨dB,dS⟩ o h=>by
 unfold D4 at h
 refine iB 13 h (fun h=>?_) fun h=>?_
 obtain⟨o8,h14,h⟩:=bS h
 refine gl (aD9 rd h14) ?_
 exact lb h
 exact lb h) h
theorem aWk(h:Xh dQ dR=some dS):AM Tryz.prog 110 [.d ((D.l dZ) dQ),.d ((D.l dZ) dR)] [] (.d ((D.l dZ) dS)) []:=by unfold Xh at h;apply g0 (o:=dS);refine gN 11 dZ dQ ?_;obtain⟨o9,h15,h⟩:=bS h;refine gL [.live [1,5,10,11,12],.keep [],.nil 5 5 3 1,.sort] (aEb none h15) ?_;exact lf h
theorem aV2(h:Uo dQ=some dR):AM Tryz.prog 109 [.row 0] [rW 0 3 1 dZ dQ] (.d (D.l dZ dR)) [rW 0 3 1 dZ dQ]:=
 aIq (ρ:=⟨fun _=>109,fun n=>if n=4 then 4 else if n=22 then 52 else 3,id⟩) (by_:=8) dZ rfl rfl (LW mixed ⟨ "slices.Clone[[]int,int]",by decide,(Tryz.func109).trans (by kernel_rfl)⟩ Tryz.underlying4 Tryz.underlying52 (by kernel_rfl) (by kernel_rfl) (by kernel_rfl) (by kernel_rfl)) (by kernel_rfl) (by decide) dQ dR h
theorem aFd(rd:Option Nat)(us:List Value)(h:aFc dA dQ dB dD dX dR dS=some dV):Lq 110 rd 14951 ⟨sp 29 0 [(1,.row 0),rx 5,sI 7 dA,sD 10 (D.l dZ) dQ,sI 11 dB,sI 12 dD,sD 22 D.b dX],[rW 0 3 1 dZ dR,(5,.row 3 1 (dS.map dZ)),(997,.vals [.row 0] us)],[]⟩ (.normal,⟨sp 29 0 [(1,.row 0),rx 5,sD 10 (D.l dZ) dQ,sI 11 dB,sI 12 dD],[rW 0 3 1 dZ dR,(5,.row 3 1 (dV.map dZ)),(997,.vals [.row 0] us)],[]⟩):=by unfold aFc at h;apply g0 (o:=dV);cases dX;replace h:=B1 h;exact lp h;replace h:=B2 h;refine gQ (Ad dZ [dA])<|gG 26 (.sl ((dS++[dA]).map dZ)) (Ad dZ [dA]) ?_;obtain⟨h12,h⟩:=cS h;refine gQ (Am dZ h12)<|gQ (Ak dZ dS [dA]) ?_;exact lP h [.live [1,5,10,11,12],.keep [0,26,997],.ren 26 5,.sort]
theorem aFb(rd:Option Nat)(us:List Value)(h:VB dQ dA dB dR dS=some dV):Lq 110 rd 934 ⟨sp 29 0 [(1,.row 0),rx 5,sD 10 (D.l dZ) dQ,sI 11 dA,sI 12 dB],[rW 0 3 1 dZ dR,(5,.row 3 1 (dS.map dZ)),(997,.vals [.row 0] us)],[]⟩ (.normal,⟨sp 29 0 [(1,.row 0),rx 5,sD 10 (D.l dZ) dQ,sI 11 dA,sI 12 dB],[rW 0 3 1 dZ dR,(5,.row 3 1 (dV.map dZ)),(997,.vals [.row 0] us)],[]⟩):=by unfold VB at h;apply g0 (o:=dV);refine xX 14 dZ h fun x5 h=>?_;obtain⟨r6,h10,h⟩:=bS h;refine gG 19 (.lend [0] (.tup [dI r6.1,.d (D.b r6.2)])) (aFa h10) ?_;obtain⟨o7,h13,h⟩:=bS h;refine gl (aFd rd us h13) ?_;exact lp h
def VC(us:List Value)(s10:List Int)(s11:Int)(w0:List Int)(s12:Int)(w5:List Int):St:=⟨sp 29 0 [(1,.row 0),rx 5,sD 10 (D.l dZ) s10,sI 11 s11,sI 12 s12],[rW 0 3 1 dZ w0,(5,.row 3 1 (w5.map dZ)),(997,.vals [.row 0] us)],[]⟩
def VD(us:List Value)(s10:List Int)(s11:Int)(w0:List Int)(o:(List Int)):Ex×St:=(.exit 0,⟨sp 29 0 [rx 5],[rW 0 3 1 dZ w0,(5,.row 3 1 (o.map dZ)),(997,.vals [.row 0] us)],[]⟩)
theorem aFf(rd:Option Nat)(us:List Value)(h:aFe dQ dA dR dB dS=some dV):Lq 110 rd 58 (VC us dQ dA dR dB dS) ((VD us dQ dA dR) dV):=
 lL (fun s:Int×List Int=>VC us dQ dA dR s.1 s.2) (VD us dQ dA dR) (dB,dS) (fun⟨dB,dS⟩ o h=>by
 unfold Jl at h
 refine iB 13 h (fun h=>?_) fun h=>?_
 obtain⟨o8,h14,h⟩:=bS h
 refine gl (aFb rd us h14) ?_
 exact lb h
 exact lb h) h
theorem aWz(h:Xs dQ dR=some dS):AM Tryz.prog 110 [.d ((D.l dZ) dQ),.row 0] [rW 0 3 1 dZ dR] (.d ((D.l dZ) dS)) [rW 0 3 1 dZ dR]:=by unfold Xs at h;refine XG.call (ks:=[1]) mixed fun us=>?_;apply g0 (o:=dS);refine gN 11 dZ dQ ?_;obtain⟨o9,h15,h⟩:=bS h;refine gL [.live [1,5,10,11,12],.keep [0,997],.nil 5 5 3 1,.sort] (aFf none us h15) ?_;exact lX h [.look 4,.live [4],.keep [0,997]]
theorem aP9:Lays.n189 Tryz.prog ⟨fun|189=>149|125=>63|257=>166|128=>121|129=>122|294=>173|295=>174|296=>175|297=>176|298=>177|299=>178|216=>105|300=>179|301=>180|328=>184|329=>151|330=>152|331=>185|332=>186|215=>147|343=>192|n=>n,fun|28=>52|3=>3|46=>127|0=>0|51=>180|53=>128|4=>4|183=>174|182=>173|131=>113|5=>5|9=>9|218=>204|222=>208|228=>220|229=>111|n=>n,id⟩:=⟨by kernel_rfl,Tryz.func63.trans (congrArg some (by kernel_rfl)),Tryz.func121.trans (congrArg some (by kernel_rfl)),Tryz.func122.trans (congrArg some (by kernel_rfl)),Tryz.func149.trans (congrArg some (by kernel_rfl)),Tryz.func147.trans (congrArg some (by kernel_rfl)),Tryz.func105.trans (congrArg some (by kernel_rfl)),Tryz.func166.trans (congrArg some (by kernel_rfl)),Tryz.func173.trans (congrArg some (by kernel_rfl)),Tryz.func174.trans (congrArg some (by kernel_rfl)),Tryz.func175.trans (congrArg some (by kernel_rfl)),Tryz.func176.trans (congrArg some (by kernel_rfl)),Tryz.func177.trans (congrArg some (by kernel_rfl)),Tryz.func178.trans (congrArg some (by kernel_rfl)),Tryz.func179.trans (congrArg some (by kernel_rfl)),Tryz.func180.trans (congrArg some (by kernel_rfl)),Tryz.func184.trans (congrArg some (by kernel_rfl)),Tryz.func151.trans (congrArg some (by kernel_rfl)),Tryz.func152.trans (congrArg some (by kernel_rfl)),Tryz.func185.trans (congrArg some (by kernel_rfl)),Tryz.func186.trans (congrArg some (by kernel_rfl)),Tryz.func192.trans (congrArg some (by kernel_rfl)),Tryz.underlying0,Tryz.isAgg0,Tryz.sizeOf0,Tryz.zeroValue0,Tryz.underlying3,Tryz.isAgg3,Tryz.sizeOf3,Tryz.zeroValue3,Tryz.underlying4,Tryz.isAgg4,Tryz.sizeOf4,Tryz.zeroValue4,Tryz.underlying5,Tryz.isAgg5,Tryz.sizeOf5,Tryz.zeroValue5,Tryz.underlying9,Tryz.isAgg9,Tryz.sizeOf9,Tryz.zeroValue9,Tryz.underlying52,Tryz.isAgg52,Tryz.sizeOf52,Tryz.zeroValue52,Tryz.underlying127,Tryz.isAgg127,Tryz.sizeOf127,Tryz.zeroValue127,Tryz.underlying180,Tryz.isAgg180,Tryz.sizeOf180,Tryz.zeroValue180,Tryz.underlying128,Tryz.isAgg128,Tryz.sizeOf128,Tryz.zeroValue128,Tryz.underlying113,Tryz.isAgg113,Tryz.sizeOf113,Tryz.zeroValue113,Tryz.underlying173,Tryz.isAgg173,Tryz.sizeOf173,Tryz.zeroValue173,Tryz.underlying174,Tryz.isAgg174,Tryz.sizeOf174,Tryz.zeroValue174,Tryz.underlying204,Tryz.isAgg204,Tryz.sizeOf204,Tryz.zeroValue204,Tryz.underlying208,Tryz.isAgg208,Tryz.sizeOf208,Tryz.zeroValue208,Tryz.underlying220,Tryz.isAgg220,Tryz.sizeOf220,Tryz.zeroValue220,Tryz.underlying111,Tryz.isAgg111,Tryz.sizeOf111,Tryz.zeroValue111⟩
theorem aVd(h:Qz dQ=some dR):AM Tryz.prog 149 [.row 0] [rW 0 3 1 dZ dQ] (.tup []) [rW 0 3 1 dZ dR]:=aJz rfl aP9 dQ dR h
theorem aU7(h:Qk dQ=some dR):AM Tryz.prog 149 [.row 0] [(0,.bag 3 1 (dQ.map dZ))] (.tup []) [rW 0 3 1 dZ dR]:=
 AM.bagE (R:=fun _=>.tup []) (X':=fun dR=> [rW 0 3 1 dZ dR]) (fun _ _ h=>aVd h) dR h
def Ez(clk:Nat)(es:List (Nat×Int×List X0))(us:List Value)(w0:AA)(w501:MP Int (List X0))(w502:MP (List UInt8) (List Int))(w3:List Int)(sn:List Nat):St:=⟨sp 21 0 [rx 3,bx 9],[(0,.cells ((AW (AA.D w0))++[.row 501,.row 502])),rW 3 3 1 dZ w3,(9,.mit 501 clk sn),(501,.map clk (dl dZ (D.l X0.D) es)),(502,.mapR 996 w502.clk (ksR D.s w502) []),(996,.rows 3 (xsR dZ w502 [])),(997,.vals [.box 0 0] us)],[]⟩
def E0(clk:Nat)(es:List (Nat×Int×List X0))(us:List Value)(w0:AA)(w501:MP Int (List X0))(w502:MP (List UInt8) (List Int))(o:List Int):Ex×St:=(.exit 0,⟨sp 21 0 [rx 3],[(0,.cells ((AW (AA.D w0))++[.row 501,.row 502])),(3,.bag 3 1 (o.map dZ)),(501,.map clk (dl dZ (D.l X0.D) es)),(502,.mapR 996 w502.clk (ksR D.s w502) []),(996,.rows 3 (xsR dZ w502 [])),(997,.vals [.box 0 0] us)],[]⟩)
def aMg(clk:Nat)(es:List (Nat×Int×List X0))(us:List Value)(w0:AA)(w501:MP Int (List X0))(w502:MP (List UInt8) (List Int))(w3:List Int):St:=⟨sp 21 0 [rx 3],[(0,.cells ((AW (AA.D w0))++[.row 501,.row 502])),rW 3 3 1 dZ w3,(501,.map clk (dl dZ (D.l X0.D) es)),(502,.mapR 996 w502.clk (ksR D.s w502) []),(996,.rows 3 (xsR dZ w502 [])),(997,.vals [.box 0 0] us)],[]⟩
set_option maxRecDepth 100000 in
theorem UH(rd:Option Nat)(us:List Value)(clk:Nat)(es:List (Nat×Int×List X0))(w0:AA)(w501:MP Int (List X0))(w502:MP (List UInt8) (List Int))(k:Int)(v:List X0)(w3:List Int)(sn:List Nat)(st:Nat)(hm:(st,k,v)∈es)(o:List Int)(h:E1 w0 w501 w502 k v w3=some o):Sz Tryz.prog rd (DJ Tryz.prog 111) [0,1,0,1,1] ((⟨(Ez clk es us w0 w501 w502 w3 sn).E,BG (Ez clk es us w0 w501 w502 w3 sn).B 9 (.mit 501 clk (sn++[st])),[]⟩:St).put (some 10) (.tup [bo true,.d (dZ k),.d ((D.l X0.D) v)])) fun zx zs=>zx=.normal/\Wk zs ((fun s:List Int=>Ez clk es us w0 w501 w502 s (sn++[st])) o):=by unfold E1 at h;obtain⟨h1,h⟩:=cS h;obtain rfl:=si h;exact F8 mixed [(12,.en (dZ k) ((D.l X0.D) v)),(17,.rwl ((w3++[k]).map dZ))] [] [.live [3,9],.keep [0,9,17,501,502,996,997],.ren 17 3,.sort] (ai (aBi (fk:=dZ) (fv:=(D.l X0.D)) (clk:=clk) (sn:=sn) hm) (ai (Ad dZ [k]) (ai (Ad dZ [k]) (ai (Am dZ h1) (ai (Ak dZ w3 [k]) (ti)))))) (by kernel_rfl)
set_option maxRecDepth 100000 in
theorem UG(rd:Option Nat)(us:List Value)(clk:Nat)(es:List (Nat×Int×List X0))(w0:AA)(w501:MP Int (List X0))(w502:MP (List UInt8) (List Int))(w3:List Int)(sn:List Nat):Sz Tryz.prog rd (DJ Tryz.prog 111) [0,1,0,1,1] ((Ez clk es us w0 w501 w502 w3 sn).put (some 10) (.tup [bo false])) fun zx zs=>zx=(E0 clk es us w0 w501 w502 (GV w0 w501 w502 w3)).1/\Wk zs (E0 clk es us w0 w501 w502 (GV w0 w501 w502 w3)).2:=by refine Sz.wk (e:=.exit 0) (s1:=aMg clk es us w0 w501 w502 w3) (F8 mixed [] [] [.live [3],.keep [0,3,501,502,996,997]] (ti) (by kernel_rfl)) ?_;exact(Wk.canB 3 (DX _).symm (by kernel_rfl) rfl)
set_option maxRecDepth 100000 in
theorem aEn(rd:Option Nat)(us:List Value)(clk:Nat)(es:List (Nat×Int×List X0))(w0:AA)(w501:MP Int (List X0))(w502:MP (List UInt8) (List Int))(w3:List Int)(hp:(es.map (·.2)).Perm (w501.es.map (·.2)))(o:List Int)(h:Rg w0 w501 w502 w3=some o):EL Tryz.prog rd (DJ Tryz.prog 111) [0,1,0,1,1] (Ez clk es us w0 w501 w502 w3 []) ((E0 clk es us w0 w501 w502) o).1 ((E0 clk es us w0 w501 w502) o).2:=
 aBd (fk:=dZ) (fv:=(D.l X0.D)) (step:=(fun(x:Int×List X0) (s:List Int)=>E1 w0 w501 w502 x.1 x.2 s)) (s0:=w3) 9 10 9 501 clk es (fun(sn:List Nat) (s:List Int)=>Ez clk es us w0 w501 w502 s sn) (E0 clk es us w0 w501 w502) (by kernel_rfl) (aA0 (by rfl)) (fun _ _=>by kernel_rfl) (fun _ _=>by kernel_rfl) (fun _ _=>by kernel_rfl) hp
  (fun sn s k v st a hm h=>UH rd us clk es w0 w501 w502 k v s sn st hm a h) (fun sn s hc=>hc▸UG rd us clk es w0 w501 w502 s sn) h
theorem aEm(rd:Option Nat)(us:List Value)(h:Rf dK dL dM=some dV):Lq 111 rd 14 ⟨sp 21 0 [bx 0,(3,.nil)],[(0,.cells ((AW (AA.D dK))++[.row 501,.row 502])),(501,.map dL.clk (MP.dl dZ (D.l X0.D) dL)),(502,.mapR 996 dM.clk (ksR D.s dM) []),(996,.rows 3 (xsR dZ dM [])),(997,.vals [.box 0 0] us)],[]⟩ (.normal,⟨sp 21 0 [rx 3],[(0,.cells ((AW (AA.D dK))++[.row 501,.row 502])),(3,.bag 3 1 (dV.map dZ)),(501,.map dL.clk (MP.dl dZ (D.l X0.D) dL)),(502,.mapR 996 dM.clk (ksR D.s dM) []),(996,.rows 3 (xsR dZ dM [])),(997,.vals [.box 0 0] us)],[]⟩):=by unfold Rf at h;obtain⟨o1,h2,h⟩:=bS h;obtain rfl:=si h;exact Arr.lp (F7 mixed [] [⟨[0,1,0,1,1],[.live [3,9],.keep [0,9,501,502,996,997],.nilw 3 3 3 1,.sort],.exit 0,(E0 dL.clk dL.es us dK dL dM o1).2⟩] [.live [3],.keep [0,3,501,502,996,997]] (ai (aEn rd us dL.clk dL.es dK dL dM ([]:List Int) (List.Perm.refl _) o1 h2) (ti)) (by kernel_rfl))
theorem aWp(h:Xl dK dL dM=some dY):AM Tryz.prog 111 [.box 0 0] [(0,.cells ((AW (AA.D dK))++[.row 1,.row 2])),(1,.map dL.clk (MP.dl dZ (D.l X0.D) dL)),(2,.mapR 996 dM.clk (ksR D.s dM) []),(996,.rows 3 (xsR dZ dM []))] (.d ((D.l dZ) dY.1)) [(0,.cells ((AW (AA.D dY.2.1))++[.row 3,.row 4])),(3,.map dY.2.2.1.clk (MP.dl dZ (D.l X0.D) dY.2.2.1)),(4,.mapR 995 dY.2.2.2.clk (ksR D.s dY.2.2.2) []),(995,.rows 3 (xsR dZ dY.2.2.2 []))]:=by unfold Xl at h;refine XG.call (ks:=[0]) mixed fun us=>?_;apply g0 (o:=dY);obtain⟨o2,h3,h⟩:=bS h;refine gL [.live [0,3],.keep [0,1,2,996,997],.ren 1 501,.ren 2 502,.sort] (aEm none us h3) ?_;obtain⟨r3,h4,h⟩:=bS h;refine gG 19 (.cx true [(0,3)] [] (.tup []) [rW 0 3 1 dZ r3]) (aU7 h4) ?_;exact lX h [.frz 3,.look 2,.live [2],.keep [0,501,502,996,997],.ren 501 3,.ren 502 4,.ren 996 995,.sort]
theorem aEx(rd:Option Nat)(us:List Value)(h:Mx dX dQ eA dF dA dB dK eB dL dM=some eC):Lq 60 rd 934 ⟨sp 78 0 [bx 0,sD 2 D.b dX,bx 4,sD 7 (D.l dZ) dQ,sD 8 D.b eA,sD 24 (D.l AX.D) dF,sI 25 dA,sI 26 dB],[(0,.cells ((AW (AA.D dK))++[.row 501,.row 502])),cL 4 Ae.D eB,(501,.map dL.clk (MP.dl dZ (D.l X0.D) dL)),(502,.mapR 996 dM.clk (ksR D.s dM) []),(996,.rows 3 (xsR dZ dM [])),(997,.vals [.box 0 0] us)],[]⟩ (.normal,⟨sp 78 0 [bx 0,sD 2 D.b dX,bx 4,sD 7 (D.l dZ) eC.1,sD 8 D.b eC.2,sD 24 (D.l AX.D) dF,sI 25 dA,sI 26 dB],[(0,.cells ((AW (AA.D dK))++[.row 501,.row 502])),cL 4 Ae.D eB,(501,.map dL.clk (MP.dl dZ (D.l X0.D) dL)),(502,.mapR 996 dM.clk (ksR D.s dM) []),(996,.rows 3 (xsR dZ dM [])),(997,.vals [.box 0 0] us)],[]⟩):=by
 unfold Mx at h;apply g0 (o:=eC);refine xX 29 AX.D h fun x12 h=>?_;refine iB 33 h (fun h=>?_) fun h=>?_;exact lp h;obtain⟨r13,h22,h⟩:=bS h;refine gC 39 (aMj h22) ?_;obtain⟨r14,h23,h⟩:=bS h;refine gC 45 (aLs h23)<|gQ (Ad X3.D [r13.1]) ?_;obtain⟨r15,h24,h⟩:=bS h;refine gC 53 (aMh h24)<|gG 54 (.str r15) (rfl:r15.map AY=r15.map AY)<|gW 55 (.str (r14++r15))<|gW 56 (.mr 996 dM.clk (ksR D.s dM) (xsR dZ dM [(r14++r15)]) (((A5 [] dM (r14++r15)).1).map dZ)) ?_;obtain⟨h25,h⟩:=cS h;refine gQ (FZ h25)<|gQ (aOf (S1 Tryz.underlying9) dZ dM (r14++r15) 502 996 3) ?_;refine iB 58 h (fun h=>?_) fun h=>?_;refine gW 65 (.mr 996 dM.clk (ksR D.s dM) (xsR dZ dM [r14,(r14++r15)]) (((A5 [] dM r14).1).map dZ)) ?_;obtain⟨h27,h⟩:=cS h;refine gQ (aZ3 (S1 Tryz.underlying9) dZ dM r14 (r14++r15) 502 996 3 56 h27) ?_;obtain⟨r16,h28,h⟩:=bS h;refine gG 66 (.cx false [(0,56),(1,65)] [] (.d ((D.l dZ) r16)) [(0,.rw 3 1 (((A5 [] dM (r14++r15)).1).map dZ)),(1,.rw 3 1 (((A5 [] dM r14).1).map dZ))]) (aW8 h28) ?_;refine iB 67 h (fun h=>?_) fun h=>?_;refine gG 68 (.mb 502 996 65 (xsR dZ dM [(r14++r15)])) (bAi (S1 Tryz.underlying9) dZ dM r14 (r14++r15) 502 996 3 65 56 (by assumption))<|gW 7 (.mb 502 996 56 (xsR dZ dM [])) ?_;obtain⟨r17,h30,h⟩:=bS h;refine gC 69 (aV1 h30)<|gQ (aZ2 (S1 Tryz.underlying9) dZ dM (r14++r15) 502 996 3 56) ?_;exact lp h;refine gG 70 (.mb 502 996 65 (xsR dZ dM [(r14++r15)])) (bAi (S1 Tryz.underlying9) dZ dM r14 (r14++r15) 502 996 3 65 56 (by assumption))<|gG 71 (.mb 502 996 56 (xsR dZ dM [])) (aZ2 (S1 Tryz.underlying9) dZ dM (r14++r15) 502 996 3 56) ?_;obtain⟨r18,h31,h⟩:=bS h;refine gC 72 (aWk h31) ?_;exact lp h;refine gG 7 (.mb 502 996 56 (xsR dZ dM [])) (aZ2 (S1 Tryz.underlying9) dZ dM (r14++r15) 502 996 3 56) ?_;rcases iS h with⟨h32,h⟩|⟨h32,h⟩
 refine gTk 1 67 h32 ?_;obtain⟨r19,h33,h⟩:=bS h;refine gW 69 (.cx true [(0,56)] [] (.d ((D.l dZ) r19)) [(0,.rw 3 1 (((A5 [] dM (r14++r15)).1).map dZ))])<|gK 1 (aV2 h33) ?_;exact lp h;refine gFk 1 67 h32 ?_;obtain⟨r20,h34,h⟩:=bS h;refine gW 72 (.cx false [(0,56)] [] (.d ((D.l dZ) r20)) [(0,.rw 3 1 (((A5 [] dM (r14++r15)).1).map dZ))])<|gK 1 (aWz h34) ?_;exact lp h
def US(us:List Value)(s2:Bool)(s24:List AX)(s25:Int)(w0:AA)(w4:Ae)(w501:MP Int (List X0))(w502:MP (List UInt8) (List Int))(s7:List Int)(s8:Bool)(s26:Int):St:=⟨sp 78 0 [bx 0,sD 2 D.b s2,bx 4,sD 7 (D.l dZ) s7,sD 8 D.b s8,sD 24 (D.l AX.D) s24,sI 25 s25,sI 26 s26],[(0,.cells ((AW (AA.D w0))++[.row 501,.row 502])),cL 4 Ae.D w4,(501,.map w501.clk (MP.dl dZ (D.l X0.D) w501)),(502,.mapR 996 w502.clk (ksR D.s w502) []),(996,.rows 3 (xsR dZ w502 [])),(997,.vals [.box 0 0] us)],[]⟩
def UT(us:List Value)(s2:Bool)(s24:List AX)(s25:Int)(w0:AA)(w4:Ae)(w501:MP Int (List X0))(w502:MP (List UInt8) (List Int))(o:(List Int×Bool)):Ex×St:=(.exit 0,⟨sp 78 0 [bx 0,sD 7 (D.l dZ) o.1,sD 8 D.b o.2],[(0,.cells ((AW (AA.D w0))++[.row 501,.row 502])),(501,.map w501.clk (MP.dl dZ (D.l X0.D) w501)),(502,.mapR 996 w502.clk (ksR D.s w502) []),(996,.rows 3 (xsR dZ w502 [])),(997,.vals [.box 0 0] us)],[]⟩)
theorem aEy(rd:Option Nat)(us:List Value)(h:LG dX dF dA dK eB dL dM dQ eA dB=some eC):Lq 60 rd 58 (US us dX dF dA dK eB dL dM dQ eA dB) ((UT us dX dF dA dK eB dL dM) eC):=
 lL (fun s:List Int×Bool×Int=>US us dX dF dA dK eB dL dM s.1 s.2.1 s.2.2) (UT us dX dF dA dK eB dL dM) (dQ,eA,dB) (fun⟨dQ,eA,dB⟩ o h=>by
 unfold D6 at h
 refine iB 27 h (fun h=>?_) fun h=>?_
 obtain⟨o21,h35,h⟩:=bS h
 refine gl (aEx rd us h35) ?_
 exact lb h
 exact lb h) h
theorem aWv(h:Xp eB dX dK dL dM=some dY):AM Tryz.prog 60 [.box 0 0,.d (Ae.D eB),.d (D.b dX)] [(0,.cells ((AW (AA.D dK))++[.row 1,.row 2])),(1,.map dL.clk (MP.dl dZ (D.l X0.D) dL)),(2,.mapR 996 dM.clk (ksR D.s dM) []),(996,.rows 3 (xsR dZ dM []))] (.d ((D.l dZ) dY.1)) [(0,.cells ((AW (AA.D dY.2.1))++[.row 3,.row 4])),(3,.map dY.2.2.1.clk (MP.dl dZ (D.l X0.D) dY.2.2.1)),(4,.mapR 995 dY.2.2.2.clk (ksR D.s dY.2.2.2) []),(995,.rows 3 (xsR dZ dY.2.2.2 []))]:=by unfold Xp at h;refine XG.call (ks:=[0]) mixed fun us=>?_;apply g0 (o:=dY);refine xX 22 X2.D h fun x1 h=>?_;refine gN 25 AX.D x1.args ?_;obtain⟨o22,h36,h⟩:=bS h;refine gL [.look 7,.live [0,2,4,7,8,24,25,26],.keep [0,1,2,4,996,997],.ren 1 501,.ren 2 502,.sort] (aEy none us h36) ?_;refine iB 74 h (fun h=>?_) fun h=>?_;obtain⟨r23,h38,h⟩:=bS h;refine gG 76 (.cx false [(0,0),(1,501),(2,502),(996,996)] [(3,76),(4,483),(995,994)] (.d ((D.l dZ) r23.1)) [(0,.cells ((AW (AA.D r23.2.1))++[.row 3,.row 4])),(3,.map r23.2.2.1.clk (MP.dl dZ (D.l X0.D) r23.2.2.1)),(4,.mapR 995 r23.2.2.2.clk (ksR D.s r23.2.2.2) []),(995,.rows 3 (xsR dZ r23.2.2.2 []))]) (aWp h38) ?_;exact lX h [.live [6],.keep [0,76,483,994,997],.ren 76 3,.ren 483 4,.ren 994 995,.sort];exact lX h [.live [6],.keep [0,501,502,996,997],.ren 501 3,.ren 502 4,.ren 996 995,.sort]
theorem aV3(h:Up dQ=some dR):AM Tryz.prog 109 [.d (D.l dZ dQ)] [] (.row 0) [rW 0 3 1 dZ dR]:=
 SK (ρ:=⟨fun _=>109,fun n=>if n=4 then 4 else if n=22 then 52 else 3,id⟩) (by_:=8) dZ rfl rfl (LW mixed ⟨ "slices.Clone[[]int,int]",by decide,(Tryz.func109).trans (by kernel_rfl)⟩ Tryz.underlying4 Tryz.underlying52 (by kernel_rfl) (by kernel_rfl) (by kernel_rfl) (by kernel_rfl)) (by kernel_rfl) (by decide) dQ dR h
def VZ(s10:List Int)(s11 s12:Int)(w5:List Int):St:=⟨sp 21 0 [rx 5,sD 10 (D.l dZ) s10,sI 11 s11,sI 12 s12],[rW 5 3 1 dZ w5],[]⟩
def Va(s10:List Int)(s11:Int)(o:(List Int)):Ex×St:=(.exit 0,⟨sp 21 0 [rx 5],[rW 5 3 1 dZ o],[]⟩)
theorem aFy(rd:Option Nat)(h:LJ dQ dA dB dR=some dV):Lq 59 rd 58 (VZ dQ dA dB dR) ((Va dQ dA) dV):=
 lL (fun s:Int×List Int=>VZ dQ dA s.1 s.2) (Va dQ dA) (dB,dR) (fun⟨dB,dR⟩ o h=>by
 unfold D9 at h
 refine iB 13 h (fun h=>?_) fun h=>?_
 refine xX 14 dZ h fun x2 h=>?_
 obtain⟨r3,h4,h⟩:=bS h
 refine gG 18 (.cx false [(0,5)] [(1,18)] (.row 1) [rW 1 3 1 dZ r3]) (aMz h4) ?_
 exact lB h [.live [5,10,11,12],.keep [18],.ren 18 5,.sort]
 exact lb h) h
theorem aXa(h:Y0 dQ dR=some dS):AM Tryz.prog 59 [.d ((D.l dZ) dQ),.d ((D.l dZ) dR)] [] (.d ((D.l dZ) dS)) []:=by unfold Y0 at h;apply g0 (o:=dS);refine gW 11 (.int (dR.length:Int)) ?_;obtain⟨r1,h1,h⟩:=bS h;refine gG 9 (.cx true [] [(0,9)] (.row 0) [rW 0 3 1 dZ r1]) (aV3 h1)<|gQ (CY dZ dR) ?_;obtain⟨o4,h5,h⟩:=bS h;refine gL [.live [5,10,11,12],.keep [9],.ren 9 5,.sort] (aFy none h5) ?_;exact lF h [.frz 5]
def VV(us:List Value)(s2:Bool)(s12:List Ae)(s13:Int)(s7:List Int)(s14:Int)(w0:AA)(w501:MP Int (List X0))(w502:MP (List UInt8) (List Int)):St:=⟨sp 26 0 [bx 0,sD 2 D.b s2,sD 7 (D.l dZ) s7,sD 12 (D.l Ae.D) s12,sI 13 s13,sI 14 s14],[(0,.cells ((AW (AA.D w0))++[.row 501,.row 502])),(501,.map w501.clk (MP.dl dZ (D.l X0.D) w501)),(502,.mapR 996 w502.clk (ksR D.s w502) []),(996,.rows 3 (xsR dZ w502 [])),(997,.vals [.box 0 0] us)],[]⟩
def VW(us:List Value)(s2:Bool)(s12:List Ae)(s13:Int)(o:(List Int×AA×MP Int (List X0)×MP (List UInt8) (List Int))):Ex×St:=(.exit 0,⟨sp 26 0 [sD 7 (D.l dZ) o.1],[(0,.cells ((AW (AA.D o.2.1))++[.row 501,.row 502])),(501,.map o.2.2.1.clk (MP.dl dZ (D.l X0.D) o.2.2.1)),(502,.mapR 996 o.2.2.2.clk (ksR D.s o.2.2.2) []),(996,.rows 3 (xsR dZ o.2.2.2 [])),(997,.vals [.box 0 0] us)],[]⟩)
theorem aFw(rd:Option Nat)(us:List Value)(h:LH dX eE dA dQ dB dK dL dM=some eF):Lq 34 rd 122 (VV us dX eE dA dQ dB dK dL dM) ((VW us dX eE dA) eF):=
 lL (fun s:List Int×Int×AA×MP Int (List X0)×MP (List UInt8) (List Int)=>VV us dX eE dA s.1 s.2.1 s.2.2.1 s.2.2.2.1 s.2.2.2.2) (VW us dX eE dA) (dQ,dB,dK,dL,dM) (fun⟨dQ,dB,dK,dL,dM⟩ o h=>by
 unfold D7 at h
 refine iB 15 h (fun h=>?_) fun h=>?_
 refine xX 16 Ae.D h fun x4 h=>?_
 obtain⟨r5,h7,h⟩:=bS h
 refine gG 22 (.cx false [(0,0),(1,501),(2,502),(996,996)] [(3,22),(4,429),(995,994)] (.d ((D.l dZ) r5.1)) [(0,.cells ((AW (AA.D r5.2.1))++[.row 3,.row 4])),(3,.map r5.2.2.1.clk (MP.dl dZ (D.l X0.D) r5.2.2.1)),(4,.mapR 995 r5.2.2.2.clk (ksR D.s r5.2.2.2) []),(995,.rows 3 (xsR dZ r5.2.2.2 []))]) (aWv h7) ?_
 obtain⟨r6,h8,h⟩:=bS h
 refine gC 23 (aXa h8) ?_
 exact lB h [.live [0,2,7,12,13,14],.keep [0,22,429,994,997],.ren 22 501,.ren 429 502,.ren 994 996,.sort]
 exact lb h) h
theorem aQ0(h:Xy eE dX dK dL dM=some dY):AM Tryz.prog 34 [.box 0 0,.d ((D.l Ae.D) eE),.d (D.b dX)] [(0,.cells ((AW (AA.D dK))++[.row 1,.row 2])),(1,.map dL.clk (MP.dl dZ (D.l X0.D) dL)),(2,.mapR 996 dM.clk (ksR D.s dM) []),(996,.rows 3 (xsR dZ dM []))] (.d ((D.l dZ) dY.1)) [(0,.cells ((AW (AA.D dY.2.1))++[.row 3,.row 4])),(3,.map dY.2.2.1.clk (MP.dl dZ (D.l X0.D) dY.2.2.1)),(4,.mapR 995 dY.2.2.2.clk (ksR D.s dY.2.2.2) []),(995,.rows 3 (xsR dZ dY.2.2.2 []))]:=by unfold Xy at h;refine XG.call (ks:=[0]) mixed fun us=>?_;apply g0 (o:=dY);refine gN 13 Ae.D eE ?_;obtain⟨o7,h9,h⟩:=bS h;refine gL [.look 7,.live [0,2,7,12,13,14],.keep [0,1,2,996,997],.ren 1 501,.ren 2 502,.sort] (aFw none us h9) ?_;exact lX h [.live [6],.keep [0,501,502,996,997],.ren 501 3,.ren 502 4,.ren 996 995,.sort]
theorem aSe(h:Zv eE dK dL dM=some dY):AM Tryz.prog 15 [.box 0 0,.d ((D.l Ae.D) eE)] [(0,.cells ((AW (AA.D dK))++[.row 1,.row 2])),(1,.map dL.clk (MP.dl dZ (D.l X0.D) dL)),(2,.mapR 996 dM.clk (ksR D.s dM) []),(996,.rows 3 (xsR dZ dM []))] (.d ((D.l dZ) dY.1)) [(0,.cells ((AW (AA.D dY.2.1))++[.row 3,.row 4])),(3,.map dY.2.2.1.clk (MP.dl dZ (D.l X0.D) dY.2.2.1)),(4,.mapR 995 dY.2.2.2.clk (ksR D.s dY.2.2.2) []),(995,.rows 3 (xsR dZ dY.2.2.2 []))]:=by unfold Zv at h;refine XG.call (ks:=[0]) mixed fun us=>?_;apply g0 (o:=dY);obtain⟨r1,h1,h⟩:=bS h;refine gG 7 (.cx false [(0,0),(1,1),(2,2),(996,996)] [(3,7),(4,414),(995,994)] (.d ((D.l dZ) r1.1)) [(0,.cells ((AW (AA.D r1.2.1))++[.row 3,.row 4])),(3,.map r1.2.2.1.clk (MP.dl dZ (D.l X0.D) r1.2.2.1)),(4,.mapR 995 r1.2.2.2.clk (ksR D.s r1.2.2.2) []),(995,.rows 3 (xsR dZ r1.2.2.2 []))]) (aQ0 h1) ?_;exact lX h [.live [4],.keep [0,7,414,994,997],.ren 7 3,.ren 414 4,.ren 994 995,.sort]
theorem aCz(h:Ql=some dX):AM Tryz.prog 7 [] [] (.d (D.b dX)) []:=by
 unfold Ql at h;apply g0 (o:=dX);refine gQ (Ad dZ [1])<|gQ (Ad X8.D ([X8.mk ([97]:List UInt8) [1]]))<|gQ (Ad Xd.D ([Xd.mk false ([120]:List UInt8) 1]))<|gQ (Ad Yc.D ([Yc.mk ([115]:List UInt8) false false]))<|gQ (Ad AX.D ([AX.mk 2 0 (X3.mk 0 0 ([]:List UInt8) false)]))<|gQ (Ad X2.D ([X2.mk 0 ([AX.mk 2 0 (X3.mk 0 0 ([]:List UInt8) false)])])) ?_;obtain⟨o1,h1,h⟩:=bS h;replace h:=AH h;rcases h with⟨o2,rfl,h⟩|⟨o3,rfl,h⟩
 refine gG 17 (.cx false [] [] (.d (.v (.pointer none))) []) (aP3 (bAc h1)) ?_;exact lf h;refine gG 17 (.cx false [] [(0,424),(1,431),(2,438),(995,996)] (.box 0 0) [(0,.cells ((AW (AA.D o3.1))++[.row 1,.row 2])),(1,.map o3.2.1.clk (MP.dl dZ (D.l X0.D) o3.2.1)),(2,.mapR 995 o3.2.2.clk (ksR D.s o3.2.2) []),(995,.rows 3 (xsR dZ o3.2.2 []))]) (aP4 (bAd h1)) ?_;obtain⟨r4,h2,h⟩:=bS h;refine gC 21 (aLr h2)<|gQ (Ad X0.D [r4]) ?_;obtain⟨r5,h3,h⟩:=bS h;refine gG 23 (.cx false [(0,424),(1,431),(2,438),(996,996)] [(3,23),(4,430),(995,994)] (.d (D.b r5.1)) [(0,.cells ((AW (AA.D r5.2.1))++[.row 3,.row 4])),(3,.map r5.2.2.1.clk (MP.dl dZ (D.l X0.D) r5.2.2.1)),(4,.mapR 995 r5.2.2.2.clk (ksR D.s r5.2.2.2) []),(995,.rows 3 (xsR dZ r5.2.2.2 []))]) (aHv h3) ?_;obtain⟨r6,h4,h⟩:=bS h;refine gC 25 (aLr h4)<|gQ (Ad X0.D [r6]) ?_;obtain⟨r7,h5,h⟩:=bS h;refine gG 27 (.cx false [(0,424),(1,23),(2,430),(996,994)] [(3,27),(4,434),(995,993)] (.d (D.b r7.1)) [(0,.cells ((AW (AA.D r7.2.1))++[.row 3,.row 4])),(3,.map r7.2.2.1.clk (MP.dl dZ (D.l X0.D) r7.2.2.1)),(4,.mapR 995 r7.2.2.2.clk (ksR D.s r7.2.2.2) []),(995,.rows 3 (xsR dZ r7.2.2.2 []))]) (aHv h5) ?_;obtain⟨r8,h6,h⟩:=bS h;refine gG 29 (.cx false [(0,424),(1,27),(2,434),(996,993)] [(3,29),(4,436),(995,992)] (.d (D.b r8.1)) [(0,.cells ((AW (AA.D r8.2.1))++[.row 3,.row 4])),(3,.map r8.2.2.1.clk (MP.dl dZ (D.l X0.D) r8.2.2.1)),(4,.mapR 995 r8.2.2.2.clk (ksR D.s r8.2.2.2) []),(995,.rows 3 (xsR dZ r8.2.2.2 []))]) (aHv h6) ?_;obtain⟨r9,h7,h⟩:=bS h;refine gC 31 (aLr h7)<|gQ (Ad X0.D [r9])<|gQ (Ad Ae.D ([Ae.mk 0 [r9] ([]:List X0)])) ?_;obtain⟨r10,h8,h⟩:=bS h;refine gG 35 (.cx false [(0,424),(1,29),(2,436),(996,992)] [(3,35),(4,442),(995,991)] (.d ((D.l dZ) r10.1)) [(0,.cells ((AW (AA.D r10.2.1))++[.row 3,.row 4])),(3,.map r10.2.2.1.clk (MP.dl dZ (D.l X0.D) r10.2.2.1)),(4,.mapR 995 r10.2.2.2.clk (ksR D.s r10.2.2.2) []),(995,.rows 3 (xsR dZ r10.2.2.2 []))]) (aSe h8)<|gN 37 dZ r10.1 ?_;refine iB 39 h (fun h=>?_) fun h=>?_;refine xX 41 dZ h fun x11 h=>?_;refine iB 45 h (fun h=>?_) fun h=>?_;refine xX 47 dZ h fun x12 h=>?_;exact lf h;exact lf h;exact lf h
def XW(s0:List X8)(s5:Int)(w3:Xm)(s6:Int):St:=⟨sp 56 0 [sD 0 (D.l X8.D) s0,bx 3,sI 5 s5,sI 6 s6],[cL 3 Xm.D w3],[]⟩
def XX(s0:List X8)(s5:Int)(w3:Xm)(o:Unit⊕Unit):Ex×St:=match o with
 | .inl o=>(.exit 0,⟨sp 56 0 [],[],[]⟩)
 | .inr o=>(.ret,⟨sp 56 0 [sD 4 D.b false],[],[]⟩)
theorem aH0(rd:Option Nat)(h:aM0 eG dA eH dB=some eI):Lq 6 rd 122 (XW eG dA eH dB) ((XX eG dA eH) eI):=
 lL (fun s:Int=>XW eG dA eH s) (XX eG dA eH) dB (fun dB o h=>by
 unfold Jw at h
 refine gN 28 X3.D eH.args ?_
 refine iB 29 h (fun h=>?_) fun h=>?_
 refine xX 35 X3.D h fun x3 h=>?_
 refine xX 40 X8.D h fun x4 h=>?_
 refine xX 44 dZ h fun x5 h=>?_
 refine iB 47 h (fun h=>?_) fun h=>?_
 exact lb h
 refine xX 51 X3.D h fun x6 h=>?_
 obtain⟨r7,h11,h⟩:=bS h
 refine gC 53 (YO h11) ?_
 refine iB 55 h (fun h=>?_) fun h=>?_
 exact lb h
 exact lb h
 exact lb h) h
theorem aYw(h:Zc eG eH=some dX):AM Tryz.prog 6 [.d ((D.l X8.D) eG),.d (Xm.D eH)] [] (.d (D.b dX)) []:=by
 unfold Zc at h;apply g0 (o:=dX);obtain⟨r1,h1,h⟩:=bS h;refine gC 10 (aRq h1) ?_;refine iB 13 h (fun h=>?_) fun h=>?_;exact lf h;refine gW 22 (.int (eH.args.length:Int))<|xX 16 X8.D h fun x2 h=>?_;refine gN 19 dZ x2.types<|gQ (CY X3.D eH.args) ?_;refine iB 24 h (fun h=>?_) fun h=>?_;exact lf h;obtain⟨o8,h13,h⟩:=bS h;refine gl (aH0 none h13) ?_;replace h:=AH h;rcases h with⟨o9,rfl,h⟩|⟨o10,rfl,h⟩
 exact lf h;exact lf h
def W3(s0:List X0)(s1:Int)(w4:X3)(s6:Int):St:=⟨sp 26 0 [sD 0 (D.l X0.D) s0,sI 1 s1,bx 4,sI 6 s6],[cL 4 X3.D w4],[]⟩
def W4(s0:List X0)(s1:Int)(w4:X3)(o:Unit⊕X3):Ex×St:=match o with
 | .inl o=>(.exit 0,⟨sp 26 0 [bx 4],[cL 4 X3.D w4],[]⟩)
 | .inr o=>(.ret,⟨sp 26 0 [bx 4,sD 5 D.b true],[cL 4 X3.D o],[]⟩)
theorem aHe(rd:Option Nat)(h:aMp d9 dA eJ dB=some eK):Lq 39 rd 26 (W3 d9 dA eJ dB) ((W4 d9 dA eJ) eK):=
 lL (fun s:Int=>W3 d9 dA eJ s) (W4 d9 dA eJ) dB (fun dB o h=>by
 unfold Jq at h
 refine gN 9 X0.D d9 ?_
 refine iB 10 h (fun h=>?_) fun h=>?_
 refine xX 15 X0.D h fun x1 h=>?_
 refine iB 19 h (fun h=>?_) fun h=>?_
 refine xX 22 X0.D h fun x2 h=>?_
 exact lb h
 exact lb h
 exact lb h) h
theorem Rv(h:Yv d9 dA=some eL):AM Tryz.prog 39 [.d ((D.l X0.D) d9),dI dA] [] (.tup [.d (X3.D eL.1),.d (D.b eL.2)]) []:=by
 unfold Yv at h;apply g0 (o:=eL);obtain⟨o3,h5,h⟩:=bS h;refine gl (aHe none h5) ?_;replace h:=AH h;rcases h with⟨o4,rfl,h⟩|⟨o5,rfl,h⟩
 exact lf h;exact lf h
def XM(s0 s1:List X0)(s5:Int):St:=⟨sp 34 0 [sD 0 (D.l X0.D) s0,sD 1 (D.l X0.D) s1,sI 5 s5],[],[]⟩
def XN(s0 s1:List X0)(o:Unit⊕Unit):Ex×St:=match o with
 | .inl o=>(.exit 0,⟨sp 34 0 [],[],[]⟩)
 | .inr o=>(.ret,⟨sp 34 0 [sD 4 D.b false],[],[]⟩)
theorem aHu(rd:Option Nat)(h:aMu d9 eM dA=some eI):Lq 50 rd 26 (XM d9 eM dA) ((XN d9 eM) eI):=
 lL (fun s:Int=>XM d9 eM s) (XN d9 eM) dA (fun dA o h=>by
 unfold Js at h
 refine gN 10 X0.D d9 ?_
 refine iB 11 h (fun h=>?_) fun h=>?_
 refine xX 18 X0.D h fun x1 h=>?_
 obtain⟨r2,h3,h⟩:=bS h
 refine gC 21 (Rv h3) ?_
 refine iB 25 h (fun h=>?_) fun h=>?_
 refine xX 29 X0.D h fun x3 h=>?_
 refine iB 33 h (fun h=>?_) fun h=>?_
 exact lb h
 exact lb h
 exact lb h
 exact lb h) h
theorem aRt(h:Z4 d9 eM=some dX):AM Tryz.prog 50 [.d ((D.l X0.D) d9),.d ((D.l X0.D) eM)] [] (.d (D.b dX)) []:=by
 unfold Z4 at h;apply g0 (o:=dX);obtain⟨o4,h7,h⟩:=bS h;refine gl (aHu none h7) ?_;replace h:=AH h;rcases h with⟨o5,rfl,h⟩|⟨o6,rfl,h⟩
 exact lf h;exact lf h
theorem aGr(rd:Option Nat)(h:aGq d9 eM dA dX eN eJ=some eO):Lq 51 rd 29855 ⟨sp 42 0 [sD 0 (D.l X0.D) d9,sD 1 (D.l X0.D) eM,rx 5,sI 6 dA,bx 9,sD 34 D.b dX],[(5,.row 68 5 (eN.map X0.D)),cL 9 X3.D eJ],[]⟩ (.normal,⟨sp 42 0 [sD 0 (D.l X0.D) d9,sD 1 (D.l X0.D) eM,rx 5,sI 6 dA],[(5,.row 68 5 (eO.map X0.D))],[]⟩):=by unfold aGq at h;apply g0 (o:=eO);cases dX;replace h:=B1 h;exact lp h;replace h:=B2 h;refine gQ (Ad X0.D [X0.mk dA eJ])<|gG 40 (.sl ((eN++[X0.mk dA eJ]).map X0.D)) (Ad X0.D [X0.mk dA eJ]) ?_;obtain⟨h17,h⟩:=cS h;refine gQ (Am X0.D h17)<|gQ (Ak X0.D eN [X0.mk dA eJ]) ?_;exact lP h [.live [0,1,5,6],.keep [40],.ren 40 5,.sort]
theorem aGp(rd:Option Nat)(h:aGo d9 eM dA dX eA eN eJ eQ=some eO):Lq 51 rd 7463 ⟨sp 42 0 [sD 0 (D.l X0.D) d9,sD 1 (D.l X0.D) eM,rx 5,sI 6 dA,bx 7,bx 9,sD 10 D.b dX,sD 27 D.b eA],[(5,.row 68 5 (eN.map X0.D)),cL 7 X3.D eJ,cL 9 X3.D eQ],[]⟩ (.normal,⟨sp 42 0 [sD 0 (D.l X0.D) d9,sD 1 (D.l X0.D) eM,rx 5,sI 6 dA],[(5,.row 68 5 (eO.map X0.D))],[]⟩):=by unfold aGo at h;apply g0 (o:=eO);cases eA;replace h:=B1 h;obtain⟨o8,h18,h⟩:=bS h;refine gl (aGr rd h18) ?_;exact lp h;replace h:=B2 h;refine gQ (Ad X0.D [X0.mk dA eJ])<|gG 33 (.sl ((eN++[X0.mk dA eJ]).map X0.D)) (Ad X0.D [X0.mk dA eJ]) ?_;obtain⟨h15,h⟩:=cS h;refine gQ (Am X0.D h15)<|gQ (Ak X0.D eN [X0.mk dA eJ]) ?_;exact lP h [.live [0,1,5,6],.keep [33],.ren 33 5,.sort]
theorem aGn(rd:Option Nat)(h:aGm d9 eM dA eN=some eO):Lq 51 rd 466 ⟨sp 42 0 [sD 0 (D.l X0.D) d9,sD 1 (D.l X0.D) eM,rx 5,sI 6 dA],[(5,.row 68 5 (eN.map X0.D))],[]⟩ (.normal,⟨sp 42 0 [sD 0 (D.l X0.D) d9,sD 1 (D.l X0.D) eM,rx 5,sI 6 dA],[(5,.row 68 5 (eO.map X0.D))],[]⟩):=by unfold aGm at h;apply g0 (o:=eO);obtain⟨r6,h12,h⟩:=bS h;refine gC 18 (Rv h12) ?_;obtain⟨r7,h13,h⟩:=bS h;refine gC 24 (Rv h13) ?_;obtain⟨o9,h19,h⟩:=bS h;refine gl (aGp rd h19) ?_;exact lp h
def WI(s0 s1:List X0)(s6:Int)(w5:List X0):St:=⟨sp 42 0 [sD 0 (D.l X0.D) s0,sD 1 (D.l X0.D) s1,rx 5,sI 6 s6],[(5,.row 68 5 (w5.map X0.D))],[]⟩
def WJ(s0 s1:List X0)(o:(List X0)):Ex×St:=(.exit 0,⟨sp 42 0 [rx 5],[(5,.row 68 5 (o.map X0.D))],[]⟩)
theorem aGs(rd:Option Nat)(h:aMm d9 eM dA eN=some eO):Lq 51 rd 58 (WI d9 eM dA eN) ((WJ d9 eM) eO):=
 lL (fun s:Int×List X0=>WI d9 eM s.1 s.2) (WJ d9 eM) (dA,eN) (fun⟨dA,eN⟩ o h=>by
 unfold G0 at h
 refine iB 12 h (fun h=>?_) fun h=>?_
 obtain⟨o10,h20,h⟩:=bS h
 refine gl (aGn rd h20) ?_
 exact lb h
 exact lb h) h
theorem aXw(h:Yh d9 eM=some eN):AM Tryz.prog 51 [.d ((D.l X0.D) d9),.d ((D.l X0.D) eM)] [] (.d ((D.l X0.D) eN)) []:=by unfold Yh at h;apply g0 (o:=eN);obtain⟨o11,h21,h⟩:=bS h;refine gL [.live [0,1,5,6],.keep [],.nil 5 5 68 5,.sort] (aGs none h21) ?_;exact lf h
def XO(s0:List X0)(w3:X0)(s5:Int):St:=⟨sp 38 0 [sD 0 (D.l X0.D) s0,bx 3,sI 5 s5],[cL 3 X0.D w3],[]⟩
def XP(s0:List X0)(w3:X0)(o:Int):Ex×St:=(.exit 0,⟨sp 38 0 [sD 0 (D.l X0.D) s0,bx 3,sI 5 o],[cL 3 X0.D w3],[]⟩)
theorem aHw(rd:Option Nat)(h:aMv d9 eS dA=some dB):Lq 52 rd 28 (XO d9 eS dA) ((XP d9 eS) dB):=
 lL (fun s:Int=>XO d9 eS s) (XP d9 eS) dA (fun dA o h=>by
 unfold HJ at h
 refine iB 11 h (fun h=>?_) fun h=>?_
 refine xX 15 X0.D h fun x1 h=>?_
 refine iB 21 h (fun h=>?_) fun h=>?_
 exact lb h
 exact lb h
 exact lb h) h
theorem aYs(h:Z7 d9 eS=some eM):AM Tryz.prog 52 [.d ((D.l X0.D) d9),.d (X0.D eS)] [] (.d ((D.l X0.D) eM)) []:=by unfold Z7 at h;apply g0 (o:=eM);refine gN 8 X0.D d9 ?_;obtain⟨o2,h4,h⟩:=bS h;refine gl (aHw none h4)<|gQ (Ad X0.D ([]:List X0))<|gW 27 (.sl ((sub d9 0 o2).map X0.D))<|gW 28 (.sl ((([]:List X0)++(sub d9 0 o2)).map X0.D))<|gW 32 (.sl (((([]:List X0)++(sub d9 0 o2))++[eS]).map X0.D))<|gW 36 (.sl ((sub d9 o2 (d9.length:Int)).map X0.D))<|gW 37 (.sl ((((([]:List X0)++(sub d9 0 o2))++[eS])++(sub d9 o2 (d9.length:Int))).map X0.D)) ?_;obtain⟨h5,h⟩:=cS h;refine gQ (Cw X0.D h5)<|gQ (Ad X0.D (sub d9 0 o2)) ?_;obtain⟨h6,h⟩:=cS h;refine gQ (Am X0.D h6)<|gQ (Ak X0.D ([]:List X0) (sub d9 0 o2))<|gQ (Ad X0.D [eS])<|gQ (Ad X0.D [eS]) ?_;obtain⟨h7,h⟩:=cS h;refine gQ (Am X0.D h7)<|gQ (Ak X0.D (([]:List X0)++(sub d9 0 o2)) [eS]) ?_;obtain⟨h8,h⟩:=cS h;refine gQ (EU X0.D h8)<|gQ (Ad X0.D (sub d9 o2 (d9.length:Int))) ?_;obtain⟨h9,h⟩:=cS h;refine gQ (Am X0.D h9)<|gQ (Ak X0.D ((([]:List X0)++(sub d9 0 o2))++[eS]) (sub d9 o2 (d9.length:Int))) ?_;exact lf h
theorem PE(rd:Option Nat)(h:VE dA d9 eM dB dX eH dD eT eB eU eN=some eV):Lq 27 rd 521373 ⟨sp 121 0 [sI 1 dA,bx 5,bx 6,bx 8,bx 9,sD 10 (D.l X0.D) d9,sD 11 (D.l X0.D) eM,sI 12 dB,bx 13,rx 14,sD 80 D.b dX],[cL 5 Xm.D eH,(6,.cells ([dI dD,.nil,.nil])),cL 8 X2.D eT,cL 9 Ae.D eB,cL 13 AX.D eU,(14,.row 68 5 (eN.map X0.D))],[]⟩ (match (generalizing:=false) eV with
 | .inl eV=>(.normal,⟨sp 121 0 [sI 1 dA,bx 5,bx 6,bx 8,bx 9,sD 10 (D.l X0.D) eV,sD 11 (D.l X0.D) eM,sI 12 dB,bx 13,rx 14],[cL 5 Xm.D eH,(6,.cells ([dI dD,.nil,.nil])),cL 8 X2.D eT,cL 9 Ae.D eB,cL 13 AX.D eU,(14,.row 68 5 (eN.map X0.D))],[]⟩)
 | .inr eV=>(.ret,⟨sp 121 0 [bx 6,sD 7 D.b false],[cL 6 Ae.D eB],[]⟩)):=by
 unfold VE at h
 apply g0 (o:=eV)
 cases dX
 replace h:=B1 h
 exact lp h
 replace h:=B2 h
 obtain⟨r32,h37,h⟩:=bS h
 refine gC 83 (aRt h37) ?_
 refine iB 84 h (fun h=>?_) fun h=>?_
 exact lp h
 obtain⟨r33,h39,h⟩:=bS h
 refine gC 88 (aXw h39) ?_
 exact lp h
theorem PG(rd:Option Nat)(h:VG dA d9 eM dB dX eH dD eT eB eN=some eO):Lq 27 rd 8342007 ⟨sp 121 0 [sI 1 dA,bx 5,bx 6,bx 8,bx 9,sD 10 (D.l X0.D) d9,sD 11 (D.l X0.D) eM,sI 12 dB,rx 14,sD 111 D.b dX],[cL 5 Xm.D eH,(6,.cells ([dI dD,.nil,.nil])),cL 8 X2.D eT,cL 9 Ae.D eB,(14,.row 68 5 (eN.map X0.D))],[]⟩ (.normal,⟨sp 121 0 [sI 1 dA,bx 5,bx 6,bx 8,bx 9,sD 10 (D.l X0.D) d9,sD 11 (D.l X0.D) eO,sI 12 dB],[cL 5 Xm.D eH,(6,.cells ([dI dD,.nil,.nil])),cL 8 X2.D eT,cL 9 Ae.D eB],[]⟩):=by unfold VG at h;apply g0 (o:=eO);cases dX;replace h:=B1 h;exact lp h;replace h:=B2 h;refine xX 114 X0.D h fun x39 h=>?_;obtain⟨r40,h48,h⟩:=bS h;refine gC 116 (aYs h48) ?_;exact lp h
theorem PF(rd:Option Nat)(h:VF dA d9 eM dB dX eH dD eT eB eU eN=some eV):Lq 27 rd 521375 ⟨sp 121 0 [sI 1 dA,bx 5,bx 6,bx 8,bx 9,sD 10 (D.l X0.D) d9,sD 11 (D.l X0.D) eM,sI 12 dB,bx 13,rx 14,sD 91 D.b dX],[cL 5 Xm.D eH,(6,.cells ([dI dD,.nil,.nil])),cL 8 X2.D eT,cL 9 Ae.D eB,cL 13 AX.D eU,(14,.row 68 5 (eN.map X0.D))],[]⟩ (match (generalizing:=false) eV with
 | .inl eV=>(.normal,⟨sp 121 0 [sI 1 dA,bx 5,bx 6,bx 8,bx 9,sD 10 (D.l X0.D) d9,sD 11 (D.l X0.D) eV,sI 12 dB],[cL 5 Xm.D eH,(6,.cells ([dI dD,.nil,.nil])),cL 8 X2.D eT,cL 9 Ae.D eB],[]⟩)
 | .inr eV=>(.ret,⟨sp 121 0 [bx 6,sD 7 D.b false],[cL 6 Ae.D eB],[]⟩)):=by
 unfold VF at h
 apply g0 (o:=eV)
 cases dX
 replace h:=B1 h
 exact lp h
 replace h:=B2 h
 obtain⟨r37,h42,h⟩:=bS h
 refine gC 96 (Rv h42) ?_
 refine iB 100 h (fun h=>?_) fun h=>?_
 refine xX 105 X3.D h fun x38 h=>?_
 refine iB 108 h (fun h=>?_) fun h=>?_
 exact lp h
 obtain⟨o41,h49,h⟩:=bS h
 refine gl (PG rd h49) ?_
 exact lp h
 obtain⟨o42,h50,h⟩:=bS h
 refine gl (PG rd h50) ?_
 exact lp h
theorem aFh(rd:Option Nat)(h:aFg dA d9 eM dB eH dD eT eB=some eW):Lq 27 rd 8146 ⟨sp 121 0 [sI 1 dA,bx 5,bx 6,bx 8,bx 9,sD 10 (D.l X0.D) d9,sD 11 (D.l X0.D) eM,sI 12 dB],[cL 5 Xm.D eH,(6,.cells ([dI dD,.nil,.nil])),cL 8 X2.D eT,cL 9 Ae.D eB],[]⟩ (match (generalizing:=false) eW with
 | .inl eW=>(.normal,⟨sp 121 0 [sI 1 dA,bx 5,bx 6,bx 8,bx 9,sD 10 (D.l X0.D) eW.1,sD 11 (D.l X0.D) eW.2,sI 12 dB],[cL 5 Xm.D eH,(6,.cells ([dI dD,.nil,.nil])),cL 8 X2.D eT,cL 9 Ae.D eB],[]⟩)
 | .inr eW=>(.ret,⟨sp 121 0 [bx 6,sD 7 D.b false],[cL 6 Ae.D eB],[]⟩)):=by
 unfold aFg at h
 apply g0 (o:=eW)
 refine xX 53 AX.D h fun x29 h=>?_
 refine xX 60 X3.D h fun x30 h=>?_
 refine gQ (Ad X0.D [X0.mk x29.n x30]) ?_
 refine iB 67 h (fun h=>?_) fun h=>?_
 refine xX 73 X3.D h fun x31 h=>?_
 refine iB 76 h (fun h=>?_) fun h=>?_
 exact lp h
 obtain⟨o34,h40,h⟩:=bS h
 refine gL [.live [1,5,6,8,9,10,11,12,13,14,80],.keep [5,6,8,9,13,63],.ren 63 14,.sort] (PE rd h40) ?_
 replace h:=AH h
 rcases h with⟨o35,rfl,h⟩|⟨o36,rfl,h⟩
 obtain⟨o43,h51,h⟩:=bS h
 refine gl (PF rd h51) ?_
 replace h:=AH h
 rcases h with⟨o44,rfl,h⟩|⟨o45,rfl,h⟩
 exact lp h
 exact lp h
 exact lp h
 obtain⟨o46,h52,h⟩:=bS h
 refine gL [.live [1,5,6,8,9,10,11,12,13,14,80],.keep [5,6,8,9,13,63],.ren 63 14,.sort] (PE rd h52) ?_
 replace h:=AH h
 rcases h with⟨o47,rfl,h⟩|⟨o48,rfl,h⟩
 obtain⟨o49,h53,h⟩:=bS h
 refine gl (PF rd h53) ?_
 replace h:=AH h
 rcases h with⟨o50,rfl,h⟩|⟨o51,rfl,h⟩
 exact lp h
 exact lp h
 exact lp h
def VH(s1:Int)(w5:Xm)(w6:Int)(w8:X2)(w9:Ae)(s10 s11:List X0)(s12:Int):St:=⟨sp 121 0 [sI 1 s1,bx 5,bx 6,bx 8,bx 9,sD 10 (D.l X0.D) s10,sD 11 (D.l X0.D) s11,sI 12 s12],[cL 5 Xm.D w5,(6,.cells ([dI w6,.nil,.nil])),cL 8 X2.D w8,cL 9 Ae.D w9],[]⟩
def VI(s1:Int)(w5:Xm)(w6:Int)(w8:X2)(w9:Ae)(o:(List X0×List X0)⊕Unit):Ex×St:=match o with
 | .inl o=>(.exit 0,⟨sp 121 0 [sI 1 s1,bx 6,sD 10 (D.l X0.D) o.1,sD 11 (D.l X0.D) o.2],[(6,.cells ([dI w6,.nil,.nil]))],[]⟩)
 | .inr o=>(.ret,⟨sp 121 0 [bx 6,sD 7 D.b false],[cL 6 Ae.D w9],[]⟩)
theorem aFi(rd:Option Nat)(h:Rm dA eH dB eT eB d9 eM dD=some eW):Lq 27 rd 1018 (VH dA eH dB eT eB d9 eM dD) ((VI dA eH dB eT eB) eW):=
 lL (fun s:List X0×List X0×Int=>VH dA eH dB eT eB s.1 s.2.1 s.2.2) (VI dA eH dB eT eB) (d9,eM,dD) (fun⟨d9,eM,dD⟩ o h=>by
 unfold Gc at h
 refine gN 46 AX.D eT.args ?_
 refine iB 47 h (fun h=>?_) fun h=>?_
 obtain⟨o52,h54,h⟩:=bS h
 refine gl (aFh rd h54) ?_
 replace h:=AH h
 rcases h with⟨o53,rfl,h⟩|⟨o54,rfl,h⟩
 exact lb h
 exact lb h
 exact lb h) h
theorem aW1(h:Xt dK dA eH=some eX):AM Tryz.prog 27 [.d (AA.D dK),dI dA,.d (Xm.D eH)] [] (.tup [.d (Ae.D eX.1),.d (D.b eX.2)]) []:=by
 unfold Xt at h;apply g0 (o:=eX);refine xX 20 X2.D h fun x1 h=>?_;refine xX 27 X8.D h fun x2 h=>?_;refine iB 33 h (fun h=>?_) fun h=>?_;exact lf h;refine gN 36 AX.D x1.args<|gN 39 X3.D eH.args ?_;refine iB 41 h (fun h=>?_) fun h=>?_;exact lf h;obtain⟨o55,h55,h⟩:=bS h;refine gL [.look 10,.look 11,.live [1,5,6,8,9,10,11,12],.keep [5,6,8,9]] (aFi none h55) ?_;replace h:=AH h;rcases h with⟨o56,rfl,h⟩|⟨o57,rfl,h⟩
 exact lf h;exact lf h
theorem aHi(rd:Option Nat)(h:aHh dA dX dK eH eE eB=some eY):Lq 9 rd 3731 ⟨sp 29 0 [bx 2,bx 3,rx 5,sI 6 dA,bx 7,sD 23 D.b dX],[cL 2 AA.D dK,cL 3 Xm.D eH,(5,.row 62 3 (eE.map Ae.D)),cL 7 Ae.D eB],[]⟩ (.normal,⟨sp 29 0 [bx 2,bx 3,rx 5,sI 6 dA],[cL 2 AA.D dK,cL 3 Xm.D eH,(5,.row 62 3 (eY.map Ae.D))],[]⟩):=by unfold aHh at h;apply g0 (o:=eY);cases dX;replace h:=B1 h;exact lp h;replace h:=B2 h;refine gQ (Ad Ae.D [eB])<|gG 27 (.sl ((eE++[eB]).map Ae.D)) (Ad Ae.D [eB]) ?_;obtain⟨h10,h⟩:=cS h;refine gQ (Am Ae.D h10)<|gQ (Ak Ae.D eE [eB]) ?_;exact lP h [.live [2,3,5,6],.keep [2,3,27],.ren 27 5,.sort]
theorem aHg(rd:Option Nat)(h:aHf dA dK eH eE=some eY):Lq 9 rd 466 ⟨sp 29 0 [bx 2,bx 3,rx 5,sI 6 dA],[cL 2 AA.D dK,cL 3 Xm.D eH,(5,.row 62 3 (eE.map Ae.D))],[]⟩ (.normal,⟨sp 29 0 [bx 2,bx 3,rx 5,sI 6 dA],[cL 2 AA.D dK,cL 3 Xm.D eH,(5,.row 62 3 (eY.map Ae.D))],[]⟩):=by unfold aHf at h;apply g0 (o:=eY);obtain⟨r4,h8,h⟩:=bS h;refine gC 20 (aW1 h8) ?_;obtain⟨o5,h11,h⟩:=bS h;refine gl (aHi rd h11) ?_;exact lp h
def W5(w2:AA)(w3:Xm)(s6:Int)(w5:List Ae):St:=⟨sp 29 0 [bx 2,bx 3,rx 5,sI 6 s6],[cL 2 AA.D w2,cL 3 Xm.D w3,(5,.row 62 3 (w5.map Ae.D))],[]⟩
def W6(w2:AA)(w3:Xm)(o:(List Ae)):Ex×St:=(.exit 0,⟨sp 29 0 [rx 5],[(5,.row 62 3 (o.map Ae.D))],[]⟩)
theorem aHj(rd:Option Nat)(h:aMq dK eH dA eE=some eY):Lq 9 rd 58 (W5 dK eH dA eE) ((W6 dK eH) eY):=
 lL (fun s:Int×List Ae=>W5 dK eH s.1 s.2) (W6 dK eH) (dA,eE) (fun⟨dA,eE⟩ o h=>by
 unfold HF at h
 refine gN 12 X2.D dK.symbols ?_
 refine iB 13 h (fun h=>?_) fun h=>?_
 obtain⟨o6,h12,h⟩:=bS h
 refine gl (aHg rd h12) ?_
 exact lb h
 exact lb h) h
theorem aYl(h:Yw dK eH=some eE):AM Tryz.prog 9 [.d (AA.D dK),.d (Xm.D eH)] [] (.d ((D.l Ae.D) eE)) []:=by unfold Yw at h;apply g0 (o:=eE);obtain⟨o7,h13,h⟩:=bS h;refine gL [.live [2,3,5,6],.keep [2,3],.nil 5 5 62 3,.sort] (aHj none h13) ?_;exact lf h
theorem aGw(rd:Option Nat)(h:aGv eZ dA dB dX f0=some dD):Lq 10 rd 1865 ⟨sp 54 0 [sD 0 (D.l X6.D) eZ,bx 3,sI 6 dA,sI 7 dB,sD 22 D.b dX],[cL 3 Xg.D f0],[]⟩ (.normal,⟨sp 54 0 [sD 0 (D.l X6.D) eZ,bx 3,sI 6 dD,sI 7 dB],[cL 3 Xg.D f0],[]⟩):=by unfold aGv at h;apply g0 (o:=dD);cases dX;replace h:=B1 h;exact lp h;replace h:=B2 h;exact lp h
theorem aGu(rd:Option Nat)(h:aGt eZ dA dB f0=some dD):Lq 10 rd 466 ⟨sp 54 0 [sD 0 (D.l X6.D) eZ,bx 3,sI 6 dA,sI 7 dB],[cL 3 Xg.D f0],[]⟩ (.normal,⟨sp 54 0 [sD 0 (D.l X6.D) eZ,bx 3,sI 6 dD,sI 7 dB],[cL 3 Xg.D f0],[]⟩):=by unfold aGt at h;apply g0 (o:=dD);refine xX 17 X6.D h fun x1 h=>?_;obtain⟨o2,h4,h⟩:=bS h;refine gl (aGw rd h4) ?_;exact lp h
def WK(s0:List X6)(w3:Xg)(s6 s7:Int):St:=⟨sp 54 0 [sD 0 (D.l X6.D) s0,bx 3,sI 6 s6,sI 7 s7],[cL 3 Xg.D w3],[]⟩
def WL(s0:List X6)(w3:Xg)(o:Int):Ex×St:=(.exit 0,⟨sp 54 0 [sD 0 (D.l X6.D) s0,bx 3,sI 6 o],[cL 3 Xg.D w3],[]⟩)
theorem aGx(rd:Option Nat)(h:Ru eZ f0 dA dB=some dD):Lq 10 rd 58 (WK eZ f0 dA dB) ((WL eZ f0) dD):=
 lL (fun s:Int×Int=>WK eZ f0 s.1 s.2) (WL eZ f0) (dA,dB) (fun⟨dA,dB⟩ o h=>by
 unfold G1 at h
 refine gN 11 X6.D eZ ?_
 refine iB 12 h (fun h=>?_) fun h=>?_
 obtain⟨o3,h5,h⟩:=bS h
 refine gl (aGu rd h5) ?_
 exact lb h
 exact lb h) h
theorem aXx(h:Yi eZ f0=some f8):AM Tryz.prog 10 [.d ((D.l X6.D) eZ),.d (Xg.D f0)] [] (.tup [.d ((D.l X6.D) f8.1),.d (D.b f8.2)]) []:=by unfold Yi at h;apply g0 (o:=f8);obtain⟨o4,h6,h⟩:=bS h;refine gl (aGx none h6) ?_;refine iB 26 h (fun h=>?_) fun h=>?_;refine iB 28 h (fun h=>?_) fun h=>?_;exact lf h;refine gQ (Ad X6.D ([]:List X6))<|gG 32 (.sl ((([]:List X6)++eZ).map X6.D)) (Ad X6.D eZ)<|gW 39 (.sl (((([]:List X6)++eZ)++[X6.mk f0.iD f0.bind]).map X6.D)) ?_;obtain⟨h9,h⟩:=cS h;refine gQ (Am X6.D h9)<|gQ (Ak X6.D ([]:List X6) eZ)<|gQ (Ad X6.D [X6.mk f0.iD f0.bind])<|gQ (Ad X6.D [X6.mk f0.iD f0.bind]) ?_;obtain⟨h10,h⟩:=cS h;refine gQ (Am X6.D h10)<|gQ (Ak X6.D (([]:List X6)++eZ) [X6.mk f0.iD f0.bind]) ?_;exact lf h;refine iB 41 h (fun h=>?_) fun h=>?_;exact lf h;refine gQ (Ad X6.D ([]:List X6))<|gW 46 (.sl ((sub eZ 0 o4).map X6.D))<|gW 47 (.sl ((([]:List X6)++(sub eZ 0 o4)).map X6.D))<|gW 52 (.sl ((sub eZ (AB .add .i64 o4 1) (eZ.length:Int)).map X6.D))<|gW 53 (.sl (((([]:List X6)++(sub eZ 0 o4))++(sub eZ (AB .add .i64 o4 1) (eZ.length:Int))).map X6.D)) ?_;obtain⟨h12,h⟩:=cS h;refine gQ (Cw X6.D h12)<|gQ (Ad X6.D (sub eZ 0 o4)) ?_;obtain⟨h13,h⟩:=cS h;refine gQ (Am X6.D h13)<|gQ (Ak X6.D ([]:List X6) (sub eZ 0 o4)) ?_;obtain⟨h14,h⟩:=cS h;refine gQ (EU X6.D h14)<|gQ (Ad X6.D (sub eZ (AB .add .i64 o4 1) (eZ.length:Int))) ?_;obtain⟨h15,h⟩:=cS h;refine gQ (Am X6.D h15)<|gQ (Ak X6.D (([]:List X6)++(sub eZ 0 o4)) (sub eZ (AB .add .i64 o4 1) (eZ.length:Int))) ?_;exact lf h
theorem aV4(h:Uq dA dB dQ=some dR):AM Tryz.prog 58 [.row 0,.d (D.i .i64 dA),.d (D.i .i64 dB)] [rW 0 3 1 dZ dQ] (.row 1) [rW 1 3 1 dZ dR]:=
 aN2 (ρ:=⟨fun _=>58,fun n=>if n=0 then 0 else if n=3 then 3 else if n=4 then 4 else if n=22 then 52 else 3,id⟩) (by_:=8) dZ mixed rfl ⟨ "slices.Delete[[]int,int]",by decide,(Tryz.func58).trans (by kernel_rfl)⟩ Tryz.underlying0 Tryz.underlying3 Tryz.underlying4 Tryz.underlying52 (by kernel_rfl) dA dB dQ dR h
theorem aVn(h:U9 dA dQ=some dR):AM Tryz.prog 33 [.row 0,dI dA] [rW 0 3 1 dZ dQ] (.row 1) [rW 1 3 1 dZ dR]:=by unfold U9 at h;refine XG.call (ks:=[]) mixed fun us=>?_;apply g0 (o:=dR);obtain⟨r1,h1,h⟩:=bS h;refine gG 10 (.lend [0] (.tup [dI r1.1,.d (D.b r1.2)])) (aFa h1) ?_;refine iB 14 h (fun h=>?_) fun h=>?_;exact lX h [.live [4],.keep [0,997],.ren 0 1,.sort];obtain⟨r2,h3,h⟩:=bS h;refine gG 20 (.cx true [(0,0)] [(1,20)] (.row 1) [rW 1 3 1 dZ r2]) (aV4 h3) ?_;exact lX h [.live [4],.keep [20,997],.ren 20 1,.sort]
theorem aVo(h:Ua f9 dA dK dL dM=some dO):AM Tryz.prog 32 [.d (D.s f9),.box 0 0,.eptr (D.cells (dZ dA))] [(0,.cells ([.box 1 0])),(1,.cells ((AW (AA.D dK))++[.row 2,.row 3])),(2,.map dL.clk (MP.dl dZ (D.l X0.D) dL)),(3,.mapR 996 dM.clk (ksR D.s dM) []),(996,.rows 3 (xsR dZ dM []))] (.tup []) [(0,.cells ([.box 1 0])),(1,.cells ((AW (AA.D dO.1))++[.row 4,.row 5])),(4,.map dO.2.1.clk (MP.dl dZ (D.l X0.D) dO.2.1)),(5,.mapR 995 dO.2.2.clk (ksR D.s dO.2.2) []),(995,.rows 3 (xsR dZ dO.2.2 []))]:=by unfold Ua at h;refine XG.call (ks:=[1,1001]) mixed fun us=>?_;apply g0 (o:=dO);refine gG 10 (.mr 996 dM.clk (ksR D.s dM) (xsR dZ dM [f9]) (((A5 [] dM f9).1).map dZ)) (aOf (S1 Tryz.underlying9) dZ dM f9 3 996 3) ?_;obtain⟨r1,h1,h⟩:=bS h;refine gG 12 (.cx false [(0,10)] [(1,12)] (.row 1) [rW 1 3 1 dZ r1]) (aVn h1)<|gN 14 dZ r1 ?_;refine iB 15 h (fun h=>?_) fun h=>?_;refine gQ (aK9 (S1 Tryz.underlying9) dZ dM f9 r1 3 996 3 10)<|gW 10019 (.mr 996 (CJ dM f9 r1).clk (ksR D.s (CJ dM f9 r1)) (xsR dZ (CJ dM f9 r1) []) []) ?_;exact lX h [.live [],.keep [0,1,2,3,996,997],.ren 2 4,.ren 3 5,.ren 996 995,.sort];refine gQ (aS1 (S1 Tryz.underlying9) dZ dM f9 3 996 3 10)<|gW 10025 (.mr 996 0 (ksR D.s (Dp dM f9)) (xsR dZ (Dp dM f9) []) []) ?_;exact lX h [.live [],.keep [0,1,2,3,996,997],.ren 2 4,.ren 3 5,.ren 996 995,.sort]
theorem aFl(rd:Option Nat)(us:List Value)(h:IJ d9 dA dB f9 dC dD dE dF dG dH dX dK eJ dL dM dJ=some fA):Lq 29 rd 3355451 ⟨sp 57 0 [sD 1 (D.l X0.D) d9,(2,.clo (.func 32) [] [.box 1 0,.eptr (D.cells (dZ dA))]),sI 6 dB,sD 10 D.s f9,bx 11,sD 17 (D.l X2.D) dC,sI 18 dD,sI 19 dE,sD 25 (D.l AX.D) dF,sI 26 dG,sI 27 dH,sD 45 D.b dX],[(0,.cells ((AW (AA.D dK))++[.row 502,.row 503])),(1,.cells ([.box 0 0])),cL 11 X3.D eJ,(502,.map dL.clk (MP.dl dZ (D.l X0.D) dL)),(503,.mapR 996 dM.clk (ksR D.s dM) []),(996,.rows 3 (xsR dZ dM [])),(997,.vals [.box 0 0,.clo (.func 32) [] [.box 1 0,.eptr (D.cells (dZ dJ))]] us)],[]⟩ (.normal,⟨sp 57 0 [sD 1 (D.l X0.D) d9,(2,.clo (.func 32) [] [.box 1 0,.eptr (D.cells (dZ dA))]),sI 6 dB,sD 10 D.s fA,sD 17 (D.l X2.D) dC,sI 18 dD,sI 19 dE,sD 25 (D.l AX.D) dF,sI 26 dG,sI 27 dH],[(0,.cells ((AW (AA.D dK))++[.row 502,.row 503])),(1,.cells ([.box 0 0])),(502,.map dL.clk (MP.dl dZ (D.l X0.D) dL)),(503,.mapR 996 dM.clk (ksR D.s dM) []),(996,.rows 3 (xsR dZ dM [])),(997,.vals [.box 0 0,.clo (.func 32) [] [.box 1 0,.eptr (D.cells (dZ dJ))]] us)],[]⟩):=by unfold IJ at h;apply g0 (o:=fA);cases dX;replace h:=B1 h;exact lp h;replace h:=B2 h;refine gQ (Ad X3.D [eJ]) ?_;obtain⟨r5,h9,h⟩:=bS h;refine gC 49 (aMh h9)<|gG 50 (.str r5) (rfl:r5.map AY=r5.map AY)<|gW 51 (.str (f9++r5)) ?_;obtain⟨h10,h⟩:=cS h;refine gQ (FZ h10) ?_;exact lp h
theorem aFk(rd:Option Nat)(us:List Value)(h:aFj d9 dA dB dC dD dE dF dG dH dK dL dM dJ=some dN):Lq 29 rd 26214 ⟨sp 57 0 [sD 1 (D.l X0.D) d9,(2,.clo (.func 32) [] [.box 1 0,.eptr (D.cells (dZ dA))]),sI 6 dB,sD 17 (D.l X2.D) dC,sI 18 dD,sI 19 dE,sD 25 (D.l AX.D) dF,sI 26 dG,sI 27 dH],[(0,.cells ((AW (AA.D dK))++[.row 502,.row 503])),(1,.cells ([.box 0 0])),(502,.map dL.clk (MP.dl dZ (D.l X0.D) dL)),(503,.mapR 996 dM.clk (ksR D.s dM) []),(996,.rows 3 (xsR dZ dM [])),(997,.vals [.box 0 0,.clo (.func 32) [] [.box 1 0,.eptr (D.cells (dZ dJ))]] us)],[]⟩ (.normal,⟨sp 57 0 [sD 1 (D.l X0.D) d9,(2,.clo (.func 32) [] [.box 1 0,.eptr (D.cells (dZ dA))]),sI 6 dB,sD 17 (D.l X2.D) dC,sI 18 dD,sI 19 dE,sD 25 (D.l AX.D) dF,sI 26 dG,sI 27 dH],[(0,.cells ((AW (AA.D dN.1))++[.row 502,.row 503])),(1,.cells ([.box 0 0])),(502,.map dN.2.1.clk (MP.dl dZ (D.l X0.D) dN.2.1)),(503,.mapR 996 dN.2.2.clk (ksR D.s dN.2.2) []),(996,.rows 3 (xsR dZ dN.2.2 [])),(997,.vals [.box 0 0,.clo (.func 32) [] [.box 1 0,.eptr (D.cells (dZ dJ))]] us)],[]⟩):=by unfold aFj at h;apply g0 (o:=dN);refine xX 30 AX.D h fun x2 h=>?_;refine iB 34 h (fun h=>?_) fun h=>?_;exact lp h;obtain⟨r3,h6,h⟩:=bS h;refine gC 37 (aLs h6) ?_;obtain⟨r4,h7,h⟩:=bS h;refine gC 42 (aMj h7) ?_;obtain⟨o6,h11,h⟩:=bS h;refine gl (aFl rd us h11) ?_;obtain⟨r7,h12,h⟩:=bS h;refine gG 54 (.cx false [(0,1),(1,0),(2,502),(3,503),(996,996)] [(4,54),(5,461),(995,994)] (.tup []) [(0,.cells ([.box 1 0])),(1,.cells ((AW (AA.D r7.1))++[.row 4,.row 5])),(4,.map r7.2.1.clk (MP.dl dZ (D.l X0.D) r7.2.1)),(5,.mapR 995 r7.2.2.clk (ksR D.s r7.2.2) []),(995,.rows 3 (xsR dZ r7.2.2 []))]) (aVo h12) ?_;exact lP h [.live [1,2,6,17,18,19,25,26,27],.keep [0,1,54,461,994,997],.ren 54 502,.ren 461 503,.ren 994 996,.sort]
def VL(us:List Value)(s1:List X0)(s2 s6:Int)(s17:List X2)(s18 s19:Int)(s25:List AX)(s26 w997 s27:Int)(w0:AA)(w502:MP Int (List X0))(w503:MP (List UInt8) (List Int)):St:=⟨sp 57 0 [sD 1 (D.l X0.D) s1,(2,.clo (.func 32) [] [.box 1 0,.eptr (D.cells (dZ s2))]),sI 6 s6,sD 17 (D.l X2.D) s17,sI 18 s18,sI 19 s19,sD 25 (D.l AX.D) s25,sI 26 s26,sI 27 s27],[(0,.cells ((AW (AA.D w0))++[.row 502,.row 503])),(1,.cells ([.box 0 0])),(502,.map w502.clk (MP.dl dZ (D.l X0.D) w502)),(503,.mapR 996 w503.clk (ksR D.s w503) []),(996,.rows 3 (xsR dZ w503 [])),(997,.vals [.box 0 0,.clo (.func 32) [] [.box 1 0,.eptr (D.cells (dZ w997))]] us)],[]⟩
def VM(us:List Value)(s1:List X0)(s2 s6:Int)(s17:List X2)(s18 s19:Int)(s25:List AX)(s26 w997:Int)(o:(AA×MP Int (List X0)×MP (List UInt8) (List Int))):Ex×St:=(.exit 2,⟨sp 57 0 [sD 1 (D.l X0.D) s1,(2,.clo (.func 32) [] [.box 1 0,.eptr (D.cells (dZ s2))]),sD 17 (D.l X2.D) s17,sI 18 s18,sI 19 s19],[(0,.cells ((AW (AA.D o.1))++[.row 502,.row 503])),(1,.cells ([.box 0 0])),(502,.map o.2.1.clk (MP.dl dZ (D.l X0.D) o.2.1)),(503,.mapR 996 o.2.2.clk (ksR D.s o.2.2) []),(996,.rows 3 (xsR dZ o.2.2 [])),(997,.vals [.box 0 0,.clo (.func 32) [] [.box 1 0,.eptr (D.cells (dZ w997))]] us)],[]⟩)
theorem aFn(rd:Option Nat)(us:List Value)(h:Ro d9 dA dB dC dD dE dF dG dH dJ dK dL dM=some dN):Lq 29 rd 1638 (VL us d9 dA dB dC dD dE dF dG dH dJ dK dL dM) ((VM us d9 dA dB dC dD dE dF dG dH) dN):=
 lL (fun s:Int×AA×MP Int (List X0)×MP (List UInt8) (List Int)=>VL us d9 dA dB dC dD dE dF dG dH s.1 s.2.1 s.2.2.1 s.2.2.2) (VM us d9 dA dB dC dD dE dF dG dH) (dJ,dK,dL,dM) (fun⟨dJ,dK,dL,dM⟩ o h=>by
 unfold Ge at h
 refine iB 28 h (fun h=>?_) fun h=>?_
 obtain⟨o8,h13,h⟩:=bS h
 refine gl (aFk rd us h13) ?_
 exact lb h
 exact lb h) h
def VJ(us:List Value)(s1:List X0)(s2:Int)(s17:List X2)(s18 w997 s19:Int)(w0:AA)(w502:MP Int (List X0))(w503:MP (List UInt8) (List Int)):St:=⟨sp 57 0 [sD 1 (D.l X0.D) s1,(2,.clo (.func 32) [] [.box 1 0,.eptr (D.cells (dZ s2))]),sD 17 (D.l X2.D) s17,sI 18 s18,sI 19 s19],[(0,.cells ((AW (AA.D w0))++[.row 502,.row 503])),(1,.cells ([.box 0 0])),(502,.map w502.clk (MP.dl dZ (D.l X0.D) w502)),(503,.mapR 996 w503.clk (ksR D.s w503) []),(996,.rows 3 (xsR dZ w503 [])),(997,.vals [.box 0 0,.clo (.func 32) [] [.box 1 0,.eptr (D.cells (dZ w997))]] us)],[]⟩
def VK(us:List Value)(s1:List X0)(s2:Int)(s17:List X2)(s18 w997:Int)(o:(AA×MP Int (List X0)×MP (List UInt8) (List Int))):Ex×St:=(.exit 0,⟨sp 57 0 [],[(0,.cells ((AW (AA.D o.1))++[.row 502,.row 503])),(1,.cells ([.box 0 0])),(502,.map o.2.1.clk (MP.dl dZ (D.l X0.D) o.2.1)),(503,.mapR 996 o.2.2.clk (ksR D.s o.2.2) []),(996,.rows 3 (xsR dZ o.2.2 [])),(997,.vals [.box 0 0,.clo (.func 32) [] [.box 1 0,.eptr (D.cells (dZ w997))]] us)],[]⟩)
theorem aFm(rd:Option Nat)(us:List Value)(h:Rn d9 dA dC dB dD dE dK dL dM=some dN):Lq 29 rd 6 (VJ us d9 dA dC dB dD dE dK dL dM) ((VK us d9 dA dC dB dD) dN):=
 lL (fun s:Int×AA×MP Int (List X0)×MP (List UInt8) (List Int)=>VJ us d9 dA dC dB dD s.1 s.2.1 s.2.2.1 s.2.2.2) (VK us d9 dA dC dB dD) (dE,dK,dL,dM) (fun⟨dE,dK,dL,dM⟩ o h=>by
 unfold Gd at h
 refine iB 20 h (fun h=>?_) fun h=>?_
 refine xX 22 X2.D h fun x1 h=>?_
 refine gN 26 AX.D x1.args ?_
 obtain⟨o9,h14,h⟩:=bS h
 refine gl (aFn rd us h14) ?_
 exact lb h
 exact lb h) h
theorem aW2(h:Xu d9 dA dK dL dM=some dO):AM Tryz.prog 29 [.box 0 0,.d ((D.l X0.D) d9),.clo (.func 32) [] [.box 1 0,.eptr (D.cells (dZ dA))]] [(0,.cells ((AW (AA.D dK))++[.row 2,.row 3])),(1,.cells ([.box 0 0])),(2,.map dL.clk (MP.dl dZ (D.l X0.D) dL)),(3,.mapR 996 dM.clk (ksR D.s dM) []),(996,.rows 3 (xsR dZ dM []))] (.tup []) [(0,.cells ((AW (AA.D dO.1))++[.row 4,.row 5])),(1,.cells ([.box 0 0])),(4,.map dO.2.1.clk (MP.dl dZ (D.l X0.D) dO.2.1)),(5,.mapR 995 dO.2.2.clk (ksR D.s dO.2.2) []),(995,.rows 3 (xsR dZ dO.2.2 []))]:=by unfold Xu at h;refine XG.call (ks:=[0,2]) mixed fun us=>?_;apply g0 (o:=dO);refine gN 18 X2.D dK.symbols ?_;obtain⟨o10,h15,h⟩:=bS h;refine gL [.live [1,2,17,18,19],.keep [0,1,2,3,996,997],.ren 2 502,.ren 3 503,.sort] (aFm none us h15) ?_;exact lX h [.live [],.keep [0,1,502,503,996,997],.ren 502 4,.ren 503 5,.ren 996 995,.sort]
theorem aVp(h:Ub dA dK dL dM=some dP):AM Tryz.prog 12 [.box 0 0,dI dA] [(0,.cells ((AW (AA.D dK))++[.row 1,.row 802])),(1,.map dL.clk (MP.dl dZ (D.l X0.D) dL)),(802,.mapR 996 dM.clk (ksR D.s dM) []),(996,.rows 3 (xsR dZ dM []))] (.d (D.b dP.1)) [(0,.cells ((AW (AA.D dP.2.1))++[.row 803,.row 804])),(803,.map dP.2.2.1.clk (MP.dl dZ (D.l X0.D) dP.2.2.1)),(804,.mapR 995 dP.2.2.2.clk (ksR D.s dP.2.2.2) []),(995,.rows 3 (xsR dZ dP.2.2.2 []))]:=by unfold Ub at h;refine XG.call (ks:=[0]) mixed fun us=>?_;apply g0 (o:=dP);refine gG 15 (.mg ((D.l X0.D) (A5 ([]:List X0) dL dA).1) (A5 ([]:List X0) dL dA).2) (aBj (aT4 Tryz.underlying3) (D.l X0.D) ([]:List X0) dL dA)<|gW 3 .frz ?_;refine iB 19 h (fun h=>?_) fun h=>?_;exact lX h [.live [4],.keep [0,1,802,996,997],.ren 1 803,.ren 802 804,.ren 996 995,.sort];refine gQ (aOd (aT4 Tryz.underlying3) (D.l X0.D) dL dA)<|gW 10023 (.mp (Dp dL dA).clk (MP.dl dZ (D.l X0.D) (Dp dL dA))) ?_;obtain⟨r1,h2,h⟩:=bS h;refine gG 28 (.cx false [(0,0),(1,2),(2,1),(3,802),(996,996)] [(4,28),(5,435),(995,994)] (.tup []) [(0,.cells ((AW (AA.D r1.1))++[.row 4,.row 5])),(1,.cells ([.box 0 0])),(4,.map r1.2.1.clk (MP.dl dZ (D.l X0.D) r1.2.1)),(5,.mapR 995 r1.2.2.clk (ksR D.s r1.2.2) []),(995,.rows 3 (xsR dZ r1.2.2 []))]) (aW2 h2) ?_;exact lX h [.live [4],.keep [0,28,435,994,997],.ren 28 803,.ren 435 804,.ren 994 995,.sort]
theorem aVq(h:Uc dK dL dM=some fB):AM Tryz.prog 13 [.box 0 0] [(0,.cells ((AW (AA.D dK))++[.row 1,.row 2])),(1,.map dL.clk (MP.dl dZ (D.l X0.D) dL)),(2,.mapR 996 dM.clk (ksR D.s dM) []),(996,.rows 3 (xsR dZ dM []))] (dI fB.1) [(0,.cells ((AW (AA.D fB.2.1))++[.row 3,.row 4])),(3,.map fB.2.2.1.clk (MP.dl dZ (D.l X0.D) fB.2.2.1)),(4,.mapR 995 fB.2.2.2.clk (ksR D.s fB.2.2.2) []),(995,.rows 3 (xsR dZ fB.2.2.2 []))]:=by unfold Uc at h;refine XG.call (ks:=[0]) mixed fun us=>?_;apply g0 (o:=fB);refine gW 9 (.int (dL.es.length:Int)) ?_;obtain⟨h1,h⟩:=cS h;refine gQ (aOe dZ (D.l X0.D) dL h1) ?_;exact lX h [.live [2],.keep [0,1,2,996,997],.ren 1 3,.ren 2 4,.ren 996 995,.sort]
def YM(s0:List X0)(s1:List Ae)(s5:Int):St:=⟨sp 19 0 [sD 0 (D.l X0.D) s0,sD 1 (D.l Ae.D) s1,sI 5 s5],[],[]⟩
def YN(s0:List X0)(s1:List Ae)(o:Unit⊕Unit):Ex×St:=match o with
 | .inl o=>(.exit 0,⟨sp 19 0 [],[],[]⟩)
 | .inr o=>(.ret,⟨sp 19 0 [sD 4 D.b true],[],[]⟩)
theorem aH8(rd:Option Nat)(h:aM8 d9 eE dA=some eI):Lq 35 rd 26 (YM d9 eE dA) ((YN d9 eE) eI):=
 lL (fun s:Int=>YM d9 eE s) (YN d9 eE) dA (fun dA o h=>by
 unfold J5 at h
 refine gN 8 Ae.D eE ?_
 refine iB 9 h (fun h=>?_) fun h=>?_
 refine xX 15 Ae.D h fun x1 h=>?_
 obtain⟨r2,h3,h⟩:=bS h
 refine gQ (aRt h3) ?_
 cases r2
 replace h:=B1 h
 refine gW 18 (.ret (.d (D.b false))) ?_
 exact lb h
 replace h:=B2 h
 refine gW 18 (.ret (.d (D.b true))) ?_
 exact lb h
 exact lb h) h
theorem aY4(h:Zl d9 eE=some dX):AM Tryz.prog 35 [.d ((D.l X0.D) d9),.d ((D.l Ae.D) eE)] [] (.d (D.b dX)) []:=by
 unfold Zl at h;apply g0 (o:=dX);obtain⟨o3,h5,h⟩:=bS h;refine gl (aH8 none h5) ?_;replace h:=AH h;rcases h with⟨o4,rfl,h⟩|⟨o5,rfl,h⟩
 exact lf h;exact lf h
def XH(s0:List Int)(s1 s5:Int):St:=⟨sp 36 0 [sD 0 (D.l dZ) s0,sI 1 s1,sI 5 s5],[],[]⟩
def XI(s0:List Int)(s1 o:Int):Ex×St:=(.exit 0,⟨sp 36 0 [sD 0 (D.l dZ) s0,sI 1 s1,sI 5 o],[],[]⟩)
theorem aHs(rd:Option Nat)(h:XF dQ dA dB=some dD):Lq 37 rd 28 (XH dQ dA dB) ((XI dQ dA) dD):=
 lL (fun s:Int=>XH dQ dA s) (XI dQ dA) dB (fun dB o h=>by
 unfold HH at h
 refine iB 11 h (fun h=>?_) fun h=>?_
 refine xX 15 dZ h fun x1 h=>?_
 refine iB 19 h (fun h=>?_) fun h=>?_
 exact lb h
 exact lb h
 exact lb h) h
theorem aYp(h:Z2 dQ dA=some dR):AM Tryz.prog 37 [.d ((D.l dZ) dQ),dI dA] [] (.d ((D.l dZ) dR)) []:=by unfold Z2 at h;apply g0 (o:=dR);refine gN 8 dZ dQ ?_;obtain⟨o2,h4,h⟩:=bS h;refine gl (aHs none h4)<|gQ (Ad dZ ([]:List Int))<|gW 25 (.sl ((sub dQ 0 o2).map dZ))<|gW 26 (.sl ((([]:List Int)++(sub dQ 0 o2)).map dZ))<|gW 30 (.sl (((([]:List Int)++(sub dQ 0 o2))++[dA]).map dZ))<|gW 34 (.sl ((sub dQ o2 (dQ.length:Int)).map dZ))<|gW 35 (.sl ((((([]:List Int)++(sub dQ 0 o2))++[dA])++(sub dQ o2 (dQ.length:Int))).map dZ)) ?_;obtain⟨h5,h⟩:=cS h;refine gQ (Cw dZ h5)<|gQ (Ad dZ (sub dQ 0 o2)) ?_;obtain⟨h6,h⟩:=cS h;refine gQ (Am dZ h6)<|gQ (Ak dZ ([]:List Int) (sub dQ 0 o2))<|gQ (Ad dZ [dA])<|gQ (Ad dZ [dA]) ?_;obtain⟨h7,h⟩:=cS h;refine gQ (Am dZ h7)<|gQ (Ak dZ (([]:List Int)++(sub dQ 0 o2)) [dA]) ?_;obtain⟨h8,h⟩:=cS h;refine gQ (EU dZ h8)<|gQ (Ad dZ (sub dQ o2 (dQ.length:Int))) ?_;obtain⟨h9,h⟩:=cS h;refine gQ (Am dZ h9)<|gQ (Ak dZ ((([]:List Int)++(sub dQ 0 o2))++[dA]) (sub dQ o2 (dQ.length:Int))) ?_;exact lf h
def XY(s0 s1:List X0)(s5:Int):St:=⟨sp 35 0 [sD 0 (D.l X0.D) s0,sD 1 (D.l X0.D) s1,sI 5 s5],[],[]⟩
def XZ(s0 s1:List X0)(o:Unit⊕Unit):Ex×St:=match o with
 | .inl o=>(.exit 0,⟨sp 35 0 [],[],[]⟩)
 | .inr o=>(.ret,⟨sp 35 0 [sD 4 D.b false],[],[]⟩)
theorem aH1(rd:Option Nat)(h:aM1 d9 eM dA=some eI):Lq 61 rd 26 (XY d9 eM dA) ((XZ d9 eM) eI):=
 lL (fun s:Int=>XY d9 eM s) (XZ d9 eM) dA (fun dA o h=>by
 unfold Jx at h
 refine gN 10 X0.D d9 ?_
 refine iB 11 h (fun h=>?_) fun h=>?_
 refine xX 18 X0.D h fun x1 h=>?_
 obtain⟨r2,h3,h⟩:=bS h
 refine gC 21 (Rv h3) ?_
 refine iB 26 h (fun h=>?_) fun h=>?_
 exact lb h
 refine xX 30 X0.D h fun x3 h=>?_
 refine iB 34 h (fun h=>?_) fun h=>?_
 exact lb h
 exact lb h
 exact lb h) h
theorem aYy(h:Zd d9 eM=some dX):AM Tryz.prog 61 [.d ((D.l X0.D) d9),.d ((D.l X0.D) eM)] [] (.d (D.b dX)) []:=by
 unfold Zd at h;apply g0 (o:=dX);obtain⟨o4,h7,h⟩:=bS h;refine gl (aH1 none h7) ?_;replace h:=AH h;rcases h with⟨o5,rfl,h⟩|⟨o6,rfl,h⟩
 exact lf h;exact lf h
def YA(s0:List X0)(s1:List Ae)(s5:Int):St:=⟨sp 19 0 [sD 0 (D.l X0.D) s0,sD 1 (D.l Ae.D) s1,sI 5 s5],[],[]⟩
def YB(s0:List X0)(s1:List Ae)(o:Unit⊕Unit):Ex×St:=match o with
 | .inl o=>(.exit 0,⟨sp 19 0 [],[],[]⟩)
 | .inr o=>(.ret,⟨sp 19 0 [sD 4 D.b true],[],[]⟩)
theorem aH2(rd:Option Nat)(h:aM2 d9 eE dA=some eI):Lq 36 rd 26 (YA d9 eE dA) ((YB d9 eE) eI):=
 lL (fun s:Int=>YA d9 eE s) (YB d9 eE) dA (fun dA o h=>by
 unfold Jy at h
 refine gN 8 Ae.D eE ?_
 refine iB 9 h (fun h=>?_) fun h=>?_
 refine xX 14 Ae.D h fun x1 h=>?_
 obtain⟨r2,h3,h⟩:=bS h
 refine gQ (aYy h3) ?_
 cases r2
 replace h:=B1 h
 refine gW 18 (.ret (.d (D.b false))) ?_
 exact lb h
 replace h:=B2 h
 refine gW 18 (.ret (.d (D.b true))) ?_
 exact lb h
 exact lb h) h
theorem aRz(h:Ze d9 eE=some dX):AM Tryz.prog 36 [.d ((D.l X0.D) d9),.d ((D.l Ae.D) eE)] [] (.d (D.b dX)) []:=by
 unfold Ze at h;apply g0 (o:=dX);obtain⟨o3,h5,h⟩:=bS h;refine gl (aH2 none h5) ?_;replace h:=AH h;rcases h with⟨o4,rfl,h⟩|⟨o5,rfl,h⟩
 exact lf h;exact lf h
theorem EP(rd:Option Nat)(h:IL eZ eE dX dQ dA eA=some dV):Lq 16 rd 1865 ⟨sp 46 0 [sD 0 (D.l X6.D) eZ,sD 1 (D.l Ae.D) eE,sD 2 D.b dX,sD 7 (D.l dZ) dQ,sI 8 dA,sD 37 D.b eA],[],[]⟩ (.normal,⟨sp 46 0 [sD 0 (D.l X6.D) eZ,sD 1 (D.l Ae.D) eE,sD 2 D.b dX,sD 7 (D.l dZ) dV,sI 8 dA],[],[]⟩):=by unfold IL at h;apply g0 (o:=dV);cases eA;replace h:=B1 h;exact lp h;replace h:=B2 h;refine xX 41 X6.D h fun x17 h=>?_;obtain⟨r18,h28,h⟩:=bS h;refine gC 44 (aYp h28) ?_;exact lp h
theorem aFz(rd:Option Nat)(h:Vb eZ eE dX dQ dA=some dV):Lq 16 rd 466 ⟨sp 46 0 [sD 0 (D.l X6.D) eZ,sD 1 (D.l Ae.D) eE,sD 2 D.b dX,sD 7 (D.l dZ) dQ,sI 8 dA],[],[]⟩ (.normal,⟨sp 46 0 [sD 0 (D.l X6.D) eZ,sD 1 (D.l Ae.D) eE,sD 2 D.b dX,sD 7 (D.l dZ) dV,sI 8 dA],[],[]⟩):=by unfold Vb at h;apply g0 (o:=dV);refine iB 17 h (fun h=>?_) fun h=>?_;refine xX 20 X6.D h fun x15 h=>?_;obtain⟨r16,h24,h⟩:=bS h;refine gQ (aY4 h24) ?_;cases r16;replace h:=B1 h;refine gW 24 (.ret (.d (D.b false))) ?_;refine iB 28 h (fun h=>?_) fun h=>?_;refine xX 31 X6.D h fun x20 h=>?_;obtain⟨r21,h32,h⟩:=bS h;refine gC 35 (aRz h32) ?_;obtain⟨o22,h33,h⟩:=bS h;refine gl (EP rd h33) ?_;exact lp h;obtain⟨o23,h34,h⟩:=bS h;refine gl (EP rd h34) ?_;exact lp h;replace h:=B2 h;refine gW 24 (.ret (.d (D.b true))) ?_;obtain⟨o19,h29,h⟩:=bS h;refine gl (EP rd h29) ?_;exact lp h;refine iB 28 h (fun h=>?_) fun h=>?_;refine xX 31 X6.D h fun x24 h=>?_;obtain⟨r25,h37,h⟩:=bS h;refine gC 35 (aRz h37) ?_;obtain⟨o26,h38,h⟩:=bS h;refine gl (EP rd h38) ?_;exact lp h;obtain⟨o27,h39,h⟩:=bS h;refine gl (EP rd h39) ?_;exact lp h
def Vc(s0:List X6)(s1:List Ae)(s2:Bool)(s7:List Int)(s8:Int):St:=⟨sp 46 0 [sD 0 (D.l X6.D) s0,sD 1 (D.l Ae.D) s1,sD 2 D.b s2,sD 7 (D.l dZ) s7,sI 8 s8],[],[]⟩
def Vd(s0:List X6)(s1:List Ae)(s2:Bool)(o:(List Int)):Ex×St:=(.exit 0,⟨sp 46 0 [sD 7 (D.l dZ) o],[],[]⟩)
theorem aF0(rd:Option Nat)(h:Rt eZ eE dX dQ dA=some dV):Lq 16 rd 58 (Vc eZ eE dX dQ dA) ((Vd eZ eE dX) dV):=
 lL (fun s:List Int×Int=>Vc eZ eE dX s.1 s.2) (Vd eZ eE dX) (dQ,dA) (fun⟨dQ,dA⟩ o h=>by
 unfold Gm at h
 refine gN 11 X6.D eZ ?_
 refine iB 12 h (fun h=>?_) fun h=>?_
 obtain⟨o28,h40,h⟩:=bS h
 refine gl (aFz rd h40) ?_
 exact lb h
 exact lb h) h
theorem aQ3(h:Y1 eZ eE dX=some dQ):AM Tryz.prog 16 [.d ((D.l X6.D) eZ),.d ((D.l Ae.D) eE),.d (D.b dX)] [] (.d ((D.l dZ) dQ)) []:=by unfold Y1 at h;apply g0 (o:=dQ);obtain⟨o29,h41,h⟩:=bS h;refine gL [.look 7,.live [0,1,2,7,8],.keep []] (aF0 none h41) ?_;exact lf h
def YC(s0 s1:List Int)(s5:Int):St:=⟨sp 26 0 [sD 0 (D.l dZ) s0,sD 1 (D.l dZ) s1,sI 5 s5],[],[]⟩
def YD(s0 s1:List Int)(o:Unit⊕Unit):Ex×St:=match o with
 | .inl o=>(.exit 0,⟨sp 26 0 [],[],[]⟩)
 | .inr o=>(.ret,⟨sp 26 0 [sD 4 D.b false],[],[]⟩)
theorem aH3(rd:Option Nat)(h:aM3 dQ dR dA=some eI):Lq 14 rd 58 (YC dQ dR dA) ((YD dQ dR) eI):=
 lL (fun s:Int=>YC dQ dR s) (YD dQ dR) dA (fun dA o h=>by
 unfold Jz at h
 refine gN 13 dZ dQ ?_
 refine iB 14 h (fun h=>?_) fun h=>?_
 refine xX 19 dZ h fun x1 h=>?_
 refine xX 23 dZ h fun x2 h=>?_
 refine iB 25 h (fun h=>?_) fun h=>?_
 exact lb h
 exact lb h
 exact lb h) h
theorem aR0(h:Zf dQ dR=some dX):AM Tryz.prog 14 [.d ((D.l dZ) dQ),.d ((D.l dZ) dR)] [] (.d (D.b dX)) []:=by
 unfold Zf at h;apply g0 (o:=dX);refine gN 7 dZ dQ<|gN 9 dZ dR ?_;refine iB 10 h (fun h=>?_) fun h=>?_;exact lf h;obtain⟨o3,h6,h⟩:=bS h;refine gl (aH3 none h6) ?_;replace h:=AH h;rcases h with⟨o4,rfl,h⟩|⟨o5,rfl,h⟩
 exact lf h;exact lf h
theorem aV5(h:Ur eE dK dL dM=some dY):AM Tryz.prog 17 [.box 0 0,.d ((D.l Ae.D) eE)] [(0,.cells ((AW (AA.D dK))++[.row 1,.row 2])),(1,.map dL.clk (MP.dl dZ (D.l X0.D) dL)),(2,.mapR 996 dM.clk (ksR D.s dM) []),(996,.rows 3 (xsR dZ dM []))] (.d ((D.l dZ) dY.1)) [(0,.cells ((AW (AA.D dY.2.1))++[.row 3,.row 4])),(3,.map dY.2.2.1.clk (MP.dl dZ (D.l X0.D) dY.2.2.1)),(4,.mapR 995 dY.2.2.2.clk (ksR D.s dY.2.2.2) []),(995,.rows 3 (xsR dZ dY.2.2.2 []))]:=by unfold Ur at h;refine XG.call (ks:=[0]) mixed fun us=>?_;apply g0 (o:=dY);obtain⟨r1,h1,h⟩:=bS h;refine gG 7 (.cx false [(0,0),(1,1),(2,2),(996,996)] [(3,7),(4,414),(995,994)] (.d ((D.l dZ) r1.1)) [(0,.cells ((AW (AA.D r1.2.1))++[.row 3,.row 4])),(3,.map r1.2.2.1.clk (MP.dl dZ (D.l X0.D) r1.2.2.1)),(4,.mapR 995 r1.2.2.2.clk (ksR D.s r1.2.2.2) []),(995,.rows 3 (xsR dZ r1.2.2.2 []))]) (aQ0 h1) ?_;exact lX h [.live [4],.keep [0,7,414,994,997],.ren 7 3,.ren 414 4,.ren 994 995,.sort]
theorem aQh:Lays.n190 Tryz.prog ⟨fun|190=>38|125=>63|258=>62|128=>121|129=>122|302=>112|303=>113|304=>114|305=>115|306=>116|307=>117|308=>118|309=>119|310=>120|333=>150|329=>151|330=>152|334=>153|335=>154|336=>155|344=>167|n=>n,fun|31=>55|9=>9|3=>3|46=>127|0=>0|51=>180|53=>128|4=>4|183=>174|182=>173|131=>113|5=>5|218=>204|222=>208|228=>220|229=>111|n=>n,id⟩:=⟨by kernel_rfl,Tryz.func63.trans (congrArg some (by kernel_rfl)),Tryz.func121.trans (congrArg some (by kernel_rfl)),Tryz.func122.trans (congrArg some (by kernel_rfl)),Tryz.func38.trans (congrArg some (by kernel_rfl)),Tryz.func62.trans (congrArg some (by kernel_rfl)),Tryz.func112.trans (congrArg some (by kernel_rfl)),Tryz.func113.trans (congrArg some (by kernel_rfl)),Tryz.func114.trans (congrArg some (by kernel_rfl)),Tryz.func115.trans (congrArg some (by kernel_rfl)),Tryz.func116.trans (congrArg some (by kernel_rfl)),Tryz.func117.trans (congrArg some (by kernel_rfl)),Tryz.func118.trans (congrArg some (by kernel_rfl)),Tryz.func119.trans (congrArg some (by kernel_rfl)),Tryz.func120.trans (congrArg some (by kernel_rfl)),Tryz.func151.trans (congrArg some (by kernel_rfl)),Tryz.func152.trans (congrArg some (by kernel_rfl)),Tryz.func150.trans (congrArg some (by kernel_rfl)),Tryz.func153.trans (congrArg some (by kernel_rfl)),Tryz.func154.trans (congrArg some (by kernel_rfl)),Tryz.func155.trans (congrArg some (by kernel_rfl)),Tryz.func167.trans (congrArg some (by kernel_rfl)),Tryz.underlying0,Tryz.isAgg0,Tryz.sizeOf0,Tryz.zeroValue0,Tryz.underlying3,Tryz.isAgg3,Tryz.sizeOf3,Tryz.zeroValue3,Tryz.underlying4,Tryz.isAgg4,Tryz.sizeOf4,Tryz.zeroValue4,Tryz.underlying5,Tryz.isAgg5,Tryz.sizeOf5,Tryz.zeroValue5,Tryz.underlying9,Tryz.isAgg9,Tryz.sizeOf9,Tryz.zeroValue9,Tryz.underlying55,Tryz.isAgg55,Tryz.sizeOf55,Tryz.zeroValue55,Tryz.underlying127,Tryz.isAgg127,Tryz.sizeOf127,Tryz.zeroValue127,Tryz.underlying180,Tryz.isAgg180,Tryz.sizeOf180,Tryz.zeroValue180,Tryz.underlying128,Tryz.isAgg128,Tryz.sizeOf128,Tryz.zeroValue128,Tryz.underlying113,Tryz.isAgg113,Tryz.sizeOf113,Tryz.zeroValue113,Tryz.underlying173,Tryz.isAgg173,Tryz.sizeOf173,Tryz.zeroValue173,Tryz.underlying174,Tryz.isAgg174,Tryz.sizeOf174,Tryz.zeroValue174,Tryz.underlying204,Tryz.isAgg204,Tryz.sizeOf204,Tryz.zeroValue204,Tryz.underlying208,Tryz.isAgg208,Tryz.sizeOf208,Tryz.zeroValue208,Tryz.underlying220,Tryz.isAgg220,Tryz.sizeOf220,Tryz.zeroValue220,Tryz.underlying111,Tryz.isAgg111,Tryz.sizeOf111,Tryz.zeroValue111⟩
theorem aVr(h:Ud fC=some fD):AM Tryz.prog 38 [.row 0] [rW 0 9 1 D.s fC] (.tup []) [rW 0 9 1 D.s fD]:=aJ2 rfl aQh fC fD h
theorem aV6(h:Us fC=some fD):AM Tryz.prog 38 [.row 0] [(0,.bag 9 1 (fC.map D.s))] (.tup []) [rW 0 9 1 D.s fD]:=
 AM.bagE (R:=fun _=>.tup []) (X':=fun fD=> [rW 0 9 1 D.s fD]) (fun _ _ h=>aVr h) fD h
def E7(clk:Nat)(es:List (Nat×List UInt8×List Int))(us:List Value)(w0:AA)(w501:MP Int (List X0))(w502:MP (List UInt8) (List Int))(w3:List (List UInt8))(sn:List Nat):St:=⟨sp 23 0 [rx 3,bx 11],[(0,.cells ((AW (AA.D w0))++[.row 501,.row 502])),rW 3 9 1 D.s w3,(11,.mit 502 clk sn),(501,.map w501.clk (MP.dl dZ (D.l X0.D) w501)),(502,.map clk (dl D.s (D.l dZ) es)),(997,.vals [.box 0 0] us)],[]⟩
def E8(clk:Nat)(es:List (Nat×List UInt8×List Int))(us:List Value)(w0:AA)(w501:MP Int (List X0))(w502:MP (List UInt8) (List Int))(o:List (List UInt8)):Ex×St:=(.exit 0,⟨sp 23 0 [rx 3],[(0,.cells ((AW (AA.D w0))++[.row 501,.row 502])),(3,.bag 9 1 (o.map D.s)),(501,.map w501.clk (MP.dl dZ (D.l X0.D) w501)),(502,.map clk (dl D.s (D.l dZ) es)),(997,.vals [.box 0 0] us)],[]⟩)
def aMk(clk:Nat)(es:List (Nat×List UInt8×List Int))(us:List Value)(w0:AA)(w501:MP Int (List X0))(w502:MP (List UInt8) (List Int))(w3:List (List UInt8)):St:=⟨sp 23 0 [rx 3],[(0,.cells ((AW (AA.D w0))++[.row 501,.row 502])),rW 3 9 1 D.s w3,(501,.map w501.clk (MP.dl dZ (D.l X0.D) w501)),(502,.map clk (dl D.s (D.l dZ) es)),(997,.vals [.box 0 0] us)],[]⟩
set_option maxRecDepth 100000 in
theorem Vy(rd:Option Nat)(us:List Value)(clk:Nat)(es:List (Nat×List UInt8×List Int))(w0:AA)(w501:MP Int (List X0))(w502:MP (List UInt8) (List Int))(k:List UInt8)(v:List Int)(w3:List (List UInt8))(sn:List Nat)(st:Nat)(hm:(st,k,v)∈es)(o:List (List UInt8))(h:Gt w0 w501 w502 k v w3=some o):Sz Tryz.prog rd (DJ Tryz.prog 18) [0,1,0,1,1,1] ((⟨(E7 clk es us w0 w501 w502 w3 sn).E,BG (E7 clk es us w0 w501 w502 w3 sn).B 11 (.mit 502 clk (sn++[st])),[]⟩:St).put (some 12) (.tup [bo true,.d (D.s k),.d ((D.l dZ) v)])) fun zx zs=>zx=.normal/\Wk zs ((fun s:List (List UInt8)=>E7 clk es us w0 w501 w502 s (sn++[st])) o):=by unfold Gt at h;obtain⟨h1,h⟩:=cS h;obtain rfl:=si h;exact F8 mixed [(14,.en (D.s k) ((D.l dZ) v)),(19,.rwl ((w3++[k]).map D.s))] [] [.live [3,11],.keep [0,11,19,501,502,997],.ren 19 3,.sort] (ai (aBi (fk:=D.s) (fv:=(D.l dZ)) (clk:=clk) (sn:=sn) hm) (ai (Ad D.s [k]) (ai (Ad D.s [k]) (ai (Am D.s h1) (ai (Ak D.s w3 [k]) (ti)))))) (by kernel_rfl)
set_option maxRecDepth 100000 in
theorem Vx(rd:Option Nat)(us:List Value)(clk:Nat)(es:List (Nat×List UInt8×List Int))(w0:AA)(w501:MP Int (List X0))(w502:MP (List UInt8) (List Int))(w3:List (List UInt8))(sn:List Nat):Sz Tryz.prog rd (DJ Tryz.prog 18) [0,1,0,1,1,1] ((E7 clk es us w0 w501 w502 w3 sn).put (some 12) (.tup [bo false])) fun zx zs=>zx=(E8 clk es us w0 w501 w502 (Jo w0 w501 w502 w3)).1/\Wk zs (E8 clk es us w0 w501 w502 (Jo w0 w501 w502 w3)).2:=by refine Sz.wk (e:=.exit 0) (s1:=aMk clk es us w0 w501 w502 w3) (F8 mixed [] [] [.live [3],.keep [0,3,501,502,997]] (ti) (by kernel_rfl)) ?_;exact(Wk.canB 3 (ML _).symm (by kernel_rfl) rfl)
set_option maxRecDepth 100000 in
theorem aGe(rd:Option Nat)(us:List Value)(clk:Nat)(es:List (Nat×List UInt8×List Int))(w0:AA)(w501:MP Int (List X0))(w502:MP (List UInt8) (List Int))(w3:List (List UInt8))(hp:(es.map (·.2)).Perm (w502.es.map (·.2)))(o:List (List UInt8))(h:aGd w0 w501 w502 w3=some o):EL Tryz.prog rd (DJ Tryz.prog 18) [0,1,0,1,1,1] (E7 clk es us w0 w501 w502 w3 []) ((E8 clk es us w0 w501 w502) o).1 ((E8 clk es us w0 w501 w502) o).2:=
 aBd (fk:=D.s) (fv:=(D.l dZ)) (step:=(fun(x:List UInt8×List Int) (s:List (List UInt8))=>Gt w0 w501 w502 x.1 x.2 s)) (s0:=w3) 11 12 11 502 clk es (fun(sn:List Nat) (s:List (List UInt8))=>E7 clk es us w0 w501 w502 s sn) (E8 clk es us w0 w501 w502) (by kernel_rfl) (aA0 (by rfl)) (fun _ _=>by kernel_rfl) (fun _ _=>by kernel_rfl) (fun _ _=>by kernel_rfl) hp
  (fun sn s k v st a hm h=>Vy rd us clk es w0 w501 w502 k v s sn st hm a h) (fun sn s hc=>hc▸Vx rd us clk es w0 w501 w502 s sn) h
theorem aGc(rd:Option Nat)(us:List Value)(h:aGb dK dL dM=some fE):Lq 18 rd 30 ⟨sp 23 0 [bx 0,(3,.nil)],[(0,.cells ((AW (AA.D dK))++[.row 501,.row 502])),(501,.map dL.clk (MP.dl dZ (D.l X0.D) dL)),(502,.map dM.clk (MP.dl D.s (D.l dZ) dM)),(997,.vals [.box 0 0] us)],[]⟩ (.normal,⟨sp 23 0 [rx 3],[(0,.cells ((AW (AA.D dK))++[.row 501,.row 502])),(3,.bag 9 1 (fE.map D.s)),(501,.map dL.clk (MP.dl dZ (D.l X0.D) dL)),(502,.map dM.clk (MP.dl D.s (D.l dZ) dM)),(997,.vals [.box 0 0] us)],[]⟩):=by unfold aGb at h;obtain⟨o1,h2,h⟩:=bS h;obtain rfl:=si h;exact Arr.lp (F7 mixed [] [⟨[0,1,0,1,1,1],[.live [3,11],.keep [0,11,501,502,997],.nilw 3 3 9 1,.sort],.exit 0,(E8 dM.clk dM.es us dK dL dM o1).2⟩] [.live [3],.keep [0,3,501,502,997]] (ai (aGe rd us dM.clk dM.es dK dL dM ([]:List (List UInt8)) (List.Perm.refl _) o1 h2) (ti)) (by kernel_rfl))
theorem aXj(h:Y8 dK dL dM=some fF):AM Tryz.prog 18 [.box 0 0] [(0,.cells ((AW (AA.D dK))++[.row 1,.row 2])),(1,.map dL.clk (MP.dl dZ (D.l X0.D) dL)),(2,.map dM.clk (MP.dl D.s (D.l dZ) dM))] (.d ((D.l D.s) fF.1)) [(0,.cells ((AW (AA.D fF.2.1))++[.row 3,.row 4])),(3,.map fF.2.2.1.clk (MP.dl dZ (D.l X0.D) fF.2.2.1)),(4,.map fF.2.2.2.clk (MP.dl D.s (D.l dZ) fF.2.2.2))]:=by unfold Y8 at h;refine XG.call (ks:=[0]) mixed fun us=>?_;apply g0 (o:=fF);obtain⟨o2,h3,h⟩:=bS h;refine gL [.live [0,3],.keep [0,1,2,997],.ren 1 501,.ren 2 502,.sort] (aGc none us h3) ?_;obtain⟨r3,h4,h⟩:=bS h;refine gG 21 (.cx true [(0,3)] [] (.tup []) [rW 0 9 1 D.s r3]) (aV6 h4) ?_;exact lX h [.frz 3,.look 2,.live [2],.keep [0,501,502,997],.ren 501 3,.ren 502 4,.sort]
theorem aEu(rd:Option Nat)(h:aEt dA dX eJ f9=some fA):Lq 40 rd 62611 ⟨sp 70 0 [bx 1,rx 3,sI 4 dA,sD 44 D.b dX],[cL 1 X3.D eJ,(3,.row 5 1 (f9.map AY))],[]⟩ (.normal,⟨sp 70 0 [bx 1,rx 3,sI 4 dA],[cL 1 X3.D eJ,(3,.row 5 1 (fA.map AY))],[]⟩):=by unfold aEt at h;apply g0 (o:=fA);cases dX;replace h:=B1 h;exact lp h;replace h:=B2 h;refine gQ (Ad AY [(255:UInt8)])<|gG 47 (.sl ((f9++[(255:UInt8)]).map AY)) (Ad AY [(255:UInt8)]) ?_;obtain⟨h11,h⟩:=cS h;refine gQ (Am AY h11)<|gQ (Ak AY f9 [(255:UInt8)]) ?_;exact lP h [.live [1,3,4],.keep [1,47],.ren 47 3,.sort]
theorem aEs(rd:Option Nat)(h:UL dA eJ f9=some fA):Lq 40 rd 7826 ⟨sp 70 0 [bx 1,rx 3,sI 4 dA],[cL 1 X3.D eJ,(3,.row 5 1 (f9.map AY))],[]⟩ (.normal,⟨sp 70 0 [bx 1,rx 3,sI 4 dA],[cL 1 X3.D eJ,(3,.row 5 1 (fA.map AY))],[]⟩):=by unfold UL at h;apply g0 (o:=fA);obtain⟨x1,h7,h⟩:=xS h;refine gG 37 (.int x1.toNat) (Ci h7)<|gQ (Ad AY [x1])<|gG 39 (.sl ((f9++[x1]).map AY)) (Ad AY [x1]) ?_;obtain⟨h8,h⟩:=cS h;refine gQ (Am AY h8)<|gQ (Ak AY f9 [x1]) ?_;obtain⟨x2,h9,h⟩:=xS h;refine gG 43 (.int x2.toNat) (Ci h9) ?_;obtain⟨o3,h12,h⟩:=bS h;refine gL [.live [1,3,4,44],.keep [1,39],.ren 39 3,.sort] (aEu rd h12) ?_;exact lp h
def UM(w1:X3)(s4:Int)(w3:List UInt8):St:=⟨sp 70 0 [bx 1,rx 3,sI 4 s4],[cL 1 X3.D w1,(3,.row 5 1 (w3.map AY))],[]⟩
def UN(w1:X3)(o:(List UInt8)):Ex×St:=(.exit 0,⟨sp 70 0 [rx 3],[(3,.row 5 1 (o.map AY))],[]⟩)
theorem aEv(rd:Option Nat)(h:Rj eJ dA f9=some fA):Lq 40 rd 978 (UM eJ dA f9) ((UN eJ) fA):=
 lL (fun s:Int×List UInt8=>UM eJ s.1 s.2) (UN eJ) (dA,f9) (fun⟨dA,f9⟩ o h=>by
 unfold GX at h
 refine gG 29 (.int (eJ.str.length:Int)) (BH eJ.str) ?_
 refine iB 30 h (fun h=>?_) fun h=>?_
 obtain⟨o4,h13,h⟩:=bS h
 refine gl (aEs rd h13) ?_
 exact lb h
 exact lb h) h
def UP(s5 s6 s7:Int)(w3:List UInt8):St:=⟨sp 70 0 [rx 3,sD 5 dU s5,sD 6 dU s6,sI 7 s7],[(3,.row 5 1 (w3.map AY))],[]⟩
def UQ(s5:Int)(o:(List UInt8)):Ex×St:=(.exit 2,⟨sp 70 0 [rx 3],[(3,.row 5 1 (o.map AY))],[]⟩)
theorem aEw(rd:Option Nat)(h:LF dA dB dD f9=some fA):Lq 40 rd 1018 (UP dA dB dD f9) ((UQ dA) fA):=
 lL (fun s:Int×Int×List UInt8=>UP dA s.1 s.2.1 s.2.2) (UQ dA) (dB,dD,f9) (fun⟨dB,dD,f9⟩ o h=>by
 unfold GY at h
 refine iB 56 h (fun h=>?_) fun h=>?_
 refine gW 64 (.int (u8w (AB .rem .u64 (AB .quo .u64 dA dB) 256)).toNat)<|gW 66 (.sl ((f9++[u8w (AB .rem .u64 (AB .quo .u64 dA dB) 256)]).map AY)) ?_
 obtain⟨h17,h⟩:=cS h
 refine gQ h17<|gQ (of_decide_eq_true rfl:(256:Int)≠0)<|gQ (Eq (AB .rem .u64 (AB .quo .u64 dA dB) 256))<|gQ (Ad AY [u8w (AB .rem .u64 (AB .quo .u64 dA dB) 256)])<|gQ (Ad AY [u8w (AB .rem .u64 (AB .quo .u64 dA dB) 256)]) ?_
 obtain⟨h18,h⟩:=cS h
 refine gQ (Am AY h18)<|gQ (Ak AY f9 [u8w (AB .rem .u64 (AB .quo .u64 dA dB) 256)])<|gQ (of_decide_eq_true rfl:(256:Int)≠0) ?_
 exact lB h [.live [3,5,6,7],.keep [66],.ren 66 3,.sort]
 exact lb h) h
theorem aWt(h:Xo eJ=some f9):AM Tryz.prog 40 [.d (X3.D eJ)] [] (.d ((D.l AY) f9)) []:=by unfold Xo at h;apply g0 (o:=f9);refine gG 10 (.int (u8w eJ.kind).toNat) (Eq eJ.kind)<|gQ (Ad AY [u8w eJ.kind]) ?_;refine iB 14 h (fun h=>?_) fun h=>?_;refine iB 16 h (fun h=>?_) fun h=>?_;refine gQ (Ad AY [(1:UInt8)])<|gG 19 (.sl (([u8w eJ.kind]++[(1:UInt8)]).map AY)) (Ad AY [(1:UInt8)]) ?_;obtain⟨h3,h⟩:=cS h;refine gQ (Am AY h3)<|gQ (Ak AY [u8w eJ.kind] [(1:UInt8)]) ?_;exact lf h;refine gQ (Ad AY [(0:UInt8)])<|gG 22 (.sl (([u8w eJ.kind]++[(0:UInt8)]).map AY)) (Ad AY [(0:UInt8)]) ?_;obtain⟨h4,h⟩:=cS h;refine gQ (Am AY h4)<|gQ (Ak AY [u8w eJ.kind] [(0:UInt8)]) ?_;exact lf h;refine iB 25 h (fun h=>?_) fun h=>?_;obtain⟨o5,h14,h⟩:=bS h;refine gL [.live [1,3,4],.keep [1,11],.ren 11 3,.sort] (aEv none h14)<|gQ (Ad AY [(0:UInt8),(1:UInt8)])<|gG 50 (.sl ((o5++[(0:UInt8),(1:UInt8)]).map AY)) (Ad AY [(0:UInt8),(1:UInt8)]) ?_;obtain⟨h15,h⟩:=cS h;refine gQ (Am AY h15)<|gQ (Ak AY o5 [(0:UInt8),(1:UInt8)]) ?_;exact lf h;obtain⟨o6,h19,h⟩:=bS h;refine gL [.live [3,5,6,7],.keep [11],.ren 11 3,.sort] (aEw none h19) ?_;exact lf h
def XK(s0:List (List UInt8))(s1:List UInt8)(s5:Int):St:=⟨sp 48 0 [sD 0 (D.l D.s) s0,sD 1 D.s s1,sI 5 s5],[],[]⟩
def XL(s0:List (List UInt8))(s1:List UInt8)(o:Int):Ex×St:=(.exit 0,⟨sp 48 0 [sD 0 (D.l D.s) s0,sD 1 D.s s1,sI 5 o],[],[]⟩)
theorem aHt(rd:Option Nat)(h:XJ fC f9 dA=some dB):Lq 41 rd 28 (XK fC f9 dA) ((XL fC f9) dB):=
 lL (fun s:Int=>XK fC f9 s) (XL fC f9) dA (fun dA o h=>by
 unfold HI at h
 refine iB 11 h (fun h=>?_) fun h=>?_
 refine xX 16 D.s h fun x1 h=>?_
 obtain⟨r2,h3,h⟩:=bS h
 refine gQ (aRp h3) ?_
 cases r2
 replace h:=B1 h
 refine gW 18 (.ret (.d (D.b false))) ?_
 exact lb h
 replace h:=B2 h
 refine gW 18 (.ret (.d (D.b true))) ?_
 exact lb h
 exact lb h) h
theorem aYq(h:Z3 fC f9=some fD):AM Tryz.prog 41 [.d ((D.l D.s) fC),.d (D.s f9)] [] (.d ((D.l D.s) fD)) []:=by unfold Z3 at h;apply g0 (o:=fD);refine gN 8 D.s fC ?_;obtain⟨o3,h5,h⟩:=bS h;refine gl (aHt none h5) ?_;refine iB 24 h (fun h=>?_) fun h=>?_;refine xX 28 D.s h fun x4 h=>?_;refine iB 32 h (fun h=>?_) fun h=>?_;exact lf h;refine gQ (Ad D.s ([]:List (List UInt8)))<|gW 37 (.sl ((sub fC 0 o3).map D.s))<|gW 38 (.sl ((([]:List (List UInt8))++(sub fC 0 o3)).map D.s))<|gW 42 (.sl (((([]:List (List UInt8))++(sub fC 0 o3))++[f9]).map D.s))<|gW 46 (.sl ((sub fC o3 (fC.length:Int)).map D.s))<|gW 47 (.sl ((((([]:List (List UInt8))++(sub fC 0 o3))++[f9])++(sub fC o3 (fC.length:Int))).map D.s)) ?_;obtain⟨h9,h⟩:=cS h;refine gQ (Cw D.s h9)<|gQ (Ad D.s (sub fC 0 o3)) ?_;obtain⟨h10,h⟩:=cS h;refine gQ (Am D.s h10)<|gQ (Ak D.s ([]:List (List UInt8)) (sub fC 0 o3))<|gQ (Ad D.s [f9])<|gQ (Ad D.s [f9]) ?_;obtain⟨h11,h⟩:=cS h;refine gQ (Am D.s h11)<|gQ (Ak D.s (([]:List (List UInt8))++(sub fC 0 o3)) [f9]) ?_;obtain⟨h12,h⟩:=cS h;refine gQ (EU D.s h12)<|gQ (Ad D.s (sub fC o3 (fC.length:Int))) ?_;obtain⟨h13,h⟩:=cS h;refine gQ (Am D.s h13)<|gQ (Ak D.s ((([]:List (List UInt8))++(sub fC 0 o3))++[f9]) (sub fC o3 (fC.length:Int))) ?_;exact lf h;refine gQ (Ad D.s ([]:List (List UInt8)))<|gW 37 (.sl ((sub fC 0 o3).map D.s))<|gW 38 (.sl ((([]:List (List UInt8))++(sub fC 0 o3)).map D.s))<|gW 42 (.sl (((([]:List (List UInt8))++(sub fC 0 o3))++[f9]).map D.s))<|gW 46 (.sl ((sub fC o3 (fC.length:Int)).map D.s))<|gW 47 (.sl ((((([]:List (List UInt8))++(sub fC 0 o3))++[f9])++(sub fC o3 (fC.length:Int))).map D.s)) ?_;obtain⟨h14,h⟩:=cS h;refine gQ (Cw D.s h14)<|gQ (Ad D.s (sub fC 0 o3)) ?_;obtain⟨h15,h⟩:=cS h;refine gQ (Am D.s h15)<|gQ (Ak D.s ([]:List (List UInt8)) (sub fC 0 o3))<|gQ (Ad D.s [f9])<|gQ (Ad D.s [f9]) ?_;obtain⟨h16,h⟩:=cS h;refine gQ (Am D.s h16)<|gQ (Ak D.s (([]:List (List UInt8))++(sub fC 0 o3)) [f9]) ?_;obtain⟨h17,h⟩:=cS h;refine gQ (EU D.s h17)<|gQ (Ad D.s (sub fC o3 (fC.length:Int))) ?_;obtain⟨h18,h⟩:=cS h;refine gQ (Am D.s h18)<|gQ (Ak D.s ((([]:List (List UInt8))++(sub fC 0 o3))++[f9]) (sub fC o3 (fC.length:Int))) ?_;exact lf h
theorem aDw(rd:Option Nat)(h:Tl eZ fC dA dB dD dX dK f9 eJ=some fA):Lq 19 rd 244468029 ⟨sp 75 0 [sD 1 (D.l X6.D) eZ,bx 2,sD 5 (D.l D.s) fC,sI 6 dA,sI 7 dB,sI 8 dD,rx 10,bx 11,sD 65 D.b dX],[cL 2 AA.D dK,(10,.row 5 1 (f9.map AY)),cL 11 X3.D eJ],[]⟩ (.normal,⟨sp 75 0 [sD 1 (D.l X6.D) eZ,bx 2,sD 5 (D.l D.s) fC,sI 6 dA,sI 7 dB,sI 8 dD,rx 10],[cL 2 AA.D dK,(10,.row 5 1 (fA.map AY))],[]⟩):=by unfold Tl at h;apply g0 (o:=fA);cases dX;replace h:=B1 h;exact lp h;replace h:=B2 h;obtain⟨r15,h24,h⟩:=bS h;refine gC 68 (aWt h24)<|gG 69 (.sl ((f9++r15).map AY)) (Ad AY r15) ?_;obtain⟨h25,h⟩:=cS h;refine gQ (Am AY h25)<|gQ (Ak AY f9 r15) ?_;exact lP h [.live [1,2,5,6,7,8,10],.keep [2,69],.ren 69 10,.sort]
theorem aDv(rd:Option Nat)(h:Tk eZ fC dA dB dD dK=some fE):Lq 19 rd 1909906 ⟨sp 75 0 [sD 1 (D.l X6.D) eZ,bx 2,sD 5 (D.l D.s) fC,sI 6 dA,sI 7 dB,sI 8 dD],[cL 2 AA.D dK],[]⟩ (.normal,⟨sp 75 0 [sD 1 (D.l X6.D) eZ,bx 2,sD 5 (D.l D.s) fE,sI 6 dA,sI 7 dB,sI 8 dD],[cL 2 AA.D dK],[]⟩):=by unfold Tk at h;apply g0 (o:=fE);refine xX 40 X2.D h fun x11 h=>?_;refine xX 44 AX.D h fun x12 h=>?_;refine iB 48 h (fun h=>?_) fun h=>?_;exact lp h;refine gG 50 (.int (u8w dB).toNat) (Eq dB)<|gG 52 (.int (u8w dD).toNat) (Eq dD)<|gQ (Ad AY [u8w dB,u8w dD])<|xX 57 X6.D h fun x13 h=>?_;obtain⟨r14,h22,h⟩:=bS h;refine gC 62 (Rv h22) ?_;obtain⟨o16,h26,h⟩:=bS h;refine gL [.live [1,2,5,6,7,8,10,11,65],.keep [2,11,53],.ren 53 10,.sort] (aDw rd h26)<|gG 72 (.str o16) (rfl:o16.map AY=o16.map AY) ?_;obtain⟨r17,h27,h⟩:=bS h;refine gC 73 (aYq h27) ?_;exact lp h
def To(s1:List X6)(s6 s7:Int)(w2:AA)(s5:List (List UInt8))(s8:Int):St:=⟨sp 75 0 [sD 1 (D.l X6.D) s1,bx 2,sD 5 (D.l D.s) s5,sI 6 s6,sI 7 s7,sI 8 s8],[cL 2 AA.D w2],[]⟩
def Tp(s1:List X6)(s6 s7:Int)(w2:AA)(o:(List (List UInt8))):Ex×St:=(.exit 4,⟨sp 75 0 [sD 1 (D.l X6.D) s1,bx 2,sD 5 (D.l D.s) o,sI 6 s6,sI 7 s7],[cL 2 AA.D w2],[]⟩)
theorem aDy(rd:Option Nat)(h:Rb eZ dA dB dK fC dD=some fE):Lq 19 rd 238738 (To eZ dA dB dK fC dD) ((Tp eZ dA dB dK) fE):=
 lL (fun s:List (List UInt8)×Int=>To eZ dA dB dK s.1 s.2) (Tp eZ dA dB dK) (fC,dD) (fun⟨fC,dD⟩ o h=>by
 unfold GO at h
 refine xX 30 X2.D h fun x20 h=>?_
 refine gN 33 AX.D x20.args ?_
 refine iB 34 h (fun h=>?_) fun h=>?_
 obtain⟨o21,h33,h⟩:=bS h
 refine gl (aDv rd h33) ?_
 exact lb h
 exact lb h) h
def Tq(s1:List X6)(s6:Int)(w2:AA)(s5:List (List UInt8))(s7:Int):St:=⟨sp 75 0 [sD 1 (D.l X6.D) s1,bx 2,sD 5 (D.l D.s) s5,sI 6 s6,sI 7 s7],[cL 2 AA.D w2],[]⟩
def Tr(s1:List X6)(s6:Int)(w2:AA)(o:(List (List UInt8))):Ex×St:=(.exit 2,⟨sp 75 0 [sD 1 (D.l X6.D) s1,bx 2,sD 5 (D.l D.s) o,sI 6 s6],[cL 2 AA.D w2],[]⟩)
theorem aDz(rd:Option Nat)(h:Rd eZ dA dK fC dB=some fE):Lq 19 rd 3730 (Tq eZ dA dK fC dB) ((Tr eZ dA dK) fE):=
 lL (fun s:List (List UInt8)×Int=>Tq eZ dA dK s.1 s.2) (Tr eZ dA dK) (fC,dB) (fun⟨fC,dB⟩ o h=>by
 unfold GP at h
 refine gN 22 X2.D dK.symbols ?_
 refine iB 23 h (fun h=>?_) fun h=>?_
 obtain⟨o24,h38,h⟩:=bS h
 refine gl (aDy rd h38) ?_
 exact lb h
 exact lb h) h
def Tm(s1:List X6)(w2:AA)(s5:List (List UInt8))(s6:Int):St:=⟨sp 75 0 [sD 1 (D.l X6.D) s1,bx 2,sD 5 (D.l D.s) s5,sI 6 s6],[cL 2 AA.D w2],[]⟩
def Tn(s1:List X6)(w2:AA)(o:(List (List UInt8))):Ex×St:=(.exit 0,⟨sp 75 0 [sD 5 (D.l D.s) o],[],[]⟩)
theorem aDx(rd:Option Nat)(h:Ra eZ dK fC dA=some fE):Lq 19 rd 58 (Tm eZ dK fC dA) ((Tn eZ dK) fE):=
 lL (fun s:List (List UInt8)×Int=>Tm eZ dK s.1 s.2) (Tn eZ dK) (fC,dA) (fun⟨fC,dA⟩ o h=>by
 unfold GN at h
 refine gN 15 X6.D eZ ?_
 refine iB 16 h (fun h=>?_) fun h=>?_
 obtain⟨o25,h39,h⟩:=bS h
 refine gl (aDz rd h39) ?_
 exact lb h
 exact lb h) h
theorem aWi(h:Xe dK eZ=some fC):AM Tryz.prog 19 [.d (AA.D dK),.d ((D.l X6.D) eZ)] [] (.d ((D.l D.s) fC)) []:=by unfold Xe at h;apply g0 (o:=fC);obtain⟨o26,h40,h⟩:=bS h;refine gL [.look 5,.live [1,2,5,6],.keep [2]] (aDx none h40) ?_;exact lf h
theorem aEz(rd:Option Nat)(h:UU fG eE dA eZ dX eA dK fH dL dM=some fI):Lq 3 rd 260685 ⟨sp 139 0 [sD 1 (D.l Xg.D) fG,bx 3,bx 7,sD 9 (D.l Ae.D) eE,sI 10 dA,sD 11 (D.l X6.D) eZ,sD 12 D.b dX,sD 62 D.b eA],[cL 3 AA.D dK,(7,.cells ((AW (AA.D fH))++[.row 950,.row 957])),(950,.map dL.clk (MP.dl dZ (D.l X0.D) dL)),(957,.mapR 996 dM.clk (ksR D.s dM) []),(996,.rows 3 (xsR dZ dM []))],[]⟩ (.normal,⟨sp 139 0 [sD 1 (D.l Xg.D) fG,bx 3,bx 7,sD 9 (D.l Ae.D) eE,sI 10 dA,sD 11 (D.l X6.D) eZ,sD 12 D.b dX,sD 13 D.b fI.1],[cL 3 AA.D dK,(7,.cells ((AW (AA.D fI.2.1))++[.row 574,.row 981])),(574,.map fI.2.2.1.clk (MP.dl dZ (D.l X0.D) fI.2.2.1)),(981,.mapR 994 fI.2.2.2.clk (ksR D.s fI.2.2.2) []),(994,.rows 3 (xsR dZ fI.2.2.2 []))],[]⟩):=by unfold UU at h;apply g0 (o:=fI);cases eA;replace h:=B1 h;refine xX 78 Xg.D h fun x16 h=>?_;obtain⟨r17,h20,h⟩:=bS h;refine gG 81 (.cx false [(0,7),(1,950),(802,957),(996,996)] [(803,81),(804,488),(995,994)] (.d (D.b r17.1)) [(0,.cells ((AW (AA.D r17.2.1))++[.row 803,.row 804])),(803,.map r17.2.2.1.clk (MP.dl dZ (D.l X0.D) r17.2.2.1)),(804,.mapR 995 r17.2.2.2.clk (ksR D.s r17.2.2.2) []),(995,.rows 3 (xsR dZ r17.2.2.2 []))]) (aVp h20) ?_;exact lP h [.live [1,3,7,9,10,11,12,13],.keep [3,7,81,488,994],.ren 81 574,.ren 488 981,.sort];replace h:=B2 h;refine xX 66 Xg.D h fun x13 h=>?_;refine xX 71 Xg.D h fun x14 h=>?_;obtain⟨r15,h18,h⟩:=bS h;refine gG 74 (.cx false [(0,7),(1,950),(2,957),(996,996)] [(3,74),(4,481),(995,994)] (.d (D.b r15.1)) [(0,.cells ((AW (AA.D r15.2.1))++[.row 3,.row 4])),(3,.map r15.2.2.1.clk (MP.dl dZ (D.l X0.D) r15.2.2.1)),(4,.mapR 995 r15.2.2.2.clk (ksR D.s r15.2.2.2) []),(995,.rows 3 (xsR dZ r15.2.2.2 []))]) (aHv h18) ?_;exact lP h [.live [1,3,7,9,10,11,12,13],.keep [3,7,74,481,994],.ren 74 574,.ren 481 981,.sort]
theorem aE0(rd:Option Nat)(h:UV fG eZ eE dA dK fH dL dM=some fJ):Lq 3 rd 8146 ⟨sp 139 0 [sD 1 (D.l Xg.D) fG,bx 3,bx 7,sD 8 (D.l X6.D) eZ,sD 9 (D.l Ae.D) eE,sI 10 dA],[cL 3 AA.D dK,(7,.cells ((AW (AA.D fH))++[.row 950,.row 957])),(950,.map dL.clk (MP.dl dZ (D.l X0.D) dL)),(957,.mapR 996 dM.clk (ksR D.s dM) []),(996,.rows 3 (xsR dZ dM []))],[]⟩ (match (generalizing:=false) fJ with
 | .inl fJ=>(.normal,⟨sp 139 0 [sD 1 (D.l Xg.D) fG,bx 3,bx 7,sD 8 (D.l X6.D) fJ.1,sD 9 (D.l Ae.D) eE,sI 10 dA],[cL 3 AA.D dK,(7,.cells ((AW (AA.D fJ.2.1))++[.row 606,.row 513])),(513,.mapR 991 fJ.2.2.1.clk (ksR D.s fJ.2.2.1) []),(606,.map fJ.2.2.2.clk (MP.dl dZ (D.l X0.D) fJ.2.2.2)),(991,.rows 3 (xsR dZ fJ.2.2.1 []))],[]⟩)
 | .inr fJ=>(.ret,⟨sp 139 0 [sD 6 D.b false],[],[]⟩)):=by
 unfold UV at h
 apply g0 (o:=fJ)
 refine xX 52 Xg.D h fun x29 h=>?_
 obtain⟨r30,h36,h⟩:=bS h
 refine gC 54 (aXx h36)<|xX 59 Xg.D h fun x31 h=>?_
 obtain⟨o32,h38,h⟩:=bS h
 refine gl (aEz rd h38) ?_
 refine iB 86 h (fun h=>?_) fun h=>?_
 exact lp h
 refine gW 90 (.int (r30.1.length:Int)) ?_
 obtain⟨r33,h40,h⟩:=bS h
 refine gG 88 (.cx false [(0,7),(1,574),(2,981),(996,994)] [(3,88),(4,495),(995,993)] (dI r33.1) [(0,.cells ((AW (AA.D r33.2.1))++[.row 3,.row 4])),(3,.map r33.2.2.1.clk (MP.dl dZ (D.l X0.D) r33.2.2.1)),(4,.mapR 995 r33.2.2.2.clk (ksR D.s r33.2.2.2) []),(995,.rows 3 (xsR dZ r33.2.2.2 []))]) (aVq h40)<|gQ (CY X6.D r30.1) ?_
 refine iB 93 h (fun h=>?_) fun h=>?_
 exact lp h
 obtain⟨r34,h42,h⟩:=bS h
 refine gG 96 (.cx false [(0,7),(1,88),(2,495),(996,993)] [(3,96),(4,503),(995,992)] (.d ((D.l dZ) r34.1)) [(0,.cells ((AW (AA.D r34.2.1))++[.row 3,.row 4])),(3,.map r34.2.2.1.clk (MP.dl dZ (D.l X0.D) r34.2.2.1)),(4,.mapR 995 r34.2.2.2.clk (ksR D.s r34.2.2.2) []),(995,.rows 3 (xsR dZ r34.2.2.2 []))]) (aSe h42) ?_
 obtain⟨r35,h43,h⟩:=bS h
 refine gC 99 (aQ3 h43) ?_
 obtain⟨r36,h44,h⟩:=bS h
 refine gC 100 (aR0 h44) ?_
 refine iB 103 h (fun h=>?_) fun h=>?_
 exact lp h
 obtain⟨r37,h46,h⟩:=bS h
 refine gG 106 (.cx false [(0,7),(1,96),(2,503),(996,992)] [(3,106),(4,513),(995,991)] (.d ((D.l dZ) r37.1)) [(0,.cells ((AW (AA.D r37.2.1))++[.row 3,.row 4])),(3,.map r37.2.2.1.clk (MP.dl dZ (D.l X0.D) r37.2.2.1)),(4,.mapR 995 r37.2.2.2.clk (ksR D.s r37.2.2.2) []),(995,.rows 3 (xsR dZ r37.2.2.2 []))]) (aV5 h46) ?_
 obtain⟨r38,h47,h⟩:=bS h
 refine gC 109 (aQ3 h47) ?_
 obtain⟨r39,h48,h⟩:=bS h
 refine gC 110 (aR0 h48) ?_
 refine iB 112 h (fun h=>?_) fun h=>?_
 exact lp h
 exact lP h [.live [1,3,7,8,9,10],.keep [3,7,106,513,991],.ren 106 606,.sort]
def UW(s1:List Xg)(s9:List Ae)(w3:AA)(s8:List X6)(s10:Int)(w7:AA)(w950:MP Int (List X0))(w957:MP (List UInt8) (List Int)):St:=⟨sp 139 0 [sD 1 (D.l Xg.D) s1,bx 3,bx 7,sD 8 (D.l X6.D) s8,sD 9 (D.l Ae.D) s9,sI 10 s10],[cL 3 AA.D w3,(7,.cells ((AW (AA.D w7))++[.row 950,.row 957])),(950,.map w950.clk (MP.dl dZ (D.l X0.D) w950)),(957,.mapR 996 w957.clk (ksR D.s w957) []),(996,.rows 3 (xsR dZ w957 []))],[]⟩
def UX(s1:List Xg)(s9:List Ae)(w3:AA)(o:(List X6×AA×MP Int (List X0)×MP (List UInt8) (List Int))⊕Unit):Ex×St:=match o with
 | .inl o=>(.exit 0,⟨sp 139 0 [bx 3,bx 7,sD 8 (D.l X6.D) o.1],[cL 3 AA.D w3,(7,.cells ((AW (AA.D o.2.1))++[.row 950,.row 957])),(950,.map o.2.2.1.clk (MP.dl dZ (D.l X0.D) o.2.2.1)),(957,.mapR 996 o.2.2.2.clk (ksR D.s o.2.2.2) []),(996,.rows 3 (xsR dZ o.2.2.2 []))],[]⟩)
 | .inr o=>(.ret,⟨sp 139 0 [sD 6 D.b false],[],[]⟩)
theorem aE1(rd:Option Nat)(h:Rk fG eE dK eZ dA fH dL dM=some fK):Lq 3 rd 1018 (UW fG eE dK eZ dA fH dL dM) ((UX fG eE dK) fK):=
 lL (fun s:List X6×Int×AA×MP Int (List X0)×MP (List UInt8) (List Int)=>UW fG eE dK s.1 s.2.1 s.2.2.1 s.2.2.2.1 s.2.2.2.2) (UX fG eE dK) (eZ,dA,fH,dL,dM) (fun⟨eZ,dA,fH,dL,dM⟩ o h=>by
 unfold Ga at h
 refine gN 44 Xg.D fG ?_
 refine iB 45 h (fun h=>?_) fun h=>?_
 obtain⟨o40,h50,h⟩:=bS h
 refine gl (aE0 rd h50) ?_
 replace h:=AH h
 rcases h with⟨o41,rfl,h⟩|⟨o42,rfl,h⟩
 exact lB h [.live [1,3,7,8,9,10],.keep [3,7,513,606,991],.ren 513 957,.ren 606 950,.ren 991 996,.sort]
 exact lb h
 exact lb h) h
def UY(s14 s15:List (List UInt8))(s16:Int):St:=⟨sp 139 0 [sD 14 (D.l D.s) s14,sD 15 (D.l D.s) s15,sI 16 s16],[],[]⟩
def UZ(s14 s15:List (List UInt8))(o:Unit⊕Unit):Ex×St:=match o with
 | .inl o=>(.exit 2,⟨sp 139 0 [],[],[]⟩)
 | .inr o=>(.ret,⟨sp 139 0 [sD 6 D.b false],[],[]⟩)
theorem aE3(rd:Option Nat)(h:aE2 fC fD dA=some eI):Lq 3 rd 16378 (UY fC fD dA) ((UZ fC fD) eI):=
 lL (fun s:Int=>UY fC fD s) (UZ fC fD) dA (fun dA o h=>by
 unfold Jk at h
 refine gN 125 D.s fC ?_
 refine iB 126 h (fun h=>?_) fun h=>?_
 refine xX 131 D.s h fun x48 h=>?_
 refine xX 135 D.s h fun x49 h=>?_
 refine iB 137 h (fun h=>?_) fun h=>?_
 exact lb h
 exact lb h
 exact lb h) h
theorem aWx(h:Xq dK fG eH=some dX):AM Tryz.prog 3 [.d (AA.D dK),.d ((D.l Xg.D) fG),.d (Xm.D eH)] [] (.d (D.b dX)) []:=by
 unfold Xq at h;apply g0 (o:=dX);obtain⟨r1,h1,h⟩:=bS h;refine gC 19 (aXy h1) ?_;refine iB 21 h (fun h=>?_) fun h=>?_;obtain⟨r2,h3,h⟩:=bS h;refine gC 34 (aCz h3) ?_;exact lf h;obtain⟨r3,h4,h⟩:=bS h;refine gC 25 (aYw h4) ?_;refine iB 28 h (fun h=>?_) fun h=>?_;obtain⟨r4,h6,h⟩:=bS h;refine gC 34 (aCz h6) ?_;exact lf h;refine gN 31 X3.D eH.args ?_;refine iB 33 h (fun h=>?_) fun h=>?_;obtain⟨r5,h8,h⟩:=bS h;refine gC 34 (aCz h8) ?_;exact lf h;obtain⟨o6,h9,h⟩:=bS h;replace h:=AH h;rcases h with⟨o7,rfl,h⟩|⟨o8,rfl,h⟩
 refine gG 36 (.cx false [] [] (.d (.v (.pointer none))) []) (aP3 (bAc h9)) ?_;exact lf h;refine gG 36 (.cx false [] [(0,443),(1,450),(2,457),(995,996)] (.box 0 0) [(0,.cells ((AW (AA.D o8.1))++[.row 1,.row 2])),(1,.map o8.2.1.clk (MP.dl dZ (D.l X0.D) o8.2.1)),(2,.mapR 995 o8.2.2.clk (ksR D.s o8.2.2) []),(995,.rows 3 (xsR dZ o8.2.2 []))]) (aP4 (bAd h9)) ?_;obtain⟨r9,h10,h⟩:=bS h;refine gC 41 (aYl h10) ?_;obtain⟨o43,h51,h⟩:=bS h;refine gL [.look 8,.live [1,3,7,8,9,10],.keep [3,443,450,457,996],.ren 443 7,.ren 450 950,.ren 457 957,.sort] (aE1 none h51) ?_;replace h:=AH h;rcases h with⟨o44,rfl,h⟩|⟨o45,rfl,h⟩
 refine gG 113 (.mf 957 996 (MP.dl D.s (D.l dZ) o44.2.2.2)) (aS2 D.s dZ o44.2.2.2 957 996 3) ?_;obtain⟨r46,h52,h⟩:=bS h;refine gG 114 (.cx false [(0,7),(1,950),(2,957)] [(3,114),(4,521)] (.d ((D.l D.s) r46.1)) [(0,.cells ((AW (AA.D r46.2.1))++[.row 3,.row 4])),(3,.map r46.2.2.1.clk (MP.dl dZ (D.l X0.D) r46.2.2.1)),(4,.map r46.2.2.2.clk (MP.dl D.s (D.l dZ) r46.2.2.2))]) (aXj h52)<|gW 119 (.int (r46.1.length:Int)) ?_;obtain⟨r47,h53,h⟩:=bS h;refine gC 117 (aWi h53)<|gQ (CY D.s r46.1)<|gN 121 D.s r47 ?_;refine iB 122 h (fun h=>?_) fun h=>?_;exact lf h;obtain⟨o50,h59,h⟩:=bS h;refine gl (aE3 none h59) ?_;replace h:=AH h;rcases h with⟨o51,rfl,h⟩|⟨o52,rfl,h⟩
 obtain⟨r53,h60,h⟩:=bS h;refine gC 138 (aCz h60) ?_;exact lf h;exact lf h;exact lf h
end Go.Ac
