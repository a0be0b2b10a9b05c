/- Own work, printed: the functions compute these. -/
import Derived.Test.YtnjgfcpccmiglaaGreatDoorWa25nx1
set_option linter.unusedVariables false
set_option linter.unusedSimpArgs false
namespace Go.Ac
open Go.Proofs
variable {d8:AA}
variable {d9 dB dK:Int}
variable {dA:Int×Int×Int}
variable {dC:Int×Int}
variable {dD dN:X3}
variable {dE:Unit⊕Unit}
variable {dF dS:Bool}
variable {dG:X5}
variable {dH:Int⊕Unit}
variable {dJ:Ar}
variable {dL:Int×Bool}
variable {dM:AT}
variable {dO:List Bool}
variable {dP:List Int}
variable {dQ:(List Int)}
variable {dR:(List Bool×List Int)}
variable {dV:List X0}
variable {dX:List A8}
variable {dY:List (List UInt8)}
theorem WX(self:AA->Int->Option (Int×Int×Int))(hs:∀(a0:AA) (a1:Int) (r:Int×Int×Int),self a0 a1=some r->AL Tryz.prog 125 [.d (AA.D a0),dI a1] [] (.tup [dI r.1,dI r.2.1,dI r.2.2]) [])(a0:AA)(a1:Int)(r:Int×Int×Int)(h:Jx self a0 a1=some r):AL Tryz.prog 125 [.d (AA.D a0),dI a1] [] (.tup [dI r.1,dI r.2.1,dI r.2.2]) []:=by unfold Jx at h;apply g0 (o:=r);refine iB 17 h (fun h=>?_) fun h=>?_;exact lf h;refine gN 21 X8.D a0.nodes ?_;refine iB 23 h (fun h=>?_) fun h=>?_;exact lf h;refine xX 27 X8.D h fun x1 h=>?_;refine iB 32 h (fun h=>?_) fun h=>?_;refine iB 36 h (fun h=>?_) fun h=>?_;exact lf h;refine iB 41 h (fun h=>?_) fun h=>?_;exact lf h;obtain⟨r2,h7,h⟩:=bS h;refine gC 44 (Wo h7) ?_;refine iB 46 h (fun h=>?_) fun h=>?_;exact lf h;exact lf h;refine iB 54 h (fun h=>?_) fun h=>?_;exact lf h;refine iB 57 h (fun h=>?_) fun h=>?_;refine iB 61 h (fun h=>?_) fun h=>?_;exact lf h;refine gN 66 Xc.D a0.quants ?_;refine iB 69 h (fun h=>?_) fun h=>?_;exact lf h;refine iB 73 h (fun h=>?_) fun h=>?_;exact lf h;refine xX 78 Xc.D h fun x3 h=>?_;exact lf h;refine iB 84 h (fun h=>?_) fun h=>?_;refine iB 88 h (fun h=>?_) fun h=>?_;exact lf h;refine gN 93 Xf.D a0.frees ?_;refine iB 96 h (fun h=>?_) fun h=>?_;exact lf h;refine iB 100 h (fun h=>?_) fun h=>?_;exact lf h;refine xX 105 Xf.D h fun x4 h=>?_;exact lf h;refine iB 113 h (fun h=>?_) fun h=>?_;exact lf h;refine iB 117 h (fun h=>?_) fun h=>?_;exact lf h;obtain⟨r5,h22,h⟩:=bS h;refine gG 122 (.ret (.tup [dI r5.1,dI r5.2.1,dI r5.2.2])) (hs a0 (AB .sub .i64 a1 1) r5 h22) ?_;refine iB 128 h (fun h=>?_) fun h=>?_;refine iB 131 h (fun h=>?_) fun h=>?_;exact lf h;refine iB 138 h (fun h=>?_) fun h=>?_;exact lf h;refine iB 142 h (fun h=>?_) fun h=>?_;exact lf h;obtain⟨r6,h27,h⟩:=bS h;refine gC 147 (aAx h27) ?_;exact lf h;refine iB 153 h (fun h=>?_) fun h=>?_;exact lf h;refine iB 160 h (fun h=>?_) fun h=>?_;exact lf h;refine iB 166 h (fun h=>?_) fun h=>?_;exact lf h;obtain⟨r7,h31,h⟩:=bS h;refine gG 171 (.ret (.tup [dI r7.1,dI r7.2.1,dI r7.2.2])) (hs a0 (AB .sub .i64 r5.2.2 1) r7 h31)<|gW 182 (.int (Ea r5.2.1 r7.2.1)) ?_;obtain⟨r8,h32,h⟩:=bS h;refine gC 179 (aAx h32)<|gQ (rfl:Ea r5.2.1 r7.2.1=Ea r5.2.1 r7.2.1) ?_;exact lf h
theorem PP:∀(n:Nat) (a0:AA) (a1:Int) (r:Int×Int×Int),GA n a0 a1=some r->AL Tryz.prog 125 [.d (AA.D a0),dI a1] [] (.tup [dI r.1,dI r.2.1,dI r.2.2]) []
 |0,a0,a1,r,h=>by simp[GA]at h
 |n+1,a0,a1,r,h=>WX _ (PP n) a0 a1 r h
theorem aEk(h:Y0 d8 d9=some dA):AL Tryz.prog 125 [.d (AA.D d8),dI d9] [] (.tup [dI dA.1,dI dA.2.1,dI dA.2.2]) []:=PP 100000 d8 d9 dA h
theorem YM(h:Q3 d8 d9 dB=some dC):AL Tryz.prog 67 [.d (AA.D d8),dI d9,dI dB] [] (.tup [dI dC.1,dI dC.2]) []:=by unfold Q3 at h;apply g0 (o:=dC);obtain⟨r1,h1,h⟩:=bS h;refine gC 14 (aEk h1) ?_;refine iB 20 h (fun h=>?_) fun h=>?_;exact lf h;refine iB 24 h (fun h=>?_) fun h=>?_;exact lf h;exact lf h
def QD(s1:Int)(w2:X3)(s5:Int):St:=⟨sp 30 0 [sI 1 s1,bx 2,sI 5 s5],[cL 2 X3.D w2],[]⟩
def QE(s1:Int)(w2:X3)(o:Unit⊕Unit):Ex×St:=match o with
 | .inl o=>(.exit 0,⟨sp 30 0 [],[],[]⟩)
 | .inr o=>(.ret,⟨sp 30 0 [sD 4 D.b true],[],[]⟩)
theorem Uf(rd:Option Nat)(h:We d9 dD dB=some dE):Lq 71 rd 26 (QD d9 dD dB) ((QE d9 dD) dE):=
 lL (fun s:Int=>QD d9 dD s) (QE d9 dD) dB (fun dB o h=>by
 unfold HV at h
 refine gN 9 AT.D dD.args ?_
 refine iB 10 h (fun h=>?_) fun h=>?_
 refine xX 16 AT.D h fun x1 h=>?_
 refine iB 20 h (fun h=>?_) fun h=>?_
 refine xX 24 AT.D h fun x2 h=>?_
 refine iB 29 h (fun h=>?_) fun h=>?_
 exact lb h
 exact lb h
 exact lb h
 exact lb h) h
theorem aAn(h:Yl dD d9=some dF):AL Tryz.prog 71 [.d (X3.D dD),dI d9] [] (.d (D.b dF)) []:=by
 unfold Yl at h;apply g0 (o:=dF);obtain⟨o3,h6,h⟩:=bS h;refine gl (Uf none h6) ?_;replace h:=AG h;rcases h with⟨o4,rfl,h⟩|⟨o5,rfl,h⟩
 exact lf h;exact lf h
def QJ(s3:Int)(w4:AA)(w5:X3)(s9:Int):St:=⟨sp 34 0 [sI 3 s3,bx 4,bx 5,sI 9 s9],[cL 4 AA.D w4,cL 5 X3.D w5],[]⟩
def QK(s3:Int)(w4:AA)(w5:X3)(o:Unit⊕Unit):Ex×St:=match o with
 | .inl o=>(.exit 0,⟨sp 34 0 [],[],[]⟩)
 | .inr o=>(.ret,⟨sp 34 0 [sD 8 D.b false],[],[]⟩)
theorem Ui(rd:Option Nat)(h:Wi d9 d8 dD dB=some dE):Lq 68 rd 26 (QJ d9 d8 dD dB) ((QK d9 d8 dD) dE):=
 lL (fun s:Int=>QJ d9 d8 dD s) (QK d9 d8 dD) dB (fun dB o h=>by
 unfold HX at h
 refine iB 13 h (fun h=>?_) fun h=>?_
 refine xX 19 X8.D h fun x1 h=>?_
 refine iB 23 h (fun h=>?_) fun h=>?_
 refine xX 28 X8.D h fun x2 h=>?_
 obtain⟨r3,h5,h⟩:=bS h
 refine gC 31 (aAn h5) ?_
 refine iB 33 h (fun h=>?_) fun h=>?_
 exact lb h
 exact lb h
 exact lb h
 exact lb h) h
theorem aFe(h:Yo d8 dD d9 dB=some dF):AL Tryz.prog 68 [.d (AA.D d8),.d (X3.D dD),dI d9,dI dB] [] (.d (D.b dF)) []:=by
 unfold Yo at h;apply g0 (o:=dF);obtain⟨o4,h7,h⟩:=bS h;refine gl (Ui none h7) ?_;replace h:=AG h;rcases h with⟨o5,rfl,h⟩|⟨o6,rfl,h⟩
 exact lf h;exact lf h
theorem Ts(rd:Option Nat)(h:Ol d9 dB dF d8 dG=some dH):Lq 44 rd 61 ⟨sp 153 0 [sI 2 d9,bx 3,bx 4,sI 8 dB,sD 56 D.b dF],[cL 3 AA.D d8,cL 4 X5.D dG],[]⟩ (match (generalizing:=false) dH with
 | .inl dH=>(.normal,⟨sp 153 0 [sI 2 d9,bx 3,bx 4,sI 8 dH],[cL 3 AA.D d8,cL 4 X5.D dG],[]⟩)
 | .inr dH=>(.ret,⟨sp 153 0 [sI 6 0,sD 7 D.b false],[],[]⟩)):=by
 unfold Ol at h
 apply g0 (o:=dH)
 cases dF
 replace h:=B2 h
 exact lp h
 replace h:=B3 h
 obtain⟨r1,h8,h⟩:=bS h
 refine gC 62 (YM h8) ?_
 refine iB 67 h (fun h=>?_) fun h=>?_
 exact lp h
 refine iB 70 h (fun h=>?_) fun h=>?_
 exact lp h
 exact lp h
def Oq(s2 s11:Int)(w3:AA)(w4:X5)(w12:Ar)(s15:Int):St:=⟨sp 153 0 [sI 2 s2,bx 3,bx 4,sI 11 s11,bx 12,sI 15 s15],[cL 3 AA.D w3,cL 4 X5.D w4,cL 12 Ar.D w12],[]⟩
def Ot(s2 s11:Int)(w3:AA)(w4:X5)(w12:Ar)(o:Unit⊕Unit):Ex×St:=match o with
 | .inl o=>(.exit 2,⟨sp 153 0 [sI 2 s2,bx 3,bx 4,sI 11 s11,bx 12],[cL 3 AA.D w3,cL 4 X5.D w4,cL 12 Ar.D w12],[]⟩)
 | .inr o=>(.ret,⟨sp 153 0 [sI 6 0,sD 7 D.b false],[],[]⟩)
theorem Tv(rd:Option Nat)(h:Tu d9 dB d8 dG dJ dK=some dE):Lq 44 rd 256314 (Oq d9 dB d8 dG dJ dK) ((Ot d9 dB d8 dG dJ) dE):=
 lL (fun s:Int=>Oq d9 dB d8 dG dJ s) (Ot d9 dB d8 dG dJ) dK (fun dK o h=>by
 unfold HN at h
 refine iB 127 h (fun h=>?_) fun h=>?_
 refine xX 133 Ar.D h fun x8 h=>?_
 refine iB 138 h (fun h=>?_) fun h=>?_
 exact lb h
 exact lb h
 exact lb h) h
def On(s2:Int)(w3:AA)(w4:X5)(s8 s11:Int):St:=⟨sp 153 0 [sI 2 s2,bx 3,bx 4,sI 8 s8,sI 11 s11],[cL 3 AA.D w3,cL 4 X5.D w4],[]⟩
def Oo(s2:Int)(w3:AA)(w4:X5)(o:Int⊕Unit):Ex×St:=match o with
 | .inl o=>(.exit 0,⟨sp 153 0 [sI 2 s2,bx 3,bx 4,sI 8 o],[cL 3 AA.D w3,cL 4 X5.D w4],[]⟩)
 | .inr o=>(.ret,⟨sp 153 0 [sI 6 0,sD 7 D.b false],[],[]⟩)
theorem Tt(rd:Option Nat)(h:Om d9 d8 dG dB dK=some dH):Lq 44 rd 250 (On d9 d8 dG dB dK) ((Oo d9 d8 dG) dH):=
 lL (fun s:Int×Int=>On d9 d8 dG s.1 s.2) (Oo d9 d8 dG) (dB,dK) (fun⟨dB,dK⟩ o h=>by
 unfold D5 at h
 refine gN 77 Ar.D dG.sets ?_
 refine iB 78 h (fun h=>?_) fun h=>?_
 refine xX 84 Ar.D h fun x5 h=>?_
 obtain⟨r6,h14,h⟩:=bS h
 refine gC 91 (YM h14) ?_
 refine iB 97 h (fun h=>?_) fun h=>?_
 exact lb h
 refine gN 102 Xf.D d8.frees ?_
 refine iB 105 h (fun h=>?_) fun h=>?_
 exact lb h
 refine iB 109 h (fun h=>?_) fun h=>?_
 exact lb h
 refine iB 113 h (fun h=>?_) fun h=>?_
 exact lb h
 refine xX 119 Xf.D h fun x7 h=>?_
 refine iB 124 h (fun h=>?_) fun h=>?_
 exact lb h
 obtain⟨o9,h24,h⟩:=bS h
 refine gl (Tv rd h24) ?_
 replace h:=AG h
 rcases h with⟨o10,rfl,h⟩|⟨o11,rfl,h⟩
 exact lb h
 exact lb h
 exact lb h) h
theorem aD5(h:Xn d8 dG d9=some dL):AL Tryz.prog 44 [.d (AA.D d8),.d (X5.D dG),dI d9] [] (.tup [dI dL.1,.d (D.b dL.2)]) []:=by
 unfold Xn at h;apply g0 (o:=dL);refine iB 19 h (fun h=>?_) fun h=>?_;exact lf h;refine gN 24 Xv.D d8.states ?_;refine iB 27 h (fun h=>?_) fun h=>?_;exact lf h;refine iB 32 h (fun h=>?_) fun h=>?_;exact lf h;refine gN 37 Xv.D d8.states ?_;refine iB 40 h (fun h=>?_) fun h=>?_;exact lf h;refine iB 45 h (fun h=>?_) fun h=>?_;exact lf h;refine gN 50 X3.D d8.symbols ?_;refine iB 52 h (fun h=>?_) fun h=>?_;exact lf h;obtain⟨o2,h11,h⟩:=bS h;refine gl (Ts none h11) ?_;replace h:=AG h;rcases h with⟨o3,rfl,h⟩|⟨o4,rfl,h⟩
 obtain⟨o12,h25,h⟩:=bS h;refine gl (Tt none h25) ?_;replace h:=AG h;rcases h with⟨o13,rfl,h⟩|⟨o14,rfl,h⟩
 refine xX 148 X3.D h fun x15 h=>?_;obtain⟨r16,h27,h⟩:=bS h;refine gC 152 (aFe h27) ?_;exact lf h;exact lf h;exact lf h
theorem aCz(h:Qb d8 dM d9=some dF):AL Tryz.prog 126 [.d (AA.D d8),.d (AT.D dM),dI d9] [] (.d (D.b dF)) []:=by unfold Qb at h;apply g0 (o:=dF);refine iB 11 h (fun h=>?_) fun h=>?_;refine iB 15 h (fun h=>?_) fun h=>?_;obtain⟨r1,h3,h⟩:=bS h;refine gQ (Wo h3) ?_;cases r1;replace h:=B2 h;refine gW 18 (.ret (.d (D.b false))) ?_;exact lf h;replace h:=B3 h;refine gW 18 (.ret (.d (D.b true))) ?_;exact lf h;exact lf h;refine iB 30 h (fun h=>?_) fun h=>?_;exact lf h;refine iB 33 h (fun h=>?_) fun h=>?_;refine iB 37 h (fun h=>?_) fun h=>?_;refine gN 42 Xc.D d8.quants ?_;refine iB 45 h (fun h=>?_) fun h=>?_;refine xX 50 Xc.D h fun x2 h=>?_;exact lf h;exact lf h;exact lf h;refine iB 58 h (fun h=>?_) fun h=>?_;refine iB 62 h (fun h=>?_) fun h=>?_;refine gN 67 Xf.D d8.frees ?_;refine iB 70 h (fun h=>?_) fun h=>?_;refine xX 75 Xf.D h fun x3 h=>?_;exact lf h;exact lf h;exact lf h;refine iB 85 h (fun h=>?_) fun h=>?_;exact lf h;exact lf h
def QL(w2:AA)(w3:X3)(s5:Int):St:=⟨sp 56 0 [bx 2,bx 3,sI 5 s5],[cL 2 AA.D w2,cL 3 X3.D w3],[]⟩
def QM(w2:AA)(w3:X3)(o:Unit⊕Unit):Ex×St:=match o with
 | .inl o=>(.exit 0,⟨sp 56 0 [],[],[]⟩)
 | .inr o=>(.ret,⟨sp 56 0 [sD 4 D.b false],[],[]⟩)
theorem Uj(rd:Option Nat)(h:Wj d8 dD d9=some dE):Lq 69 rd 58 (QL d8 dD d9) ((QM d8 dD) dE):=
 lL (fun s:Int=>QL d8 dD s) (QM d8 dD) d9 (fun d9 o h=>by
 unfold HY at h
 refine gN 34 AT.D dD.args ?_
 refine iB 35 h (fun h=>?_) fun h=>?_
 refine xX 42 AT.D h fun x2 h=>?_
 refine xX 48 X9.D h fun x3 h=>?_
 refine xX 52 dZ h fun x4 h=>?_
 obtain⟨r5,h9,h⟩:=bS h
 refine gC 54 (aCz h9) ?_
 refine iB 55 h (fun h=>?_) fun h=>?_
 exact lb h
 exact lb h
 exact lb h) h
theorem aFf(h:Yp d8 dD=some dF):AL Tryz.prog 69 [.d (AA.D d8),.d (X3.D dD)] [] (.d (D.b dF)) []:=by
 unfold Yp at h;apply g0 (o:=dF);refine iB 9 h (fun h=>?_) fun h=>?_;exact lf h;refine gN 14 X9.D d8.decls ?_;refine iB 17 h (fun h=>?_) fun h=>?_;exact lf h;refine gN 20 AT.D dD.args<|xX 25 X9.D h fun x1 h=>?_;refine gN 28 dZ x1.types ?_;refine iB 30 h (fun h=>?_) fun h=>?_;exact lf h;obtain⟨o6,h11,h⟩:=bS h;refine gl (Uj none h11) ?_;replace h:=AG h;rcases h with⟨o7,rfl,h⟩|⟨o8,rfl,h⟩
 exact lf h;exact lf h
def QN(w2 w3:X3)(s5:Int):St:=⟨sp 38 0 [bx 2,bx 3,sI 5 s5],[cL 2 X3.D w2,cL 3 X3.D w3],[]⟩
def QO(w2 w3:X3)(o:Unit⊕Unit):Ex×St:=match o with
 | .inl o=>(.exit 0,⟨sp 38 0 [],[],[]⟩)
 | .inr o=>(.ret,⟨sp 38 0 [sD 4 D.b false],[],[]⟩)
theorem Uk(rd:Option Nat)(h:Wl dD dN d9=some dE):Lq 70 rd 58 (QN dD dN d9) ((QO dD dN) dE):=
 lL (fun s:Int=>QN dD dN s) (QO dD dN) d9 (fun d9 o h=>by
 unfold HZ at h
 refine gN 23 AT.D dD.args ?_
 refine iB 24 h (fun h=>?_) fun h=>?_
 refine xX 30 AT.D h fun x1 h=>?_
 refine xX 35 AT.D h fun x2 h=>?_
 refine iB 37 h (fun h=>?_) fun h=>?_
 exact lb h
 exact lb h
 exact lb h) h
theorem aFg(h:Yq dD dN=some dF):AL Tryz.prog 70 [.d (X3.D dD),.d (X3.D dN)] [] (.d (D.b dF)) []:=by
 unfold Yq at h;apply g0 (o:=dF);refine iB 11 h (fun h=>?_) fun h=>?_;exact lf h;refine gN 14 AT.D dD.args<|gN 17 AT.D dN.args ?_;refine iB 19 h (fun h=>?_) fun h=>?_;exact lf h;obtain⟨o3,h7,h⟩:=bS h;refine gl (Uk none h7) ?_;replace h:=AG h;rcases h with⟨o4,rfl,h⟩|⟨o5,rfl,h⟩
 exact lf h;exact lf h
theorem Sp(rd:Option Nat)(h:So d9 dB dF d8 dO dP=some dQ):Lq 45 rd 15653 ⟨sp 118 0 [bx 1,rx 3,rx 4,sI 5 d9,sI 6 dB,sD 34 D.b dF],[cL 1 AA.D d8,(3,.buf true 4 1 (dO.map D.b)),(4,.row 3 1 (dP.map dZ))],[]⟩ (.normal,⟨sp 118 0 [bx 1,rx 3,rx 4,sI 5 d9,sI 6 dB],[cL 1 AA.D d8,(3,.buf true 4 1 (dO.map D.b)),(4,.row 3 1 (dQ.map dZ))],[]⟩):=by unfold So at h;apply g0 (o:=dQ);cases dF;replace h:=B2 h;exact lp h;replace h:=B3 h;refine gQ (Av dZ [dB])<|gG 38 (.sl ((dP++[dB]).map dZ)) (Av dZ [dB]) ?_;obtain⟨h17,h⟩:=cS h;refine gQ (BS dZ h17)<|gQ (BQ dZ dP [dB]) ?_;exact lP h [.live [1,3,4,5,6],.keep [1,3,38],.ren 38 4,.sort]
theorem Sn(rd:Option Nat)(h:Sm d9 d8 dO dP=some dR):Lq 45 rd 978 ⟨sp 118 0 [bx 1,rx 3,rx 4,sI 5 d9],[cL 1 AA.D d8,(3,.buf true 4 1 (dO.map D.b)),(4,.row 3 1 (dP.map dZ))],[]⟩ (.normal,⟨sp 118 0 [bx 1,rx 3,rx 4,sI 5 d9],[cL 1 AA.D d8,(3,.buf true 4 1 (dR.1.map D.b)),(4,.row 3 1 (dR.2.map dZ))],[]⟩):=by unfold Sm at h;apply g0 (o:=dR);refine xX 27 X5.D h fun x5 h=>?_;refine gW 10041 (.sl ((dO.set x5.symbol.toNat true).map D.b)) ?_;obtain⟨h14,h⟩:=cS h;refine gQ h14.1<|gQ (Db D.b h14.2) ?_;obtain⟨x6,h15,h⟩:=xS h;refine gG 33 (.el (D.b x6)) (Fi D.b h15) ?_;obtain⟨o7,h18,h⟩:=bS h;refine gl (Sp rd h18) ?_;obtain⟨h19,h⟩:=cS h;refine gQ h19.1<|gQ (Db D.b h19.2) ?_;obtain⟨h20,h⟩:=cS h;refine gQ (Rx D.b h20)<|gQ (F8 D.b dO x5.symbol true) ?_;exact lp h
def NZ(w1:AA)(s5:Int)(w3:List Bool)(w4:List Int):St:=⟨sp 118 0 [bx 1,rx 3,rx 4,sI 5 s5],[cL 1 AA.D w1,(3,.buf true 4 1 (w3.map D.b)),(4,.row 3 1 (w4.map dZ))],[]⟩
def Na(w1:AA)(o:(List Int)):Ex×St:=(.exit 0,⟨sp 118 0 [bx 1,rx 4],[cL 1 AA.D w1,(4,.row 3 1 (o.map dZ))],[]⟩)
theorem Sr(rd:Option Nat)(h:Sq d8 d9 dO dP=some dQ):Lq 45 rd 122 (NZ d8 d9 dO dP) ((Na d8) dQ):=
 lL (fun s:Int×List Bool×List Int=>NZ d8 s.1 s.2.1 s.2.2) (Na d8) (d9,dO,dP) (fun⟨d9,dO,dP⟩ o h=>by
 unfold Em at h
 refine gN 20 X5.D d8.trans ?_
 refine iB 21 h (fun h=>?_) fun h=>?_
 obtain⟨o8,h21,h⟩:=bS h
 refine gl (Sn rd h21) ?_
 exact lb h
 exact lb h) h
def Nb(w1:AA)(w4:List Int)(s7:Int):St:=⟨sp 118 0 [bx 1,rx 4,sI 7 s7],[cL 1 AA.D w1,(4,.row 3 1 (w4.map dZ))],[]⟩
def Nc(w1:AA)(w4:List Int)(o:Unit⊕Unit):Ex×St:=match o with
 | .inl o=>(.exit 2,⟨sp 118 0 [bx 1],[cL 1 AA.D w1],[]⟩)
 | .inr o=>(.ret,⟨sp 118 0 [sD 2 D.b false],[],[]⟩)
theorem Su(rd:Option Nat)(h:Ss d8 dP d9=some dE):Lq 45 rd 250 (Nb d8 dP d9) ((Nc d8 dP) dE):=
 lL (fun s:Int=>Nb d8 dP s) (Nc d8 dP) d9 (fun d9 o h=>by
 unfold HE at h
 refine gN 44 dZ dP ?_
 refine iB 45 h (fun h=>?_) fun h=>?_
 refine gW 54 (.int (d8.symbols.length:Int))<|gW 56 (.int (dP.length:Int))<|xX 50 dZ h fun x10 h=>?_
 refine gQ (DK X3.D d8.symbols)<|gQ (DK dZ dP) ?_
 refine iB 60 h (fun h=>?_) fun h=>?_
 exact lb h
 exact lb h
 exact lb h) h
def Ng(s8:Int)(w1:AA)(s9:Int):St:=⟨sp 118 0 [bx 1,sI 8 s8,sI 9 s9],[cL 1 AA.D w1],[]⟩
def Nh(s8:Int)(w1:AA)(o:Unit⊕Unit):Ex×St:=match o with
 | .inl o=>(.exit 6,⟨sp 118 0 [bx 1,sI 8 s8],[cL 1 AA.D w1],[]⟩)
 | .inr o=>(.ret,⟨sp 118 0 [sD 2 D.b false],[],[]⟩)
theorem Sy(rd:Option Nat)(h:Sx d9 d8 dB=some dE):Lq 45 rd 64806 (Ng d9 d8 dB) ((Nh d9 d8) dE):=
 lL (fun s:Int=>Ng d9 d8 s) (Nh d9 d8) dB (fun dB o h=>by
 unfold HG at h
 refine iB 78 h (fun h=>?_) fun h=>?_
 refine xX 84 X3.D h fun x16 h=>?_
 refine xX 89 X3.D h fun x17 h=>?_
 obtain⟨r18,h34,h⟩:=bS h
 refine gQ (aFg h34) ?_
 cases r18
 replace h:=B2 h
 refine gW 91 (.ret (.d (D.b false))) ?_
 exact lb h
 replace h:=B3 h
 refine gW 91 (.ret (.d (D.b true))) ?_
 exact lb h
 exact lb h) h
def Nd(w1:AA)(s8:Int):St:=⟨sp 118 0 [bx 1,sI 8 s8],[cL 1 AA.D w1],[]⟩
def Nf(w1:AA)(o:Unit⊕Unit):Ex×St:=match o with
 | .inl o=>(.exit 4,⟨sp 118 0 [bx 1],[cL 1 AA.D w1],[]⟩)
 | .inr o=>(.ret,⟨sp 118 0 [sD 2 D.b false],[],[]⟩)
theorem Sw(rd:Option Nat)(h:Sv d8 d9=some dE):Lq 45 rd 506 (Nd d8 d9) ((Nf d8) dE):=
 lL (fun s:Int=>Nd d8 s) (Nf d8) d9 (fun d9 o h=>by
 unfold HF at h
 refine gN 64 X3.D d8.symbols ?_
 refine iB 65 h (fun h=>?_) fun h=>?_
 refine xX 72 X3.D h fun x14 h=>?_
 obtain⟨r15,h29,h⟩:=bS h
 refine gC 74 (aFf h29) ?_
 refine iB 75 h (fun h=>?_) fun h=>?_
 exact lb h
 obtain⟨o19,h36,h⟩:=bS h
 refine gl (Sy rd h36) ?_
 replace h:=AG h
 rcases h with⟨o20,rfl,h⟩|⟨o21,rfl,h⟩
 exact lb h
 exact lb h
 exact lb h) h
def K7(s10:Int)(w1:AA)(s11:Bool)(s12:Int):St:=⟨sp 118 0 [bx 1,sI 10 s10,sD 11 D.b s11,sI 12 s12],[cL 1 AA.D w1],[]⟩
def K8(s10:Int)(w1:AA)(o:Bool):Ex×St:=(.exit 10,⟨sp 118 0 [bx 1,sI 10 s10,sD 11 D.b o],[cL 1 AA.D w1],[]⟩)
theorem NY(rd:Option Nat)(h:K6 d9 d8 dF dB=some dS):Lq 45 rd 260682 (K7 d9 d8 dF dB) ((K8 d9 d8) dS):=
 lL (fun s:Bool×Int=>K7 d9 d8 s.1 s.2) (K8 d9 d8) (dF,dB) (fun⟨dF,dB⟩ o h=>by
 unfold DS at h
 refine gN 102 X3.D d8.symbols ?_
 refine iB 103 h (fun h=>?_) fun h=>?_
 refine iB 107 h (fun h=>?_) fun h=>?_
 exact lb h
 refine xX 111 X3.D h fun x25 h=>?_
 obtain⟨r26,h42,h⟩:=bS h
 refine gC 114 (aAn h42) ?_
 exact lb h
 exact lb h) h
def Ni(w1:AA)(s10:Int):St:=⟨sp 118 0 [bx 1,sI 10 s10],[cL 1 AA.D w1],[]⟩
def Nj(w1:AA)(o:Unit⊕Unit):Ex×St:=match o with
 | .inl o=>(.exit 8,⟨sp 118 0 [],[],[]⟩)
 | .inr o=>(.ret,⟨sp 118 0 [sD 2 D.b false],[],[]⟩)
theorem S0(rd:Option Nat)(h:Sz d8 d9=some dE):Lq 45 rd 1018 (Ni d8 d9) ((Nj d8) dE):=
 lL (fun s:Int=>Ni d8 s) (Nj d8) d9 (fun d9 o h=>by
 unfold HH at h
 refine gN 95 Xc.D d8.quants ?_
 refine iB 96 h (fun h=>?_) fun h=>?_
 obtain⟨o27,h43,h⟩:=bS h
 refine gl (NY rd h43) ?_
 refine iB 117 h (fun h=>?_) fun h=>?_
 exact lb h
 exact lb h
 exact lb h) h
theorem aDl(h:X6 d8=some dF):AL Tryz.prog 45 [.d (AA.D d8)] [] (.d (D.b dF)) []:=by
 unfold X6 at h;apply g0 (o:=dF);refine gN 15 X3.D d8.symbols<|gW 16 (.sl ((List.replicate (d8.symbols.length:Int).toNat false).map D.b)) ?_;obtain⟨h1,h⟩:=cS h;refine gQ h1.1<|gQ (Int.le_refl (d8.symbols.length:Int))<|gQ (Int.le_refl (d8.symbols.length:Int))<|gQ (R6 D.b false h1.2)<|gQ (R5 D.b (d8.symbols.length:Int) false) ?_;obtain⟨o9,h22,h⟩:=bS h;refine gL [.live [1,3,4,5],.keep [1,16],.ren 16 3,.nil 4 4 3 1,.sort] (Sr none h22) ?_;obtain⟨o11,h26,h⟩:=bS h;refine gl (Su none h26) ?_;replace h:=AG h;rcases h with⟨o12,rfl,h⟩|⟨o13,rfl,h⟩
 obtain⟨o22,h37,h⟩:=bS h;refine gl (Sw none h37) ?_;replace h:=AG h;rcases h with⟨o23,rfl,h⟩|⟨o24,rfl,h⟩
 obtain⟨o28,h45,h⟩:=bS h;refine gl (S0 none h45) ?_;replace h:=AG h;rcases h with⟨o29,rfl,h⟩|⟨o30,rfl,h⟩
 exact lf h;exact lf h;exact lf h;exact lf h
def P7(w1:AA)(s5 s6:Int):St:=⟨sp 101 0 [bx 1,sI 5 s5,sI 6 s6],[cL 1 AA.D w1],[]⟩
def P8(w1:AA)(o:Int⊕Unit):Ex×St:=match o with
 | .inl o=>(.exit 0,⟨sp 101 0 [bx 1,sI 5 o],[cL 1 AA.D w1],[]⟩)
 | .inr o=>(.ret,⟨sp 101 0 [sD 2 D.b false],[],[]⟩)
theorem Uc(rd:Option Nat)(h:Mf d8 d9 dB=some dH):Lq 21 rd 250 (P7 d8 d9 dB) ((P8 d8) dH):=
 lL (fun s:Int×Int=>P7 d8 s.1 s.2) (P8 d8) (d9,dB) (fun⟨d9,dB⟩ o h=>by
 unfold FU at h
 refine gN 74 X5.D d8.trans ?_
 refine iB 75 h (fun h=>?_) fun h=>?_
 refine xX 83 X5.D h fun x3 h=>?_
 obtain⟨r4,h15,h⟩:=bS h
 refine gC 86 (aD5 h15) ?_
 refine iB 90 h (fun h=>?_) fun h=>?_
 exact lb h
 exact lb h
 exact lb h) h
theorem aAk(h:Yg d8=some dF):AL Tryz.prog 21 [.d (AA.D d8)] [] (.d (D.b dF)) []:=by
 unfold Yg at h;apply g0 (o:=dF);obtain⟨r1,h1,h⟩:=bS h;refine gC 12 (aEv h1) ?_;refine iB 17 h (fun h=>?_) fun h=>?_;exact lf h;refine gN 20 Xc.D d8.quants ?_;refine iB 23 h (fun h=>?_) fun h=>?_;exact lf h;refine gN 26 Xf.D d8.frees ?_;refine iB 29 h (fun h=>?_) fun h=>?_;exact lf h;refine gN 32 Xv.D d8.states ?_;refine iB 35 h (fun h=>?_) fun h=>?_;exact lf h;refine gN 38 X3.D d8.symbols ?_;refine iB 41 h (fun h=>?_) fun h=>?_;exact lf h;refine gN 44 X8.D d8.nodes ?_;refine iB 47 h (fun h=>?_) fun h=>?_;exact lf h;refine gN 50 X5.D d8.trans ?_;refine iB 53 h (fun h=>?_) fun h=>?_;exact lf h;refine iB 58 h (fun h=>?_) fun h=>?_;exact lf h;refine gN 63 Xv.D d8.states ?_;refine iB 66 h (fun h=>?_) fun h=>?_;exact lf h;obtain⟨r2,h11,h⟩:=bS h;refine gC 68 (aDv h11) ?_;refine iB 70 h (fun h=>?_) fun h=>?_;exact lf h;obtain⟨o5,h17,h⟩:=bS h;refine gl (Uc none h17) ?_;replace h:=AG h;rcases h with⟨o6,rfl,h⟩|⟨o7,rfl,h⟩
 refine gN 95 X8.D d8.nodes ?_;refine iB 97 h (fun h=>?_) fun h=>?_;obtain⟨r8,h19,h⟩:=bS h;refine gC 99 (aDl h19) ?_;exact lf h;exact lf h;exact lf h
theorem YO(h:Q8 d9 dV=some dF):AL Tryz.prog 11 [.d (.v (.pointer none)),dI d9,.d ((D.l X0.D) dV)] [] (.d (D.b dF)) []:=by unfold Q8 at h;apply g0 (o:=dF);refine gW 4 .frz ?_;exact lf h
theorem YQ(h:Qc d9=some dF):AL Tryz.prog 12 [.d (.v (.pointer none)),dI d9] [] (.d (D.b dF)) []:=by unfold Qc at h;apply g0 (o:=dF);refine gW 3 .frz ?_;exact lf h
theorem YR(h:Qd dX dF=some dP):AL Tryz.prog 34 [.d (.v (.pointer none)),.d ((D.l A8.D) dX),.d (D.b dF)] [] (.d ((D.l dZ) dP)) []:=by unfold Qd at h;apply g0 (o:=dP);exact lf h
theorem YS(h:Qe dX=some dP):AL Tryz.prog 15 [.d (.v (.pointer none)),.d ((D.l A8.D) dX)] [] (.d ((D.l dZ) dP)) []:=by unfold Qe at h;apply g0 (o:=dP);obtain⟨r1,h1,h⟩:=bS h;refine gC 7 (YR h1) ?_;exact lf h
theorem YT(h:Qf dX=some dP):AL Tryz.prog 17 [.d (.v (.pointer none)),.d ((D.l A8.D) dX)] [] (.d ((D.l dZ) dP)) []:=by unfold Qf at h;apply g0 (o:=dP);obtain⟨r1,h1,h⟩:=bS h;refine gC 7 (YR h1) ?_;exact lf h
theorem YU(h:Qg=some dY):AL Tryz.prog 18 [.d (.v (.pointer none))] [] (.d ((D.l D.s) dY)) []:=by unfold Qg at h;apply g0 (o:=dY);exact lf h
theorem YV(h:Qh=some d9):AL Tryz.prog 13 [.d (.v (.pointer none))] [] (dI d9) []:=by unfold Qh at h;apply g0 (o:=d9);exact lf h
theorem aFp(h:Z1 d8 d9=some dF):AL Tryz.prog 4 [.d (AA.D d8),dI d9] [] (.d (D.b dF)) []:=by
 unfold Z1 at h;apply g0 (o:=dF);obtain⟨r1,h1,h⟩:=bS h;refine gC 7 (aDn h1) ?_;refine iB 8 h (fun h=>?_) fun h=>?_;obtain⟨r2,h3,h⟩:=bS h;refine gC 9 (Wr h3) ?_;exact lf h;obtain⟨o3,h4,h⟩:=bS h;replace h:=AG h;rcases h with⟨o4,rfl,h⟩|⟨o5,rfl,h⟩
 refine gG 11 (.cx false [] [] (.d (.v (.pointer none))) []) (aBm (aHb h4)) ?_;obtain⟨r6,h5,h⟩:=bS h;refine gC 14 (aAk h5) ?_;refine iB 15 h (fun h=>?_) fun h=>?_;exact lf h;obtain⟨r7,h7,h⟩:=bS h;refine gC 18 (YO h7) ?_;refine iB 20 h (fun h=>?_) fun h=>?_;obtain⟨r8,h9,h⟩:=bS h;refine gC 23 (YQ h9) ?_;refine iB 26 h (fun h=>?_) fun h=>?_;refine gQ (Av A8.D ([A8.mk 0 ([]:List X0) ([]:List X0)])) ?_;obtain⟨r9,h11,h⟩:=bS h;refine gC 30 (YS h11)<|gN 31 dZ r9 ?_;refine iB 34 h (fun h=>?_) fun h=>?_;refine gQ (Av A8.D ([A8.mk 0 ([]:List X0) ([]:List X0)])) ?_;obtain⟨r10,h13,h⟩:=bS h;refine gC 38 (YT h13)<|gN 39 dZ r10 ?_;refine iB 42 h (fun h=>?_) fun h=>?_;obtain⟨r11,h15,h⟩:=bS h;refine gC 44 (YU h15)<|gN 45 D.s r11 ?_;refine iB 48 h (fun h=>?_) fun h=>?_;obtain⟨r12,h17,h⟩:=bS h;refine gC 50 (YV h17) ?_;refine iB 53 h (fun h=>?_) fun h=>?_;obtain⟨r13,h19,h⟩:=bS h;refine gC 54 (Wr h19) ?_;exact lf h;exact lf h;exact lf h;exact lf h;exact lf h;exact lf h;exact lf h;refine gG 11 (.cx false [] [(0,418),(1,425),(2,432)] (.box 0 0) [(0,.cells ((Ao (AA.D o5.1))++[.row 1,.row 2])),(1,.map o5.2.1.clk (MP.dl dZ (D.l X0.D) o5.2.1)),(2,.map o5.2.2.clk (MP.dl D.s (D.l dZ) o5.2.2))]) (aBs (aHc h4)) ?_;obtain⟨r14,h20,h⟩:=bS h;refine gC 14 (aAk h20) ?_;refine iB 15 h (fun h=>?_) fun h=>?_;exact lf h;obtain⟨r15,h22,h⟩:=bS h;refine gC 18 (YO h22) ?_;refine iB 20 h (fun h=>?_) fun h=>?_;obtain⟨r16,h24,h⟩:=bS h;refine gC 23 (YQ h24) ?_;refine iB 26 h (fun h=>?_) fun h=>?_;refine gQ (Av A8.D ([A8.mk 0 ([]:List X0) ([]:List X0)])) ?_;obtain⟨r17,h26,h⟩:=bS h;refine gC 30 (YS h26)<|gN 31 dZ r17 ?_;refine iB 34 h (fun h=>?_) fun h=>?_;refine gQ (Av A8.D ([A8.mk 0 ([]:List X0) ([]:List X0)])) ?_;obtain⟨r18,h28,h⟩:=bS h;refine gC 38 (YT h28)<|gN 39 dZ r18 ?_;refine iB 42 h (fun h=>?_) fun h=>?_;obtain⟨r19,h30,h⟩:=bS h;refine gC 44 (YU h30)<|gN 45 D.s r19 ?_;refine iB 48 h (fun h=>?_) fun h=>?_;obtain⟨r20,h32,h⟩:=bS h;refine gC 50 (YV h32) ?_;refine iB 53 h (fun h=>?_) fun h=>?_;obtain⟨r21,h34,h⟩:=bS h;refine gC 54 (Wr h34) ?_;exact lf h;exact lf h;exact lf h;exact lf h;exact lf h;exact lf h;exact lf h
end Go.Ac
