/- Own work, printed: the functions compute these. -/
import Derived.Test.YthaljpcbnneidaaGreatWa37hx1
set_option linter.unusedVariables false
set_option linter.unusedSimpArgs false
namespace Go.Ac
open Go.Proofs
variable {dG dH dJ:Int}
variable {dK dL:AA}
variable {dM:List X5}
variable {dN:MP X5 X3}
variable {dO dR:X6}
variable {dP:List X6}
variable {dQ:MP X6 Xc}
variable {dS:(List X6×MP X6 Xc)}
variable {dV:Unit⊕(List X3)}
variable {dX:List X3×Bool}
variable {dY:Bool×Int}
variable {e9 eL:Bool}
variable {eA:Unit⊕Unit}
variable {eB:List X7}
variable {eC:X3}
variable {eE eI eJ:List X2}
variable {eF eM:X0}
variable {eG:Unit⊕X0}
variable {eH:X0×Bool}
variable {eK:(List X2)}
variable {eN:X2}
variable {eO:X8}
variable {eQ:AL}
variable {eS:BQ}
variable {eT:(List X2)⊕Unit}
variable {eU:(List X2×List X2)⊕Unit}
variable {eV:AL×Bool}
variable {eW fE:List AL}
variable {eX:(List AL)}
variable {eY eZ:List X0}
variable {f8 f9:List (List X0)}
variable {fA:(List X0)}
variable {fB:(List (List X0))}
variable {fC:List X3}
variable {fD fO fS:List X4}
variable {fF:X0×Int}
variable {fG:List DN}
variable {fH:(List X0)⊕Int}
variable {fJ:List X0×Int}
variable {fK fM:X4}
variable {fL:X4×Bool×Int}
variable {fN:Unit⊕Bool}
variable {fP:(List X4)}
variable {fQ:(Int×List X4)}
variable {fR:List X4×Int}
variable {fT:(List X4×Int)}
variable {fU:(List X4)⊕(Int×Int)}
variable {fV:List X4×Int×Int}
theorem V4(rd:Option Nat)(h:OM dG dH dJ dK dL dM dN dO dP dQ dR=some dS):Lq 7 rd 2073830 (aEt dG dH dJ dK dL dM dN dO dP dQ dR) (.normal,⟨sp 111 0 [bx 2,bx 3,rx 6,rx 7,bx 8,rx 9,rx 10,sI 11 dG,bx 12,(82,.row 6),sI 83 dH,sI 84 dJ],[cL 2 AA.D dK,cL 3 AA.D dL,rW 6 64 2 X5.D dM,(7,.map dN.clk (MP.dl X5.D X3.D dN)),cL 8 X6.D dO,(9,.row 60 2 (dS.1.map X6.D)),(10,.map dS.2.clk (MP.dl X6.D Xc.D dS.2)),cL 12 X6.D dR],[]⟩):=by unfold OM at h;apply g0 (o:=dS);obtain⟨h16,h⟩:=cS h;refine gQ h16.1<|gQ (DJ X5.D h16.2) ?_;obtain⟨x8,h17,h⟩:=xS h;refine gG 87 (.el (X5.D x8)) (Dh X5.D h17) ?_;obtain⟨r9,h18,h⟩:=bS h;refine gC 92 (aM2 h18)<|gG 96 (.mg (Xc.D (BC (Xc.mk (X6.mk 0 0) (X5.mk 0 0)) dQ r9).1) (BC (Xc.mk (X6.mk 0 0) (X5.mk 0 0)) dQ r9).2) (HW BE Xc.D (Xc.mk (X6.mk 0 0) (X5.mk 0 0)) dQ r9) ?_;obtain⟨o10,h21,h⟩:=bS h;refine gl (V5 rd h21) ?_;exact lp h
def Pn(s11 s83:Int)(w2 w3:AA)(w6:List X5)(w7:MP X5 X3)(w8 w12:X6)(s84:Int)(w9:List X6)(w10:MP X6 Xc):St:=⟨sp 111 0 [bx 2,bx 3,rx 6,rx 7,bx 8,rx 9,rx 10,sI 11 s11,bx 12,(82,.row 6),sI 83 s83,sI 84 s84],[cL 2 AA.D w2,cL 3 AA.D w3,rW 6 64 2 X5.D w6,(7,.map w7.clk (MP.dl X5.D X3.D w7)),cL 8 X6.D w8,(9,.row 60 2 (w9.map X6.D)),(10,.map w10.clk (MP.dl X6.D Xc.D w10)),cL 12 X6.D w12],[]⟩
def Po(s11 s83:Int)(w2 w3:AA)(w6:List X5)(w7:MP X5 X3)(w8 w12:X6)(o:(List X6×MP X6 Xc)):Ex×St:=(.exit 4,⟨sp 111 0 [bx 2,bx 3,rx 6,rx 7,bx 8,rx 9,rx 10,sI 11 s11],[cL 2 AA.D w2,cL 3 AA.D w3,rW 6 64 2 X5.D w6,(7,.map w7.clk (MP.dl X5.D X3.D w7)),cL 8 X6.D w8,(9,.row 60 2 (o.1.map X6.D)),(10,.map o.2.clk (MP.dl X6.D Xc.D o.2))],[]⟩)
theorem V9(rd:Option Nat)(h:LI dG dH dK dL dM dN dO dR dJ dP dQ=some dS):Lq 7 rd 129614 (Pn dG dH dK dL dM dN dO dR dJ dP dQ) ((Po dG dH dK dL dM dN dO dR) dS):=
 lL (fun s:Int×List X6×MP X6 Xc=>Pn dG dH dK dL dM dN dO dR s.1 s.2.1 s.2.2) (Po dG dH dK dL dM dN dO dR) (dJ,dP,dQ) (fun⟨dJ,dP,dQ⟩ o h=>by
 unfold EH at h
 refine iB 85 h (fun h=>?_) fun h=>?_
 obtain⟨o11,h22,h⟩:=bS h
 refine gl (V4 rd h22) ?_
 exact lb h
 exact lb h) h
def Pj(w2 w3:AA)(w6:List X5)(w7:MP X5 X3)(w8:X6)(s11:Int)(w9:List X6)(w10:MP X6 Xc):St:=⟨sp 111 0 [bx 2,bx 3,rx 6,rx 7,bx 8,rx 9,rx 10,sI 11 s11],[cL 2 AA.D w2,cL 3 AA.D w3,rW 6 64 2 X5.D w6,(7,.map w7.clk (MP.dl X5.D X3.D w7)),cL 8 X6.D w8,(9,.row 60 2 (w9.map X6.D)),(10,.map w10.clk (MP.dl X6.D Xc.D w10))],[]⟩
def Pk(w2 w3:AA)(w6:List X5)(w7:MP X5 X3)(w8:X6)(o:Unit⊕(List X3)):Ex×St:=match o with
 | .inl o=>(.exit 0,⟨sp 111 0 [],[],[]⟩)
 | .inr o=>(.ret,⟨sp 111 0 [sD 4 (D.l X3.D) o,sD 5 D.b true],[],[]⟩)
theorem V6(rd:Option Nat)(h:Pi dK dL dM dN dO dG dP dQ=some dV):Lq 7 rd 506 (Pj dK dL dM dN dO dG dP dQ) ((Pk dK dL dM dN dO) dV):=
 lL (fun s:Int×List X6×MP X6 Xc=>Pj dK dL dM dN dO s.1 s.2.1 s.2.2) (Pk dK dL dM dN dO) (dG,dP,dQ) (fun⟨dG,dP,dQ⟩ o h=>by
 unfold DX at h
 refine gN 46 X6.D dP ?_
 refine iB 47 h (fun h=>?_) fun h=>?_
 refine xX 52 X6.D h fun x3 h=>?_
 obtain⟨r4,h8,h⟩:=bS h
 refine gC 57 (aIv h8) ?_
 obtain⟨r5,h9,h⟩:=bS h
 refine gC 61 (aIv h9) ?_
 refine iB 62 h (fun h=>?_) fun h=>?_
 obtain⟨o6,h13,h⟩:=bS h
 refine gL [.live [7,8,10,12,13],.keep [7,8,10,12],.nilw 13 13 44 2,.sort] (V8 rd h13) ?_
 obtain⟨r7,h14,h⟩:=bS h
 refine gG 80 (.cx false [(0,13)] [] (.tup []) [rW 0 44 2 X3.D r7]) (aM8 h14) ?_
 exact lB h [.frz 13,.look 4,.live [4,5],.keep []]
 refine gN 83 X5.D dM ?_
 obtain⟨o12,h23,h⟩:=bS h
 refine gl (V9 rd h23) ?_
 exact lb h
 exact lb h) h
theorem aIf(h:X9 dK dL=some dX):AO Tryz.prog 7 [.d (AA.D dK),.d (AA.D dL)] [] (.tup [.d ((D.l X3.D) dX.1),.d (D.b dX.2)]) []:=by
 unfold X9 at h;apply g0 (o:=dX);obtain⟨r1,h1,h⟩:=bS h;refine gC 21 (aFv h1) ?_;refine iB 22 h (fun h=>?_) fun h=>?_;exact lf h;refine gW 10040 (.mp (Cs (Ek:MP X6 Xc) (X6.mk (AB .shl .u32 1 (IntKind.wrap .u64 dK.start)) (AB .shl .u32 1 (IntKind.wrap .u64 dL.start))) (Xc.mk (X6.mk 0 0) (X5.mk 0 0))).clk (MP.dl X6.D Xc.D (Cs (Ek:MP X6 Xc) (X6.mk (AB .shl .u32 1 (IntKind.wrap .u64 dK.start)) (AB .shl .u32 1 (IntKind.wrap .u64 dL.start))) (Xc.mk (X6.mk 0 0) (X5.mk 0 0))))) ?_;obtain⟨r2,h3,h⟩:=bS h;refine gG 26 (.cx false [] [(0,433),(1,440),(2,447),(3,454)] (.tup [.row 2,.row 3]) [(0,.cells ([.row 2])),(1,.cells ([.row 3])),rW 2 64 2 X5.D r2.1,(3,.map r2.2.clk (MP.dl X5.D X3.D r2.2))]) (aNf h3) ?_;obtain⟨h4,h⟩:=cS h;refine gQ h4 ?_;obtain⟨h5,h⟩:=cS h;refine gQ h5<|gQ (AY X6.D [X6.mk (AB .shl .u32 1 (IntKind.wrap .u64 dK.start)) (AB .shl .u32 1 (IntKind.wrap .u64 dL.start))])<|gQ (MO BE Xc.D (Ek:MP X6 Xc) (X6.mk (AB .shl .u32 1 (IntKind.wrap .u64 dK.start)) (AB .shl .u32 1 (IntKind.wrap .u64 dL.start))) (Xc.mk (X6.mk 0 0) (X5.mk 0 0))) ?_;obtain⟨o13,h24,h⟩:=bS h;refine gL [.live [2,3,6,7,8,9,10,11],.keep [2,3,8,39,40,447,454],.ren 39 9,.ren 40 10,.ren 447 6,.ren 454 7,.sort] (V6 none h24) ?_;replace h:=AM h;rcases h with⟨o14,rfl,h⟩|⟨o15,rfl,h⟩
 exact lf h;exact lf h
theorem aJ1(h:Zp dK dL=some dY):AO Tryz.prog 8 [.d (AA.D dK),.d (AA.D dL)] [] (.tup [.d (D.b dY.1),dI dY.2]) []:=by unfold Zp at h;apply g0 (o:=dY);obtain⟨r1,h1,h⟩:=bS h;refine gC 10 (aFv h1) ?_;refine iB 11 h (fun h=>?_) fun h=>?_;exact lf h;obtain⟨r2,h3,h⟩:=bS h;refine gC 15 (aIf h3) ?_;exact lf h
theorem KF(h:Yj=some e9):AO Tryz.prog 6 [] [] (.d (D.b e9)) []:=by unfold Yj at h;apply g0 (o:=e9);refine gQ (AY Xd.D ([Xd.mk ([115]:List UInt8) false false]))<|gQ (AY Xd.D ([Xd.mk ([115]:List UInt8) false true])) ?_;obtain⟨r1,h1,h⟩:=bS h;refine gC 16 (aIf h1) ?_;obtain⟨r2,h2,h⟩:=bS h;refine gC 22 (aJ1 h2) ?_;refine iB 26 h (fun h=>?_) fun h=>?_;refine gN 28 X3.D r1.1 ?_;refine iB 31 h (fun h=>?_) fun h=>?_;refine iB 34 h (fun h=>?_) fun h=>?_;refine iB 38 h (fun h=>?_) fun h=>?_;obtain⟨r3,h7,h⟩:=bS h;refine gC 41 (aFv h7) ?_;exact lf h;exact lf h;exact lf h;exact lf h;exact lf h
def Sg(w1:AA)(s3:Int):St:=⟨sp 40 0 [bx 1,sI 3 s3],[cL 1 AA.D w1],[]⟩
def Sh(w1:AA)(o:Unit⊕Unit):Ex×St:=match o with
 | .inl o=>(.exit 0,⟨sp 40 0 [],[],[]⟩)
 | .inr o=>(.ret,⟨sp 40 0 [sD 2 D.b false],[],[]⟩)
theorem ZT(rd:Option Nat)(h:Sf dK dG=some eA):Lq 20 rd 58 (Sg dK dG) ((Sh dK) eA):=
 lL (fun s:Int=>Sg dK s) (Sh dK) dG (fun dG o h=>by
 unfold Db at h
 refine gN 29 Xe.D dK.trans ?_
 refine iB 30 h (fun h=>?_) fun h=>?_
 refine xX 36 Xe.D h fun x1 h=>?_
 refine iB 39 h (fun h=>?_) fun h=>?_
 exact lb h
 exact lb h
 exact lb h) h
theorem aI9(h:Yf dK=some e9):AO Tryz.prog 20 [.d (AA.D dK)] [] (.d (D.b e9)) []:=by
 unfold Yf at h;apply g0 (o:=e9);refine gN 6 Xt.D dK.frees ?_;refine iB 8 h (fun h=>?_) fun h=>?_;exact lf h;refine gN 11 Xq.D dK.quants ?_;refine iB 14 h (fun h=>?_) fun h=>?_;exact lf h;refine gN 17 Xd.D dK.states ?_;refine iB 20 h (fun h=>?_) fun h=>?_;exact lf h;refine gN 23 X8.D dK.symbols ?_;refine iB 25 h (fun h=>?_) fun h=>?_;exact lf h;obtain⟨o2,h8,h⟩:=bS h;refine gl (ZT none h8) ?_;replace h:=AM h;rcases h with⟨o3,rfl,h⟩|⟨o4,rfl,h⟩
 exact lf h;exact lf h
def SC(s5:Int)(w2 w3:AA)(s6:Int):St:=⟨sp 103 0 [bx 2,bx 3,sI 5 s5,sI 6 s6],[cL 2 AA.D w2,cL 3 AA.D w3],[]⟩
def SD(s5:Int)(w2 w3:AA)(o:Unit⊕Unit):Ex×St:=match o with
 | .inl o=>(.exit 2,⟨sp 103 0 [bx 2,bx 3,sI 5 s5],[cL 2 AA.D w2,cL 3 AA.D w3],[]⟩)
 | .inr o=>(.ret,⟨sp 103 0 [sD 4 D.b false],[],[]⟩)
theorem YO(rd:Option Nat)(h:YN dG dK dL dH=some eA):Lq 9 rd 7462 (SC dG dK dL dH) ((SD dG dK dL) eA):=
 lL (fun s:Int=>SC dG dK dL s) (SD dG dK dL) dH (fun dH o h=>by
 unfold GZ at h
 refine xX 77 X7.D h fun x7 h=>?_
 refine gN 80 dZ x7.types ?_
 refine iB 81 h (fun h=>?_) fun h=>?_
 refine xX 87 X7.D h fun x8 h=>?_
 refine xX 91 dZ h fun x9 h=>?_
 refine xX 96 X7.D h fun x10 h=>?_
 refine xX 100 dZ h fun x11 h=>?_
 refine iB 102 h (fun h=>?_) fun h=>?_
 exact lb h
 exact lb h
 exact lb h) h
def SA(w2 w3:AA)(s5:Int):St:=⟨sp 103 0 [bx 2,bx 3,sI 5 s5],[cL 2 AA.D w2,cL 3 AA.D w3],[]⟩
def SB(w2 w3:AA)(o:Unit⊕Unit):Ex×St:=match o with
 | .inl o=>(.exit 0,⟨sp 103 0 [],[],[]⟩)
 | .inr o=>(.ret,⟨sp 103 0 [sD 4 D.b false],[],[]⟩)
theorem YM(rd:Option Nat)(h:YL dK dL dG=some eA):Lq 9 rd 58 (SA dK dL dG) ((SB dK dL) eA):=
 lL (fun s:Int=>SA dK dL s) (SB dK dL) dG (fun dG o h=>by
 unfold GY at h
 refine gN 39 X7.D dK.decls ?_
 refine iB 40 h (fun h=>?_) fun h=>?_
 refine xX 46 X7.D h fun x3 h=>?_
 refine xX 52 X7.D h fun x4 h=>?_
 refine iB 56 h (fun h=>?_) fun h=>?_
 exact lb h
 refine xX 60 X7.D h fun x5 h=>?_
 refine gN 63 dZ x5.types<|xX 67 X7.D h fun x6 h=>?_
 refine gN 70 dZ x6.types ?_
 refine iB 72 h (fun h=>?_) fun h=>?_
 exact lb h
 obtain⟨o12,h22,h⟩:=bS h
 refine gl (YO rd h22) ?_
 replace h:=AM h
 rcases h with⟨o13,rfl,h⟩|⟨o14,rfl,h⟩
 exact lb h
 exact lb h
 exact lb h) h
theorem aM6(h:Y1 dK dL=some e9):AO Tryz.prog 9 [.d (AA.D dK),.d (AA.D dL)] [] (.d (D.b e9)) []:=by
 unfold Y1 at h;apply g0 (o:=e9);obtain⟨r1,h1,h⟩:=bS h;refine gC 8 (aI9 h1) ?_;refine iB 10 h (fun h=>?_) fun h=>?_;exact lf h;obtain⟨r2,h3,h⟩:=bS h;refine gC 12 (aI9 h3) ?_;refine iB 15 h (fun h=>?_) fun h=>?_;exact lf h;refine gN 18 Xq.D dK.quants ?_;refine iB 21 h (fun h=>?_) fun h=>?_;exact lf h;refine gN 24 Xq.D dL.quants ?_;refine iB 27 h (fun h=>?_) fun h=>?_;exact lf h;refine gN 30 X7.D dK.decls<|gN 33 X7.D dL.decls ?_;refine iB 35 h (fun h=>?_) fun h=>?_;exact lf h;obtain⟨o15,h23,h⟩:=bS h;refine gl (YM none h23) ?_;replace h:=AM h;rcases h with⟨o16,rfl,h⟩|⟨o17,rfl,h⟩
 exact lf h;exact lf h
def S3(s0:List X7)(s5:Int)(w3:X3)(s6:Int):St:=⟨sp 56 0 [sD 0 (D.l X7.D) s0,bx 3,sI 5 s5,sI 6 s6],[cL 3 X3.D w3],[]⟩
def S4(s0:List X7)(s5:Int)(w3:X3)(o:Unit⊕Unit):Ex×St:=match o with
 | .inl o=>(.exit 0,⟨sp 56 0 [],[],[]⟩)
 | .inr o=>(.ret,⟨sp 56 0 [sD 4 D.b false],[],[]⟩)
theorem aAe(rd:Option Nat)(h:aFs eB dG eC dH=some eA):Lq 12 rd 122 (S3 eB dG eC dH) ((S4 eB dG eC) eA):=
 lL (fun s:Int=>S3 eB dG eC s) (S4 eB dG eC) dH (fun dH o h=>by
 unfold JD at h
 refine gN 28 X0.D eC.args ?_
 refine iB 29 h (fun h=>?_) fun h=>?_
 refine xX 35 X0.D h fun x3 h=>?_
 refine xX 40 X7.D h fun x4 h=>?_
 refine xX 44 dZ h fun x5 h=>?_
 refine iB 47 h (fun h=>?_) fun h=>?_
 exact lb h
 refine xX 51 X0.D h fun x6 h=>?_
 obtain⟨r7,h11,h⟩:=bS h
 refine gC 53 (aA2 h11) ?_
 refine iB 55 h (fun h=>?_) fun h=>?_
 exact lb h
 exact lb h
 exact lb h) h
theorem aJj(h:Yp eB eC=some e9):AO Tryz.prog 12 [.d ((D.l X7.D) eB),.d (X3.D eC)] [] (.d (D.b e9)) []:=by
 unfold Yp at h;apply g0 (o:=e9);obtain⟨r1,h1,h⟩:=bS h;refine gC 10 (aJl h1) ?_;refine iB 13 h (fun h=>?_) fun h=>?_;exact lf h;refine gW 22 (.int (eC.args.length:Int))<|xX 16 X7.D h fun x2 h=>?_;refine gN 19 dZ x2.types<|gQ (FI X0.D eC.args) ?_;refine iB 24 h (fun h=>?_) fun h=>?_;exact lf h;obtain⟨o8,h13,h⟩:=bS h;refine gl (aAe none h13) ?_;replace h:=AM h;rcases h with⟨o9,rfl,h⟩|⟨o10,rfl,h⟩
 exact lf h;exact lf h
def SU(s0:List X2)(s1:Int)(w4:X0)(s6:Int):St:=⟨sp 26 0 [sD 0 (D.l X2.D) s0,sI 1 s1,bx 4,sI 6 s6],[cL 4 X0.D w4],[]⟩
def SX(s0:List X2)(s1:Int)(w4:X0)(o:Unit⊕X0):Ex×St:=match o with
 | .inl o=>(.exit 0,⟨sp 26 0 [bx 4],[cL 4 X0.D w4],[]⟩)
 | .inr o=>(.ret,⟨sp 26 0 [bx 4,sD 5 D.b true],[cL 4 X0.D o],[]⟩)
theorem ZC(rd:Option Nat)(h:aFf eE dG eF dH=some eG):Lq 72 rd 26 (SU eE dG eF dH) ((SX eE dG eF) eG):=
 lL (fun s:Int=>SU eE dG eF s) (SX eE dG eF) dH (fun dH o h=>by
 unfold I5 at h
 refine gN 9 X2.D eE ?_
 refine iB 10 h (fun h=>?_) fun h=>?_
 refine xX 15 X2.D h fun x1 h=>?_
 refine iB 19 h (fun h=>?_) fun h=>?_
 refine xX 22 X2.D h fun x2 h=>?_
 exact lb h
 exact lb h
 exact lb h) h
theorem Ld(h:Y9 eE dG=some eH):AO Tryz.prog 72 [.d ((D.l X2.D) eE),dI dG] [] (.tup [.d (X0.D eH.1),.d (D.b eH.2)]) []:=by
 unfold Y9 at h;apply g0 (o:=eH);obtain⟨o3,h5,h⟩:=bS h;refine gl (ZC none h5) ?_;replace h:=AM h;rcases h with⟨o4,rfl,h⟩|⟨o5,rfl,h⟩
 exact lf h;exact lf h
def TV(s0 s1:List X2)(s5:Int):St:=⟨sp 34 0 [sD 0 (D.l X2.D) s0,sD 1 (D.l X2.D) s1,sI 5 s5],[],[]⟩
def TW(s0 s1:List X2)(o:Unit⊕Unit):Ex×St:=match o with
 | .inl o=>(.exit 0,⟨sp 34 0 [],[],[]⟩)
 | .inr o=>(.ret,⟨sp 34 0 [sD 4 D.b false],[],[]⟩)
theorem aAs(rd:Option Nat)(h:aF3 eE eI dG=some eA):Lq 97 rd 26 (TV eE eI dG) ((TW eE eI) eA):=
 lL (fun s:Int=>TV eE eI s) (TW eE eI) dG (fun dG o h=>by
 unfold JG at h
 refine gN 10 X2.D eE ?_
 refine iB 11 h (fun h=>?_) fun h=>?_
 refine xX 18 X2.D h fun x1 h=>?_
 obtain⟨r2,h3,h⟩:=bS h
 refine gC 21 (Ld h3) ?_
 refine iB 25 h (fun h=>?_) fun h=>?_
 refine xX 29 X2.D h fun x3 h=>?_
 refine iB 33 h (fun h=>?_) fun h=>?_
 exact lb h
 exact lb h
 exact lb h
 exact lb h) h
theorem aN5(h:Z4 eE eI=some e9):AO Tryz.prog 97 [.d ((D.l X2.D) eE),.d ((D.l X2.D) eI)] [] (.d (D.b e9)) []:=by
 unfold Z4 at h;apply g0 (o:=e9);obtain⟨o4,h7,h⟩:=bS h;refine gl (aAs none h7) ?_;replace h:=AM h;rcases h with⟨o5,rfl,h⟩|⟨o6,rfl,h⟩
 exact lf h;exact lf h
theorem YH(rd:Option Nat)(h:YG eE eI dG e9 eJ eF=some eK):Lq 98 rd 29855 ⟨sp 42 0 [sD 0 (D.l X2.D) eE,sD 1 (D.l X2.D) eI,rx 5,sI 6 dG,bx 9,sD 34 D.b e9],[(5,.row 117 5 (eJ.map X2.D)),cL 9 X0.D eF],[]⟩ (.normal,⟨sp 42 0 [sD 0 (D.l X2.D) eE,sD 1 (D.l X2.D) eI,rx 5,sI 6 dG],[(5,.row 117 5 (eK.map X2.D))],[]⟩):=by unfold YG at h;apply g0 (o:=eK);cases e9;replace h:=Cy h;exact lp h;replace h:=Cz h;refine gQ (AY X2.D [X2.mk dG eF])<|gG 40 (.sl ((eJ++[X2.mk dG eF]).map X2.D)) (AY X2.D [X2.mk dG eF]) ?_;obtain⟨h17,h⟩:=cS h;refine gQ (Ab X2.D h17)<|gQ (AZ X2.D eJ [X2.mk dG eF]) ?_;exact lP h [.live [0,1,5,6],.keep [40],.ren 40 5,.sort]
theorem YF(rd:Option Nat)(h:YE eE eI dG e9 eL eJ eF eM=some eK):Lq 98 rd 7463 ⟨sp 42 0 [sD 0 (D.l X2.D) eE,sD 1 (D.l X2.D) eI,rx 5,sI 6 dG,bx 7,bx 9,sD 10 D.b e9,sD 27 D.b eL],[(5,.row 117 5 (eJ.map X2.D)),cL 7 X0.D eF,cL 9 X0.D eM],[]⟩ (.normal,⟨sp 42 0 [sD 0 (D.l X2.D) eE,sD 1 (D.l X2.D) eI,rx 5,sI 6 dG],[(5,.row 117 5 (eK.map X2.D))],[]⟩):=by unfold YE at h;apply g0 (o:=eK);cases eL;replace h:=Cy h;obtain⟨o8,h18,h⟩:=bS h;refine gl (YH rd h18) ?_;exact lp h;replace h:=Cz h;refine gQ (AY X2.D [X2.mk dG eF])<|gG 33 (.sl ((eJ++[X2.mk dG eF]).map X2.D)) (AY X2.D [X2.mk dG eF]) ?_;obtain⟨h15,h⟩:=cS h;refine gQ (Ab X2.D h15)<|gQ (AZ X2.D eJ [X2.mk dG eF]) ?_;exact lP h [.live [0,1,5,6],.keep [33],.ren 33 5,.sort]
theorem YD(rd:Option Nat)(h:YC eE eI dG eJ=some eK):Lq 98 rd 466 ⟨sp 42 0 [sD 0 (D.l X2.D) eE,sD 1 (D.l X2.D) eI,rx 5,sI 6 dG],[(5,.row 117 5 (eJ.map X2.D))],[]⟩ (.normal,⟨sp 42 0 [sD 0 (D.l X2.D) eE,sD 1 (D.l X2.D) eI,rx 5,sI 6 dG],[(5,.row 117 5 (eK.map X2.D))],[]⟩):=by unfold YC at h;apply g0 (o:=eK);obtain⟨r6,h12,h⟩:=bS h;refine gC 18 (Ld h12) ?_;obtain⟨r7,h13,h⟩:=bS h;refine gC 24 (Ld h13) ?_;obtain⟨o9,h19,h⟩:=bS h;refine gl (YF rd h19) ?_;exact lp h
def R6(s0 s1:List X2)(s6:Int)(w5:List X2):St:=⟨sp 42 0 [sD 0 (D.l X2.D) s0,sD 1 (D.l X2.D) s1,rx 5,sI 6 s6],[(5,.row 117 5 (w5.map X2.D))],[]⟩
def R7(s0 s1:List X2)(o:(List X2)):Ex×St:=(.exit 0,⟨sp 42 0 [rx 5],[(5,.row 117 5 (o.map X2.D))],[]⟩)
theorem YI(rd:Option Nat)(h:aE9 eE eI dG eJ=some eK):Lq 98 rd 58 (R6 eE eI dG eJ) ((R7 eE eI) eK):=
 lL (fun s:Int×List X2=>R6 eE eI s.1 s.2) (R7 eE eI) (dG,eJ) (fun⟨dG,eJ⟩ o h=>by
 unfold GX at h
 refine iB 12 h (fun h=>?_) fun h=>?_
 obtain⟨o10,h20,h⟩:=bS h
 refine gl (YD rd h20) ?_
 exact lb h
 exact lb h) h
theorem aM4(h:Xz eE eI=some eJ):AO Tryz.prog 98 [.d ((D.l X2.D) eE),.d ((D.l X2.D) eI)] [] (.d ((D.l X2.D) eJ)) []:=by unfold Xz at h;apply g0 (o:=eJ);obtain⟨o11,h21,h⟩:=bS h;refine gL [.live [0,1,5,6],.keep [],.nil 5 5 117 5,.sort] (YI none h21) ?_;exact lf h
def TN(s0:List X2)(w3:X2)(s5:Int):St:=⟨sp 38 0 [sD 0 (D.l X2.D) s0,bx 3,sI 5 s5],[cL 3 X2.D w3],[]⟩
def TO(s0:List X2)(w3:X2)(o:Int):Ex×St:=(.exit 0,⟨sp 38 0 [sD 0 (D.l X2.D) s0,bx 3,sI 5 o],[cL 3 X2.D w3],[]⟩)
theorem aAo(rd:Option Nat)(h:aF1 eE eN dG=some dH):Lq 99 rd 28 (TN eE eN dG) ((TO eE eN) dH):=
 lL (fun s:Int=>TN eE eN s) (TO eE eN) dG (fun dG o h=>by
 unfold Gs at h
 refine iB 11 h (fun h=>?_) fun h=>?_
 refine xX 15 X2.D h fun x1 h=>?_
 refine iB 21 h (fun h=>?_) fun h=>?_
 exact lb h
 exact lb h
 exact lb h) h
theorem aNz(h:Z0 eE eN=some eI):AO Tryz.prog 99 [.d ((D.l X2.D) eE),.d (X2.D eN)] [] (.d ((D.l X2.D) eI)) []:=by unfold Z0 at h;apply g0 (o:=eI);refine gN 8 X2.D eE ?_;obtain⟨o2,h4,h⟩:=bS h;refine gl (aAo none h4)<|gQ (AY X2.D ([]:List X2))<|gW 27 (.sl ((sub eE 0 o2).map X2.D))<|gW 28 (.sl ((([]:List X2)++(sub eE 0 o2)).map X2.D))<|gW 32 (.sl (((([]:List X2)++(sub eE 0 o2))++[eN]).map X2.D))<|gW 36 (.sl ((sub eE o2 (eE.length:Int)).map X2.D))<|gW 37 (.sl ((((([]:List X2)++(sub eE 0 o2))++[eN])++(sub eE o2 (eE.length:Int))).map X2.D)) ?_;obtain⟨h5,h⟩:=cS h;refine gQ (DS X2.D h5)<|gQ (AY X2.D (sub eE 0 o2)) ?_;obtain⟨h6,h⟩:=cS h;refine gQ (Ab X2.D h6)<|gQ (AZ X2.D ([]:List X2) (sub eE 0 o2))<|gQ (AY X2.D [eN])<|gQ (AY X2.D [eN]) ?_;obtain⟨h7,h⟩:=cS h;refine gQ (Ab X2.D h7)<|gQ (AZ X2.D (([]:List X2)++(sub eE 0 o2)) [eN]) ?_;obtain⟨h8,h⟩:=cS h;refine gQ (DR X2.D h8)<|gQ (AY X2.D (sub eE o2 (eE.length:Int))) ?_;obtain⟨h9,h⟩:=cS h;refine gQ (Ab X2.D h9)<|gQ (AZ X2.D ((([]:List X2)++(sub eE 0 o2))++[eN]) (sub eE o2 (eE.length:Int))) ?_;exact lf h
theorem Mx(rd:Option Nat)(h:RO dG eE eI dH e9 eC dJ eO eQ eS eJ=some eT):Lq 87 rd 521373 ⟨sp 121 0 [sI 1 dG,bx 5,bx 6,bx 8,bx 9,sD 10 (D.l X2.D) eE,sD 11 (D.l X2.D) eI,sI 12 dH,bx 13,rx 14,sD 80 D.b e9],[cL 5 X3.D eC,(6,.cells ([dI dJ,.nil,.nil])),cL 8 X8.D eO,cL 9 AL.D eQ,cL 13 BQ.D eS,(14,.row 117 5 (eJ.map X2.D))],[]⟩ (match (generalizing:=false) eT with
 | .inl eT=>(.normal,⟨sp 121 0 [sI 1 dG,bx 5,bx 6,bx 8,bx 9,sD 10 (D.l X2.D) eT,sD 11 (D.l X2.D) eI,sI 12 dH,bx 13,rx 14],[cL 5 X3.D eC,(6,.cells ([dI dJ,.nil,.nil])),cL 8 X8.D eO,cL 9 AL.D eQ,cL 13 BQ.D eS,(14,.row 117 5 (eJ.map X2.D))],[]⟩)
 | .inr eT=>(.ret,⟨sp 121 0 [bx 6,sD 7 D.b false],[cL 6 AL.D eQ],[]⟩)):=by
 unfold RO at h
 apply g0 (o:=eT)
 cases e9
 replace h:=Cy h
 exact lp h
 replace h:=Cz h
 obtain⟨r32,h37,h⟩:=bS h
 refine gC 83 (aN5 h37) ?_
 refine iB 84 h (fun h=>?_) fun h=>?_
 exact lp h
 obtain⟨r33,h39,h⟩:=bS h
 refine gC 88 (aM4 h39) ?_
 exact lp h
theorem Mz(rd:Option Nat)(h:RQ dG eE eI dH e9 eC dJ eO eQ eJ=some eK):Lq 87 rd 8342007 ⟨sp 121 0 [sI 1 dG,bx 5,bx 6,bx 8,bx 9,sD 10 (D.l X2.D) eE,sD 11 (D.l X2.D) eI,sI 12 dH,rx 14,sD 111 D.b e9],[cL 5 X3.D eC,(6,.cells ([dI dJ,.nil,.nil])),cL 8 X8.D eO,cL 9 AL.D eQ,(14,.row 117 5 (eJ.map X2.D))],[]⟩ (.normal,⟨sp 121 0 [sI 1 dG,bx 5,bx 6,bx 8,bx 9,sD 10 (D.l X2.D) eE,sD 11 (D.l X2.D) eK,sI 12 dH],[cL 5 X3.D eC,(6,.cells ([dI dJ,.nil,.nil])),cL 8 X8.D eO,cL 9 AL.D eQ],[]⟩):=by unfold RQ at h;apply g0 (o:=eK);cases e9;replace h:=Cy h;exact lp h;replace h:=Cz h;refine xX 114 X2.D h fun x39 h=>?_;obtain⟨r40,h48,h⟩:=bS h;refine gC 116 (aNz h48) ?_;exact lp h
theorem My(rd:Option Nat)(h:RP dG eE eI dH e9 eC dJ eO eQ eS eJ=some eT):Lq 87 rd 521375 ⟨sp 121 0 [sI 1 dG,bx 5,bx 6,bx 8,bx 9,sD 10 (D.l X2.D) eE,sD 11 (D.l X2.D) eI,sI 12 dH,bx 13,rx 14,sD 91 D.b e9],[cL 5 X3.D eC,(6,.cells ([dI dJ,.nil,.nil])),cL 8 X8.D eO,cL 9 AL.D eQ,cL 13 BQ.D eS,(14,.row 117 5 (eJ.map X2.D))],[]⟩ (match (generalizing:=false) eT with
 | .inl eT=>(.normal,⟨sp 121 0 [sI 1 dG,bx 5,bx 6,bx 8,bx 9,sD 10 (D.l X2.D) eE,sD 11 (D.l X2.D) eT,sI 12 dH],[cL 5 X3.D eC,(6,.cells ([dI dJ,.nil,.nil])),cL 8 X8.D eO,cL 9 AL.D eQ],[]⟩)
 | .inr eT=>(.ret,⟨sp 121 0 [bx 6,sD 7 D.b false],[cL 6 AL.D eQ],[]⟩)):=by
 unfold RP at h
 apply g0 (o:=eT)
 cases e9
 replace h:=Cy h
 exact lp h
 replace h:=Cz h
 obtain⟨r37,h42,h⟩:=bS h
 refine gC 96 (Ld h42) ?_
 refine iB 100 h (fun h=>?_) fun h=>?_
 refine xX 105 X0.D h fun x38 h=>?_
 refine iB 108 h (fun h=>?_) fun h=>?_
 exact lp h
 obtain⟨o41,h49,h⟩:=bS h
 refine gl (Mz rd h49) ?_
 exact lp h
 obtain⟨o42,h50,h⟩:=bS h
 refine gl (Mz rd h50) ?_
 exact lp h
theorem Wx(rd:Option Nat)(h:Ww dG eE eI dH eC dJ eO eQ=some eU):Lq 87 rd 8146 ⟨sp 121 0 [sI 1 dG,bx 5,bx 6,bx 8,bx 9,sD 10 (D.l X2.D) eE,sD 11 (D.l X2.D) eI,sI 12 dH],[cL 5 X3.D eC,(6,.cells ([dI dJ,.nil,.nil])),cL 8 X8.D eO,cL 9 AL.D eQ],[]⟩ (match (generalizing:=false) eU with
 | .inl eU=>(.normal,⟨sp 121 0 [sI 1 dG,bx 5,bx 6,bx 8,bx 9,sD 10 (D.l X2.D) eU.1,sD 11 (D.l X2.D) eU.2,sI 12 dH],[cL 5 X3.D eC,(6,.cells ([dI dJ,.nil,.nil])),cL 8 X8.D eO,cL 9 AL.D eQ],[]⟩)
 | .inr eU=>(.ret,⟨sp 121 0 [bx 6,sD 7 D.b false],[cL 6 AL.D eQ],[]⟩)):=by
 unfold Ww at h
 apply g0 (o:=eU)
 refine xX 53 BQ.D h fun x29 h=>?_
 refine xX 60 X0.D h fun x30 h=>?_
 refine gQ (AY X2.D [X2.mk x29.n x30]) ?_
 refine iB 67 h (fun h=>?_) fun h=>?_
 refine xX 73 X0.D h fun x31 h=>?_
 refine iB 76 h (fun h=>?_) fun h=>?_
 exact lp h
 obtain⟨o34,h40,h⟩:=bS h
 refine gL [.live [1,5,6,8,9,10,11,12,13,14,80],.keep [5,6,8,9,13,63],.ren 63 14,.sort] (Mx rd h40) ?_
 replace h:=AM h
 rcases h with⟨o35,rfl,h⟩|⟨o36,rfl,h⟩
 obtain⟨o43,h51,h⟩:=bS h
 refine gl (My rd h51) ?_
 replace h:=AM h
 rcases h with⟨o44,rfl,h⟩|⟨o45,rfl,h⟩
 exact lp h
 exact lp h
 exact lp h
 obtain⟨o46,h52,h⟩:=bS h
 refine gL [.live [1,5,6,8,9,10,11,12,13,14,80],.keep [5,6,8,9,13,63],.ren 63 14,.sort] (Mx rd h52) ?_
 replace h:=AM h
 rcases h with⟨o47,rfl,h⟩|⟨o48,rfl,h⟩
 obtain⟨o49,h53,h⟩:=bS h
 refine gl (My rd h53) ?_
 replace h:=AM h
 rcases h with⟨o50,rfl,h⟩|⟨o51,rfl,h⟩
 exact lp h
 exact lp h
 exact lp h
def RR(s1:Int)(w5:X3)(w6:Int)(w8:X8)(w9:AL)(s10 s11:List X2)(s12:Int):St:=⟨sp 121 0 [sI 1 s1,bx 5,bx 6,bx 8,bx 9,sD 10 (D.l X2.D) s10,sD 11 (D.l X2.D) s11,sI 12 s12],[cL 5 X3.D w5,(6,.cells ([dI w6,.nil,.nil])),cL 8 X8.D w8,cL 9 AL.D w9],[]⟩
def RS(s1:Int)(w5:X3)(w6:Int)(w8:X8)(w9:AL)(o:(List X2×List X2)⊕Unit):Ex×St:=match o with
 | .inl o=>(.exit 0,⟨sp 121 0 [sI 1 s1,bx 6,sD 10 (D.l X2.D) o.1,sD 11 (D.l X2.D) o.2],[(6,.cells ([dI w6,.nil,.nil]))],[]⟩)
 | .inr o=>(.ret,⟨sp 121 0 [bx 6,sD 7 D.b false],[cL 6 AL.D w9],[]⟩)
theorem Wy(rd:Option Nat)(h:OP dG eC dH eO eQ eE eI dJ=some eU):Lq 87 rd 1018 (RR dG eC dH eO eQ eE eI dJ) ((RS dG eC dH eO eQ) eU):=
 lL (fun s:List X2×List X2×Int=>RR dG eC dH eO eQ s.1 s.2.1 s.2.2) (RS dG eC dH eO eQ) (eE,eI,dJ) (fun⟨eE,eI,dJ⟩ o h=>by
 unfold GQ at h
 refine gN 46 BQ.D eO.args ?_
 refine iB 47 h (fun h=>?_) fun h=>?_
 obtain⟨o52,h54,h⟩:=bS h
 refine gl (Wx rd h54) ?_
 replace h:=AM h
 rcases h with⟨o53,rfl,h⟩|⟨o54,rfl,h⟩
 exact lb h
 exact lb h
 exact lb h) h
theorem aMq(h:Xk dK dG eC=some eV):AO Tryz.prog 87 [.d (AA.D dK),dI dG,.d (X3.D eC)] [] (.tup [.d (AL.D eV.1),.d (D.b eV.2)]) []:=by
 unfold Xk at h;apply g0 (o:=eV);refine xX 20 X8.D h fun x1 h=>?_;refine xX 27 X7.D h fun x2 h=>?_;refine iB 33 h (fun h=>?_) fun h=>?_;exact lf h;refine gN 36 BQ.D x1.args<|gN 39 X0.D eC.args ?_;refine iB 41 h (fun h=>?_) fun h=>?_;exact lf h;obtain⟨o55,h55,h⟩:=bS h;refine gL [.look 10,.look 11,.live [1,5,6,8,9,10,11,12],.keep [5,6,8,9]] (Wy none h55) ?_;replace h:=AM h;rcases h with⟨o56,rfl,h⟩|⟨o57,rfl,h⟩
 exact lf h;exact lf h
theorem XY(rd:Option Nat)(h:XX dG e9 dK eC eW eQ=some eX):Lq 68 rd 3731 ⟨sp 29 0 [bx 2,bx 3,rx 5,sI 6 dG,bx 7,sD 23 D.b e9],[cL 2 AA.D dK,cL 3 X3.D eC,(5,.row 137 3 (eW.map AL.D)),cL 7 AL.D eQ],[]⟩ (.normal,⟨sp 29 0 [bx 2,bx 3,rx 5,sI 6 dG],[cL 2 AA.D dK,cL 3 X3.D eC,(5,.row 137 3 (eX.map AL.D))],[]⟩):=by unfold XX at h;apply g0 (o:=eX);cases e9;replace h:=Cy h;exact lp h;replace h:=Cz h;refine gQ (AY AL.D [eQ])<|gG 27 (.sl ((eW++[eQ]).map AL.D)) (AY AL.D [eQ]) ?_;obtain⟨h10,h⟩:=cS h;refine gQ (Ab AL.D h10)<|gQ (AZ AL.D eW [eQ]) ?_;exact lP h [.live [2,3,5,6],.keep [2,3,27],.ren 27 5,.sort]
theorem XW(rd:Option Nat)(h:XV dG dK eC eW=some eX):Lq 68 rd 466 ⟨sp 29 0 [bx 2,bx 3,rx 5,sI 6 dG],[cL 2 AA.D dK,cL 3 X3.D eC,(5,.row 137 3 (eW.map AL.D))],[]⟩ (.normal,⟨sp 29 0 [bx 2,bx 3,rx 5,sI 6 dG],[cL 2 AA.D dK,cL 3 X3.D eC,(5,.row 137 3 (eX.map AL.D))],[]⟩):=by unfold XV at h;apply g0 (o:=eX);obtain⟨r4,h8,h⟩:=bS h;refine gC 20 (aMq h8) ?_;obtain⟨o5,h11,h⟩:=bS h;refine gl (XY rd h11) ?_;exact lp h
def R1(w2:AA)(w3:X3)(s6:Int)(w5:List AL):St:=⟨sp 29 0 [bx 2,bx 3,rx 5,sI 6 s6],[cL 2 AA.D w2,cL 3 X3.D w3,(5,.row 137 3 (w5.map AL.D))],[]⟩
def R2(w2:AA)(w3:X3)(o:(List AL)):Ex×St:=(.exit 0,⟨sp 29 0 [rx 5],[(5,.row 137 3 (o.map AL.D))],[]⟩)
theorem YA(rd:Option Nat)(h:aE8 dK eC dG eW=some eX):Lq 68 rd 58 (R1 dK eC dG eW) ((R2 dK eC) eX):=
 lL (fun s:Int×List AL=>R1 dK eC s.1 s.2) (R2 dK eC) (dG,eW) (fun⟨dG,eW⟩ o h=>by
 unfold GW at h
 refine gN 12 X8.D dK.symbols ?_
 refine iB 13 h (fun h=>?_) fun h=>?_
 obtain⟨o6,h12,h⟩:=bS h
 refine gl (XW rd h12) ?_
 exact lb h
 exact lb h) h
theorem aIt(h:Xx dK eC=some eW):AO Tryz.prog 68 [.d (AA.D dK),.d (X3.D eC)] [] (.d ((D.l AL.D) eW)) []:=by unfold Xx at h;apply g0 (o:=eW);obtain⟨o7,h13,h⟩:=bS h;refine gL [.live [2,3,5,6],.keep [2,3],.nil 5 5 137 3,.sort] (YA none h13) ?_;exact lf h
def Sv(s0:List X0)(w3:X0)(s5:Int):St:=⟨sp 48 0 [sD 0 (D.l X0.D) s0,bx 3,sI 5 s5],[cL 3 X0.D w3],[]⟩
def Sw(s0:List X0)(w3:X0)(o:Int):Ex×St:=(.exit 0,⟨sp 48 0 [sD 0 (D.l X0.D) s0,bx 3,sI 5 o],[cL 3 X0.D w3],[]⟩)
theorem aAb(rd:Option Nat)(h:aFq eY eF dG=some dH):Lq 64 rd 28 (Sv eY eF dG) ((Sw eY eF) dH):=
 lL (fun s:Int=>Sv eY eF s) (Sw eY eF) dG (fun dG o h=>by
 unfold Gi at h
 refine iB 11 h (fun h=>?_) fun h=>?_
 refine xX 16 X0.D h fun x1 h=>?_
 obtain⟨r2,h3,h⟩:=bS h
 refine gQ (aA9 h3) ?_
 cases r2
 replace h:=Cy h
 refine gW 18 (.ret (.d (D.b false))) ?_
 exact lb h
 replace h:=Cz h
 refine gW 18 (.ret (.d (D.b true))) ?_
 exact lb h
 exact lb h) h
theorem aNo(h:Ym eY eF=some eZ):AO Tryz.prog 64 [.d ((D.l X0.D) eY),.d (X0.D eF)] [] (.d ((D.l X0.D) eZ)) []:=by unfold Ym at h;apply g0 (o:=eZ);refine gN 8 X0.D eY ?_;obtain⟨o3,h5,h⟩:=bS h;refine gl (aAb none h5) ?_;refine iB 24 h (fun h=>?_) fun h=>?_;refine xX 28 X0.D h fun x4 h=>?_;refine iB 32 h (fun h=>?_) fun h=>?_;exact lf h;refine gQ (AY X0.D ([]:List X0))<|gW 37 (.sl ((sub eY 0 o3).map X0.D))<|gW 38 (.sl ((([]:List X0)++(sub eY 0 o3)).map X0.D))<|gW 42 (.sl (((([]:List X0)++(sub eY 0 o3))++[eF]).map X0.D))<|gW 46 (.sl ((sub eY o3 (eY.length:Int)).map X0.D))<|gW 47 (.sl ((((([]:List X0)++(sub eY 0 o3))++[eF])++(sub eY o3 (eY.length:Int))).map X0.D)) ?_;obtain⟨h9,h⟩:=cS h;refine gQ (DS X0.D h9)<|gQ (AY X0.D (sub eY 0 o3)) ?_;obtain⟨h10,h⟩:=cS h;refine gQ (Ab X0.D h10)<|gQ (AZ X0.D ([]:List X0) (sub eY 0 o3))<|gQ (AY X0.D [eF])<|gQ (AY X0.D [eF]) ?_;obtain⟨h11,h⟩:=cS h;refine gQ (Ab X0.D h11)<|gQ (AZ X0.D (([]:List X0)++(sub eY 0 o3)) [eF]) ?_;obtain⟨h12,h⟩:=cS h;refine gQ (DR X0.D h12)<|gQ (AY X0.D (sub eY o3 (eY.length:Int))) ?_;obtain⟨h13,h⟩:=cS h;refine gQ (Ab X0.D h13)<|gQ (AZ X0.D ((([]:List X0)++(sub eY 0 o3))++[eF]) (sub eY o3 (eY.length:Int))) ?_;exact lf h;refine gQ (AY X0.D ([]:List X0))<|gW 37 (.sl ((sub eY 0 o3).map X0.D))<|gW 38 (.sl ((([]:List X0)++(sub eY 0 o3)).map X0.D))<|gW 42 (.sl (((([]:List X0)++(sub eY 0 o3))++[eF]).map X0.D))<|gW 46 (.sl ((sub eY o3 (eY.length:Int)).map X0.D))<|gW 47 (.sl ((((([]:List X0)++(sub eY 0 o3))++[eF])++(sub eY o3 (eY.length:Int))).map X0.D)) ?_;obtain⟨h14,h⟩:=cS h;refine gQ (DS X0.D h14)<|gQ (AY X0.D (sub eY 0 o3)) ?_;obtain⟨h15,h⟩:=cS h;refine gQ (Ab X0.D h15)<|gQ (AZ X0.D ([]:List X0) (sub eY 0 o3))<|gQ (AY X0.D [eF])<|gQ (AY X0.D [eF]) ?_;obtain⟨h16,h⟩:=cS h;refine gQ (Ab X0.D h16)<|gQ (AZ X0.D (([]:List X0)++(sub eY 0 o3)) [eF]) ?_;obtain⟨h17,h⟩:=cS h;refine gQ (DR X0.D h17)<|gQ (AY X0.D (sub eY o3 (eY.length:Int))) ?_;obtain⟨h18,h⟩:=cS h;refine gQ (Ab X0.D h18)<|gQ (AZ X0.D ((([]:List X0)++(sub eY 0 o3))++[eF]) (sub eY o3 (eY.length:Int))) ?_;exact lf h
theorem Wp(rd:Option Nat)(h:RF f8 e9 dK eC=some eX):Lq 48 rd 61 ⟨sp 61 0 [sD 1 (D.l (D.l X0.D)) f8,bx 3,bx 5,(7,.nil),(8,.nil),sD 17 D.b e9],[cL 3 AA.D dK,cL 5 X3.D eC],[]⟩ (.normal,⟨sp 61 0 [sD 1 (D.l (D.l X0.D)) f8,bx 3,(7,.nil),sD 8 (D.l AL.D) eX],[cL 3 AA.D dK],[]⟩):=by unfold RF at h;apply g0 (o:=eX);cases e9;replace h:=Cy h;exact lP h [.look 8,.live [1,3,7,8],.keep [3]];replace h:=Cz h;obtain⟨r2,h3,h⟩:=bS h;refine gC 20 (aIt h3) ?_;exact lp h
theorem Wr(rd:Option Nat)(h:aE5 f8 eW dG e9 dK f9=some fA):Lq 48 rd 32037 ⟨sp 61 0 [sD 1 (D.l (D.l X0.D)) f8,bx 3,rx 7,sD 8 (D.l AL.D) eW,sI 9 dG,(10,.nil),sD 31 D.b e9],[cL 3 AA.D dK,(7,.row 42 1 (f9.map (D.l X0.D)))],[]⟩ (.normal,⟨sp 61 0 [sD 1 (D.l (D.l X0.D)) f8,bx 3,rx 7,sD 8 (D.l AL.D) eW,sI 9 dG,sD 10 (D.l X0.D) fA],[cL 3 AA.D dK,(7,.row 42 1 (f9.map (D.l X0.D)))],[]⟩):=by unfold aE5 at h;apply g0 (o:=fA);cases e9;replace h:=Cy h;exact lP h [.look 10,.live [1,3,7,8,9,10],.keep [3,7]];replace h:=Cz h;refine xX 34 (D.l X0.D) h fun x13 h=>?_;exact lp h
theorem RJ(rd:Option Nat)(h:RI f8 eW dG eY dH e9 dK f9 eF=some fA):Lq 48 rd 8201875 ⟨sp 61 0 [sD 1 (D.l (D.l X0.D)) f8,bx 3,rx 7,sD 8 (D.l AL.D) eW,sI 9 dG,sD 10 (D.l X0.D) eY,sI 11 dH,bx 12,sD 52 D.b e9],[cL 3 AA.D dK,(7,.row 42 1 (f9.map (D.l X0.D))),cL 12 X0.D eF],[]⟩ (.normal,⟨sp 61 0 [sD 1 (D.l (D.l X0.D)) f8,bx 3,rx 7,sD 8 (D.l AL.D) eW,sI 9 dG,sD 10 (D.l X0.D) fA,sI 11 dH],[cL 3 AA.D dK,(7,.row 42 1 (f9.map (D.l X0.D)))],[]⟩):=by unfold RI at h;apply g0 (o:=fA);cases e9;replace h:=Cy h;exact lp h;replace h:=Cz h;obtain⟨r17,h27,h⟩:=bS h;refine gC 55 (aNo h27) ?_;exact lp h
theorem RH(rd:Option Nat)(h:RG f8 eW dG eY dH dK f9=some fA):Lq 48 rd 1025234 ⟨sp 61 0 [sD 1 (D.l (D.l X0.D)) f8,bx 3,rx 7,sD 8 (D.l AL.D) eW,sI 9 dG,sD 10 (D.l X0.D) eY,sI 11 dH],[cL 3 AA.D dK,(7,.row 42 1 (f9.map (D.l X0.D)))],[]⟩ (.normal,⟨sp 61 0 [sD 1 (D.l (D.l X0.D)) f8,bx 3,rx 7,sD 8 (D.l AL.D) eW,sI 9 dG,sD 10 (D.l X0.D) fA,sI 11 dH],[cL 3 AA.D dK,(7,.row 42 1 (f9.map (D.l X0.D)))],[]⟩):=by unfold RG at h;apply g0 (o:=fA);refine xX 45 AL.D h fun x15 h=>?_;obtain⟨r16,h25,h⟩:=bS h;refine gC 49 (Ld h25) ?_;obtain⟨o18,h28,h⟩:=bS h;refine gl (RJ rd h28) ?_;exact lp h
def Mu(s1:List (List X0))(s8:List AL)(s9:Int)(w3:AA)(w7:List (List X0))(s10:List X0)(s11:Int):St:=⟨sp 61 0 [sD 1 (D.l (D.l X0.D)) s1,bx 3,rx 7,sD 8 (D.l AL.D) s8,sI 9 s9,sD 10 (D.l X0.D) s10,sI 11 s11],[cL 3 AA.D w3,(7,.row 42 1 (w7.map (D.l X0.D)))],[]⟩
def Mv(s1:List (List X0))(s8:List AL)(s9:Int)(w3:AA)(w7:List (List X0))(o:(List X0)):Ex×St:=(.exit 2,⟨sp 61 0 [sD 1 (D.l (D.l X0.D)) s1,bx 3,rx 7,sD 8 (D.l AL.D) s8,sI 9 s9,sD 10 (D.l X0.D) o],[cL 3 AA.D w3,(7,.row 42 1 (w7.map (D.l X0.D)))],[]⟩)
theorem RK(rd:Option Nat)(h:aDf f8 eW dG dK f9 eY dH=some fA):Lq 48 rd 128154 (Mu f8 eW dG dK f9 eY dH) ((Mv f8 eW dG dK f9) fA):=
 lL (fun s:List X0×Int=>Mu f8 eW dG dK f9 s.1 s.2) (Mv f8 eW dG dK f9) (eY,dH) (fun⟨eY,dH⟩ o h=>by
 unfold Mw at h
 refine gN 38 AL.D eW ?_
 refine iB 39 h (fun h=>?_) fun h=>?_
 obtain⟨o19,h29,h⟩:=bS h
 refine gl (RH rd h29) ?_
 exact lb h
 exact lb h) h
theorem Wq(rd:Option Nat)(h:aE4 f8 eW dG dK f9=some fB):Lq 48 rd 2002 ⟨sp 61 0 [sD 1 (D.l (D.l X0.D)) f8,bx 3,rx 7,sD 8 (D.l AL.D) eW,sI 9 dG],[cL 3 AA.D dK,(7,.row 42 1 (f9.map (D.l X0.D)))],[]⟩ (.normal,⟨sp 61 0 [sD 1 (D.l (D.l X0.D)) f8,bx 3,rx 7,sD 8 (D.l AL.D) eW,sI 9 dG],[cL 3 AA.D dK,(7,.row 42 1 (fB.map (D.l X0.D)))],[]⟩):=by unfold aE4 at h;apply g0 (o:=fB);refine gN 30 (D.l X0.D) f8 ?_;obtain⟨o14,h22,h⟩:=bS h;refine gl (Wr rd h22) ?_;obtain⟨o20,h30,h⟩:=bS h;refine gl (RK rd h30)<|gQ (AY (D.l X0.D) [o20])<|gG 59 (.sl ((f9++[o20]).map (D.l X0.D))) (AY (D.l X0.D) [o20]) ?_;obtain⟨h31,h⟩:=cS h;refine gQ (Ab (D.l X0.D) h31)<|gQ (AZ (D.l X0.D) f9 [o20]) ?_;exact lP h [.live [1,3,7,8,9],.keep [3,59],.ren 59 7,.sort]
def RL(s1:List (List X0))(s8:List AL)(w3:AA)(s9:Int)(w7:List (List X0)):St:=⟨sp 61 0 [sD 1 (D.l (D.l X0.D)) s1,bx 3,rx 7,sD 8 (D.l AL.D) s8,sI 9 s9],[cL 3 AA.D w3,(7,.row 42 1 (w7.map (D.l X0.D)))],[]⟩
def RN(s1:List (List X0))(s8:List AL)(w3:AA)(o:(List (List X0))):Ex×St:=(.exit 0,⟨sp 61 0 [rx 7],[(7,.row 42 1 (o.map (D.l X0.D)))],[]⟩)
theorem Wv(rd:Option Nat)(h:Wt f8 eW dK dG f9=some fB):Lq 48 rd 250 (RL f8 eW dK dG f9) ((RN f8 eW dK) fB):=
 lL (fun s:Int×List (List X0)=>RL f8 eW dK s.1 s.2) (RN f8 eW dK) (dG,f9) (fun⟨dG,f9⟩ o h=>by
 unfold I1 at h
 refine gN 24 Xq.D dK.quants ?_
 refine iB 25 h (fun h=>?_) fun h=>?_
 obtain⟨o21,h32,h⟩:=bS h
 refine gl (Wq rd h32) ?_
 exact lb h
 exact lb h) h
theorem aMo(h:Xj dK f8 eC=some f9):AO Tryz.prog 48 [.d (AA.D dK),.d ((D.l (D.l X0.D)) f8),.d (X3.D eC)] [] (.d ((D.l (D.l X0.D)) f9)) []:=by unfold Xj at h;apply g0 (o:=f9);obtain⟨r1,h1,h⟩:=bS h;refine gC 17 (aJj h1) ?_;obtain⟨o3,h4,h⟩:=bS h;refine gl (Wp none h4) ?_;obtain⟨o22,h33,h⟩:=bS h;refine gL [.live [1,3,7,8,9],.keep [3],.nil 7 7 42 1,.sort] (Wv none h33) ?_;exact lf h
def Td(s1:List X3)(w2:AA)(s5:List (List X0))(s6:Int):St:=⟨sp 25 0 [sD 1 (D.l X3.D) s1,bx 2,sD 5 (D.l (D.l X0.D)) s5,sI 6 s6],[cL 2 AA.D w2],[]⟩
def Te(s1:List X3)(w2:AA)(o:(List (List X0))):Ex×St:=(.exit 0,⟨sp 25 0 [sD 5 (D.l (D.l X0.D)) o],[],[]⟩)
theorem aAx(rd:Option Nat)(h:aF6 fC dK f8 dG=some fB):Lq 30 rd 58 (Td fC dK f8 dG) ((Te fC dK) fB):=
 lL (fun s:List (List X0)×Int=>Td fC dK s.1 s.2) (Te fC dK) (f8,dG) (fun⟨f8,dG⟩ o h=>by
 unfold Gx at h
 refine gN 13 X3.D fC ?_
 refine iB 14 h (fun h=>?_) fun h=>?_
 refine xX 21 X3.D h fun x3 h=>?_
 obtain⟨r4,h7,h⟩:=bS h
 refine gC 23 (aMo h7) ?_
 exact lb h
 exact lb h) h
theorem aOa(h:Z8 dK fC=some f8):AO Tryz.prog 30 [.d (AA.D dK),.d ((D.l X3.D) fC)] [] (.d ((D.l (D.l X0.D)) f8)) []:=by unfold Z8 at h;apply g0 (o:=f8);refine gN 9 Xq.D dK.quants<|gW 10 (.sl ((List.replicate (dK.quants.length:Int).toNat ([]:List X0)).map (D.l X0.D))) ?_;obtain⟨h1,h⟩:=cS h;refine gQ h1.1<|gQ (Int.le_refl (dK.quants.length:Int))<|gQ (Int.le_refl (dK.quants.length:Int))<|gQ (aD4 (D.l X0.D) ([]:List X0) h1.2)<|gQ (aD3 (D.l X0.D) (dK.quants.length:Int) ([]:List X0)) ?_;obtain⟨o5,h8,h⟩:=bS h;refine gL [.frz 10,.look 5,.live [1,2,5,6],.keep [2]] (aAx none h8) ?_;exact lf h
def Tf(w1:AA)(w3 s4:Int)(w600:List X0):St:=⟨sp 28 0 [bx 1,bx 3,sI 4 s4],[cL 1 AA.D w1,(3,.cells ([dI w3,.row 600])),(600,.row 81 4 (w600.map X0.D))],[]⟩
def Tg(w1:AA)(w3:Int)(o:(List X0)):Ex×St:=(.exit 0,⟨sp 28 0 [bx 3],[(3,.cells ([dI w3,.row 600])),(600,.row 81 4 (o.map X0.D))],[]⟩)
theorem aAy(rd:Option Nat)(h:aF7 dK dG dH eY=some fA):Lq 70 rd 58 (Tf dK dG dH eY) ((Tg dK dG) fA):=
 lL (fun s:Int×List X0=>Tf dK dG s.1 s.2) (Tg dK dG) (dH,eY) (fun⟨dH,eY⟩ o h=>by
 unfold Gy at h
 refine gN 11 Xt.D dK.frees ?_
 refine iB 12 h (fun h=>?_) fun h=>?_
 refine xX 20 Xt.D h fun x2 h=>?_
 refine gQ (AY X0.D [x2.init_])<|gG 24 (.sl ((eY++[x2.init_]).map X0.D)) (AY X0.D [x2.init_]) ?_
 obtain⟨h6,h⟩:=cS h
 refine gQ (Ab X0.D h6)<|gQ (AZ X0.D eY [x2.init_]) ?_
 exact lB h [.live [1,3,4],.keep [1,3,24],.ren 24 600,.sort]
 exact lb h) h
theorem aOb(h:Z9 dK=some fD):AO Tryz.prog 70 [.d (AA.D dK)] [] (.d ((D.l X4.D) fD)) []:=by unfold Z9 at h;apply g0 (o:=fD);refine gW 7 .frz ?_;obtain⟨o3,h7,h⟩:=bS h;refine gL [.live [1,3,4],.keep [1,3],.nilc 3 1 600 81 4,.frz 600,.sort] (aAy none h7)<|gQ (AY X4.D [X4.mk dK.start o3]) ?_;exact lf h
def TX(s0 s1:List X2)(s5:Int):St:=⟨sp 35 0 [sD 0 (D.l X2.D) s0,sD 1 (D.l X2.D) s1,sI 5 s5],[],[]⟩
def TY(s0 s1:List X2)(o:Unit⊕Unit):Ex×St:=match o with
 | .inl o=>(.exit 0,⟨sp 35 0 [],[],[]⟩)
 | .inr o=>(.ret,⟨sp 35 0 [sD 4 D.b false],[],[]⟩)
theorem aAt(rd:Option Nat)(h:aF4 eE eI dG=some eA):Lq 86 rd 26 (TX eE eI dG) ((TY eE eI) eA):=
 lL (fun s:Int=>TX eE eI s) (TY eE eI) dG (fun dG o h=>by
 unfold JH at h
 refine gN 10 X2.D eE ?_
 refine iB 11 h (fun h=>?_) fun h=>?_
 refine xX 18 X2.D h fun x1 h=>?_
 obtain⟨r2,h3,h⟩:=bS h
 refine gC 21 (Ld h3) ?_
 refine iB 26 h (fun h=>?_) fun h=>?_
 exact lb h
 refine xX 30 X2.D h fun x3 h=>?_
 refine iB 34 h (fun h=>?_) fun h=>?_
 exact lb h
 exact lb h
 exact lb h) h
theorem aN7(h:Z5 eE eI=some e9):AO Tryz.prog 86 [.d ((D.l X2.D) eE),.d ((D.l X2.D) eI)] [] (.d (D.b e9)) []:=by
 unfold Z5 at h;apply g0 (o:=e9);obtain⟨o4,h7,h⟩:=bS h;refine gl (aAt none h7) ?_;replace h:=AM h;rcases h with⟨o5,rfl,h⟩|⟨o6,rfl,h⟩
 exact lf h;exact lf h
theorem YT(rd:Option Nat)(h:YS eW eE dG e9 fE=some eX):Lq 67 rd 1865 ⟨sp 28 0 [sD 0 (D.l AL.D) eW,sD 1 (D.l X2.D) eE,rx 5,sI 6 dG,sD 19 D.b e9],[(5,.row 137 3 (fE.map AL.D))],[]⟩ (.normal,⟨sp 28 0 [sD 0 (D.l AL.D) eW,sD 1 (D.l X2.D) eE,rx 5,sI 6 dG],[(5,.row 137 3 (eX.map AL.D))],[]⟩):=by unfold YS at h;apply g0 (o:=eX);cases e9;replace h:=Cy h;exact lp h;replace h:=Cz h;refine xX 23 AL.D h fun x8 h=>?_;refine gQ (AY AL.D [x8])<|gG 26 (.sl ((fE++[x8]).map AL.D)) (AY AL.D [x8]) ?_;obtain⟨h14,h⟩:=cS h;refine gQ (Ab AL.D h14)<|gQ (AZ AL.D fE [x8]) ?_;exact lP h [.live [0,1,5,6],.keep [26],.ren 26 5,.sort]
theorem YR(rd:Option Nat)(h:YQ eW eE dG fE=some eX):Lq 67 rd 466 ⟨sp 28 0 [sD 0 (D.l AL.D) eW,sD 1 (D.l X2.D) eE,rx 5,sI 6 dG],[(5,.row 137 3 (fE.map AL.D))],[]⟩ (.normal,⟨sp 28 0 [sD 0 (D.l AL.D) eW,sD 1 (D.l X2.D) eE,rx 5,sI 6 dG],[(5,.row 137 3 (eX.map AL.D))],[]⟩):=by unfold YQ at h;apply g0 (o:=eX);refine xX 15 AL.D h fun x6 h=>?_;obtain⟨r7,h11,h⟩:=bS h;refine gC 19 (aN7 h11) ?_;obtain⟨o9,h15,h⟩:=bS h;refine gl (YT rd h15) ?_;exact lp h
def SH(s0:List AL)(s1:List X2)(s6:Int)(w5:List AL):St:=⟨sp 28 0 [sD 0 (D.l AL.D) s0,sD 1 (D.l X2.D) s1,rx 5,sI 6 s6],[(5,.row 137 3 (w5.map AL.D))],[]⟩
def SI(s0:List AL)(s1:List X2)(o:(List AL)):Ex×St:=(.exit 0,⟨sp 28 0 [rx 5],[(5,.row 137 3 (o.map AL.D))],[]⟩)
theorem YU(rd:Option Nat)(h:aFb eW eE dG fE=some eX):Lq 67 rd 58 (SH eW eE dG fE) ((SI eW eE) eX):=
 lL (fun s:Int×List AL=>SH eW eE s.1 s.2) (SI eW eE) (dG,fE) (fun⟨dG,fE⟩ o h=>by
 unfold I4 at h
 refine gN 9 AL.D eW ?_
 refine iB 10 h (fun h=>?_) fun h=>?_
 obtain⟨o10,h16,h⟩:=bS h
 refine gl (YR rd h16) ?_
 exact lb h
 exact lb h) h
theorem aM9(h:Y3 eW eE=some fE):AO Tryz.prog 67 [.d ((D.l AL.D) eW),.d ((D.l X2.D) eE)] [] (.d ((D.l AL.D) fE)) []:=by unfold Y3 at h;apply g0 (o:=fE);obtain⟨o11,h17,h⟩:=bS h;refine gL [.live [0,1,5,6],.keep [],.nil 5 5 137 3,.sort] (YU none h17) ?_;exact lf h
def Tp(us:List Value)(s1:List X2)(s6:Int)(w5:List X0):St:=⟨sp 29 0 [sD 1 (D.l X2.D) s1,rx 5,sI 6 s6],[rW 5 81 4 X0.D w5,(997,.vals [] us)],[]⟩
def Tq(us:List Value)(s1:List X2)(o:(List X0)):Ex×St:=(.exit 0,⟨sp 29 0 [rx 5],[rW 5 81 4 X0.D o,(997,.vals [] us)],[]⟩)
theorem aA5(rd:Option Nat)(us:List Value)(h:aGd eE dG eY=some fA):Lq 131 rd 58 (Tp us eE dG eY) ((Tq us eE) fA):=
 lL (fun s:Int×List X0=>Tp us eE s.1 s.2) (Tq us eE) (dG,eY) (fun⟨dG,eY⟩ o h=>by
 unfold Lg at h
 refine gN 12 X2.D eE ?_
 refine iB 13 h (fun h=>?_) fun h=>?_
 refine xX 19 X2.D h fun x1 h=>?_
 refine xX 24 X2.D h fun x2 h=>?_
 refine gW 10027 (.sl ((eY.set x1.var.toNat x2.value).map X0.D)) ?_
 obtain⟨h5,h⟩:=cS h
 refine gQ h5.1<|gQ (DJ X0.D h5.2) ?_
 obtain⟨h6,h⟩:=cS h
 refine gQ (Us X0.D h6)<|gQ (Hq X0.D eY x1.var x2.value) ?_
 exact lb h
 exact lb h) h
theorem aOg(h:Zg eY eE=some eZ):AO Tryz.prog 131 [.d ((D.l X0.D) eY),.d ((D.l X2.D) eE)] [] (.row 0) [rW 0 81 4 X0.D eZ]:=by unfold Zg at h;refine XG.call (ks:=[]) mixed fun us=>?_;apply g0 (o:=eZ);refine gQ (AY X0.D ([]:List X0))<|gG 9 (.rwl ((eY).map X0.D)) (AY X0.D eY) ?_;obtain⟨h1,h⟩:=cS h;refine gQ (Ab X0.D h1)<|gQ (AZ X0.D ([]:List X0) eY) ?_;obtain⟨o3,h7,h⟩:=bS h;refine gL [.live [1,5,6],.keep [9,997],.ren 9 5,.sort] (aA5 none us h7) ?_;exact lX h [.live [4],.keep [5,997],.ren 5 0,.sort]
theorem aGf(self:AA->Int->(List X2)->(List X0)->Option (X0×Int))(hs:∀(a0:AA) (a1:Int) (a2:List X2) (a3:List X0) (r:X0×Int),self a0 a1 a2 a3=some r->AO Tryz.prog 136 [.d (AA.D a0),dI a1,.d ((D.l X2.D) a2),.d ((D.l X0.D) a3)] [] (.tup [.d (X0.D r.1),dI r.2]) [])(a0:AA)(a1:Int)(a2:List X2)(a3:List X0)(r:X0×Int)(h:aOl self a0 a1 a2 a3=some r):AO Tryz.prog 136 [.d (AA.D a0),dI a1,.d ((D.l X2.D) a2),.d ((D.l X0.D) a3)] [] (.tup [.d (X0.D r.1),dI r.2]) []:=by unfold aOl at h;apply g0 (o:=r);refine xX 19 Y7.D h fun x1 h=>?_;refine iB 23 h (fun h=>?_) fun h=>?_;exact lf h;refine iB 28 h (fun h=>?_) fun h=>?_;obtain⟨r2,h4,h⟩:=bS h;refine gC 33 (Ld h4) ?_;refine iB 38 h (fun h=>?_) fun h=>?_;exact lf h;refine xX 45 Xq.D h fun x3 h=>?_;refine iB 49 h (fun h=>?_) fun h=>?_;exact lf h;exact lf h;refine iB 54 h (fun h=>?_) fun h=>?_;refine xX 58 X0.D h fun x4 h=>?_;exact lf h;obtain⟨r5,h10,h⟩:=bS h;refine gG 66 (.ret (.tup [.d (X0.D r5.1),dI r5.2])) (hs a0 x1.a a2 a3 r5 h10) ?_;refine iB 70 h (fun h=>?_) fun h=>?_;exact lf h;refine iB 75 h (fun h=>?_) fun h=>?_;obtain⟨r6,h13,h⟩:=bS h;refine gC 80 (OY h13) ?_;exact lf h;refine iB 86 h (fun h=>?_) fun h=>?_;refine iB 91 h (fun h=>?_) fun h=>?_;exact lf h;refine iB 95 h (fun h=>?_) fun h=>?_;refine iB 99 h (fun h=>?_) fun h=>?_;exact lf h;obtain⟨r7,h18,h⟩:=bS h;refine gG 107 (.ret (.tup [.d (X0.D r7.1),dI r7.2])) (hs a0 x1.b a2 a3 r7 h18) ?_;refine iB 111 h (fun h=>?_) fun h=>?_;exact lf h;obtain⟨r8,h20,h⟩:=bS h;refine gC 118 (OY h20) ?_;exact lf h;obtain⟨r9,h21,h⟩:=bS h;refine gG 107 (.ret (.tup [.d (X0.D r9.1),dI r9.2])) (hs a0 x1.b a2 a3 r9 h21) ?_;refine iB 111 h (fun h=>?_) fun h=>?_;exact lf h;obtain⟨r10,h23,h⟩:=bS h;refine gC 118 (OY h23) ?_;exact lf h;refine iB 95 h (fun h=>?_) fun h=>?_;refine iB 99 h (fun h=>?_) fun h=>?_;exact lf h;obtain⟨r11,h26,h⟩:=bS h;refine gG 107 (.ret (.tup [.d (X0.D r11.1),dI r11.2])) (hs a0 x1.b a2 a3 r11 h26) ?_;refine iB 111 h (fun h=>?_) fun h=>?_;exact lf h;obtain⟨r12,h28,h⟩:=bS h;refine gC 118 (OY h28) ?_;exact lf h;obtain⟨r13,h29,h⟩:=bS h;refine gG 107 (.ret (.tup [.d (X0.D r13.1),dI r13.2])) (hs a0 x1.b a2 a3 r13 h29) ?_;refine iB 111 h (fun h=>?_) fun h=>?_;exact lf h;obtain⟨r14,h31,h⟩:=bS h;refine gC 118 (OY h31) ?_;exact lf h
theorem Tv:∀(n:Nat) (a0:AA) (a1:Int) (a2:List X2) (a3:List X0) (r:X0×Int),aK3 n a0 a1 a2 a3=some r->AO Tryz.prog 136 [.d (AA.D a0),dI a1,.d ((D.l X2.D) a2),.d ((D.l X0.D) a3)] [] (.tup [.d (X0.D r.1),dI r.2]) []
 |0,a0,a1,a2,a3,r,h=>by simp[aK3]at h
 |n+1,a0,a1,a2,a3,r,h=>aGf _ (Tv n) a0 a1 a2 a3 r h
theorem aJx(h:Zm dK dG eE eY=some fF):AO Tryz.prog 136 [.d (AA.D dK),dI dG,.d ((D.l X2.D) eE),.d ((D.l X0.D) eY)] [] (.tup [.d (X0.D fF.1),dI fF.2]) []:=Tv 100000 dK dG eE eY fF h
theorem aLu(h:Qo dK dG eE eY=some dY):AO Tryz.prog 132 [.d (AA.D dK),dI dG,.d ((D.l X2.D) eE),.d ((D.l X0.D) eY)] [] (.tup [.d (D.b dY.1),dI dY.2]) []:=by unfold Qo at h;apply g0 (o:=dY);refine xX 16 Xe.D h fun x1 h=>?_;refine iB 20 h (fun h=>?_) fun h=>?_;exact lf h;obtain⟨r2,h3,h⟩:=bS h;refine gC 26 (aJx h3) ?_;exact lf h
def Tr(us:List Value)(s2:List X2)(s11:List DN)(w3:List X0)(w4:AA)(s12:Int)(w10:List X0):St:=⟨sp 54 0 [sD 2 (D.l X2.D) s2,rx 3,bx 4,rx 10,sD 11 (D.l DN.D) s11,sI 12 s12],[(3,.row 81 4 (w3.map X0.D)),cL 4 AA.D w4,rW 10 81 4 X0.D w10,(997,.vals [] us)],[]⟩
def Ts(us:List Value)(s2:List X2)(s11:List DN)(w3:List X0)(w4:AA)(o:(List X0)⊕Int):Ex×St:=match o with
 | .inl o=>(.exit 0,⟨sp 54 0 [rx 10],[rW 10 81 4 X0.D o,(997,.vals [] us)],[]⟩)
 | .inr o=>(.ret,⟨sp 54 0 [(8,.nil),sI 9 o],[(997,.vals [] us)],[]⟩)
theorem aA6(rd:Option Nat)(us:List Value)(h:aGe eE fG eY dK dG eZ=some fH):Lq 133 rd 122 (Tr us eE fG eY dK dG eZ) ((Ts us eE fG eY dK) fH):=
 lL (fun s:Int×List X0=>Tr us eE fG eY dK s.1 s.2) (Ts us eE fG eY dK) (dG,eZ) (fun⟨dG,eZ⟩ o h=>by
 unfold Lh at h
 refine gN 26 DN.D fG ?_
 refine iB 27 h (fun h=>?_) fun h=>?_
 refine xX 34 DN.D h fun x2 h=>?_
 obtain⟨r3,h5,h⟩:=bS h
 refine gC 39 (aJx h5) ?_
 refine iB 43 h (fun h=>?_) fun h=>?_
 exact lb h
 refine xX 48 DN.D h fun x4 h=>?_
 refine gW 10052 (.sl ((eZ.set x4.free.toNat r3.1).map X0.D)) ?_
 obtain⟨h8,h⟩:=cS h
 refine gQ h8.1<|gQ (DJ X0.D h8.2) ?_
 obtain⟨h9,h⟩:=cS h
 refine gQ (Us X0.D h9)<|gQ (Hq X0.D eZ x4.free r3.1) ?_
 exact lb h
 exact lb h) h
theorem aOh(h:Zh dK dG eE eY=some fJ):AO Tryz.prog 133 [.d (AA.D dK),dI dG,.d ((D.l X2.D) eE),.row 0] [rW 0 81 4 X0.D eY] (.tup [.d ((D.l X0.D) fJ.1),dI fJ.2]) []:=by
 unfold Zh at h;refine XG.call (ks:=[]) mixed fun us=>?_;apply g0 (o:=fJ);refine gQ (AY X0.D ([]:List X0))<|gG 17 (.rwl ((eY).map X0.D)) (AY X0.D eY)<|gW 16 (.fzn 0) ?_;obtain⟨h1,h⟩:=cS h;refine gQ (Ab X0.D h1)<|gQ (AZ X0.D ([]:List X0) eY)<|xX 21 Xe.D h fun x1 h=>?_;obtain⟨o5,h10,h⟩:=bS h;refine gL [.live [2,3,4,10,11,12],.keep [0,4,17,997],.ren 0 3,.ren 17 10,.sort] (aA6 none us h10) ?_;replace h:=AM h;rcases h with⟨o6,rfl,h⟩|⟨o7,rfl,h⟩
 exact lX h [.frz 10,.look 8,.live [8,9],.keep [997]];exact lX h [.look 8,.live [8,9],.keep [997]]
theorem aLv(h:Qp dK dG fK eQ=some fL):AO Tryz.prog 120 [.d (AA.D dK),dI dG,.d (X4.D fK),.d (AL.D eQ)] [] (.tup [.d (X4.D fL.1),.d (D.b fL.2.1),dI fL.2.2]) []:=by unfold Qp at h;apply g0 (o:=fL);obtain⟨r1,h1,h⟩:=bS h;refine gG 19 (.cx false [] [(0,19)] (.row 0) [rW 0 81 4 X0.D r1]) (aOg h1) ?_;obtain⟨r2,h2,h⟩:=bS h;refine gG 26 (.lend [19] (.tup [.d (D.b r2.1),dI r2.2])) (aLu h2) ?_;refine iB 31 h (fun h=>?_) fun h=>?_;exact lf h;refine iB 34 h (fun h=>?_) fun h=>?_;exact lf h;obtain⟨r3,h5,h⟩:=bS h;refine gG 43 (.cx false [(0,19)] [] (.tup [.d ((D.l X0.D) r3.1),dI r3.2]) []) (aOh h5) ?_;refine iB 47 h (fun h=>?_) fun h=>?_;exact lf h;refine xX 53 Xe.D h fun x4 h=>?_;exact lf h
theorem aIa(h:Qk dG dH=some dJ):AO Tryz.prog 110 [dI dG,dI dH] [] (dI dJ) []:=by unfold Qk at h;apply g0 (o:=dJ);refine iB 7 h (fun h=>?_) fun h=>?_;exact lf h;refine iB 10 h (fun h=>?_) fun h=>?_;refine iB 15 h (fun h=>?_) fun h=>?_;exact lf h;exact lf h;exact lf h
def Sd(w2 w3:X4)(s5:Int):St:=⟨sp 59 0 [bx 2,bx 3,sI 5 s5],[cL 2 X4.D w2,cL 3 X4.D w3],[]⟩
def Se(w2 w3:X4)(o:Unit⊕Bool):Ex×St:=match o with
 | .inl o=>(.exit 0,⟨sp 59 0 [bx 2,bx 3],[cL 2 X4.D w2,cL 3 X4.D w3],[]⟩)
 | .inr o=>(.ret,⟨sp 59 0 [sD 4 D.b o],[],[]⟩)
theorem ZR(rd:Option Nat)(h:ZP fK fM dG=some fN):Lq 121 rd 58 (Sd fK fM dG) ((Se fK fM) fN):=
 lL (fun s:Int=>Sd fK fM s) (Se fK fM) dG (fun dG o h=>by
 unfold I9 at h
 refine gN 19 X0.D fK.vals ?_
 refine iB 21 h (fun h=>?_) fun h=>?_
 refine gN 25 X0.D fM.vals ?_
 refine iB 27 h (fun h=>?_) fun h=>?_
 refine xX 33 X0.D h fun x1 h=>?_
 refine xX 38 X0.D h fun x2 h=>?_
 refine iB 40 h (fun h=>?_) fun h=>?_
 refine xX 44 X0.D h fun x3 h=>?_
 refine xX 49 X0.D h fun x4 h=>?_
 obtain⟨r5,h9,h⟩:=bS h
 refine gC 51 (aA9 h9) ?_
 exact lb h
 exact lb h
 exact lb h
 exact lb h) h
theorem ZS(h:Ye fK fM=some e9):AO Tryz.prog 121 [.d (X4.D fK),.d (X4.D fM)] [] (.d (D.b e9)) []:=by
 unfold Ye at h;apply g0 (o:=e9);refine iB 10 h (fun h=>?_) fun h=>?_;exact lf h;obtain⟨o6,h10,h⟩:=bS h;refine gl (ZR none h10) ?_;replace h:=AM h;rcases h with⟨o7,rfl,h⟩|⟨o8,rfl,h⟩
 refine gN 54 X0.D fK.vals<|gN 57 X0.D fM.vals ?_;exact lf h;exact lf h
theorem aH4(h:Q5 fK fM=some e9):AO Tryz.prog 122 [.d (X4.D fK),.d (X4.D fM)] [] (.d (D.b e9)) []:=by unfold Q5 at h;apply g0 (o:=e9);obtain⟨r1,h1,h⟩:=bS h;refine gC 7 (ZS h1) ?_;refine iB 9 h (fun h=>?_) fun h=>?_;obtain⟨r2,h3,h⟩:=bS h;refine gC 12 (ZS h3) ?_;exact lf h;exact lf h
def Sz(us:List Value)(w0:List X4)(w3:X4)(s5:Int):St:=⟨sp 48 0 [rx 0,bx 3,sI 5 s5],[rW 0 171 2 X4.D w0,cL 3 X4.D w3,(997,.vals [] us)],[]⟩
def S0(us:List Value)(w0:List X4)(w3:X4)(o:Int):Ex×St:=(.exit 0,⟨sp 48 0 [rx 0,bx 3,sI 5 o],[rW 0 171 2 X4.D w0,cL 3 X4.D w3,(997,.vals [] us)],[]⟩)
theorem aAd(rd:Option Nat)(us:List Value)(h:OV fD fK dG=some dH):Lq 111 rd 28 (Sz us fD fK dG) ((S0 us fD fK) dH):=
 lL (fun s:Int=>Sz us fD fK s) (S0 us fD fK) dG (fun dG o h=>by
 unfold E3 at h
 refine iB 11 h (fun h=>?_) fun h=>?_
 obtain⟨h2,h⟩:=cS h
 refine gQ h2.1<|gQ (DJ X4.D h2.2) ?_
 obtain⟨x1,h3,h⟩:=xS h
 refine gG 17 (.el (X4.D x1)) (Dh X4.D h3) ?_
 obtain⟨r2,h4,h⟩:=bS h
 refine gQ (ZS h4) ?_
 cases r2
 replace h:=Cy h
 refine gW 18 (.ret (.d (D.b false))) ?_
 exact lb h
 replace h:=Cz h
 refine gW 18 (.ret (.d (D.b true))) ?_
 exact lb h
 exact lb h) h
theorem aNr(h:Yo fK fD=some fO):AO Tryz.prog 111 [.row 0,.d (X4.D fK)] [rW 0 171 2 X4.D fD] (.row 1) [rW 1 171 2 X4.D fO]:=by unfold Yo at h;refine XG.call (ks:=[]) mixed fun us=>?_;apply g0 (o:=fO);refine gN 8 X4.D fD ?_;obtain⟨o3,h6,h⟩:=bS h;refine gl (aAd none us h6) ?_;refine iB 24 h (fun h=>?_) fun h=>?_;obtain⟨h8,h⟩:=cS h;refine gQ h8.1<|gQ (DJ X4.D h8.2) ?_;obtain⟨x4,h9,h⟩:=xS h;refine gG 29 (.el (X4.D x4)) (Dh X4.D h9) ?_;obtain⟨r5,h10,h⟩:=bS h;refine gQ (aH4 h10) ?_;cases r5;replace h:=Cy h;refine gQ (AY X4.D ([]:List X4))<|gW 31 (.ret (.d (D.b false)))<|gW 35 (.fzn 0)<|gW 37 (.sl ((sub fD 0 o3).map X4.D))<|gW 38 (.rwl ((sub fD 0 o3).map X4.D))<|gW 42 (.rwl (((sub fD 0 o3)++[fK]).map X4.D))<|gW 46 (.sl ((sub fD o3 (fD.length:Int)).map X4.D))<|gW 47 (.rwl ((((sub fD 0 o3)++[fK])++(sub fD o3 (fD.length:Int))).map X4.D)) ?_;obtain⟨h12,h⟩:=cS h;refine gQ (DS X4.D h12)<|gQ (AY X4.D (sub fD 0 o3)) ?_;obtain⟨h13,h⟩:=cS h;refine gQ (Ab X4.D h13)<|gQ (AZ X4.D ([]:List X4) (sub fD 0 o3))<|gQ (AY X4.D [fK])<|gQ (AY X4.D [fK]) ?_;obtain⟨h14,h⟩:=cS h;refine gQ (Ab X4.D h14)<|gQ (AZ X4.D (sub fD 0 o3) [fK]) ?_;obtain⟨h15,h⟩:=cS h;refine gQ (DR X4.D h15)<|gQ (AY X4.D (sub fD o3 (fD.length:Int))) ?_;obtain⟨h16,h⟩:=cS h;refine gQ (Ab X4.D h16)<|gQ (AZ X4.D ((sub fD 0 o3)++[fK]) (sub fD o3 (fD.length:Int))) ?_;exact lX h [.live [4],.keep [47,997],.ren 47 1,.sort];replace h:=Cz h;refine gW 31 (.ret (.d (D.b true))) ?_;exact lX h [.live [4],.keep [0,997],.ren 0 1,.sort];refine gQ (AY X4.D ([]:List X4))<|gW 35 (.fzn 0)<|gW 37 (.sl ((sub fD 0 o3).map X4.D))<|gW 38 (.rwl ((sub fD 0 o3).map X4.D))<|gW 42 (.rwl (((sub fD 0 o3)++[fK]).map X4.D))<|gW 46 (.sl ((sub fD o3 (fD.length:Int)).map X4.D))<|gW 47 (.rwl ((((sub fD 0 o3)++[fK])++(sub fD o3 (fD.length:Int))).map X4.D)) ?_;obtain⟨h17,h⟩:=cS h;refine gQ (DS X4.D h17)<|gQ (AY X4.D (sub fD 0 o3)) ?_;obtain⟨h18,h⟩:=cS h;refine gQ (Ab X4.D h18)<|gQ (AZ X4.D ([]:List X4) (sub fD 0 o3))<|gQ (AY X4.D [fK])<|gQ (AY X4.D [fK]) ?_;obtain⟨h19,h⟩:=cS h;refine gQ (Ab X4.D h19)<|gQ (AZ X4.D (sub fD 0 o3) [fK]) ?_;obtain⟨h20,h⟩:=cS h;refine gQ (DR X4.D h20)<|gQ (AY X4.D (sub fD o3 (fD.length:Int))) ?_;obtain⟨h21,h⟩:=cS h;refine gQ (Ab X4.D h21)<|gQ (AZ X4.D ((sub fD 0 o3)++[fK]) (sub fD o3 (fD.length:Int))) ?_;exact lX h [.live [4],.keep [47,997],.ren 47 1,.sort]
theorem Wm(rd:Option Nat)(h:Wl eW dG dH dJ e9 dK fK fD fM=some fP):Lq 109 rd 4007503 ⟨sp 89 0 [sD 2 (D.l AL.D) eW,bx 3,bx 4,rx 8,sI 9 dG,sI 10 dH,sI 11 dJ,bx 12,sD 64 D.b e9],[cL 3 AA.D dK,cL 4 X4.D fK,rW 8 171 2 X4.D fD,cL 12 X4.D fM],[]⟩ (.normal,⟨sp 89 0 [sD 2 (D.l AL.D) eW,bx 3,bx 4,rx 8,sI 9 dG,sI 10 dH,sI 11 dJ],[cL 3 AA.D dK,cL 4 X4.D fK,rW 8 171 2 X4.D fP],[]⟩):=by unfold Wl at h;apply g0 (o:=fP);cases e9;replace h:=Cy h;exact lp h;replace h:=Cz h;obtain⟨r7,h12,h⟩:=bS h;refine gG 67 (.cx false [(0,8)] [(1,67)] (.row 1) [rW 1 171 2 X4.D r7]) (aNr h12) ?_;exact lP h [.live [2,3,4,8,9,10,11],.keep [3,4,67],.ren 67 8,.sort]
theorem Wj(rd:Option Nat)(h:Wi eW dG dH dJ dK fK fD=some fQ):Lq 109 rd 125234 ⟨sp 89 0 [sD 2 (D.l AL.D) eW,bx 3,bx 4,rx 8,sI 9 dG,sI 10 dH,sI 11 dJ],[cL 3 AA.D dK,cL 4 X4.D fK,rW 8 171 2 X4.D fD],[]⟩ (.normal,⟨sp 89 0 [sD 2 (D.l AL.D) eW,bx 3,bx 4,rx 8,sI 9 fQ.1,sI 10 dH,sI 11 dJ],[cL 3 AA.D dK,cL 4 X4.D fK,rW 8 171 2 X4.D fQ.2],[]⟩):=by unfold Wi at h;apply g0 (o:=fQ);refine xX 39 AL.D h fun x2 h=>?_;refine xX 45 Xe.D h fun x3 h=>?_;refine iB 48 h (fun h=>?_) fun h=>?_;exact lp h;refine xX 55 AL.D h fun x4 h=>?_;obtain⟨r5,h9,h⟩:=bS h;refine gC 57 (aLv h9) ?_;obtain⟨r6,h10,h⟩:=bS h;refine gC 63 (aIa h10) ?_;obtain⟨o8,h13,h⟩:=bS h;refine gl (Wm rd h13) ?_;exact lp h
def RC(s2:List AL)(s10:Int)(w3:AA)(w4:X4)(s9 s11:Int)(w8:List X4):St:=⟨sp 89 0 [sD 2 (D.l AL.D) s2,bx 3,bx 4,rx 8,sI 9 s9,sI 10 s10,sI 11 s11],[cL 3 AA.D w3,cL 4 X4.D w4,rW 8 171 2 X4.D w8],[]⟩
def RE(s2:List AL)(s10:Int)(w3:AA)(w4:X4)(o:(Int×List X4)):Ex×St:=(.exit 2,⟨sp 89 0 [sD 2 (D.l AL.D) s2,bx 3,bx 4,rx 8,sI 9 o.1,sI 10 s10],[cL 3 AA.D w3,cL 4 X4.D w4,rW 8 171 2 X4.D o.2],[]⟩)
theorem Wo(rd:Option Nat)(h:aE3 eW dG dK fK dH dJ fD=some fQ):Lq 109 rd 15654 (RC eW dG dK fK dH dJ fD) ((RE eW dG dK fK) fQ):=
 lL (fun s:Int×Int×List X4=>RC eW dG dK fK s.1 s.2.1 s.2.2) (RE eW dG dK fK) (dH,dJ,fD) (fun⟨dH,dJ,fD⟩ o h=>by
 unfold GP at h
 refine gN 33 AL.D eW ?_
 refine iB 34 h (fun h=>?_) fun h=>?_
 obtain⟨o9,h14,h⟩:=bS h
 refine gl (Wj rd h14) ?_
 exact lb h
 exact lb h) h
theorem Wh(rd:Option Nat)(h:Wg eW dG dH dK fK fD=some fQ):Lq 109 rd 978 ⟨sp 89 0 [sD 2 (D.l AL.D) eW,bx 3,bx 4,rx 8,sI 9 dG,sI 10 dH],[cL 3 AA.D dK,cL 4 X4.D fK,rW 8 171 2 X4.D fD],[]⟩ (.normal,⟨sp 89 0 [sD 2 (D.l AL.D) eW,bx 3,bx 4,rx 8,sI 9 fQ.1,sI 10 dH],[cL 3 AA.D dK,cL 4 X4.D fK,rW 8 171 2 X4.D fQ.2],[]⟩):=by unfold Wg at h;apply g0 (o:=fQ);refine xX 25 Xe.D h fun x1 h=>?_;refine iB 30 h (fun h=>?_) fun h=>?_;exact lp h;obtain⟨o10,h15,h⟩:=bS h;refine gl (Wo rd h15) ?_;exact lp h
def QY(s2:List AL)(w3:AA)(w4:X4)(s9 s10:Int)(w8:List X4):St:=⟨sp 89 0 [sD 2 (D.l AL.D) s2,bx 3,bx 4,rx 8,sI 9 s9,sI 10 s10],[cL 3 AA.D w3,cL 4 X4.D w4,rW 8 171 2 X4.D w8],[]⟩
def QZ(s2:List AL)(w3:AA)(w4:X4)(o:(Int×List X4)):Ex×St:=(.exit 0,⟨sp 89 0 [bx 3,bx 4,rx 8,sI 9 o.1],[cL 3 AA.D w3,cL 4 X4.D w4,rW 8 171 2 X4.D o.2],[]⟩)
theorem Wn(rd:Option Nat)(h:aE2 eW dK fK dG dH fD=some fQ):Lq 109 rd 122 (QY eW dK fK dG dH fD) ((QZ eW dK fK) fQ):=
 lL (fun s:Int×Int×List X4=>QY eW dK fK s.1 s.2.1 s.2.2) (QZ eW dK fK) (dG,dH,fD) (fun⟨dG,dH,fD⟩ o h=>by
 unfold GO at h
 refine gN 18 Xe.D dK.trans ?_
 refine iB 19 h (fun h=>?_) fun h=>?_
 obtain⟨o11,h16,h⟩:=bS h
 refine gl (Wh rd h16) ?_
 exact lb h
 exact lb h) h
theorem Mt(rd:Option Nat)(h:QX e9 fK fD=some fP):Lq 109 rd 253 ⟨sp 89 0 [bx 4,rx 8,sD 83 D.b e9],[cL 4 X4.D fK,rW 8 171 2 X4.D fD],[]⟩ (.normal,⟨sp 89 0 [rx 8],[rW 8 171 2 X4.D fP],[]⟩):=by unfold QX at h;apply g0 (o:=fP);cases e9;replace h:=Cy h;exact lp h;replace h:=Cz h;refine gQ (AY X4.D [fK])<|gG 87 (.rwl ((fD++[fK]).map X4.D)) (AY X4.D [fK]) ?_;obtain⟨h22,h⟩:=cS h;refine gQ (Ab X4.D h22)<|gQ (AZ X4.D fD [fK]) ?_;exact lP h [.live [8],.keep [87],.ren 87 8,.sort]
theorem aMn(h:Xi dK fK eW=some fR):AO Tryz.prog 109 [.d (AA.D dK),.d (X4.D fK),.d ((D.l AL.D) eW)] [] (.tup [.d ((D.l X4.D) fR.1),dI fR.2]) []:=by unfold Xi at h;apply g0 (o:=fR);obtain⟨o12,h17,h⟩:=bS h;refine gL [.live [2,3,4,8,9,10],.keep [3,4],.nilw 8 8 171 2,.sort] (Wn none h17) ?_;refine iB 69 h (fun h=>?_) fun h=>?_;exact lf h;refine gN 72 X4.D o12.2 ?_;refine iB 74 h (fun h=>?_) fun h=>?_;refine xX 79 Xd.D h fun x13 h=>?_;obtain⟨o14,h23,h⟩:=bS h;refine gl (Mt none h23) ?_;exact lF h [.frz 8];obtain⟨o15,h24,h⟩:=bS h;refine gl (Mt none h24) ?_;exact lF h [.frz 8]
def R8(s0:List X4)(w3:X4)(s5:Int):St:=⟨sp 48 0 [sD 0 (D.l X4.D) s0,bx 3,sI 5 s5],[cL 3 X4.D w3],[]⟩
def R9(s0:List X4)(w3:X4)(o:Int):Ex×St:=(.exit 0,⟨sp 48 0 [sD 0 (D.l X4.D) s0,bx 3,sI 5 o],[cL 3 X4.D w3],[]⟩)
theorem YK(rd:Option Nat)(h:LY fD fK dG=some dH):Lq 111 rd 28 (R8 fD fK dG) ((R9 fD fK) dH):=
 lL (fun s:Int=>R8 fD fK s) (R9 fD fK) dG (fun dG o h=>by
 unfold DP at h
 refine iB 11 h (fun h=>?_) fun h=>?_
 refine xX 16 X4.D h fun x1 h=>?_
 obtain⟨r2,h3,h⟩:=bS h
 refine gQ (ZS h3) ?_
 cases r2
 replace h:=Cy h
 refine gW 18 (.ret (.d (D.b false))) ?_
 exact lb h
 replace h:=Cz h
 refine gW 18 (.ret (.d (D.b true))) ?_
 exact lb h
 exact lb h) h
theorem aM5(h:Y0 fD fK=some fO):AO Tryz.prog 111 [.d ((D.l X4.D) fD),.d (X4.D fK)] [] (.d ((D.l X4.D) fO)) []:=by unfold Y0 at h;apply g0 (o:=fO);refine gN 8 X4.D fD ?_;obtain⟨o3,h5,h⟩:=bS h;refine gl (YK none h5) ?_;refine iB 24 h (fun h=>?_) fun h=>?_;refine xX 28 X4.D h fun x4 h=>?_;obtain⟨r5,h8,h⟩:=bS h;refine gQ (aH4 h8) ?_;cases r5;replace h:=Cy h;refine gQ (AY X4.D ([]:List X4))<|gW 31 (.ret (.d (D.b false)))<|gW 37 (.sl ((sub fD 0 o3).map X4.D))<|gW 38 (.sl ((([]:List X4)++(sub fD 0 o3)).map X4.D))<|gW 42 (.sl (((([]:List X4)++(sub fD 0 o3))++[fK]).map X4.D))<|gW 46 (.sl ((sub fD o3 (fD.length:Int)).map X4.D))<|gW 47 (.sl ((((([]:List X4)++(sub fD 0 o3))++[fK])++(sub fD o3 (fD.length:Int))).map X4.D)) ?_;obtain⟨h10,h⟩:=cS h;refine gQ (DS X4.D h10)<|gQ (AY X4.D (sub fD 0 o3)) ?_;obtain⟨h11,h⟩:=cS h;refine gQ (Ab X4.D h11)<|gQ (AZ X4.D ([]:List X4) (sub fD 0 o3))<|gQ (AY X4.D [fK])<|gQ (AY X4.D [fK]) ?_;obtain⟨h12,h⟩:=cS h;refine gQ (Ab X4.D h12)<|gQ (AZ X4.D (([]:List X4)++(sub fD 0 o3)) [fK]) ?_;obtain⟨h13,h⟩:=cS h;refine gQ (DR X4.D h13)<|gQ (AY X4.D (sub fD o3 (fD.length:Int))) ?_;obtain⟨h14,h⟩:=cS h;refine gQ (Ab X4.D h14)<|gQ (AZ X4.D ((([]:List X4)++(sub fD 0 o3))++[fK]) (sub fD o3 (fD.length:Int))) ?_;exact lf h;replace h:=Cz h;refine gW 31 (.ret (.d (D.b true))) ?_;exact lf h;refine gQ (AY X4.D ([]:List X4))<|gW 37 (.sl ((sub fD 0 o3).map X4.D))<|gW 38 (.sl ((([]:List X4)++(sub fD 0 o3)).map X4.D))<|gW 42 (.sl (((([]:List X4)++(sub fD 0 o3))++[fK]).map X4.D))<|gW 46 (.sl ((sub fD o3 (fD.length:Int)).map X4.D))<|gW 47 (.sl ((((([]:List X4)++(sub fD 0 o3))++[fK])++(sub fD o3 (fD.length:Int))).map X4.D)) ?_;obtain⟨h15,h⟩:=cS h;refine gQ (DS X4.D h15)<|gQ (AY X4.D (sub fD 0 o3)) ?_;obtain⟨h16,h⟩:=cS h;refine gQ (Ab X4.D h16)<|gQ (AZ X4.D ([]:List X4) (sub fD 0 o3))<|gQ (AY X4.D [fK])<|gQ (AY X4.D [fK]) ?_;obtain⟨h17,h⟩:=cS h;refine gQ (Ab X4.D h17)<|gQ (AZ X4.D (([]:List X4)++(sub fD 0 o3)) [fK]) ?_;obtain⟨h18,h⟩:=cS h;refine gQ (DR X4.D h18)<|gQ (AY X4.D (sub fD o3 (fD.length:Int))) ?_;obtain⟨h19,h⟩:=cS h;refine gQ (Ab X4.D h19)<|gQ (AZ X4.D ((([]:List X4)++(sub fD 0 o3))++[fK]) (sub fD o3 (fD.length:Int))) ?_;exact lf h
def Rh(s1:List X4)(s2:List AL)(s9 s10:Int)(s11:List X4)(w3:AA)(s8:List X4)(s13:Int):St:=⟨sp 56 0 [sD 1 (D.l X4.D) s1,sD 2 (D.l AL.D) s2,bx 3,sD 8 (D.l X4.D) s8,sI 9 s9,sI 10 s10,sD 11 (D.l X4.D) s11,sI 13 s13],[cL 3 AA.D w3],[]⟩
def Ri(s1:List X4)(s2:List AL)(s9 s10:Int)(s11:List X4)(w3:AA)(o:(List X4)):Ex×St:=(.exit 2,⟨sp 56 0 [sD 1 (D.l X4.D) s1,sD 2 (D.l AL.D) s2,bx 3,sD 8 (D.l X4.D) o,sI 9 s9,sI 10 s10],[cL 3 AA.D w3],[]⟩)
theorem XD(rd:Option Nat)(h:XC fD eW dG dH fO dK fS dJ=some fP):Lq 100 rd 31310 (Rh fD eW dG dH fO dK fS dJ) ((Ri fD eW dG dH fO dK) fP):=
 lL (fun s:List X4×Int=>Rh fD eW dG dH fO dK s.1 s.2) (Ri fD eW dG dH fO dK) (fS,dJ) (fun⟨fS,dJ⟩ o h=>by
 unfold C8 at h
 refine gN 35 X4.D fO ?_
 refine iB 36 h (fun h=>?_) fun h=>?_
 refine xX 42 X4.D h fun x12 h=>?_
 obtain⟨r13,h18,h⟩:=bS h
 refine gC 44 (aM5 h18) ?_
 exact lb h
 exact lb h) h
def Rf(s1:List X4)(s2:List AL)(w3:AA)(s8:List X4)(s9 s10:Int):St:=⟨sp 56 0 [sD 1 (D.l X4.D) s1,sD 2 (D.l AL.D) s2,bx 3,sD 8 (D.l X4.D) s8,sI 9 s9,sI 10 s10],[cL 3 AA.D w3],[]⟩
def Rg(s1:List X4)(s2:List AL)(w3:AA)(o:(List X4×Int)):Ex×St:=(.exit 0,⟨sp 56 0 [sD 8 (D.l X4.D) o.1,sI 9 o.2],[],[]⟩)
theorem XB(rd:Option Nat)(h:XA fD eW dK fO dG dH=some fT):Lq 100 rd 122 (Rf fD eW dK fO dG dH) ((Rg fD eW dK) fT):=
 lL (fun s:List X4×Int×Int=>Rf fD eW dK s.1 s.2.1 s.2.2) (Rg fD eW dK) (fO,dG,dH) (fun⟨fO,dG,dH⟩ o h=>by
 unfold C7 at h
 refine gN 16 X4.D fD ?_
 refine iB 17 h (fun h=>?_) fun h=>?_
 refine xX 24 X4.D h fun x9 h=>?_
 obtain⟨r10,h14,h⟩:=bS h
 refine gC 27 (aMn h14) ?_
 obtain⟨r11,h15,h⟩:=bS h
 refine gC 32 (aIa h15) ?_
 obtain⟨o14,h19,h⟩:=bS h
 refine gl (XD rd h19) ?_
 exact lb h
 exact lb h) h
theorem M1(rd:Option Nat)(h:Re fD dG e9=some dH):Lq 100 rd 125 ⟨sp 56 0 [sD 8 (D.l X4.D) fD,sI 9 dG,sD 51 D.b e9],[],[]⟩ (.normal,⟨sp 56 0 [sD 8 (D.l X4.D) fD,sI 9 dH],[],[]⟩):=by unfold Re at h;apply g0 (o:=dH);cases e9;replace h:=Cy h;exact lp h;replace h:=Cz h;exact lp h
theorem aMt(h:Xn dK fD eW=some fR):AO Tryz.prog 100 [.d (AA.D dK),.d ((D.l X4.D) fD),.d ((D.l AL.D) eW)] [] (.tup [.d ((D.l X4.D) fR.1),dI fR.2]) []:=by unfold Xn at h;apply g0 (o:=fR);obtain⟨o15,h20,h⟩:=bS h;refine gL [.look 8,.live [1,2,3,8,9,10],.keep [3]] (XB none h20) ?_;refine iB 47 h (fun h=>?_) fun h=>?_;refine gN 49 X4.D o15.1 ?_;obtain⟨o16,h23,h⟩:=bS h;refine gl (M1 none h23) ?_;refine iB 53 h (fun h=>?_) fun h=>?_;exact lf h;exact lf h;obtain⟨o17,h25,h⟩:=bS h;refine gl (M1 none h25) ?_;refine iB 53 h (fun h=>?_) fun h=>?_;exact lf h;exact lf h
theorem aLw(h:Qq dK eE fD eC=some fR):AO Tryz.prog 88 [.d (AA.D dK),.d ((D.l X2.D) eE),.d ((D.l X4.D) fD),.d (X3.D eC)] [] (.tup [.d ((D.l X4.D) fR.1),dI fR.2]) []:=by unfold Qq at h;apply g0 (o:=fR);obtain⟨r1,h1,h⟩:=bS h;refine gC 13 (aIt h1) ?_;obtain⟨r2,h2,h⟩:=bS h;refine gC 15 (aM9 h2)<|gN 17 AL.D r2 ?_;refine iB 18 h (fun h=>?_) fun h=>?_;exact lf h;obtain⟨r3,h4,h⟩:=bS h;refine gC 23 (aMt h4) ?_;exact lf h
def S7(s1:List X2)(s3:List X3)(w4:AA)(s2:List X4)(s11:Int):St:=⟨sp 38 0 [sD 1 (D.l X2.D) s1,sD 2 (D.l X4.D) s2,sD 3 (D.l X3.D) s3,bx 4,sI 11 s11],[cL 4 AA.D w4],[]⟩
def S8(s1:List X2)(s3:List X3)(w4:AA)(o:(List X4)⊕(Int×Int)):Ex×St:=match o with
 | .inl o=>(.exit 0,⟨sp 38 0 [sD 2 (D.l X4.D) o],[],[]⟩)
 | .inr o=>(.ret,⟨sp 38 0 [(8,.nil),sI 9 o.1,sI 10 o.2],[],[]⟩)
theorem aAh(rd:Option Nat)(h:OW eE fC dK fD dG=some fU):Lq 69 rd 26 (S7 eE fC dK fD dG) ((S8 eE fC dK) fU):=
 lL (fun s:List X4×Int=>S7 eE fC dK s.1 s.2) (S8 eE fC dK) (fD,dG) (fun⟨fD,dG⟩ o h=>by
 unfold Gk at h
 refine gN 16 X3.D fC ?_
 refine iB 17 h (fun h=>?_) fun h=>?_
 refine xX 26 X3.D h fun x1 h=>?_
 obtain⟨r2,h3,h⟩:=bS h
 refine gC 28 (aLw h3) ?_
 refine iB 32 h (fun h=>?_) fun h=>?_
 exact lb h
 exact lb h
 exact lb h) h
theorem aNu(h:Yr dK eE fD fC=some fV):AO Tryz.prog 69 [.d (AA.D dK),.d ((D.l X2.D) eE),.d ((D.l X4.D) fD),.d ((D.l X3.D) fC)] [] (.tup [.d ((D.l X4.D) fV.1),dI fV.2.1,dI fV.2.2]) []:=by
 unfold Yr at h;apply g0 (o:=fV);obtain⟨o3,h5,h⟩:=bS h;refine gl (aAh none h5) ?_;replace h:=AM h;rcases h with⟨o4,rfl,h⟩|⟨o5,rfl,h⟩
 exact lf h;exact lf h
def Th(s1:List X4)(w2:AA)(s5:Int):St:=⟨sp 22 0 [sD 1 (D.l X4.D) s1,bx 2,sI 5 s5],[cL 2 AA.D w2],[]⟩
def Ti(s1:List X4)(w2:AA)(o:Unit⊕Unit):Ex×St:=match o with
 | .inl o=>(.exit 0,⟨sp 22 0 [],[],[]⟩)
 | .inr o=>(.ret,⟨sp 22 0 [sD 4 D.b true],[],[]⟩)
theorem aAz(rd:Option Nat)(h:aF8 fD dK dG=some eA):Lq 71 rd 26 (Th fD dK dG) ((Ti fD dK) eA):=
 lL (fun s:Int=>Th fD dK s) (Ti fD dK) dG (fun dG o h=>by
 unfold Gz at h
 refine gN 8 X4.D fD ?_
 refine iB 9 h (fun h=>?_) fun h=>?_
 refine xX 16 X4.D h fun x1 h=>?_
 refine xX 19 Xd.D h fun x2 h=>?_
 refine iB 21 h (fun h=>?_) fun h=>?_
 exact lb h
 exact lb h
 exact lb h) h
theorem aOc(h:Za dK fD=some e9):AO Tryz.prog 71 [.d (AA.D dK),.d ((D.l X4.D) fD)] [] (.d (D.b e9)) []:=by
 unfold Za at h;apply g0 (o:=e9);obtain⟨o3,h5,h⟩:=bS h;refine gl (aAz none h5) ?_;replace h:=AM h;rcases h with⟨o4,rfl,h⟩|⟨o5,rfl,h⟩
 exact lf h;exact lf h
theorem aLx(h:Qr dK eE fC=some e9):AO Tryz.prog 47 [.d (AA.D dK),.d ((D.l X2.D) eE),.d ((D.l X3.D) fC)] [] (.d (D.b e9)) []:=by unfold Qr at h;apply g0 (o:=e9);obtain⟨r1,h1,h⟩:=bS h;refine gC 14 (aOb h1) ?_;obtain⟨r2,h2,h⟩:=bS h;refine gC 16 (aNu h2) ?_;obtain⟨r3,h3,h⟩:=bS h;refine gC 22 (aOc h3) ?_;exact lf h
def Sn(s1:List (List X0))(s2:Int)(s3:List X2)(s4:List X3)(s11:Bool)(w5:AA)(s12:Int):St:=⟨sp 63 0 [sD 1 (D.l (D.l X0.D)) s1,sI 2 s2,sD 3 (D.l X2.D) s3,sD 4 (D.l X3.D) s4,bx 5,sD 11 D.b s11,sI 12 s12],[cL 5 AA.D w5],[]⟩
def So(s1:List (List X0))(s2:Int)(s3:List X2)(s4:List X3)(s11:Bool)(w5:AA)(o:Unit⊕Unit):Ex×St:=match o with
 | .inl o=>(.exit 0,⟨sp 63 0 [sD 11 D.b s11],[],[]⟩)
 | .inr o=>(.ret,⟨sp 63 0 [sD 10 D.b (!s11)],[],[]⟩)
theorem ZX(rd:Option Nat)(self:AA->(List (List X0))->Int->(List X2)->(List X3)->Option Bool)(hs:∀(a0:AA) (a1:List (List X0)) (a2:Int) (a3:List X2) (a4:List X3) (r:Bool),self a0 a1 a2 a3 a4=some r->AO Tryz.prog 29 [.d (AA.D a0),.d ((D.l (D.l X0.D)) a1),dI a2,.d ((D.l X2.D) a3),.d ((D.l X3.D) a4)] [] (.d (D.b r)) []){s1:List (List X0)}{s2:Int}{s3:List X2}{s4:List X3}{s11:Bool}{w5:AA}{s12:Int}{t:Unit⊕Unit}(h:aJb self s1 s2 s3 s4 s11 w5 s12=some t):Lq 29 rd 122 (Sn s1 s2 s3 s4 s11 w5 s12) ((So s1 s2 s3 s4 s11 w5) t):=
 lL (fun s:Int=>Sn s1 s2 s3 s4 s11 w5 s) (So s1 s2 s3 s4 s11 w5) s12 (fun s12 o h=>by
 unfold Sp at h
 refine xX 31 (D.l X0.D) h fun x3 h=>?_
 refine gN 33 X0.D x3 ?_
 refine iB 34 h (fun h=>?_) fun h=>?_
 refine gQ (AY X2.D ([]:List X2))<|gG 39 (.sl ((([]:List X2)++s3).map X2.D)) (AY X2.D s3) ?_
 obtain⟨h6,h⟩:=cS h
 refine gQ (Ab X2.D h6)<|gQ (AZ X2.D ([]:List X2) s3)<|xX 43 (D.l X0.D) h fun x4 h=>?_
 refine xX 46 X0.D h fun x5 h=>?_
 refine gQ (AY X2.D [X2.mk s2 x5])<|gG 50 (.sl (((([]:List X2)++s3)++[X2.mk s2 x5]).map X2.D)) (AY X2.D [X2.mk s2 x5]) ?_
 obtain⟨h9,h⟩:=cS h
 refine gQ (Ab X2.D h9)<|gQ (AZ X2.D (([]:List X2)++s3) [X2.mk s2 x5]) ?_
 obtain⟨r6,h10,h⟩:=bS h
 refine gG 57 (.ret (.d (D.b r6))) (hs w5 s1 (AB .add .i64 s2 1) ((([]:List X2)++s3)++[X2.mk s2 x5]) s4 r6 h10) ?_
 refine iB 59 h (fun h=>?_) fun h=>?_
 exact lb h
 exact lb h
 exact lb h) h
theorem aFl(self:AA->(List (List X0))->Int->(List X2)->(List X3)->Option Bool)(hs:∀(a0:AA) (a1:List (List X0)) (a2:Int) (a3:List X2) (a4:List X3) (r:Bool),self a0 a1 a2 a3 a4=some r->AO Tryz.prog 29 [.d (AA.D a0),.d ((D.l (D.l X0.D)) a1),dI a2,.d ((D.l X2.D) a3),.d ((D.l X3.D) a4)] [] (.d (D.b r)) [])(a0:AA)(a1:List (List X0))(a2:Int)(a3:List X2)(a4:List X3)(r:Bool)(h:aJa self a0 a1 a2 a3 a4=some r):AO Tryz.prog 29 [.d (AA.D a0),.d ((D.l (D.l X0.D)) a1),dI a2,.d ((D.l X2.D) a3),.d ((D.l X3.D) a4)] [] (.d (D.b r)) []:=by
 unfold aJa at h;apply g0 (o:=r);refine gN 16 (D.l X0.D) a1 ?_;refine iB 17 h (fun h=>?_) fun h=>?_;obtain⟨r1,h2,h⟩:=bS h;refine gC 21 (aLx h2) ?_;exact lf h;refine xX 25 Xq.D h fun x2 h=>?_;obtain⟨o7,h12,h⟩:=bS h;refine gl (ZX none self hs h12) ?_;replace h:=AM h;rcases h with⟨o8,rfl,h⟩|⟨o9,rfl,h⟩
 exact lf h;exact lf h
theorem Sq:∀(n:Nat) (a0:AA) (a1:List (List X0)) (a2:Int) (a3:List X2) (a4:List X3) (r:Bool),aJc n a0 a1 a2 a3 a4=some r->AO Tryz.prog 29 [.d (AA.D a0),.d ((D.l (D.l X0.D)) a1),dI a2,.d ((D.l X2.D) a3),.d ((D.l X3.D) a4)] [] (.d (D.b r)) []
 |0,a0,a1,a2,a3,a4,r,h=>by simp[aJc]at h
 |n+1,a0,a1,a2,a3,a4,r,h=>aFl _ (Sq n) a0 a1 a2 a3 a4 r h
theorem aNk(h:Yi dK f8 dG eE fC=some e9):AO Tryz.prog 29 [.d (AA.D dK),.d ((D.l (D.l X0.D)) f8),dI dG,.d ((D.l X2.D) eE),.d ((D.l X3.D) fC)] [] (.d (D.b e9)) []:=Sq 100000 dK f8 dG eE fC e9 h
theorem aH0(h:Q0 dK fC=some e9):AO Tryz.prog 13 [.d (AA.D dK),.d ((D.l X3.D) fC)] [] (.d (D.b e9)) []:=by unfold Q0 at h;apply g0 (o:=e9);obtain⟨r1,h1,h⟩:=bS h;refine gC 8 (aOa h1) ?_;obtain⟨r2,h2,h⟩:=bS h;refine gC 10 (aNk h2) ?_;exact lf h
def Sr(s2:List X3)(w3 w4:AA)(s7:Int):St:=⟨sp 74 0 [sD 2 (D.l X3.D) s2,bx 3,bx 4,sI 7 s7],[cL 3 AA.D w3,cL 4 AA.D w4],[]⟩
def Ss(s2:List X3)(w3 w4:AA)(o:Unit⊕Bool):Ex×St:=match o with
 | .inl o=>(.exit 0,⟨sp 74 0 [sD 2 (D.l X3.D) s2,bx 3,bx 4],[cL 3 AA.D w3,cL 4 AA.D w4],[]⟩)
 | .inr o=>(.ret,⟨sp 74 0 [sD 6 D.b o],[],[]⟩)
theorem ZY(rd:Option Nat)(h:aFp fC dK dL dG=some fN):Lq 4 rd 58 (Sr fC dK dL dG) ((Ss fC dK dL) fN):=
 lL (fun s:Int=>Sr fC dK dL s) (Ss fC dK dL) dG (fun dG o h=>by
 unfold Gh at h
 refine gN 32 X3.D fC ?_
 refine iB 33 h (fun h=>?_) fun h=>?_
 refine xX 38 X3.D h fun x8 h=>?_
 refine gN 41 X0.D x8.args ?_
 refine iB 43 h (fun h=>?_) fun h=>?_
 obtain⟨r9,h15,h⟩:=bS h
 refine gC 53 (KF h15) ?_
 exact lb h
 refine xX 48 X3.D h fun x10 h=>?_
 obtain⟨r11,h17,h⟩:=bS h
 refine gC 50 (aJj h17) ?_
 refine iB 52 h (fun h=>?_) fun h=>?_
 obtain⟨r12,h19,h⟩:=bS h
 refine gC 53 (KF h19) ?_
 exact lb h
 exact lb h
 exact lb h) h
theorem aNn(h:Yl dK dL fC=some e9):AO Tryz.prog 4 [.d (AA.D dK),.d (AA.D dL),.d ((D.l X3.D) fC)] [] (.d (D.b e9)) []:=by
 unfold Yl at h;apply g0 (o:=e9);obtain⟨r1,h1,h⟩:=bS h;refine gC 11 (aJm h1) ?_;refine iB 13 h (fun h=>?_) fun h=>?_;obtain⟨r2,h3,h⟩:=bS h;refine gC 29 (KF h3) ?_;exact lf h;obtain⟨r3,h4,h⟩:=bS h;refine gC 15 (aJm h4) ?_;refine iB 18 h (fun h=>?_) fun h=>?_;obtain⟨r4,h6,h⟩:=bS h;refine gC 29 (KF h6) ?_;exact lf h;obtain⟨r5,h7,h⟩:=bS h;refine gC 21 (aM6 h7) ?_;refine iB 24 h (fun h=>?_) fun h=>?_;obtain⟨r6,h9,h⟩:=bS h;refine gC 29 (KF h9) ?_;exact lf h;refine gN 26 X3.D fC ?_;refine iB 28 h (fun h=>?_) fun h=>?_;obtain⟨r7,h11,h⟩:=bS h;refine gC 29 (KF h11) ?_;exact lf h;obtain⟨o13,h20,h⟩:=bS h;refine gl (ZY none h20) ?_;replace h:=AM h;rcases h with⟨o14,rfl,h⟩|⟨o15,rfl,h⟩
 obtain⟨r16,h21,h⟩:=bS h;refine gC 57 (aJ1 h21) ?_;refine iB 62 h (fun h=>?_) fun h=>?_;obtain⟨r17,h23,h⟩:=bS h;refine gC 72 (KF h23) ?_;exact lf h;obtain⟨r18,h24,h⟩:=bS h;refine gC 65 (aH0 h24) ?_;obtain⟨r19,h25,h⟩:=bS h;refine gC 68 (aH0 h25) ?_;refine iB 71 h (fun h=>?_) fun h=>?_;obtain⟨r20,h27,h⟩:=bS h;refine gC 72 (KF h27) ?_;exact lf h;exact lf h;exact lf h
end Go.Ac
