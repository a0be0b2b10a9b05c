/- Own work, printed: the functions compute these. -/
import Derived.Test.YthaljpcbnneidaaGreatWa37tx1
set_option linter.unusedVariables false
set_option linter.unusedSimpArgs false
namespace Go.Ac
open Go.Proofs
variable {dJ dK dL fF fG fH fK:Int}
variable {dM dN:AA}
variable {dO:List X5}
variable {dP:MP X5 X3}
variable {dQ dV:X6}
variable {dR:List X6}
variable {dS:MP X6 Xc}
variable {dX:(List X6×MP X6 Xc)}
variable {dY:Unit⊕(List X3)}
variable {e9:List X3×Bool}
variable {eA:Bool×Int}
variable {eB eX:Bool}
variable {eC:Unit⊕Unit}
variable {eE eG eJ:List X0}
variable {eF eK eL:X0}
variable {eH:(List X0)}
variable {eI:BJ}
variable {eM:List X3}
variable {eN:List X7}
variable {eO:X3}
variable {eQ eU eV:List X2}
variable {eS:Unit⊕X0}
variable {eT:X0×Bool}
variable {eW:(List X2)}
variable {eY:X2}
variable {eZ:X8}
variable {f8:AL}
variable {f9:(List X2)⊕Unit}
variable {fA:(List X2×List X2)⊕Unit}
variable {fB:AL×Bool}
variable {fC fE:List AL}
variable {fD:(List AL)}
variable {fJ:Xe}
variable {fL fM fN:Xf}
variable {fO:List Xf}
variable {fP:(List X3)}
variable {fQ:List Int}
variable {fR:(List Xf×List Int)}
variable {fS:Unit⊕Int}
variable {fT fU:List (List X0)}
variable {fV:(List (List X0))}
variable {fW gH gM:List X4}
variable {fX:X0×Int}
variable {fY:List DN}
variable {fZ:(List X0)⊕Int}
variable {g9:List X0×Int}
variable {gA gD:X4}
variable {gB:X4×Bool×Int}
variable {gE:Unit⊕Bool}
variable {gI:(List X4)}
variable {gJ:(Int×List X4)}
variable {gK:List X4×Int}
variable {gO:(List X4×Int)}
variable {gP:(List X4)⊕(Int×Int)}
variable {gR:List X4×Int×Int}
theorem Wi(rd:Option Nat)(h:OP dJ dK dL dM dN dO dP dQ dR dS dV=some dX):Lq 7 rd 2073830 (aGn dJ dK dL dM dN dO dP dQ dR dS dV) (.normal,⟨sp 111 0 [bx 2,bx 3,rx 6,rx 7,bx 8,rx 9,rx 10,sI 11 dJ,bx 12,(82,.row 6),sI 83 dK,sI 84 dL],[cL 2 AA.D dM,cL 3 AA.D dN,rW 6 64 2 X5.D dO,(7,.map dP.clk (MP.dl X5.D X3.D dP)),cL 8 X6.D dQ,(9,.row 60 2 (dX.1.map X6.D)),(10,.map dX.2.clk (MP.dl X6.D Xc.D dX.2)),cL 12 X6.D dV],[]⟩):=by unfold OP at h;apply g0 (o:=dX);obtain⟨h16,h⟩:=cS h;refine gQ h16.1<|gQ (DI X5.D h16.2) ?_;obtain⟨x8,h17,h⟩:=xS h;refine gG 87 (.el (X5.D x8)) (Dh X5.D h17) ?_;obtain⟨r9,h18,h⟩:=bS h;refine gC 92 (aOq h18)<|gG 96 (.mg (Xc.D (BB (Xc.mk (X6.mk 0 0) (X5.mk 0 0)) dS r9).1) (BB (Xc.mk (X6.mk 0 0) (X5.mk 0 0)) dS r9).2) (Hg BD Xc.D (Xc.mk (X6.mk 0 0) (X5.mk 0 0)) dS r9) ?_;obtain⟨o10,h21,h⟩:=bS h;refine gl (Wj rd h21) ?_;exact lp h
def Ps(s11 s83:Int)(w2 w3:AA)(w6:List X5)(w7:MP X5 X3)(w8 w12:X6)(s84:Int)(w9:List X6)(w10:MP X6 Xc):St:=⟨sp 111 0 [bx 2,bx 3,rx 6,rx 7,bx 8,rx 9,rx 10,sI 11 s11,bx 12,(82,.row 6),sI 83 s83,sI 84 s84],[cL 2 AA.D w2,cL 3 AA.D w3,rW 6 64 2 X5.D w6,(7,.map w7.clk (MP.dl X5.D X3.D w7)),cL 8 X6.D w8,(9,.row 60 2 (w9.map X6.D)),(10,.map w10.clk (MP.dl X6.D Xc.D w10)),cL 12 X6.D w12],[]⟩
def Pt(s11 s83:Int)(w2 w3:AA)(w6:List X5)(w7:MP X5 X3)(w8 w12:X6)(o:(List X6×MP X6 Xc)):Ex×St:=(.exit 4,⟨sp 111 0 [bx 2,bx 3,rx 6,rx 7,bx 8,rx 9,rx 10,sI 11 s11],[cL 2 AA.D w2,cL 3 AA.D w3,rW 6 64 2 X5.D w6,(7,.map w7.clk (MP.dl X5.D X3.D w7)),cL 8 X6.D w8,(9,.row 60 2 (o.1.map X6.D)),(10,.map o.2.clk (MP.dl X6.D Xc.D o.2))],[]⟩)
theorem Wo(rd:Option Nat)(h:LH dJ dK dM dN dO dP dQ dV dL dR dS=some dX):Lq 7 rd 129614 (Ps dJ dK dM dN dO dP dQ dV dL dR dS) ((Pt dJ dK dM dN dO dP dQ dV) dX):=
 lL (fun s:Int×List X6×MP X6 Xc=>Ps dJ dK dM dN dO dP dQ dV s.1 s.2.1 s.2.2) (Pt dJ dK dM dN dO dP dQ dV) (dL,dR,dS) (fun⟨dL,dR,dS⟩ o h=>by
 unfold EI at h
 refine iB 85 h (fun h=>?_) fun h=>?_
 obtain⟨o11,h22,h⟩:=bS h
 refine gl (Wi rd h22) ?_
 exact lb h
 exact lb h) h
def Po(w2 w3:AA)(w6:List X5)(w7:MP X5 X3)(w8:X6)(s11:Int)(w9:List X6)(w10:MP X6 Xc):St:=⟨sp 111 0 [bx 2,bx 3,rx 6,rx 7,bx 8,rx 9,rx 10,sI 11 s11],[cL 2 AA.D w2,cL 3 AA.D w3,rW 6 64 2 X5.D w6,(7,.map w7.clk (MP.dl X5.D X3.D w7)),cL 8 X6.D w8,(9,.row 60 2 (w9.map X6.D)),(10,.map w10.clk (MP.dl X6.D Xc.D w10))],[]⟩
def Pp(w2 w3:AA)(w6:List X5)(w7:MP X5 X3)(w8:X6)(o:Unit⊕(List X3)):Ex×St:=match o with
 | .inl o=>(.exit 0,⟨sp 111 0 [],[],[]⟩)
 | .inr o=>(.ret,⟨sp 111 0 [sD 4 (D.l X3.D) o,sD 5 D.b true],[],[]⟩)
theorem Wl(rd:Option Nat)(h:Pn dM dN dO dP dQ dJ dR dS=some dY):Lq 7 rd 506 (Po dM dN dO dP dQ dJ dR dS) ((Pp dM dN dO dP dQ) dY):=
 lL (fun s:Int×List X6×MP X6 Xc=>Po dM dN dO dP dQ s.1 s.2.1 s.2.2) (Pp dM dN dO dP dQ) (dJ,dR,dS) (fun⟨dJ,dR,dS⟩ o h=>by
 unfold DX at h
 refine gN 46 X6.D dR ?_
 refine iB 47 h (fun h=>?_) fun h=>?_
 refine xX 52 X6.D h fun x3 h=>?_
 obtain⟨r4,h8,h⟩:=bS h
 refine gC 57 (aKs h8) ?_
 obtain⟨r5,h9,h⟩:=bS h
 refine gC 61 (aKs h9) ?_
 refine iB 62 h (fun h=>?_) fun h=>?_
 obtain⟨o6,h13,h⟩:=bS h
 refine gL [.live [7,8,10,12,13],.keep [7,8,10,12],.nilw 13 13 44 2,.sort] (Wn rd h13) ?_
 obtain⟨r7,h14,h⟩:=bS h
 refine gG 80 (.cx false [(0,13)] [] (.tup []) [rW 0 44 2 X3.D r7]) (aOv h14) ?_
 exact lB h [.frz 13,.look 4,.live [4,5],.keep []]
 refine gN 83 X5.D dO ?_
 obtain⟨o12,h23,h⟩:=bS h
 refine gl (Wo rd h23) ?_
 exact lb h
 exact lb h) h
theorem aGo(h:X9 dM dN=some e9):AN Tryz.prog 7 [.d (AA.D dM),.d (AA.D dN)] [] (.tup [.d ((D.l X3.D) e9.1),.d (D.b e9.2)]) []:=by
 unfold X9 at h;apply g0 (o:=e9);obtain⟨r1,h1,h⟩:=bS h;refine gC 21 (Tb h1) ?_;refine iB 22 h (fun h=>?_) fun h=>?_;exact lf h;refine gW 10040 (.mp (Cs (Ek:MP X6 Xc) (X6.mk (AB .shl .u32 1 (IntKind.wrap .u64 dM.start)) (AB .shl .u32 1 (IntKind.wrap .u64 dN.start))) (Xc.mk (X6.mk 0 0) (X5.mk 0 0))).clk (MP.dl X6.D Xc.D (Cs (Ek:MP X6 Xc) (X6.mk (AB .shl .u32 1 (IntKind.wrap .u64 dM.start)) (AB .shl .u32 1 (IntKind.wrap .u64 dN.start))) (Xc.mk (X6.mk 0 0) (X5.mk 0 0))))) ?_;obtain⟨r2,h3,h⟩:=bS h;refine gG 26 (.cx false [] [(0,433),(1,440),(2,447),(3,454)] (.tup [.row 2,.row 3]) [(0,.cells ([.row 2])),(1,.cells ([.row 3])),rW 2 64 2 X5.D r2.1,(3,.map r2.2.clk (MP.dl X5.D X3.D r2.2))]) (aO3 h3) ?_;obtain⟨h4,h⟩:=cS h;refine gQ h4 ?_;obtain⟨h5,h⟩:=cS h;refine gQ h5<|gQ (AW X6.D [X6.mk (AB .shl .u32 1 (IntKind.wrap .u64 dM.start)) (AB .shl .u32 1 (IntKind.wrap .u64 dN.start))])<|gQ (MO BD Xc.D (Ek:MP X6 Xc) (X6.mk (AB .shl .u32 1 (IntKind.wrap .u64 dM.start)) (AB .shl .u32 1 (IntKind.wrap .u64 dN.start))) (Xc.mk (X6.mk 0 0) (X5.mk 0 0))) ?_;obtain⟨o13,h24,h⟩:=bS h;refine gL [.live [2,3,6,7,8,9,10,11],.keep [2,3,8,39,40,447,454],.ren 39 9,.ren 40 10,.ren 447 6,.ren 454 7,.sort] (Wl none h24) ?_;replace h:=AM h;rcases h with⟨o14,rfl,h⟩|⟨o15,rfl,h⟩
 exact lf h;exact lf h
theorem aLk(h:Zr dM dN=some eA):AN Tryz.prog 8 [.d (AA.D dM),.d (AA.D dN)] [] (.tup [.d (D.b eA.1),dI eA.2]) []:=by unfold Zr at h;apply g0 (o:=eA);obtain⟨r1,h1,h⟩:=bS h;refine gC 10 (Tb h1) ?_;refine iB 11 h (fun h=>?_) fun h=>?_;exact lf h;obtain⟨r2,h3,h⟩:=bS h;refine gC 15 (aGo h3) ?_;exact lf h
theorem US(h:Zk=some eB):AN Tryz.prog 6 [] [] (.d (D.b eB)) []:=by unfold Zk at h;apply g0 (o:=eB);refine gQ (AW Xd.D ([Xd.mk ([115]:List UInt8) false false]))<|gQ (AW Xd.D ([Xd.mk ([115]:List UInt8) false true])) ?_;obtain⟨r1,h1,h⟩:=bS h;refine gC 16 (aGo h1) ?_;obtain⟨r2,h2,h⟩:=bS h;refine gC 22 (aLk h2) ?_;refine iB 26 h (fun h=>?_) fun h=>?_;refine gN 28 X3.D r1.1 ?_;refine iB 31 h (fun h=>?_) fun h=>?_;refine iB 34 h (fun h=>?_) fun h=>?_;refine iB 38 h (fun h=>?_) fun h=>?_;obtain⟨r3,h7,h⟩:=bS h;refine gC 41 (Tb h7) ?_;exact lf h;exact lf h;exact lf h;exact lf h;exact lf h
def TF(w1:AA)(s3:Int):St:=⟨sp 40 0 [bx 1,sI 3 s3],[cL 1 AA.D w1],[]⟩
def TG(w1:AA)(o:Unit⊕Unit):Ex×St:=match o with
 | .inl o=>(.exit 0,⟨sp 40 0 [],[],[]⟩)
 | .inr o=>(.ret,⟨sp 40 0 [sD 2 D.b false],[],[]⟩)
theorem aBw(rd:Option Nat)(h:TE dM dJ=some eC):Lq 20 rd 58 (TF dM dJ) ((TG dM) eC):=
 lL (fun s:Int=>TF dM s) (TG dM) dJ (fun dJ o h=>by
 unfold Db at h
 refine gN 29 Xe.D dM.trans ?_
 refine iB 30 h (fun h=>?_) fun h=>?_
 refine xX 36 Xe.D h fun x1 h=>?_
 refine iB 39 h (fun h=>?_) fun h=>?_
 exact lb h
 exact lb h
 exact lb h) h
theorem aK1(h:Yj dM=some eB):AN Tryz.prog 20 [.d (AA.D dM)] [] (.d (D.b eB)) []:=by
 unfold Yj at h;apply g0 (o:=eB);refine gN 6 Xw.D dM.frees ?_;refine iB 8 h (fun h=>?_) fun h=>?_;exact lf h;refine gN 11 Xt.D dM.quants ?_;refine iB 14 h (fun h=>?_) fun h=>?_;exact lf h;refine gN 17 Xd.D dM.states ?_;refine iB 20 h (fun h=>?_) fun h=>?_;exact lf h;refine gN 23 X8.D dM.symbols ?_;refine iB 25 h (fun h=>?_) fun h=>?_;exact lf h;obtain⟨o2,h8,h⟩:=bS h;refine gl (aBw none h8) ?_;replace h:=AM h;rcases h with⟨o3,rfl,h⟩|⟨o4,rfl,h⟩
 exact lf h;exact lf h
def Sh(s5:Int)(w2 w3:AA)(s6:Int):St:=⟨sp 103 0 [bx 2,bx 3,sI 5 s5,sI 6 s6],[cL 2 AA.D w2,cL 3 AA.D w3],[]⟩
def Si(s5:Int)(w2 w3:AA)(o:Unit⊕Unit):Ex×St:=match o with
 | .inl o=>(.exit 2,⟨sp 103 0 [bx 2,bx 3,sI 5 s5],[cL 2 AA.D w2,cL 3 AA.D w3],[]⟩)
 | .inr o=>(.ret,⟨sp 103 0 [sD 4 D.b false],[],[]⟩)
theorem aA1(rd:Option Nat)(h:aA0 dJ dM dN dK=some eC):Lq 9 rd 7462 (Sh dJ dM dN dK) ((Si dJ dM dN) eC):=
 lL (fun s:Int=>Sh dJ dM dN s) (Si dJ dM dN) dK (fun dK o h=>by
 unfold Gg at h
 refine xX 77 X7.D h fun x7 h=>?_
 refine gN 80 dZ x7.types ?_
 refine iB 81 h (fun h=>?_) fun h=>?_
 refine xX 87 X7.D h fun x8 h=>?_
 refine xX 91 dZ h fun x9 h=>?_
 refine xX 96 X7.D h fun x10 h=>?_
 refine xX 100 dZ h fun x11 h=>?_
 refine iB 102 h (fun h=>?_) fun h=>?_
 exact lb h
 exact lb h
 exact lb h) h
def Sf(w2 w3:AA)(s5:Int):St:=⟨sp 103 0 [bx 2,bx 3,sI 5 s5],[cL 2 AA.D w2,cL 3 AA.D w3],[]⟩
def Sg(w2 w3:AA)(o:Unit⊕Unit):Ex×St:=match o with
 | .inl o=>(.exit 0,⟨sp 103 0 [],[],[]⟩)
 | .inr o=>(.ret,⟨sp 103 0 [sD 4 D.b false],[],[]⟩)
theorem aAz(rd:Option Nat)(h:aAy dM dN dJ=some eC):Lq 9 rd 58 (Sf dM dN dJ) ((Sg dM dN) eC):=
 lL (fun s:Int=>Sf dM dN s) (Sg dM dN) dJ (fun dJ o h=>by
 unfold Gf at h
 refine gN 39 X7.D dM.decls ?_
 refine iB 40 h (fun h=>?_) fun h=>?_
 refine xX 46 X7.D h fun x3 h=>?_
 refine xX 52 X7.D h fun x4 h=>?_
 refine iB 56 h (fun h=>?_) fun h=>?_
 exact lb h
 refine xX 60 X7.D h fun x5 h=>?_
 refine gN 63 dZ x5.types<|xX 67 X7.D h fun x6 h=>?_
 refine gN 70 dZ x6.types ?_
 refine iB 72 h (fun h=>?_) fun h=>?_
 exact lb h
 obtain⟨o12,h22,h⟩:=bS h
 refine gl (aA1 rd h22) ?_
 replace h:=AM h
 rcases h with⟨o13,rfl,h⟩|⟨o14,rfl,h⟩
 exact lb h
 exact lb h
 exact lb h) h
theorem aOw(h:Y6 dM dN=some eB):AN Tryz.prog 9 [.d (AA.D dM),.d (AA.D dN)] [] (.d (D.b eB)) []:=by
 unfold Y6 at h;apply g0 (o:=eB);obtain⟨r1,h1,h⟩:=bS h;refine gC 8 (aK1 h1) ?_;refine iB 10 h (fun h=>?_) fun h=>?_;exact lf h;obtain⟨r2,h3,h⟩:=bS h;refine gC 12 (aK1 h3) ?_;refine iB 15 h (fun h=>?_) fun h=>?_;exact lf h;refine gN 18 Xt.D dM.quants ?_;refine iB 21 h (fun h=>?_) fun h=>?_;exact lf h;refine gN 24 Xt.D dN.quants ?_;refine iB 27 h (fun h=>?_) fun h=>?_;exact lf h;refine gN 30 X7.D dM.decls<|gN 33 X7.D dN.decls ?_;refine iB 35 h (fun h=>?_) fun h=>?_;exact lf h;obtain⟨o15,h23,h⟩:=bS h;refine gl (aAz none h23) ?_;replace h:=AM h;rcases h with⟨o16,rfl,h⟩|⟨o17,rfl,h⟩
 exact lf h;exact lf h
def S9(s0:List X0)(w3:X0)(s5:Int):St:=⟨sp 48 0 [sD 0 (D.l X0.D) s0,bx 3,sI 5 s5],[cL 3 X0.D w3],[]⟩
def TA(s0:List X0)(w3:X0)(o:Int):Ex×St:=(.exit 0,⟨sp 48 0 [sD 0 (D.l X0.D) s0,bx 3,sI 5 o],[cL 3 X0.D w3],[]⟩)
theorem aBq(rd:Option Nat)(h:aHk eE eF dJ=some dK):Lq 64 rd 28 (S9 eE eF dJ) ((TA eE eF) dK):=
 lL (fun s:Int=>S9 eE eF s) (TA eE eF) dJ (fun dJ o h=>by
 unfold Gn at h
 refine iB 11 h (fun h=>?_) fun h=>?_
 refine xX 16 X0.D h fun x1 h=>?_
 obtain⟨r2,h3,h⟩:=bS h
 refine gQ (aC6 h3) ?_
 cases r2
 replace h:=CJ h
 refine gW 18 (.ret (.d (D.b false))) ?_
 exact lb h
 replace h:=CK h
 refine gW 18 (.ret (.d (D.b true))) ?_
 exact lb h
 exact lb h) h
theorem TB(h:Yh eE eF=some eG):AN Tryz.prog 64 [.d ((D.l X0.D) eE),.d (X0.D eF)] [] (.d ((D.l X0.D) eG)) []:=by unfold Yh at h;apply g0 (o:=eG);refine gN 8 X0.D eE ?_;obtain⟨o3,h5,h⟩:=bS h;refine gl (aBq none h5) ?_;refine iB 24 h (fun h=>?_) fun h=>?_;refine xX 28 X0.D h fun x4 h=>?_;refine iB 32 h (fun h=>?_) fun h=>?_;exact lf h;refine gQ (AW X0.D ([]:List X0))<|gW 37 (.sl ((sub eE 0 o3).map X0.D))<|gW 38 (.sl ((([]:List X0)++(sub eE 0 o3)).map X0.D))<|gW 42 (.sl (((([]:List X0)++(sub eE 0 o3))++[eF]).map X0.D))<|gW 46 (.sl ((sub eE o3 (eE.length:Int)).map X0.D))<|gW 47 (.sl ((((([]:List X0)++(sub eE 0 o3))++[eF])++(sub eE o3 (eE.length:Int))).map X0.D)) ?_;obtain⟨h9,h⟩:=cS h;refine gQ (DS X0.D h9)<|gQ (AW X0.D (sub eE 0 o3)) ?_;obtain⟨h10,h⟩:=cS h;refine gQ (AY X0.D h10)<|gQ (AX X0.D ([]:List X0) (sub eE 0 o3))<|gQ (AW X0.D [eF])<|gQ (AW X0.D [eF]) ?_;obtain⟨h11,h⟩:=cS h;refine gQ (AY X0.D h11)<|gQ (AX X0.D (([]:List X0)++(sub eE 0 o3)) [eF]) ?_;obtain⟨h12,h⟩:=cS h;refine gQ (DR X0.D h12)<|gQ (AW X0.D (sub eE o3 (eE.length:Int))) ?_;obtain⟨h13,h⟩:=cS h;refine gQ (AY X0.D h13)<|gQ (AX X0.D ((([]:List X0)++(sub eE 0 o3))++[eF]) (sub eE o3 (eE.length:Int))) ?_;exact lf h;refine gQ (AW X0.D ([]:List X0))<|gW 37 (.sl ((sub eE 0 o3).map X0.D))<|gW 38 (.sl ((([]:List X0)++(sub eE 0 o3)).map X0.D))<|gW 42 (.sl (((([]:List X0)++(sub eE 0 o3))++[eF]).map X0.D))<|gW 46 (.sl ((sub eE o3 (eE.length:Int)).map X0.D))<|gW 47 (.sl ((((([]:List X0)++(sub eE 0 o3))++[eF])++(sub eE o3 (eE.length:Int))).map X0.D)) ?_;obtain⟨h14,h⟩:=cS h;refine gQ (DS X0.D h14)<|gQ (AW X0.D (sub eE 0 o3)) ?_;obtain⟨h15,h⟩:=cS h;refine gQ (AY X0.D h15)<|gQ (AX X0.D ([]:List X0) (sub eE 0 o3))<|gQ (AW X0.D [eF])<|gQ (AW X0.D [eF]) ?_;obtain⟨h16,h⟩:=cS h;refine gQ (AY X0.D h16)<|gQ (AX X0.D (([]:List X0)++(sub eE 0 o3)) [eF]) ?_;obtain⟨h17,h⟩:=cS h;refine gQ (DR X0.D h17)<|gQ (AW X0.D (sub eE o3 (eE.length:Int))) ?_;obtain⟨h18,h⟩:=cS h;refine gQ (AY X0.D h18)<|gQ (AX X0.D ((([]:List X0)++(sub eE 0 o3))++[eF]) (sub eE o3 (eE.length:Int))) ?_;exact lf h
theorem YK(rd:Option Nat)(h:RX dJ eB dM=some eH):Lq 63 rd 29 ⟨sp 56 0 [sI 1 dJ,bx 2,(5,.nil),sD 10 D.b eB],[cL 2 AA.D dM],[]⟩ (.normal,⟨sp 56 0 [sI 1 dJ,bx 2,rx 5],[cL 2 AA.D dM,(5,.row 81 4 (eH.map X0.D))],[]⟩):=by unfold RX at h;apply g0 (o:=eH);cases eB;replace h:=CJ h;exact lP h [.live [1,2,5],.keep [2],.nil 5 5 81 4,.sort];replace h:=CK h;refine gQ (AW X0.D ([X0.mk 3 0 ([]:List UInt8) false,X0.mk 3 0 ([]:List UInt8) true])) ?_;exact lP h [.live [1,2,5],.keep [2,13],.ren 13 5,.sort]
theorem Mx(rd:Option Nat)(h:RY dJ eE dK dL eB dM eI=some eH):Lq 63 rd 500883 ⟨sp 56 0 [sI 1 dJ,bx 2,sD 5 (D.l X0.D) eE,sI 6 dK,sI 7 dL,bx 8,sD 50 D.b eB],[cL 2 AA.D dM,cL 8 BJ.D eI],[]⟩ (.normal,⟨sp 56 0 [sI 1 dJ,bx 2,sD 5 (D.l X0.D) eH,sI 6 dK,sI 7 dL],[cL 2 AA.D dM],[]⟩):=by unfold RY at h;apply g0 (o:=eH);cases eB;replace h:=CJ h;exact lp h;replace h:=CK h;obtain⟨r12,h20,h⟩:=bS h;refine gC 54 (TB h20) ?_;exact lp h
theorem YM(rd:Option Nat)(h:YL dJ eE dK dL dM=some eH):Lq 63 rd 62610 ⟨sp 56 0 [sI 1 dJ,bx 2,sD 5 (D.l X0.D) eE,sI 6 dK,sI 7 dL],[cL 2 AA.D dM],[]⟩ (.normal,⟨sp 56 0 [sI 1 dJ,bx 2,sD 5 (D.l X0.D) eH,sI 6 dK,sI 7 dL],[cL 2 AA.D dM],[]⟩):=by unfold YL at h;apply g0 (o:=eH);refine xX 35 X8.D h fun x10 h=>?_;refine xX 39 BJ.D h fun x11 h=>?_;refine iB 44 h (fun h=>?_) fun h=>?_;obtain⟨o13,h21,h⟩:=bS h;refine gl (Mx rd h21) ?_;exact lp h;obtain⟨o14,h22,h⟩:=bS h;refine gl (Mx rd h22) ?_;exact lp h
def Rb(s1 s6:Int)(w2:AA)(s5:List X0)(s7:Int):St:=⟨sp 56 0 [sI 1 s1,bx 2,sD 5 (D.l X0.D) s5,sI 6 s6,sI 7 s7],[cL 2 AA.D w2],[]⟩
def Rd(s1 s6:Int)(w2:AA)(o:(List X0)):Ex×St:=(.exit 2,⟨sp 56 0 [sI 1 s1,bx 2,sD 5 (D.l X0.D) o,sI 6 s6],[cL 2 AA.D w2],[]⟩)
theorem YP(rd:Option Nat)(h:YO dJ dK dM eE dL=some eH):Lq 63 rd 7826 (Rb dJ dK dM eE dL) ((Rd dJ dK dM) eH):=
 lL (fun s:List X0×Int=>Rb dJ dK dM s.1 s.2) (Rd dJ dK dM) (eE,dL) (fun⟨eE,dL⟩ o h=>by
 unfold GW at h
 refine xX 25 X8.D h fun x17 h=>?_
 refine gN 28 BJ.D x17.args ?_
 refine iB 29 h (fun h=>?_) fun h=>?_
 obtain⟨o18,h28,h⟩:=bS h
 refine gl (YM rd h28) ?_
 exact lb h
 exact lb h) h
def RZ(s1:Int)(w2:AA)(s5:List X0)(s6:Int):St:=⟨sp 56 0 [sI 1 s1,bx 2,sD 5 (D.l X0.D) s5,sI 6 s6],[cL 2 AA.D w2],[]⟩
def Ra(s1:Int)(w2:AA)(o:(List X0)):Ex×St:=(.exit 0,⟨sp 56 0 [sD 5 (D.l X0.D) o],[],[]⟩)
theorem YN(rd:Option Nat)(h:aG2 dJ dM eE dK=some eH):Lq 63 rd 122 (RZ dJ dM eE dK) ((Ra dJ dM) eH):=
 lL (fun s:List X0×Int=>RZ dJ dM s.1 s.2) (Ra dJ dM) (eE,dK) (fun⟨eE,dK⟩ o h=>by
 unfold GV at h
 refine gN 17 X8.D dM.symbols ?_
 refine iB 18 h (fun h=>?_) fun h=>?_
 obtain⟨o19,h29,h⟩:=bS h
 refine gl (YP rd h29) ?_
 exact lb h
 exact lb h) h
theorem aKn(h:Xm dM dJ=some eE):AN Tryz.prog 63 [.d (AA.D dM),dI dJ] [] (.d ((D.l X0.D) eE)) []:=by unfold Xm at h;apply g0 (o:=eE);obtain⟨o1,h2,h⟩:=bS h;refine gl (YK none h2) ?_;obtain⟨o20,h30,h⟩:=bS h;refine gL [.look 5,.live [1,2,5,6],.keep [2]] (YN none h30) ?_;exact lf h
def UC(s1 s5:List X0)(s6:Int):St:=⟨sp 21 0 [sD 1 (D.l X0.D) s1,sD 5 (D.l X0.D) s5,sI 6 s6],[],[]⟩
def UD(s1:List X0)(o:(List X0)):Ex×St:=(.exit 0,⟨sp 21 0 [sD 5 (D.l X0.D) o],[],[]⟩)
theorem aCq(rd:Option Nat)(h:aH5 eE eG dJ=some eH):Lq 62 rd 58 (UC eE eG dJ) ((UD eE) eH):=
 lL (fun s:List X0×Int=>UC eE s.1 s.2) (UD eE) (eG,dJ) (fun⟨eG,dJ⟩ o h=>by
 unfold G6 at h
 refine gN 10 X0.D eE ?_
 refine iB 11 h (fun h=>?_) fun h=>?_
 refine xX 17 X0.D h fun x1 h=>?_
 obtain⟨r2,h3,h⟩:=bS h
 refine gC 19 (TB h3) ?_
 exact lb h
 exact lb h) h
theorem aPx(h:Zb eE eG=some eJ):AN Tryz.prog 62 [.d ((D.l X0.D) eE),.d ((D.l X0.D) eG)] [] (.d ((D.l X0.D) eJ)) []:=by unfold Zb at h;apply g0 (o:=eJ);obtain⟨o3,h4,h⟩:=bS h;refine gl (aCq none h4) ?_;exact lf h
theorem aNd(h:Qm eE eF=some eB):AN Tryz.prog 85 [.d ((D.l X0.D) eE),.d (X0.D eF)] [] (.d (D.b eB)) []:=by unfold Qm at h;apply g0 (o:=eB);refine gW 10 (.int (eE.length:Int)) ?_;obtain⟨r1,h1,h⟩:=bS h;refine gC 7 (TB h1)<|gN 8 X0.D r1<|gQ (Dj X0.D eE) ?_;exact lf h
theorem aA4(rd:Option Nat)(h:aA3 dJ eE eB eF eK=some eL):Lq 65 rd 453 ⟨sp 22 0 [sI 0 dJ,sD 1 (D.l X0.D) eE,bx 4,bx 5,sD 12 D.b eB],[cL 4 X0.D eF,cL 5 X0.D eK],[]⟩ (.normal,⟨sp 22 0 [sI 0 dJ,sD 1 (D.l X0.D) eE,bx 4,bx 5],[cL 4 X0.D eF,cL 5 X0.D eL],[]⟩):=by unfold aA3 at h;apply g0 (o:=eL);cases eB;replace h:=CJ h;refine gW 19 (.str (eK.str++([97]:List UInt8))) ?_;obtain⟨h4,h⟩:=cS h;refine gQ (Hr h4) ?_;exact lp h;replace h:=CK h;exact lp h
theorem aA2(rd:Option Nat)(h:Sj dJ eE eF eK=some eL):Lq 65 rd 113 ⟨sp 22 0 [sI 0 dJ,sD 1 (D.l X0.D) eE,bx 4,bx 5],[cL 4 X0.D eF,cL 5 X0.D eK],[]⟩ (.normal,⟨sp 22 0 [sI 0 dJ,sD 1 (D.l X0.D) eE,bx 4,bx 5],[cL 4 X0.D eF,cL 5 X0.D eL],[]⟩):=by unfold Sj at h;apply g0 (o:=eL);obtain⟨o2,h5,h⟩:=bS h;refine gl (aA4 rd h5) ?_;exact lp h
def Sl(s0:Int)(s1:List X0)(w4 w5:X0):St:=⟨sp 22 0 [sI 0 s0,sD 1 (D.l X0.D) s1,bx 4,bx 5],[cL 4 X0.D w4,cL 5 X0.D w5],[]⟩
def Sm(s0:Int)(s1:List X0)(w4 o:X0):Ex×St:=(.exit 0,⟨sp 22 0 [bx 4,bx 5],[cL 4 X0.D w4,cL 5 X0.D o],[]⟩)
theorem aA5(rd:Option Nat)(h:Sk dJ eE eF eK=some eL):Lq 65 rd 28 (Sl dJ eE eF eK) ((Sm dJ eE eF) eL):=
 lL (fun s:X0=>Sl dJ eE eF s) (Sm dJ eE eF) eK (fun eK o h=>by
 unfold Gh at h
 obtain⟨r1,h1,h⟩:=bS h
 refine gQ (aNd h1) ?_
 cases r1
 replace h:=CJ h
 refine gW 10 (.ret (.d (D.b false))) ?_
 exact lb h
 replace h:=CK h
 refine gW 10 (.ret (.d (D.b true))) ?_
 obtain⟨o3,h6,h⟩:=bS h
 refine gl (aA2 rd h6) ?_
 exact lb h) h
theorem aOx(h:Y7 dJ eE=some eF):AN Tryz.prog 65 [dI dJ,.d ((D.l X0.D) eE)] [] (.d (X0.D eF)) []:=by unfold Y7 at h;apply g0 (o:=eF);obtain⟨o4,h7,h⟩:=bS h;refine gl (aA5 none h7) ?_;exact lf h
theorem WW(rd:Option Nat)(h:WV dJ eE eB=some eH):Lq 44 rd 29 ⟨sp 23 0 [sI 2 dJ,sD 7 (D.l X0.D) eE,sD 16 D.b eB],[],[]⟩ (.normal,⟨sp 23 0 [sD 7 (D.l X0.D) eH],[],[]⟩):=by unfold WV at h;apply g0 (o:=eH);cases eB;replace h:=CJ h;exact lp h;replace h:=CK h;obtain⟨r4,h5,h⟩:=bS h;refine gC 20 (aOx h5) ?_;obtain⟨r5,h6,h⟩:=bS h;refine gC 21 (TB h6) ?_;exact lp h
theorem aMy(h:Q3 dM dN dJ=some eE):AN Tryz.prog 44 [.d (AA.D dM),.d (AA.D dN),dI dJ] [] (.d ((D.l X0.D) eE)) []:=by unfold Q3 at h;apply g0 (o:=eE);obtain⟨r1,h1,h⟩:=bS h;refine gC 10 (aKn h1) ?_;obtain⟨r2,h2,h⟩:=bS h;refine gC 13 (aKn h2) ?_;obtain⟨r3,h3,h⟩:=bS h;refine gC 14 (aPx h3) ?_;obtain⟨o6,h7,h⟩:=bS h;refine gl (WW none h7) ?_;exact lf h
def Sw(s2:Int)(s3 s10:List X0)(w4 w5:AA)(s11:Int)(w9:List X3):St:=⟨sp 68 0 [sI 2 s2,sD 3 (D.l X0.D) s3,bx 4,bx 5,rx 9,sD 10 (D.l X0.D) s10,sI 11 s11],[cL 4 AA.D w4,cL 5 AA.D w5,(9,.row 44 2 (w9.map X3.D))],[]⟩
def Sx(s2:Int)(s3 s10:List X0)(w4 w5:AA)(o:(List X3)):Ex×St:=(.exit 0,⟨sp 68 0 [rx 9],[(9,.row 44 2 (o.map X3.D))],[]⟩)
theorem aA9(rd:Option Nat)(self:AA->AA->Int->(List X0)->Option (List X3))(hs:∀(a0 a1:AA) (a2:Int) (a3:List X0) (r:List X3),self a0 a1 a2 a3=some r->AN Tryz.prog 23 [.d (AA.D a0),.d (AA.D a1),dI a2,.d ((D.l X0.D) a3)] [] (.d ((D.l X3.D) r)) []){s2:Int}{s3 s10:List X0}{w4 w5:AA}{s11:Int}{w9:List X3}{t:(List X3)}(h:aHd self s2 s3 s10 w4 w5 s11 w9=some t):Lq 23 rd 250 (Sw s2 s3 s10 w4 w5 s11 w9) ((Sx s2 s3 s10 w4 w5) t):=
 lL (fun s:Int×List X3=>Sw s2 s3 s10 w4 w5 s.1 s.2) (Sx s2 s3 s10 w4 w5) (s11,w9) (fun⟨s11,w9⟩ o h=>by
 unfold Gi at h
 refine gN 47 X0.D s10 ?_
 refine iB 48 h (fun h=>?_) fun h=>?_
 refine gQ (AW X0.D ([]:List X0))<|gG 53 (.sl ((([]:List X0)++s3).map X0.D)) (AW X0.D s3) ?_
 obtain⟨h14,h⟩:=cS h
 refine gQ (AY X0.D h14)<|gQ (AX X0.D ([]:List X0) s3)<|xX 56 X0.D h fun x8 h=>?_
 refine gQ (AW X0.D [x8])<|gG 59 (.sl (((([]:List X0)++s3)++[x8]).map X0.D)) (AW X0.D [x8]) ?_
 obtain⟨h16,h⟩:=cS h
 refine gQ (AY X0.D h16)<|gQ (AX X0.D (([]:List X0)++s3) [x8]) ?_
 obtain⟨r9,h17,h⟩:=bS h
 refine gG 65 (.ret (.d ((D.l X3.D) r9))) (hs w4 w5 s2 ((([]:List X0)++s3)++[x8]) r9 h17)<|gG 66 (.sl ((w9++r9).map X3.D)) (AW X3.D r9) ?_
 obtain⟨h18,h⟩:=cS h
 refine gQ (AY X3.D h18)<|gQ (AX X3.D w9 r9) ?_
 exact lB h [.live [2,3,4,5,9,10,11],.keep [4,5,66],.ren 66 9,.sort]
 exact lb h) h
theorem aHc(self:AA->AA->Int->(List X0)->Option (List X3))(hs:∀(a0 a1:AA) (a2:Int) (a3:List X0) (r:List X3),self a0 a1 a2 a3=some r->AN Tryz.prog 23 [.d (AA.D a0),.d (AA.D a1),dI a2,.d ((D.l X0.D) a3)] [] (.d ((D.l X3.D) r)) [])(a0 a1:AA)(a2:Int)(a3:List X0)(r:List X3)(h:aKy self a0 a1 a2 a3=some r):AN Tryz.prog 23 [.d (AA.D a0),.d (AA.D a1),dI a2,.d ((D.l X0.D) a3)] [] (.d ((D.l X3.D) r)) []:=by unfold aKy at h;apply g0 (o:=r);refine gN 14 X0.D a3<|xX 18 X7.D h fun x1 h=>?_;refine gN 21 dZ x1.types ?_;refine iB 22 h (fun h=>?_) fun h=>?_;refine xX 26 X7.D h fun x2 h=>?_;refine gQ (AW X3.D [X3.mk x2.name a3]) ?_;exact lf h;refine gW 41 (.int (a3.length:Int))<|xX 37 X7.D h fun x3 h=>?_;refine gQ (Dj X0.D a3)<|xX 42 dZ h fun x4 h=>?_;obtain⟨r5,h6,h⟩:=bS h;refine gC 44 (aMy h6) ?_;obtain⟨o10,h19,h⟩:=bS h;refine gL [.live [2,3,4,5,9,10,11],.keep [4,5],.nil 9 9 44 2,.sort] (aA9 none self hs h19) ?_;exact lf h
theorem Sy:∀(n:Nat) (a0 a1:AA) (a2:Int) (a3:List X0) (r:List X3),aFc n a0 a1 a2 a3=some r->AN Tryz.prog 23 [.d (AA.D a0),.d (AA.D a1),dI a2,.d ((D.l X0.D) a3)] [] (.d ((D.l X3.D) r)) []
 |0,a0,a1,a2,a3,r,h=>by simp[aFc]at h
 |n+1,a0,a1,a2,a3,r,h=>aHc _ (Sy n) a0 a1 a2 a3 r h
theorem aO4(h:Yb dM dN dJ eE=some eM):AN Tryz.prog 23 [.d (AA.D dM),.d (AA.D dN),dI dJ,.d ((D.l X0.D) eE)] [] (.d ((D.l X3.D) eM)) []:=Sy 100000 dM dN dJ eE eM h
def Tn(s1:Int)(w2:AA)(s5:Int):St:=⟨sp 27 0 [sD 1 dW s1,bx 2,sI 5 s5],[cL 2 AA.D w2],[]⟩
def To(s1:Int)(w2:AA)(o:Unit⊕Unit):Ex×St:=match o with
 | .inl o=>(.exit 0,⟨sp 27 0 [],[],[]⟩)
 | .inr o=>(.ret,⟨sp 27 0 [sD 4 D.b true],[],[]⟩)
theorem aCd(rd:Option Nat)(h:aHu dJ dM dK=some eC):Lq 24 rd 26 (Tn dJ dM dK) ((To dJ dM) eC):=
 lL (fun s:Int=>Tn dJ dM s) (To dJ dM) dK (fun dK o h=>by
 unfold Gx at h
 refine gN 9 Xd.D dM.states ?_
 refine iB 10 h (fun h=>?_) fun h=>?_
 obtain⟨h2,h⟩:=cS h
 refine gQ h2<|gQ (of_decide_eq_true rfl:(2:Int)≠0) ?_
 refine iB 19 h (fun h=>?_) fun h=>?_
 refine xX 23 Xd.D h fun x1 h=>?_
 refine iB 26 h (fun h=>?_) fun h=>?_
 exact lb h
 exact lb h
 exact lb h
 exact lb h) h
theorem aLc(h:Yy dM dJ=some eB):AN Tryz.prog 24 [.d (AA.D dM),.d (dW dJ)] [] (.d (D.b eB)) []:=by
 unfold Yy at h;apply g0 (o:=eB);obtain⟨o2,h6,h⟩:=bS h;refine gl (aCd none h6) ?_;replace h:=AM h;rcases h with⟨o3,rfl,h⟩|⟨o4,rfl,h⟩
 exact lf h;exact lf h
def TX(s0:List X7)(s5:Int)(w3:X3)(s6:Int):St:=⟨sp 56 0 [sD 0 (D.l X7.D) s0,bx 3,sI 5 s5,sI 6 s6],[cL 3 X3.D w3],[]⟩
def TY(s0:List X7)(s5:Int)(w3:X3)(o:Unit⊕Unit):Ex×St:=match o with
 | .inl o=>(.exit 0,⟨sp 56 0 [],[],[]⟩)
 | .inr o=>(.ret,⟨sp 56 0 [sD 4 D.b false],[],[]⟩)
theorem aB5(rd:Option Nat)(h:aHp eN dJ eO dK=some eC):Lq 12 rd 122 (TX eN dJ eO dK) ((TY eN dJ eO) eC):=
 lL (fun s:Int=>TX eN dJ eO s) (TY eN dJ eO) dK (fun dK o h=>by
 unfold JI at h
 refine gN 28 X0.D eO.args ?_
 refine iB 29 h (fun h=>?_) fun h=>?_
 refine xX 35 X0.D h fun x3 h=>?_
 refine xX 40 X7.D h fun x4 h=>?_
 refine xX 44 dZ h fun x5 h=>?_
 refine iB 47 h (fun h=>?_) fun h=>?_
 exact lb h
 refine xX 51 X0.D h fun x6 h=>?_
 obtain⟨r7,h11,h⟩:=bS h
 refine gC 53 (aCx h11) ?_
 refine iB 55 h (fun h=>?_) fun h=>?_
 exact lb h
 exact lb h
 exact lb h) h
theorem aHq(h:Yq eN eO=some eB):AN Tryz.prog 12 [.d ((D.l X7.D) eN),.d (X3.D eO)] [] (.d (D.b eB)) []:=by
 unfold Yq at h;apply g0 (o:=eB);obtain⟨r1,h1,h⟩:=bS h;refine gC 10 (aK9 h1) ?_;refine iB 13 h (fun h=>?_) fun h=>?_;exact lf h;refine gW 22 (.int (eO.args.length:Int))<|xX 16 X7.D h fun x2 h=>?_;refine gN 19 dZ x2.types<|gQ (Dj X0.D eO.args) ?_;refine iB 24 h (fun h=>?_) fun h=>?_;exact lf h;obtain⟨o8,h13,h⟩:=bS h;refine gl (aB5 none h13) ?_;replace h:=AM h;rcases h with⟨o9,rfl,h⟩|⟨o10,rfl,h⟩
 exact lf h;exact lf h
def S3(s0:List X2)(s1:Int)(w4:X0)(s6:Int):St:=⟨sp 26 0 [sD 0 (D.l X2.D) s0,sI 1 s1,bx 4,sI 6 s6],[cL 4 X0.D w4],[]⟩
def S4(s0:List X2)(s1:Int)(w4:X0)(o:Unit⊕X0):Ex×St:=match o with
 | .inl o=>(.exit 0,⟨sp 26 0 [bx 4],[cL 4 X0.D w4],[]⟩)
 | .inr o=>(.ret,⟨sp 26 0 [bx 4,sD 5 D.b true],[cL 4 X0.D o],[]⟩)
theorem aBe(rd:Option Nat)(h:aHh eQ dJ eF dK=some eS):Lq 72 rd 26 (S3 eQ dJ eF dK) ((S4 eQ dJ eF) eS):=
 lL (fun s:Int=>S3 eQ dJ eF s) (S4 eQ dJ eF) dK (fun dK o h=>by
 unfold JF at h
 refine gN 9 X2.D eQ ?_
 refine iB 10 h (fun h=>?_) fun h=>?_
 refine xX 15 X2.D h fun x1 h=>?_
 refine iB 19 h (fun h=>?_) fun h=>?_
 refine xX 22 X2.D h fun x2 h=>?_
 exact lb h
 exact lb h
 exact lb h) h
theorem Ld(h:Ye eQ dJ=some eT):AN Tryz.prog 72 [.d ((D.l X2.D) eQ),dI dJ] [] (.tup [.d (X0.D eT.1),.d (D.b eT.2)]) []:=by
 unfold Ye at h;apply g0 (o:=eT);obtain⟨o3,h5,h⟩:=bS h;refine gl (aBe none h5) ?_;replace h:=AM h;rcases h with⟨o4,rfl,h⟩|⟨o5,rfl,h⟩
 exact lf h;exact lf h
def T4(s0 s1:List X2)(s5:Int):St:=⟨sp 34 0 [sD 0 (D.l X2.D) s0,sD 1 (D.l X2.D) s1,sI 5 s5],[],[]⟩
def T5(s0 s1:List X2)(o:Unit⊕Unit):Ex×St:=match o with
 | .inl o=>(.exit 0,⟨sp 34 0 [],[],[]⟩)
 | .inr o=>(.ret,⟨sp 34 0 [sD 4 D.b false],[],[]⟩)
theorem aCl(rd:Option Nat)(h:aH2 eQ eU dJ=some eC):Lq 97 rd 26 (T4 eQ eU dJ) ((T5 eQ eU) eC):=
 lL (fun s:Int=>T4 eQ eU s) (T5 eQ eU) dJ (fun dJ o h=>by
 unfold JL at h
 refine gN 10 X2.D eQ ?_
 refine iB 11 h (fun h=>?_) fun h=>?_
 refine xX 18 X2.D h fun x1 h=>?_
 obtain⟨r2,h3,h⟩:=bS h
 refine gC 21 (Ld h3) ?_
 refine iB 25 h (fun h=>?_) fun h=>?_
 refine xX 29 X2.D h fun x3 h=>?_
 refine iB 33 h (fun h=>?_) fun h=>?_
 exact lb h
 exact lb h
 exact lb h
 exact lb h) h
theorem aPs(h:Z7 eQ eU=some eB):AN Tryz.prog 97 [.d ((D.l X2.D) eQ),.d ((D.l X2.D) eU)] [] (.d (D.b eB)) []:=by
 unfold Z7 at h;apply g0 (o:=eB);obtain⟨o4,h7,h⟩:=bS h;refine gl (aCl none h7) ?_;replace h:=AM h;rcases h with⟨o5,rfl,h⟩|⟨o6,rfl,h⟩
 exact lf h;exact lf h
theorem aAo(rd:Option Nat)(h:aAn eQ eU dJ eB eV eF=some eW):Lq 98 rd 29855 ⟨sp 42 0 [sD 0 (D.l X2.D) eQ,sD 1 (D.l X2.D) eU,rx 5,sI 6 dJ,bx 9,sD 34 D.b eB],[(5,.row 117 5 (eV.map X2.D)),cL 9 X0.D eF],[]⟩ (.normal,⟨sp 42 0 [sD 0 (D.l X2.D) eQ,sD 1 (D.l X2.D) eU,rx 5,sI 6 dJ],[(5,.row 117 5 (eW.map X2.D))],[]⟩):=by unfold aAn at h;apply g0 (o:=eW);cases eB;replace h:=CJ h;exact lp h;replace h:=CK h;refine gQ (AW X2.D [X2.mk dJ eF])<|gG 40 (.sl ((eV++[X2.mk dJ eF]).map X2.D)) (AW X2.D [X2.mk dJ eF]) ?_;obtain⟨h17,h⟩:=cS h;refine gQ (AY X2.D h17)<|gQ (AX X2.D eV [X2.mk dJ eF]) ?_;exact lP h [.live [0,1,5,6],.keep [40],.ren 40 5,.sort]
theorem aAm(rd:Option Nat)(h:aAl eQ eU dJ eB eX eV eF eK=some eW):Lq 98 rd 7463 ⟨sp 42 0 [sD 0 (D.l X2.D) eQ,sD 1 (D.l X2.D) eU,rx 5,sI 6 dJ,bx 7,bx 9,sD 10 D.b eB,sD 27 D.b eX],[(5,.row 117 5 (eV.map X2.D)),cL 7 X0.D eF,cL 9 X0.D eK],[]⟩ (.normal,⟨sp 42 0 [sD 0 (D.l X2.D) eQ,sD 1 (D.l X2.D) eU,rx 5,sI 6 dJ],[(5,.row 117 5 (eW.map X2.D))],[]⟩):=by unfold aAl at h;apply g0 (o:=eW);cases eX;replace h:=CJ h;obtain⟨o8,h18,h⟩:=bS h;refine gl (aAo rd h18) ?_;exact lp h;replace h:=CK h;refine gQ (AW X2.D [X2.mk dJ eF])<|gG 33 (.sl ((eV++[X2.mk dJ eF]).map X2.D)) (AW X2.D [X2.mk dJ eF]) ?_;obtain⟨h15,h⟩:=cS h;refine gQ (AY X2.D h15)<|gQ (AX X2.D eV [X2.mk dJ eF]) ?_;exact lP h [.live [0,1,5,6],.keep [33],.ren 33 5,.sort]
theorem aAk(rd:Option Nat)(h:aAj eQ eU dJ eV=some eW):Lq 98 rd 466 ⟨sp 42 0 [sD 0 (D.l X2.D) eQ,sD 1 (D.l X2.D) eU,rx 5,sI 6 dJ],[(5,.row 117 5 (eV.map X2.D))],[]⟩ (.normal,⟨sp 42 0 [sD 0 (D.l X2.D) eQ,sD 1 (D.l X2.D) eU,rx 5,sI 6 dJ],[(5,.row 117 5 (eW.map X2.D))],[]⟩):=by unfold aAj at h;apply g0 (o:=eW);obtain⟨r6,h12,h⟩:=bS h;refine gC 18 (Ld h12) ?_;obtain⟨r7,h13,h⟩:=bS h;refine gC 24 (Ld h13) ?_;obtain⟨o9,h19,h⟩:=bS h;refine gl (aAm rd h19) ?_;exact lp h
def SU(s0 s1:List X2)(s6:Int)(w5:List X2):St:=⟨sp 42 0 [sD 0 (D.l X2.D) s0,sD 1 (D.l X2.D) s1,rx 5,sI 6 s6],[(5,.row 117 5 (w5.map X2.D))],[]⟩
def SX(s0 s1:List X2)(o:(List X2)):Ex×St:=(.exit 0,⟨sp 42 0 [rx 5],[(5,.row 117 5 (o.map X2.D))],[]⟩)
theorem aAp(rd:Option Nat)(h:aG9 eQ eU dJ eV=some eW):Lq 98 rd 58 (SU eQ eU dJ eV) ((SX eQ eU) eW):=
 lL (fun s:Int×List X2=>SU eQ eU s.1 s.2) (SX eQ eU) (dJ,eV) (fun⟨dJ,eV⟩ o h=>by
 unfold Ge at h
 refine iB 12 h (fun h=>?_) fun h=>?_
 obtain⟨o10,h20,h⟩:=bS h
 refine gl (aAk rd h20) ?_
 exact lb h
 exact lb h) h
theorem aOs(h:Y2 eQ eU=some eV):AN Tryz.prog 98 [.d ((D.l X2.D) eQ),.d ((D.l X2.D) eU)] [] (.d ((D.l X2.D) eV)) []:=by unfold Y2 at h;apply g0 (o:=eV);obtain⟨o11,h21,h⟩:=bS h;refine gL [.live [0,1,5,6],.keep [],.nil 5 5 117 5,.sort] (aAp none h21) ?_;exact lf h
def Tw(s0:List X2)(w3:X2)(s5:Int):St:=⟨sp 38 0 [sD 0 (D.l X2.D) s0,bx 3,sI 5 s5],[cL 3 X2.D w3],[]⟩
def Tx(s0:List X2)(w3:X2)(o:Int):Ex×St:=(.exit 0,⟨sp 38 0 [sD 0 (D.l X2.D) s0,bx 3,sI 5 o],[cL 3 X2.D w3],[]⟩)
theorem aCh(rd:Option Nat)(h:aH0 eQ eY dJ=some dK):Lq 99 rd 28 (Tw eQ eY dJ) ((Tx eQ eY) dK):=
 lL (fun s:Int=>Tw eQ eY s) (Tx eQ eY) dJ (fun dJ o h=>by
 unfold G1 at h
 refine iB 11 h (fun h=>?_) fun h=>?_
 refine xX 15 X2.D h fun x1 h=>?_
 refine iB 21 h (fun h=>?_) fun h=>?_
 exact lb h
 exact lb h
 exact lb h) h
theorem aPm(h:Z3 eQ eY=some eU):AN Tryz.prog 99 [.d ((D.l X2.D) eQ),.d (X2.D eY)] [] (.d ((D.l X2.D) eU)) []:=by unfold Z3 at h;apply g0 (o:=eU);refine gN 8 X2.D eQ ?_;obtain⟨o2,h4,h⟩:=bS h;refine gl (aCh none h4)<|gQ (AW X2.D ([]:List X2))<|gW 27 (.sl ((sub eQ 0 o2).map X2.D))<|gW 28 (.sl ((([]:List X2)++(sub eQ 0 o2)).map X2.D))<|gW 32 (.sl (((([]:List X2)++(sub eQ 0 o2))++[eY]).map X2.D))<|gW 36 (.sl ((sub eQ o2 (eQ.length:Int)).map X2.D))<|gW 37 (.sl ((((([]:List X2)++(sub eQ 0 o2))++[eY])++(sub eQ o2 (eQ.length:Int))).map X2.D)) ?_;obtain⟨h5,h⟩:=cS h;refine gQ (DS X2.D h5)<|gQ (AW X2.D (sub eQ 0 o2)) ?_;obtain⟨h6,h⟩:=cS h;refine gQ (AY X2.D h6)<|gQ (AX X2.D ([]:List X2) (sub eQ 0 o2))<|gQ (AW X2.D [eY])<|gQ (AW X2.D [eY]) ?_;obtain⟨h7,h⟩:=cS h;refine gQ (AY X2.D h7)<|gQ (AX X2.D (([]:List X2)++(sub eQ 0 o2)) [eY]) ?_;obtain⟨h8,h⟩:=cS h;refine gQ (DR X2.D h8)<|gQ (AW X2.D (sub eQ o2 (eQ.length:Int))) ?_;obtain⟨h9,h⟩:=cS h;refine gQ (AY X2.D h9)<|gQ (AX X2.D ((([]:List X2)++(sub eQ 0 o2))++[eY]) (sub eQ o2 (eQ.length:Int))) ?_;exact lf h
theorem M1(rd:Option Nat)(h:Rm dJ eQ eU dK eB eO dL eZ f8 eI eV=some f9):Lq 87 rd 521373 ⟨sp 121 0 [sI 1 dJ,bx 5,bx 6,bx 8,bx 9,sD 10 (D.l X2.D) eQ,sD 11 (D.l X2.D) eU,sI 12 dK,bx 13,rx 14,sD 80 D.b eB],[cL 5 X3.D eO,(6,.cells ([dI dL,.nil,.nil])),cL 8 X8.D eZ,cL 9 AL.D f8,cL 13 BJ.D eI,(14,.row 117 5 (eV.map X2.D))],[]⟩ (match (generalizing:=false) f9 with
 | .inl f9=>(.normal,⟨sp 121 0 [sI 1 dJ,bx 5,bx 6,bx 8,bx 9,sD 10 (D.l X2.D) f9,sD 11 (D.l X2.D) eU,sI 12 dK,bx 13,rx 14],[cL 5 X3.D eO,(6,.cells ([dI dL,.nil,.nil])),cL 8 X8.D eZ,cL 9 AL.D f8,cL 13 BJ.D eI,(14,.row 117 5 (eV.map X2.D))],[]⟩)
 | .inr f9=>(.ret,⟨sp 121 0 [bx 6,sD 7 D.b false],[cL 6 AL.D f8],[]⟩)):=by
 unfold Rm at h
 apply g0 (o:=f9)
 cases eB
 replace h:=CJ h
 exact lp h
 replace h:=CK h
 obtain⟨r32,h37,h⟩:=bS h
 refine gC 83 (aPs h37) ?_
 refine iB 84 h (fun h=>?_) fun h=>?_
 exact lp h
 obtain⟨r33,h39,h⟩:=bS h
 refine gC 88 (aOs h39) ?_
 exact lp h
theorem M3(rd:Option Nat)(h:Ro dJ eQ eU dK eB eO dL eZ f8 eV=some eW):Lq 87 rd 8342007 ⟨sp 121 0 [sI 1 dJ,bx 5,bx 6,bx 8,bx 9,sD 10 (D.l X2.D) eQ,sD 11 (D.l X2.D) eU,sI 12 dK,rx 14,sD 111 D.b eB],[cL 5 X3.D eO,(6,.cells ([dI dL,.nil,.nil])),cL 8 X8.D eZ,cL 9 AL.D f8,(14,.row 117 5 (eV.map X2.D))],[]⟩ (.normal,⟨sp 121 0 [sI 1 dJ,bx 5,bx 6,bx 8,bx 9,sD 10 (D.l X2.D) eQ,sD 11 (D.l X2.D) eW,sI 12 dK],[cL 5 X3.D eO,(6,.cells ([dI dL,.nil,.nil])),cL 8 X8.D eZ,cL 9 AL.D f8],[]⟩):=by unfold Ro at h;apply g0 (o:=eW);cases eB;replace h:=CJ h;exact lp h;replace h:=CK h;refine xX 114 X2.D h fun x39 h=>?_;obtain⟨r40,h48,h⟩:=bS h;refine gC 116 (aPm h48) ?_;exact lp h
theorem M2(rd:Option Nat)(h:Rn dJ eQ eU dK eB eO dL eZ f8 eI eV=some f9):Lq 87 rd 521375 ⟨sp 121 0 [sI 1 dJ,bx 5,bx 6,bx 8,bx 9,sD 10 (D.l X2.D) eQ,sD 11 (D.l X2.D) eU,sI 12 dK,bx 13,rx 14,sD 91 D.b eB],[cL 5 X3.D eO,(6,.cells ([dI dL,.nil,.nil])),cL 8 X8.D eZ,cL 9 AL.D f8,cL 13 BJ.D eI,(14,.row 117 5 (eV.map X2.D))],[]⟩ (match (generalizing:=false) f9 with
 | .inl f9=>(.normal,⟨sp 121 0 [sI 1 dJ,bx 5,bx 6,bx 8,bx 9,sD 10 (D.l X2.D) eQ,sD 11 (D.l X2.D) f9,sI 12 dK],[cL 5 X3.D eO,(6,.cells ([dI dL,.nil,.nil])),cL 8 X8.D eZ,cL 9 AL.D f8],[]⟩)
 | .inr f9=>(.ret,⟨sp 121 0 [bx 6,sD 7 D.b false],[cL 6 AL.D f8],[]⟩)):=by
 unfold Rn at h
 apply g0 (o:=f9)
 cases eB
 replace h:=CJ h
 exact lp h
 replace h:=CK h
 obtain⟨r37,h42,h⟩:=bS h
 refine gC 96 (Ld h42) ?_
 refine iB 100 h (fun h=>?_) fun h=>?_
 refine xX 105 X0.D h fun x38 h=>?_
 refine iB 108 h (fun h=>?_) fun h=>?_
 exact lp h
 obtain⟨o41,h49,h⟩:=bS h
 refine gl (M3 rd h49) ?_
 exact lp h
 obtain⟨o42,h50,h⟩:=bS h
 refine gl (M3 rd h50) ?_
 exact lp h
theorem YX(rd:Option Nat)(h:YW dJ eQ eU dK eO dL eZ f8=some fA):Lq 87 rd 8146 ⟨sp 121 0 [sI 1 dJ,bx 5,bx 6,bx 8,bx 9,sD 10 (D.l X2.D) eQ,sD 11 (D.l X2.D) eU,sI 12 dK],[cL 5 X3.D eO,(6,.cells ([dI dL,.nil,.nil])),cL 8 X8.D eZ,cL 9 AL.D f8],[]⟩ (match (generalizing:=false) fA with
 | .inl fA=>(.normal,⟨sp 121 0 [sI 1 dJ,bx 5,bx 6,bx 8,bx 9,sD 10 (D.l X2.D) fA.1,sD 11 (D.l X2.D) fA.2,sI 12 dK],[cL 5 X3.D eO,(6,.cells ([dI dL,.nil,.nil])),cL 8 X8.D eZ,cL 9 AL.D f8],[]⟩)
 | .inr fA=>(.ret,⟨sp 121 0 [bx 6,sD 7 D.b false],[cL 6 AL.D f8],[]⟩)):=by
 unfold YW at h
 apply g0 (o:=fA)
 refine xX 53 BJ.D h fun x29 h=>?_
 refine xX 60 X0.D h fun x30 h=>?_
 refine gQ (AW X2.D [X2.mk x29.n x30]) ?_
 refine iB 67 h (fun h=>?_) fun h=>?_
 refine xX 73 X0.D h fun x31 h=>?_
 refine iB 76 h (fun h=>?_) fun h=>?_
 exact lp h
 obtain⟨o34,h40,h⟩:=bS h
 refine gL [.live [1,5,6,8,9,10,11,12,13,14,80],.keep [5,6,8,9,13,63],.ren 63 14,.sort] (M1 rd h40) ?_
 replace h:=AM h
 rcases h with⟨o35,rfl,h⟩|⟨o36,rfl,h⟩
 obtain⟨o43,h51,h⟩:=bS h
 refine gl (M2 rd h51) ?_
 replace h:=AM h
 rcases h with⟨o44,rfl,h⟩|⟨o45,rfl,h⟩
 exact lp h
 exact lp h
 exact lp h
 obtain⟨o46,h52,h⟩:=bS h
 refine gL [.live [1,5,6,8,9,10,11,12,13,14,80],.keep [5,6,8,9,13,63],.ren 63 14,.sort] (M1 rd h52) ?_
 replace h:=AM h
 rcases h with⟨o47,rfl,h⟩|⟨o48,rfl,h⟩
 obtain⟨o49,h53,h⟩:=bS h
 refine gl (M2 rd h53) ?_
 replace h:=AM h
 rcases h with⟨o50,rfl,h⟩|⟨o51,rfl,h⟩
 exact lp h
 exact lp h
 exact lp h
def Rp(s1:Int)(w5:X3)(w6:Int)(w8:X8)(w9:AL)(s10 s11:List X2)(s12:Int):St:=⟨sp 121 0 [sI 1 s1,bx 5,bx 6,bx 8,bx 9,sD 10 (D.l X2.D) s10,sD 11 (D.l X2.D) s11,sI 12 s12],[cL 5 X3.D w5,(6,.cells ([dI w6,.nil,.nil])),cL 8 X8.D w8,cL 9 AL.D w9],[]⟩
def Rq(s1:Int)(w5:X3)(w6:Int)(w8:X8)(w9:AL)(o:(List X2×List X2)⊕Unit):Ex×St:=match o with
 | .inl o=>(.exit 0,⟨sp 121 0 [sI 1 s1,bx 6,sD 10 (D.l X2.D) o.1,sD 11 (D.l X2.D) o.2],[(6,.cells ([dI w6,.nil,.nil]))],[]⟩)
 | .inr o=>(.ret,⟨sp 121 0 [bx 6,sD 7 D.b false],[cL 6 AL.D w9],[]⟩)
theorem YY(rd:Option Nat)(h:OS dJ eO dK eZ f8 eQ eU dL=some fA):Lq 87 rd 1018 (Rp dJ eO dK eZ f8 eQ eU dL) ((Rq dJ eO dK eZ f8) fA):=
 lL (fun s:List X2×List X2×Int=>Rp dJ eO dK eZ f8 s.1 s.2.1 s.2.2) (Rq dJ eO dK eZ f8) (eQ,eU,dL) (fun⟨eQ,eU,dL⟩ o h=>by
 unfold GX at h
 refine gN 46 BJ.D eZ.args ?_
 refine iB 47 h (fun h=>?_) fun h=>?_
 obtain⟨o52,h54,h⟩:=bS h
 refine gl (YX rd h54) ?_
 replace h:=AM h
 rcases h with⟨o53,rfl,h⟩|⟨o54,rfl,h⟩
 exact lb h
 exact lb h
 exact lb h) h
theorem aOe(h:Xo dM dJ eO=some fB):AN Tryz.prog 87 [.d (AA.D dM),dI dJ,.d (X3.D eO)] [] (.tup [.d (AL.D fB.1),.d (D.b fB.2)]) []:=by
 unfold Xo at h;apply g0 (o:=fB);refine xX 20 X8.D h fun x1 h=>?_;refine xX 27 X7.D h fun x2 h=>?_;refine iB 33 h (fun h=>?_) fun h=>?_;exact lf h;refine gN 36 BJ.D x1.args<|gN 39 X0.D eO.args ?_;refine iB 41 h (fun h=>?_) fun h=>?_;exact lf h;obtain⟨o55,h55,h⟩:=bS h;refine gL [.look 10,.look 11,.live [1,5,6,8,9,10,11,12],.keep [5,6,8,9]] (YY none h55) ?_;replace h:=AM h;rcases h with⟨o56,rfl,h⟩|⟨o57,rfl,h⟩
 exact lf h;exact lf h
theorem aAa(rd:Option Nat)(h:ZZ dJ eB dM eO fC f8=some fD):Lq 68 rd 3731 ⟨sp 29 0 [bx 2,bx 3,rx 5,sI 6 dJ,bx 7,sD 23 D.b eB],[cL 2 AA.D dM,cL 3 X3.D eO,(5,.row 137 3 (fC.map AL.D)),cL 7 AL.D f8],[]⟩ (.normal,⟨sp 29 0 [bx 2,bx 3,rx 5,sI 6 dJ],[cL 2 AA.D dM,cL 3 X3.D eO,(5,.row 137 3 (fD.map AL.D))],[]⟩):=by unfold ZZ at h;apply g0 (o:=fD);cases eB;replace h:=CJ h;exact lp h;replace h:=CK h;refine gQ (AW AL.D [f8])<|gG 27 (.sl ((fC++[f8]).map AL.D)) (AW AL.D [f8]) ?_;obtain⟨h10,h⟩:=cS h;refine gQ (AY AL.D h10)<|gQ (AX AL.D fC [f8]) ?_;exact lP h [.live [2,3,5,6],.keep [2,3,27],.ren 27 5,.sort]
theorem ZY(rd:Option Nat)(h:ZX dJ dM eO fC=some fD):Lq 68 rd 466 ⟨sp 29 0 [bx 2,bx 3,rx 5,sI 6 dJ],[cL 2 AA.D dM,cL 3 X3.D eO,(5,.row 137 3 (fC.map AL.D))],[]⟩ (.normal,⟨sp 29 0 [bx 2,bx 3,rx 5,sI 6 dJ],[cL 2 AA.D dM,cL 3 X3.D eO,(5,.row 137 3 (fD.map AL.D))],[]⟩):=by unfold ZX at h;apply g0 (o:=fD);obtain⟨r4,h8,h⟩:=bS h;refine gC 20 (aOe h8) ?_;obtain⟨o5,h11,h⟩:=bS h;refine gl (aAa rd h11) ?_;exact lp h
def SM(w2:AA)(w3:X3)(s6:Int)(w5:List AL):St:=⟨sp 29 0 [bx 2,bx 3,rx 5,sI 6 s6],[cL 2 AA.D w2,cL 3 X3.D w3,(5,.row 137 3 (w5.map AL.D))],[]⟩
def SN(w2:AA)(w3:X3)(o:(List AL)):Ex×St:=(.exit 0,⟨sp 29 0 [rx 5],[(5,.row 137 3 (o.map AL.D))],[]⟩)
theorem aAc(rd:Option Nat)(h:aG7 dM eO dJ fC=some fD):Lq 68 rd 58 (SM dM eO dJ fC) ((SN dM eO) fD):=
 lL (fun s:Int×List AL=>SM dM eO s.1 s.2) (SN dM eO) (dJ,fC) (fun⟨dJ,fC⟩ o h=>by
 unfold Gc at h
 refine gN 12 X8.D dM.symbols ?_
 refine iB 13 h (fun h=>?_) fun h=>?_
 obtain⟨o6,h12,h⟩:=bS h
 refine gl (ZY rd h12) ?_
 exact lb h
 exact lb h) h
theorem aG8(h:Xy dM eO=some fC):AN Tryz.prog 68 [.d (AA.D dM),.d (X3.D eO)] [] (.d ((D.l AL.D) fC)) []:=by unfold Xy at h;apply g0 (o:=fC);obtain⟨o7,h13,h⟩:=bS h;refine gL [.live [2,3,5,6],.keep [2,3],.nil 5 5 137 3,.sort] (aAc none h13) ?_;exact lf h
def T6(s0 s1:List X2)(s5:Int):St:=⟨sp 35 0 [sD 0 (D.l X2.D) s0,sD 1 (D.l X2.D) s1,sI 5 s5],[],[]⟩
def T7(s0 s1:List X2)(o:Unit⊕Unit):Ex×St:=match o with
 | .inl o=>(.exit 0,⟨sp 35 0 [],[],[]⟩)
 | .inr o=>(.ret,⟨sp 35 0 [sD 4 D.b false],[],[]⟩)
theorem aCm(rd:Option Nat)(h:aH3 eQ eU dJ=some eC):Lq 86 rd 26 (T6 eQ eU dJ) ((T7 eQ eU) eC):=
 lL (fun s:Int=>T6 eQ eU s) (T7 eQ eU) dJ (fun dJ o h=>by
 unfold JM at h
 refine gN 10 X2.D eQ ?_
 refine iB 11 h (fun h=>?_) fun h=>?_
 refine xX 18 X2.D h fun x1 h=>?_
 obtain⟨r2,h3,h⟩:=bS h
 refine gC 21 (Ld h3) ?_
 refine iB 26 h (fun h=>?_) fun h=>?_
 exact lb h
 refine xX 30 X2.D h fun x3 h=>?_
 refine iB 34 h (fun h=>?_) fun h=>?_
 exact lb h
 exact lb h
 exact lb h) h
theorem aPu(h:Z8 eQ eU=some eB):AN Tryz.prog 86 [.d ((D.l X2.D) eQ),.d ((D.l X2.D) eU)] [] (.d (D.b eB)) []:=by
 unfold Z8 at h;apply g0 (o:=eB);obtain⟨o4,h7,h⟩:=bS h;refine gl (aCm none h7) ?_;replace h:=AM h;rcases h with⟨o5,rfl,h⟩|⟨o6,rfl,h⟩
 exact lf h;exact lf h
theorem aAv(rd:Option Nat)(h:aAu fC eQ dJ eB fE=some fD):Lq 67 rd 1865 ⟨sp 28 0 [sD 0 (D.l AL.D) fC,sD 1 (D.l X2.D) eQ,rx 5,sI 6 dJ,sD 19 D.b eB],[(5,.row 137 3 (fE.map AL.D))],[]⟩ (.normal,⟨sp 28 0 [sD 0 (D.l AL.D) fC,sD 1 (D.l X2.D) eQ,rx 5,sI 6 dJ],[(5,.row 137 3 (fD.map AL.D))],[]⟩):=by unfold aAu at h;apply g0 (o:=fD);cases eB;replace h:=CJ h;exact lp h;replace h:=CK h;refine xX 23 AL.D h fun x8 h=>?_;refine gQ (AW AL.D [x8])<|gG 26 (.sl ((fE++[x8]).map AL.D)) (AW AL.D [x8]) ?_;obtain⟨h14,h⟩:=cS h;refine gQ (AY AL.D h14)<|gQ (AX AL.D fE [x8]) ?_;exact lP h [.live [0,1,5,6],.keep [26],.ren 26 5,.sort]
theorem aAt(rd:Option Nat)(h:aAs fC eQ dJ fE=some fD):Lq 67 rd 466 ⟨sp 28 0 [sD 0 (D.l AL.D) fC,sD 1 (D.l X2.D) eQ,rx 5,sI 6 dJ],[(5,.row 137 3 (fE.map AL.D))],[]⟩ (.normal,⟨sp 28 0 [sD 0 (D.l AL.D) fC,sD 1 (D.l X2.D) eQ,rx 5,sI 6 dJ],[(5,.row 137 3 (fD.map AL.D))],[]⟩):=by unfold aAs at h;apply g0 (o:=fD);refine xX 15 AL.D h fun x6 h=>?_;obtain⟨r7,h11,h⟩:=bS h;refine gC 19 (aPu h11) ?_;obtain⟨o9,h15,h⟩:=bS h;refine gl (aAv rd h15) ?_;exact lp h
def Sa(s0:List AL)(s1:List X2)(s6:Int)(w5:List AL):St:=⟨sp 28 0 [sD 0 (D.l AL.D) s0,sD 1 (D.l X2.D) s1,rx 5,sI 6 s6],[(5,.row 137 3 (w5.map AL.D))],[]⟩
def Sb(s0:List AL)(s1:List X2)(o:(List AL)):Ex×St:=(.exit 0,⟨sp 28 0 [rx 5],[(5,.row 137 3 (o.map AL.D))],[]⟩)
theorem aAw(rd:Option Nat)(h:aHb fC eQ dJ fE=some fD):Lq 67 rd 58 (Sa fC eQ dJ fE) ((Sb fC eQ) fD):=
 lL (fun s:Int×List AL=>Sa fC eQ s.1 s.2) (Sb fC eQ) (dJ,fE) (fun⟨dJ,fE⟩ o h=>by
 unfold JE at h
 refine gN 9 AL.D fC ?_
 refine iB 10 h (fun h=>?_) fun h=>?_
 obtain⟨o10,h16,h⟩:=bS h
 refine gl (aAt rd h16) ?_
 exact lb h
 exact lb h) h
theorem aKt(h:Y4 fC eQ=some fE):AN Tryz.prog 67 [.d ((D.l AL.D) fC),.d ((D.l X2.D) eQ)] [] (.d ((D.l AL.D) fE)) []:=by unfold Y4 at h;apply g0 (o:=fE);obtain⟨o11,h17,h⟩:=bS h;refine gL [.live [0,1,5,6],.keep [],.nil 5 5 137 3,.sort] (aAw none h17) ?_;exact lf h
def Tp(s0:List AL)(s3 s4:Int):St:=⟨sp 21 0 [sD 0 (D.l AL.D) s0,sD 3 dU s3,sI 4 s4],[],[]⟩
def Tq(s0:List AL)(o:Int):Ex×St:=(.exit 0,⟨sp 21 0 [sD 3 dU o],[],[]⟩)
theorem aCe(rd:Option Nat)(h:aHv fC dJ dK=some dL):Lq 66 rd 58 (Tp fC dJ dK) ((Tq fC) dL):=
 lL (fun s:Int×Int=>Tp fC s.1 s.2) (Tq fC) (dJ,dK) (fun⟨dJ,dK⟩ o h=>by
 unfold Gy at h
 refine gN 7 AL.D fC ?_
 refine iB 8 h (fun h=>?_) fun h=>?_
 refine xX 14 AL.D h fun x1 h=>?_
 obtain⟨h3,h⟩:=cS h
 refine gQ h3 ?_
 exact lb h
 exact lb h) h
theorem aPi(h:Yz fC=some dJ):AN Tryz.prog 66 [.d ((D.l AL.D) fC)] [] (.d (dU dJ)) []:=by unfold Yz at h;apply g0 (o:=dJ);obtain⟨o2,h4,h⟩:=bS h;refine gl (aCe none h4) ?_;exact lf h
theorem aJ6(h:Qk dM eQ eO=some dJ):AN Tryz.prog 45 [.d (AA.D dM),.d ((D.l X2.D) eQ),.d (X3.D eO)] [] (.d (dU dJ)) []:=by unfold Qk at h;apply g0 (o:=dJ);obtain⟨r1,h1,h⟩:=bS h;refine gC 10 (aHq h1) ?_;refine iB 11 h (fun h=>?_) fun h=>?_;exact lf h;obtain⟨r2,h3,h⟩:=bS h;refine gC 14 (aG8 h3) ?_;obtain⟨r3,h4,h⟩:=bS h;refine gC 16 (aKt h4) ?_;obtain⟨r4,h5,h⟩:=bS h;refine gC 17 (aPi h5) ?_;exact lf h
theorem Mu(rd:Option Nat)(h:QU dJ dK dL fF fG fH eB dM fJ=some fK):Lq 46 rd 1910419 ⟨sp 74 0 [sD 1 dW dJ,sD 2 dU dK,bx 3,sD 7 dW dL,sI 8 fF,sD 9 dW fG,sI 10 fH,bx 11,sD 49 D.b eB],[cL 3 AA.D dM,cL 11 Xe.D fJ],[]⟩ (.normal,⟨sp 74 0 [sD 1 dW dJ,sD 2 dU dK,bx 3,sD 7 dW dL,sI 8 fF,sD 9 dW fK,sI 10 fH],[cL 3 AA.D dM],[]⟩):=by unfold QU at h;apply g0 (o:=fK);cases eB;replace h:=CJ h;exact lp h;replace h:=CK h;obtain⟨h9,h⟩:=cS h;refine gQ h9 ?_;exact lp h
theorem XN(rd:Option Nat)(h:XM dJ dK dL fF fG fH dM=some fK):Lq 46 rd 238802 ⟨sp 74 0 [sD 1 dW dJ,sD 2 dU dK,bx 3,sD 7 dW dL,sI 8 fF,sD 9 dW fG,sI 10 fH],[cL 3 AA.D dM],[]⟩ (.normal,⟨sp 74 0 [sD 1 dW dJ,sD 2 dU dK,bx 3,sD 7 dW dL,sI 8 fF,sD 9 dW fK,sI 10 fH],[cL 3 AA.D dM],[]⟩):=by unfold XM at h;apply g0 (o:=fK);refine xX 35 Xe.D h fun x1 h=>?_;refine iB 41 h (fun h=>?_) fun h=>?_;obtain⟨h7,h⟩:=cS h;refine gQ h7<|gQ (of_decide_eq_true rfl:(2:Int)≠0) ?_;obtain⟨o2,h10,h⟩:=bS h;refine gl (Mu rd h10) ?_;exact lp h;obtain⟨o3,h11,h⟩:=bS h;refine gl (Mu rd h11) ?_;exact lp h
def QX(s1 s2:Int)(s7 s8:Int)(w3:AA)(s9 s10:Int):St:=⟨sp 74 0 [sD 1 dW s1,sD 2 dU s2,bx 3,sD 7 dW s7,sI 8 s8,sD 9 dW s9,sI 10 s10],[cL 3 AA.D w3],[]⟩
def QY(s1 s2:Int)(s7 s8:Int)(w3:AA)(o:Int):Ex×St:=(.exit 2,⟨sp 74 0 [sD 1 dW s1,sD 2 dU s2,bx 3,sD 7 dW s7,sI 8 s8,sD 9 dW o],[cL 3 AA.D w3],[]⟩)
theorem XQ(rd:Option Nat)(h:XP dJ dK dL fF dM fG fH=some fK):Lq 46 rd 29850 (QX dJ dK dL fF dM fG fH) ((QY dJ dK dL fF dM) fK):=
 lL (fun s:Int×Int=>QX dJ dK dL fF dM s.1 s.2) (QY dJ dK dL fF dM) (fG,fH) (fun⟨fG,fH⟩ o h=>by
 unfold GM at h
 refine gN 28 Xe.D dM.trans ?_
 refine iB 29 h (fun h=>?_) fun h=>?_
 obtain⟨o4,h12,h⟩:=bS h
 refine gl (XN rd h12) ?_
 exact lb h
 exact lb h) h
theorem Mv(rd:Option Nat)(h:LR dJ dK dL fF fG eB dM=some fH):Lq 46 rd 29853 ⟨sp 74 0 [sD 1 dW dJ,sD 2 dU dK,bx 3,sD 7 dW dL,sI 8 fF,sD 9 dW fG,sD 66 D.b eB],[cL 3 AA.D dM],[]⟩ (.normal,⟨sp 74 0 [sD 1 dW dJ,sD 2 dU dK,bx 3,sD 7 dW dL,sI 8 fF,sD 9 dW fH],[cL 3 AA.D dM],[]⟩):=by unfold LR at h;apply g0 (o:=fH);cases eB;replace h:=CJ h;exact lp h;replace h:=CK h;obtain⟨h17,h⟩:=cS h;refine gQ h17 ?_;exact lp h
theorem XL(rd:Option Nat)(h:XK dJ dK dL fF dM=some fG):Lq 46 rd 466 ⟨sp 74 0 [sD 1 dW dJ,sD 2 dU dK,bx 3,sD 7 dW dL,sI 8 fF],[cL 3 AA.D dM],[]⟩ (.normal,⟨sp 74 0 [sD 1 dW dJ,sD 2 dU dK,bx 3,sD 7 dW fG,sI 8 fF],[cL 3 AA.D dM],[]⟩):=by unfold XK at h;apply g0 (o:=fG);obtain⟨h2,h⟩:=cS h;refine gQ h2<|gQ (of_decide_eq_true rfl:(2:Int)≠0) ?_;refine iB 24 h (fun h=>?_) fun h=>?_;exact lp h;obtain⟨o5,h13,h⟩:=bS h;refine gl (XQ rd h13) ?_;refine iB 58 h (fun h=>?_) fun h=>?_;refine xX 62 Xd.D h fun x6 h=>?_;obtain⟨o7,h18,h⟩:=bS h;refine gl (Mv rd h18) ?_;exact lp h;obtain⟨o8,h19,h⟩:=bS h;refine gl (Mv rd h19) ?_;exact lp h
def QV(s1 s2:Int)(w3:AA)(s7 s8:Int):St:=⟨sp 74 0 [sD 1 dW s1,sD 2 dU s2,bx 3,sD 7 dW s7,sI 8 s8],[cL 3 AA.D w3],[]⟩
def QW(s1 s2:Int)(w3:AA)(o:Int):Ex×St:=(.exit 0,⟨sp 74 0 [sD 7 dW o],[],[]⟩)
theorem XO(rd:Option Nat)(h:aGw dJ dK dM dL fF=some fG):Lq 46 rd 58 (QV dJ dK dM dL fF) ((QW dJ dK dM) fG):=
 lL (fun s:Int×Int=>QV dJ dK dM s.1 s.2) (QW dJ dK dM) (dL,fF) (fun⟨dL,fF⟩ o h=>by
 unfold Ev at h
 refine gN 15 Xd.D dM.states ?_
 refine iB 16 h (fun h=>?_) fun h=>?_
 obtain⟨o9,h20,h⟩:=bS h
 refine gl (XL rd h20) ?_
 exact lb h
 exact lb h) h
theorem aKg(h:Xi dM dJ dK=some dL):AN Tryz.prog 46 [.d (AA.D dM),.d (dW dJ),.d (dU dK)] [] (.d (dW dL)) []:=by unfold Xi at h;apply g0 (o:=dL);obtain⟨o10,h21,h⟩:=bS h;refine gl (XO none h21) ?_;exact lf h
theorem aC2(rd:Option Nat)(h:aC1 dJ dK eB dM dN fL fM=some fN):Lq 25 rd 61 ⟨sp 34 0 [bx 4,bx 5,bx 6,bx 8,sD 9 dU dJ,sD 10 dU dK,sD 18 D.b eB],[cL 4 AA.D dM,cL 5 AA.D dN,cL 6 Xf.D fL,cL 8 Xf.D fM],[]⟩ (.normal,⟨sp 34 0 [bx 5,bx 6,bx 8,sD 10 dU dK],[cL 5 AA.D dN,cL 6 Xf.D fN,cL 8 Xf.D fM],[]⟩):=by unfold aC1 at h;apply g0 (o:=fN);cases eB;replace h:=CJ h;exact lp h;replace h:=CK h;obtain⟨r3,h4,h⟩:=bS h;refine gC 23 (aKg h4) ?_;exact lp h
theorem aC3(rd:Option Nat)(h:UX dJ eB dM fL fM=some fN):Lq 25 rd 125 ⟨sp 34 0 [bx 5,bx 6,bx 8,sD 10 dU dJ,sD 26 D.b eB],[cL 5 AA.D dM,cL 6 Xf.D fL,cL 8 Xf.D fM],[]⟩ (.normal,⟨sp 34 0 [bx 6,bx 8],[cL 6 Xf.D fN,cL 8 Xf.D fM],[]⟩):=by unfold UX at h;apply g0 (o:=fN);cases eB;replace h:=CJ h;exact lp h;replace h:=CK h;obtain⟨r5,h7,h⟩:=bS h;refine gC 31 (aKg h7) ?_;exact lp h
theorem aP9(h:Zo dM dN fL eO=some fM):AN Tryz.prog 25 [.d (AA.D dM),.d (AA.D dN),.d (Xf.D fL),.d (X3.D eO)] [] (.d (Xf.D fM)) []:=by unfold Zo at h;apply g0 (o:=fM);obtain⟨r1,h1,h⟩:=bS h;refine gC 13 (aJ6 h1) ?_;obtain⟨r2,h2,h⟩:=bS h;refine gC 16 (aJ6 h2) ?_;obtain⟨o4,h5,h⟩:=bS h;refine gl (aC2 none h5) ?_;obtain⟨o6,h8,h⟩:=bS h;refine gl (aC3 none h8) ?_;exact lf h
def UE(s0:List Xf)(w3:Xf)(s5:Int):St:=⟨sp 18 0 [sD 0 (D.l Xf.D) s0,bx 3,sI 5 s5],[cL 3 Xf.D w3],[]⟩
def UF(s0:List Xf)(w3:Xf)(o:Unit⊕Unit):Ex×St:=match o with
 | .inl o=>(.exit 0,⟨sp 18 0 [],[],[]⟩)
 | .inr o=>(.ret,⟨sp 18 0 [sD 4 D.b true],[],[]⟩)
theorem aCr(rd:Option Nat)(h:aH6 fO fL dJ=some eC):Lq 26 rd 26 (UE fO fL dJ) ((UF fO fL) eC):=
 lL (fun s:Int=>UE fO fL s) (UF fO fL) dJ (fun dJ o h=>by
 unfold G7 at h
 refine gN 8 Xf.D fO ?_
 refine iB 9 h (fun h=>?_) fun h=>?_
 refine xX 14 Xf.D h fun x1 h=>?_
 refine iB 17 h (fun h=>?_) fun h=>?_
 exact lb h
 exact lb h
 exact lb h) h
theorem aPy(h:Zc fO fL=some eB):AN Tryz.prog 26 [.d ((D.l Xf.D) fO),.d (Xf.D fL)] [] (.d (D.b eB)) []:=by
 unfold Zc at h;apply g0 (o:=eB);obtain⟨o2,h4,h⟩:=bS h;refine gl (aCr none h4) ?_;replace h:=AM h;rcases h with⟨o3,rfl,h⟩|⟨o4,rfl,h⟩
 exact lf h;exact lf h
def QZ(w2 w3:AA)(s6:Int)(w5:List X3):St:=⟨sp 94 0 [bx 2,bx 3,rx 5,sI 6 s6],[cL 2 AA.D w2,cL 3 AA.D w3,(5,.row 44 2 (w5.map X3.D))],[]⟩
def RC(w2 w3:AA)(o:(List X3)):Ex×St:=(.exit 0,⟨sp 94 0 [bx 2,bx 3,rx 5],[cL 2 AA.D w2,cL 3 AA.D w3,(5,.row 44 2 (o.map X3.D))],[]⟩)
theorem XV(rd:Option Nat)(h:aGx dM dN dJ eM=some fP):Lq 11 rd 58 (QZ dM dN dJ eM) ((RC dM dN) fP):=
 lL (fun s:Int×List X3=>QZ dM dN s.1 s.2) (RC dM dN) (dJ,eM) (fun⟨dJ,eM⟩ o h=>by
 unfold GN at h
 refine gN 15 X7.D dM.decls ?_
 refine iB 16 h (fun h=>?_) fun h=>?_
 obtain⟨r2,h5,h⟩:=bS h
 refine gC 23 (aO4 h5)<|gG 24 (.sl ((eM++r2).map X3.D)) (AW X3.D r2) ?_
 obtain⟨h6,h⟩:=cS h
 refine gQ (AY X3.D h6)<|gQ (AX X3.D eM r2) ?_
 exact lB h [.live [2,3,5,6],.keep [2,3,24],.ren 24 5,.sort]
 exact lb h) h
theorem XU(rd:Option Nat)(h:XT dJ dK eB dM dN eM fO fQ fL=some fR):Lq 11 rd 4147603 ⟨sp 94 0 [bx 2,bx 3,rx 5,rx 7,rx 8,sI 9 dJ,sI 10 dK,bx 11,sD 81 D.b eB],[cL 2 AA.D dM,cL 3 AA.D dN,(5,.row 44 2 (eM.map X3.D)),(7,.row 75 2 (fO.map Xf.D)),(8,.row 3 1 (fQ.map dZ)),cL 11 Xf.D fL],[]⟩ (.normal,⟨sp 94 0 [bx 2,bx 3,rx 5,rx 7,rx 8,sI 9 dJ,sI 10 dK],[cL 2 AA.D dM,cL 3 AA.D dN,(5,.row 44 2 (eM.map X3.D)),(7,.row 75 2 (fR.1.map Xf.D)),(8,.row 3 1 (fR.2.map dZ))],[]⟩):=by unfold XT at h;apply g0 (o:=fR);cases eB;replace h:=CJ h;exact lp h;replace h:=CK h;refine gQ (AW Xf.D [fL])<|gG 85 (.sl ((fO++[fL]).map Xf.D)) (AW Xf.D [fL]) ?_;obtain⟨h23,h⟩:=cS h;refine gQ (AY Xf.D h23)<|gQ (AX Xf.D fO [fL])<|xX 89 dZ h fun x13 h=>?_;refine gQ (AW dZ [(AB .add .i64 x13 1)])<|gG 93 (.sl ((fQ++[(AB .add .i64 x13 1)]).map dZ)) (AW dZ [(AB .add .i64 x13 1)]) ?_;obtain⟨h25,h⟩:=cS h;refine gQ (AY dZ h25)<|gQ (AX dZ fQ [(AB .add .i64 x13 1)]) ?_;exact lP h [.live [2,3,5,7,8,9,10],.keep [2,3,5,85,93],.ren 85 7,.ren 93 8,.sort]
theorem XS(rd:Option Nat)(h:XR dJ dK dM dN eM fO fQ=some fR):Lq 11 rd 518450 ⟨sp 94 0 [bx 2,bx 3,rx 5,rx 7,rx 8,sI 9 dJ,sI 10 dK],[cL 2 AA.D dM,cL 3 AA.D dN,(5,.row 44 2 (eM.map X3.D)),(7,.row 75 2 (fO.map Xf.D)),(8,.row 3 1 (fQ.map dZ))],[]⟩ (.normal,⟨sp 94 0 [bx 2,bx 3,rx 5,rx 7,rx 8,sI 9 dJ,sI 10 dK],[cL 2 AA.D dM,cL 3 AA.D dN,(5,.row 44 2 (eM.map X3.D)),(7,.row 75 2 (fR.1.map Xf.D)),(8,.row 3 1 (fR.2.map dZ))],[]⟩):=by unfold XR at h;apply g0 (o:=fR);refine xX 71 Xf.D h fun x9 h=>?_;refine xX 75 X3.D h fun x10 h=>?_;obtain⟨r11,h20,h⟩:=bS h;refine gC 77 (aP9 h20) ?_;obtain⟨r12,h21,h⟩:=bS h;refine gC 80 (aPy h21) ?_;obtain⟨o14,h26,h⟩:=bS h;refine gl (XU rd h26) ?_;exact lp h
def RH(s9:Int)(w2 w3:AA)(w5:List X3)(s10:Int)(w7:List Xf)(w8:List Int):St:=⟨sp 94 0 [bx 2,bx 3,rx 5,rx 7,rx 8,sI 9 s9,sI 10 s10],[cL 2 AA.D w2,cL 3 AA.D w3,(5,.row 44 2 (w5.map X3.D)),(7,.row 75 2 (w7.map Xf.D)),(8,.row 3 1 (w8.map dZ))],[]⟩
def RI(s9:Int)(w2 w3:AA)(w5:List X3)(o:(List Xf×List Int)):Ex×St:=(.exit 4,⟨sp 94 0 [bx 2,bx 3,rx 5,rx 7,rx 8,sI 9 s9],[cL 2 AA.D w2,cL 3 AA.D w3,(5,.row 44 2 (w5.map X3.D)),(7,.row 75 2 (o.1.map Xf.D)),(8,.row 3 1 (o.2.map dZ))],[]⟩)
theorem XX(rd:Option Nat)(h:RG dJ dM dN eM dK fO fQ=some fR):Lq 11 rd 64806 (RH dJ dM dN eM dK fO fQ) ((RI dJ dM dN eM) fR):=
 lL (fun s:Int×List Xf×List Int=>RH dJ dM dN eM s.1 s.2.1 s.2.2) (RI dJ dM dN eM) (dK,fO,fQ) (fun⟨dK,fO,fQ⟩ o h=>by
 unfold GO at h
 refine gN 63 X3.D eM ?_
 refine iB 64 h (fun h=>?_) fun h=>?_
 obtain⟨o15,h27,h⟩:=bS h
 refine gl (XS rd h27) ?_
 exact lb h
 exact lb h) h
def RE(w2 w3:AA)(w5:List X3)(s9:Int)(w7:List Xf)(w8:List Int):St:=⟨sp 94 0 [bx 2,bx 3,rx 5,rx 7,rx 8,sI 9 s9],[cL 2 AA.D w2,cL 3 AA.D w3,(5,.row 44 2 (w5.map X3.D)),(7,.row 75 2 (w7.map Xf.D)),(8,.row 3 1 (w8.map dZ))],[]⟩
def RF(w2 w3:AA)(w5:List X3)(o:Unit⊕Int):Ex×St:=match o with
 | .inl o=>(.exit 2,⟨sp 94 0 [],[],[]⟩)
 | .inr o=>(.ret,⟨sp 94 0 [sI 4 o],[],[]⟩)
theorem XW(rd:Option Nat)(h:aGy dM dN eM dJ fO fQ=some fS):Lq 11 rd 506 (RE dM dN eM dJ fO fQ) ((RF dM dN eM) fS):=
 lL (fun s:Int×List Xf×List Int=>RE dM dN eM s.1 s.2.1 s.2.2) (RF dM dN eM) (dJ,fO,fQ) (fun⟨dJ,fO,fQ⟩ o h=>by
 unfold Ew at h
 refine gN 38 Xf.D fO ?_
 refine iB 39 h (fun h=>?_) fun h=>?_
 refine xX 45 Xf.D h fun x4 h=>?_
 obtain⟨r5,h12,h⟩:=bS h
 refine gC 48 (aLc h12)<|xX 52 Xf.D h fun x6 h=>?_
 obtain⟨r7,h14,h⟩:=bS h
 refine gC 55 (aLc h14) ?_
 refine iB 56 h (fun h=>?_) fun h=>?_
 refine xX 59 dZ h fun x8 h=>?_
 exact lb h
 obtain⟨o16,h28,h⟩:=bS h
 refine gl (XX rd h28) ?_
 exact lb h
 exact lb h) h
theorem aN9(h:Xj dM dN=some dJ):AN Tryz.prog 11 [.d (AA.D dM),.d (AA.D dN)] [] (dI dJ) []:=by
 unfold Xj at h;apply g0 (o:=dJ);obtain⟨o3,h7,h⟩:=bS h;refine gL [.live [2,3,5,6],.keep [2,3],.nil 5 5 44 2,.sort] (XV none h7) ?_;obtain⟨h8,h⟩:=cS h;refine gQ h8 ?_;obtain⟨h9,h⟩:=cS h;refine gQ h9<|gQ (AW Xf.D [Xf.mk (AB .shl .u32 1 (IntKind.wrap .u64 dM.start)) (AB .shl .u32 1 (IntKind.wrap .u64 dN.start))])<|gQ (AW dZ [0]) ?_;obtain⟨o17,h29,h⟩:=bS h;refine gL [.live [2,3,5,7,8,9],.keep [2,3,5,34,35],.ren 34 7,.ren 35 8,.sort] (XW none h29) ?_;replace h:=AM h;rcases h with⟨o18,rfl,h⟩|⟨o19,rfl,h⟩
 exact lf h;exact lf h
theorem YQ(rd:Option Nat)(h:Re fT eB dM eO=some fD):Lq 48 rd 61 ⟨sp 61 0 [sD 1 (D.l (D.l X0.D)) fT,bx 3,bx 5,(7,.nil),(8,.nil),sD 17 D.b eB],[cL 3 AA.D dM,cL 5 X3.D eO],[]⟩ (.normal,⟨sp 61 0 [sD 1 (D.l (D.l X0.D)) fT,bx 3,(7,.nil),sD 8 (D.l AL.D) fD],[cL 3 AA.D dM],[]⟩):=by unfold Re at h;apply g0 (o:=fD);cases eB;replace h:=CJ h;exact lP h [.look 8,.live [1,3,7,8],.keep [3]];replace h:=CK h;obtain⟨r2,h3,h⟩:=bS h;refine gC 20 (aG8 h3) ?_;exact lp h
theorem YS(rd:Option Nat)(h:aG4 fT fC dJ eB dM fU=some eH):Lq 48 rd 32037 ⟨sp 61 0 [sD 1 (D.l (D.l X0.D)) fT,bx 3,rx 7,sD 8 (D.l AL.D) fC,sI 9 dJ,(10,.nil),sD 31 D.b eB],[cL 3 AA.D dM,(7,.row 42 1 (fU.map (D.l X0.D)))],[]⟩ (.normal,⟨sp 61 0 [sD 1 (D.l (D.l X0.D)) fT,bx 3,rx 7,sD 8 (D.l AL.D) fC,sI 9 dJ,sD 10 (D.l X0.D) eH],[cL 3 AA.D dM,(7,.row 42 1 (fU.map (D.l X0.D)))],[]⟩):=by unfold aG4 at h;apply g0 (o:=eH);cases eB;replace h:=CJ h;exact lP h [.look 10,.live [1,3,7,8,9,10],.keep [3,7]];replace h:=CK h;refine xX 34 (D.l X0.D) h fun x13 h=>?_;exact lp h
theorem Ri(rd:Option Nat)(h:Rh fT fC dJ eE dK eB dM fU eF=some eH):Lq 48 rd 8201875 ⟨sp 61 0 [sD 1 (D.l (D.l X0.D)) fT,bx 3,rx 7,sD 8 (D.l AL.D) fC,sI 9 dJ,sD 10 (D.l X0.D) eE,sI 11 dK,bx 12,sD 52 D.b eB],[cL 3 AA.D dM,(7,.row 42 1 (fU.map (D.l X0.D))),cL 12 X0.D eF],[]⟩ (.normal,⟨sp 61 0 [sD 1 (D.l (D.l X0.D)) fT,bx 3,rx 7,sD 8 (D.l AL.D) fC,sI 9 dJ,sD 10 (D.l X0.D) eH,sI 11 dK],[cL 3 AA.D dM,(7,.row 42 1 (fU.map (D.l X0.D)))],[]⟩):=by unfold Rh at h;apply g0 (o:=eH);cases eB;replace h:=CJ h;exact lp h;replace h:=CK h;obtain⟨r17,h27,h⟩:=bS h;refine gC 55 (TB h27) ?_;exact lp h
theorem Rg(rd:Option Nat)(h:Rf fT fC dJ eE dK dM fU=some eH):Lq 48 rd 1025234 ⟨sp 61 0 [sD 1 (D.l (D.l X0.D)) fT,bx 3,rx 7,sD 8 (D.l AL.D) fC,sI 9 dJ,sD 10 (D.l X0.D) eE,sI 11 dK],[cL 3 AA.D dM,(7,.row 42 1 (fU.map (D.l X0.D)))],[]⟩ (.normal,⟨sp 61 0 [sD 1 (D.l (D.l X0.D)) fT,bx 3,rx 7,sD 8 (D.l AL.D) fC,sI 9 dJ,sD 10 (D.l X0.D) eH,sI 11 dK],[cL 3 AA.D dM,(7,.row 42 1 (fU.map (D.l X0.D)))],[]⟩):=by unfold Rf at h;apply g0 (o:=eH);refine xX 45 AL.D h fun x15 h=>?_;obtain⟨r16,h25,h⟩:=bS h;refine gC 49 (Ld h25) ?_;obtain⟨o18,h28,h⟩:=bS h;refine gl (Ri rd h28) ?_;exact lp h
def My(s1:List (List X0))(s8:List AL)(s9:Int)(w3:AA)(w7:List (List X0))(s10:List X0)(s11:Int):St:=⟨sp 61 0 [sD 1 (D.l (D.l X0.D)) s1,bx 3,rx 7,sD 8 (D.l AL.D) s8,sI 9 s9,sD 10 (D.l X0.D) s10,sI 11 s11],[cL 3 AA.D w3,(7,.row 42 1 (w7.map (D.l X0.D)))],[]⟩
def Mz(s1:List (List X0))(s8:List AL)(s9:Int)(w3:AA)(w7:List (List X0))(o:(List X0)):Ex×St:=(.exit 2,⟨sp 61 0 [sD 1 (D.l (D.l X0.D)) s1,bx 3,rx 7,sD 8 (D.l AL.D) s8,sI 9 s9,sD 10 (D.l X0.D) o],[cL 3 AA.D w3,(7,.row 42 1 (w7.map (D.l X0.D)))],[]⟩)
theorem Rj(rd:Option Nat)(h:aFb fT fC dJ dM fU eE dK=some eH):Lq 48 rd 128154 (My fT fC dJ dM fU eE dK) ((Mz fT fC dJ dM fU) eH):=
 lL (fun s:List X0×Int=>My fT fC dJ dM fU s.1 s.2) (Mz fT fC dJ dM fU) (eE,dK) (fun⟨eE,dK⟩ o h=>by
 unfold M0 at h
 refine gN 38 AL.D fC ?_
 refine iB 39 h (fun h=>?_) fun h=>?_
 obtain⟨o19,h29,h⟩:=bS h
 refine gl (Rg rd h29) ?_
 exact lb h
 exact lb h) h
theorem YR(rd:Option Nat)(h:aG3 fT fC dJ dM fU=some fV):Lq 48 rd 2002 ⟨sp 61 0 [sD 1 (D.l (D.l X0.D)) fT,bx 3,rx 7,sD 8 (D.l AL.D) fC,sI 9 dJ],[cL 3 AA.D dM,(7,.row 42 1 (fU.map (D.l X0.D)))],[]⟩ (.normal,⟨sp 61 0 [sD 1 (D.l (D.l X0.D)) fT,bx 3,rx 7,sD 8 (D.l AL.D) fC,sI 9 dJ],[cL 3 AA.D dM,(7,.row 42 1 (fV.map (D.l X0.D)))],[]⟩):=by unfold aG3 at h;apply g0 (o:=fV);refine gN 30 (D.l X0.D) fT ?_;obtain⟨o14,h22,h⟩:=bS h;refine gl (YS rd h22) ?_;obtain⟨o20,h30,h⟩:=bS h;refine gl (Rj rd h30)<|gQ (AW (D.l X0.D) [o20])<|gG 59 (.sl ((fU++[o20]).map (D.l X0.D))) (AW (D.l X0.D) [o20]) ?_;obtain⟨h31,h⟩:=cS h;refine gQ (AY (D.l X0.D) h31)<|gQ (AX (D.l X0.D) fU [o20]) ?_;exact lP h [.live [1,3,7,8,9],.keep [3,59],.ren 59 7,.sort]
def Rk(s1:List (List X0))(s8:List AL)(w3:AA)(s9:Int)(w7:List (List X0)):St:=⟨sp 61 0 [sD 1 (D.l (D.l X0.D)) s1,bx 3,rx 7,sD 8 (D.l AL.D) s8,sI 9 s9],[cL 3 AA.D w3,(7,.row 42 1 (w7.map (D.l X0.D)))],[]⟩
def Rl(s1:List (List X0))(s8:List AL)(w3:AA)(o:(List (List X0))):Ex×St:=(.exit 0,⟨sp 61 0 [rx 7],[(7,.row 42 1 (o.map (D.l X0.D)))],[]⟩)
theorem YV(rd:Option Nat)(h:YT fT fC dM dJ fU=some fV):Lq 48 rd 250 (Rk fT fC dM dJ fU) ((Rl fT fC dM) fV):=
 lL (fun s:Int×List (List X0)=>Rk fT fC dM s.1 s.2) (Rl fT fC dM) (dJ,fU) (fun⟨dJ,fU⟩ o h=>by
 unfold JB at h
 refine gN 24 Xt.D dM.quants ?_
 refine iB 25 h (fun h=>?_) fun h=>?_
 obtain⟨o21,h32,h⟩:=bS h
 refine gl (YR rd h32) ?_
 exact lb h
 exact lb h) h
theorem aOc(h:Xn dM fT eO=some fU):AN Tryz.prog 48 [.d (AA.D dM),.d ((D.l (D.l X0.D)) fT),.d (X3.D eO)] [] (.d ((D.l (D.l X0.D)) fU)) []:=by unfold Xn at h;apply g0 (o:=fU);obtain⟨r1,h1,h⟩:=bS h;refine gC 17 (aHq h1) ?_;obtain⟨o3,h4,h⟩:=bS h;refine gl (YQ none h4) ?_;obtain⟨o22,h33,h⟩:=bS h;refine gL [.live [1,3,7,8,9],.keep [3],.nil 7 7 42 1,.sort] (YV none h33) ?_;exact lf h
def UG(s1:List X3)(w2:AA)(s5:List (List X0))(s6:Int):St:=⟨sp 25 0 [sD 1 (D.l X3.D) s1,bx 2,sD 5 (D.l (D.l X0.D)) s5,sI 6 s6],[cL 2 AA.D w2],[]⟩
def UH(s1:List X3)(w2:AA)(o:(List (List X0))):Ex×St:=(.exit 0,⟨sp 25 0 [sD 5 (D.l (D.l X0.D)) o],[],[]⟩)
theorem aCs(rd:Option Nat)(h:aH7 eM dM fT dJ=some fV):Lq 30 rd 58 (UG eM dM fT dJ) ((UH eM dM) fV):=
 lL (fun s:List (List X0)×Int=>UG eM dM s.1 s.2) (UH eM dM) (fT,dJ) (fun⟨fT,dJ⟩ o h=>by
 unfold G8 at h
 refine gN 13 X3.D eM ?_
 refine iB 14 h (fun h=>?_) fun h=>?_
 refine xX 21 X3.D h fun x3 h=>?_
 obtain⟨r4,h7,h⟩:=bS h
 refine gC 23 (aOc h7) ?_
 exact lb h
 exact lb h) h
theorem aPz(h:Zd dM eM=some fT):AN Tryz.prog 30 [.d (AA.D dM),.d ((D.l X3.D) eM)] [] (.d ((D.l (D.l X0.D)) fT)) []:=by unfold Zd at h;apply g0 (o:=fT);refine gN 9 Xt.D dM.quants<|gW 10 (.sl ((List.replicate (dM.quants.length:Int).toNat ([]:List X0)).map (D.l X0.D))) ?_;obtain⟨h1,h⟩:=cS h;refine gQ h1.1<|gQ (Int.le_refl (dM.quants.length:Int))<|gQ (Int.le_refl (dM.quants.length:Int))<|gQ (aF0 (D.l X0.D) ([]:List X0) h1.2)<|gQ (aFz (D.l X0.D) (dM.quants.length:Int) ([]:List X0)) ?_;obtain⟨o5,h8,h⟩:=bS h;refine gL [.frz 10,.look 5,.live [1,2,5,6],.keep [2]] (aCs none h8) ?_;exact lf h
def UI(w1:AA)(w3 s4:Int)(w600:List X0):St:=⟨sp 28 0 [bx 1,bx 3,sI 4 s4],[cL 1 AA.D w1,(3,.cells ([dI w3,.row 600])),(600,.row 81 4 (w600.map X0.D))],[]⟩
def UJ(w1:AA)(w3:Int)(o:(List X0)):Ex×St:=(.exit 0,⟨sp 28 0 [bx 3],[(3,.cells ([dI w3,.row 600])),(600,.row 81 4 (o.map X0.D))],[]⟩)
theorem aCt(rd:Option Nat)(h:aH8 dM dJ dK eE=some eH):Lq 70 rd 58 (UI dM dJ dK eE) ((UJ dM dJ) eH):=
 lL (fun s:Int×List X0=>UI dM dJ s.1 s.2) (UJ dM dJ) (dK,eE) (fun⟨dK,eE⟩ o h=>by
 unfold G9 at h
 refine gN 11 Xw.D dM.frees ?_
 refine iB 12 h (fun h=>?_) fun h=>?_
 refine xX 20 Xw.D h fun x2 h=>?_
 refine gQ (AW X0.D [x2.init_])<|gG 24 (.sl ((eE++[x2.init_]).map X0.D)) (AW X0.D [x2.init_]) ?_
 obtain⟨h6,h⟩:=cS h
 refine gQ (AY X0.D h6)<|gQ (AX X0.D eE [x2.init_]) ?_
 exact lB h [.live [1,3,4],.keep [1,3,24],.ren 24 600,.sort]
 exact lb h) h
theorem aP0(h:Ze dM=some fW):AN Tryz.prog 70 [.d (AA.D dM)] [] (.d ((D.l X4.D) fW)) []:=by unfold Ze at h;apply g0 (o:=fW);refine gW 7 .frz ?_;obtain⟨o3,h7,h⟩:=bS h;refine gL [.live [1,3,4],.keep [1,3],.nilc 3 1 600 81 4,.frz 600,.sort] (aCt none h7)<|gQ (AW X4.D [X4.mk dM.start o3]) ?_;exact lf h
def UT(us:List Value)(s1:List X2)(s6:Int)(w5:List X0):St:=⟨sp 29 0 [sD 1 (D.l X2.D) s1,rx 5,sI 6 s6],[rW 5 81 4 X0.D w5,(997,.vals [] us)],[]⟩
def UU(us:List Value)(s1:List X2)(o:(List X0)):Ex×St:=(.exit 0,⟨sp 29 0 [rx 5],[rW 5 81 4 X0.D o,(997,.vals [] us)],[]⟩)
theorem aCz(rd:Option Nat)(us:List Value)(h:aId eQ dJ eE=some eH):Lq 131 rd 58 (UT us eQ dJ eE) ((UU us eQ) eH):=
 lL (fun s:Int×List X0=>UT us eQ s.1 s.2) (UU us eQ) (dJ,eE) (fun⟨dJ,eE⟩ o h=>by
 unfold Lg at h
 refine gN 12 X2.D eQ ?_
 refine iB 13 h (fun h=>?_) fun h=>?_
 refine xX 19 X2.D h fun x1 h=>?_
 refine xX 24 X2.D h fun x2 h=>?_
 refine gW 10027 (.sl ((eE.set x1.var.toNat x2.value).map X0.D)) ?_
 obtain⟨h5,h⟩:=cS h
 refine gQ h5.1<|gQ (DI X0.D h5.2) ?_
 obtain⟨h6,h⟩:=cS h
 refine gQ (Vd X0.D h6)<|gQ (H6 X0.D eE x1.var x2.value) ?_
 exact lb h
 exact lb h) h
theorem aP7(h:Zl eE eQ=some eG):AN Tryz.prog 131 [.d ((D.l X0.D) eE),.d ((D.l X2.D) eQ)] [] (.row 0) [rW 0 81 4 X0.D eG]:=by unfold Zl at h;refine XG.call (ks:=[]) mixed fun us=>?_;apply g0 (o:=eG);refine gQ (AW X0.D ([]:List X0))<|gG 9 (.rwl ((eE).map X0.D)) (AW X0.D eE) ?_;obtain⟨h1,h⟩:=cS h;refine gQ (AY X0.D h1)<|gQ (AX X0.D ([]:List X0) eE) ?_;obtain⟨o3,h7,h⟩:=bS h;refine gL [.live [1,5,6],.keep [9,997],.ren 9 5,.sort] (aCz none us h7) ?_;exact lX h [.live [4],.keep [5,997],.ren 5 0,.sort]
theorem aIf(self:AA->Int->(List X2)->(List X0)->Option (X0×Int))(hs:∀(a0:AA) (a1:Int) (a2:List X2) (a3:List X0) (r:X0×Int),self a0 a1 a2 a3=some r->AN Tryz.prog 136 [.d (AA.D a0),dI a1,.d ((D.l X2.D) a2),.d ((D.l X0.D) a3)] [] (.tup [.d (X0.D r.1),dI r.2]) [])(a0:AA)(a1:Int)(a2:List X2)(a3:List X0)(r:X0×Int)(h:aQd self a0 a1 a2 a3=some r):AN Tryz.prog 136 [.d (AA.D a0),dI a1,.d ((D.l X2.D) a2),.d ((D.l X0.D) a3)] [] (.tup [.d (X0.D r.1),dI r.2]) []:=by unfold aQd at h;apply g0 (o:=r);refine xX 19 Yc.D h fun x1 h=>?_;refine iB 23 h (fun h=>?_) fun h=>?_;exact lf h;refine iB 28 h (fun h=>?_) fun h=>?_;obtain⟨r2,h4,h⟩:=bS h;refine gC 33 (Ld h4) ?_;refine iB 38 h (fun h=>?_) fun h=>?_;exact lf h;refine xX 45 Xt.D h fun x3 h=>?_;refine iB 49 h (fun h=>?_) fun h=>?_;exact lf h;exact lf h;refine iB 54 h (fun h=>?_) fun h=>?_;refine xX 58 X0.D h fun x4 h=>?_;exact lf h;obtain⟨r5,h10,h⟩:=bS h;refine gG 66 (.ret (.tup [.d (X0.D r5.1),dI r5.2])) (hs a0 x1.a a2 a3 r5 h10) ?_;refine iB 70 h (fun h=>?_) fun h=>?_;exact lf h;refine iB 75 h (fun h=>?_) fun h=>?_;obtain⟨r6,h13,h⟩:=bS h;refine gC 80 (Oc h13) ?_;exact lf h;refine iB 86 h (fun h=>?_) fun h=>?_;refine iB 91 h (fun h=>?_) fun h=>?_;exact lf h;refine iB 95 h (fun h=>?_) fun h=>?_;refine iB 99 h (fun h=>?_) fun h=>?_;exact lf h;obtain⟨r7,h18,h⟩:=bS h;refine gG 107 (.ret (.tup [.d (X0.D r7.1),dI r7.2])) (hs a0 x1.b a2 a3 r7 h18) ?_;refine iB 111 h (fun h=>?_) fun h=>?_;exact lf h;obtain⟨r8,h20,h⟩:=bS h;refine gC 118 (Oc h20) ?_;exact lf h;obtain⟨r9,h21,h⟩:=bS h;refine gG 107 (.ret (.tup [.d (X0.D r9.1),dI r9.2])) (hs a0 x1.b a2 a3 r9 h21) ?_;refine iB 111 h (fun h=>?_) fun h=>?_;exact lf h;obtain⟨r10,h23,h⟩:=bS h;refine gC 118 (Oc h23) ?_;exact lf h;refine iB 95 h (fun h=>?_) fun h=>?_;refine iB 99 h (fun h=>?_) fun h=>?_;exact lf h;obtain⟨r11,h26,h⟩:=bS h;refine gG 107 (.ret (.tup [.d (X0.D r11.1),dI r11.2])) (hs a0 x1.b a2 a3 r11 h26) ?_;refine iB 111 h (fun h=>?_) fun h=>?_;exact lf h;obtain⟨r12,h28,h⟩:=bS h;refine gC 118 (Oc h28) ?_;exact lf h;obtain⟨r13,h29,h⟩:=bS h;refine gG 107 (.ret (.tup [.d (X0.D r13.1),dI r13.2])) (hs a0 x1.b a2 a3 r13 h29) ?_;refine iB 111 h (fun h=>?_) fun h=>?_;exact lf h;obtain⟨r14,h31,h⟩:=bS h;refine gC 118 (Oc h31) ?_;exact lf h
theorem Ub:∀(n:Nat) (a0:AA) (a1:Int) (a2:List X2) (a3:List X0) (r:X0×Int),aMn n a0 a1 a2 a3=some r->AN Tryz.prog 136 [.d (AA.D a0),dI a1,.d ((D.l X2.D) a2),.d ((D.l X0.D) a3)] [] (.tup [.d (X0.D r.1),dI r.2]) []
 |0,a0,a1,a2,a3,r,h=>by simp[aMn]at h
 |n+1,a0,a1,a2,a3,r,h=>aIf _ (Ub n) a0 a1 a2 a3 r h
theorem aLl(h:Zs dM dJ eQ eE=some fX):AN Tryz.prog 136 [.d (AA.D dM),dI dJ,.d ((D.l X2.D) eQ),.d ((D.l X0.D) eE)] [] (.tup [.d (X0.D fX.1),dI fX.2]) []:=Ub 100000 dM dJ eQ eE fX h
theorem aNh(h:Qr dM dJ eQ eE=some eA):AN Tryz.prog 132 [.d (AA.D dM),dI dJ,.d ((D.l X2.D) eQ),.d ((D.l X0.D) eE)] [] (.tup [.d (D.b eA.1),dI eA.2]) []:=by unfold Qr at h;apply g0 (o:=eA);refine xX 16 Xe.D h fun x1 h=>?_;refine iB 20 h (fun h=>?_) fun h=>?_;exact lf h;obtain⟨r2,h3,h⟩:=bS h;refine gC 26 (aLl h3) ?_;exact lf h
def UV(us:List Value)(s2:List X2)(s11:List DN)(w3:List X0)(w4:AA)(s12:Int)(w10:List X0):St:=⟨sp 54 0 [sD 2 (D.l X2.D) s2,rx 3,bx 4,rx 10,sD 11 (D.l DN.D) s11,sI 12 s12],[(3,.row 81 4 (w3.map X0.D)),cL 4 AA.D w4,rW 10 81 4 X0.D w10,(997,.vals [] us)],[]⟩
def UW(us:List Value)(s2:List X2)(s11:List DN)(w3:List X0)(w4:AA)(o:(List X0)⊕Int):Ex×St:=match o with
 | .inl o=>(.exit 0,⟨sp 54 0 [rx 10],[rW 10 81 4 X0.D o,(997,.vals [] us)],[]⟩)
 | .inr o=>(.ret,⟨sp 54 0 [(8,.nil),sI 9 o],[(997,.vals [] us)],[]⟩)
theorem aC0(rd:Option Nat)(us:List Value)(h:aIe eQ fY eE dM dJ eG=some fZ):Lq 133 rd 122 (UV us eQ fY eE dM dJ eG) ((UW us eQ fY eE dM) fZ):=
 lL (fun s:Int×List X0=>UV us eQ fY eE dM s.1 s.2) (UW us eQ fY eE dM) (dJ,eG) (fun⟨dJ,eG⟩ o h=>by
 unfold Lh at h
 refine gN 26 DN.D fY ?_
 refine iB 27 h (fun h=>?_) fun h=>?_
 refine xX 34 DN.D h fun x2 h=>?_
 obtain⟨r3,h5,h⟩:=bS h
 refine gC 39 (aLl h5) ?_
 refine iB 43 h (fun h=>?_) fun h=>?_
 exact lb h
 refine xX 48 DN.D h fun x4 h=>?_
 refine gW 10052 (.sl ((eG.set x4.free.toNat r3.1).map X0.D)) ?_
 obtain⟨h8,h⟩:=cS h
 refine gQ h8.1<|gQ (DI X0.D h8.2) ?_
 obtain⟨h9,h⟩:=cS h
 refine gQ (Vd X0.D h9)<|gQ (H6 X0.D eG x4.free r3.1) ?_
 exact lb h
 exact lb h) h
theorem aP8(h:Zm dM dJ eQ eE=some g9):AN Tryz.prog 133 [.d (AA.D dM),dI dJ,.d ((D.l X2.D) eQ),.row 0] [rW 0 81 4 X0.D eE] (.tup [.d ((D.l X0.D) g9.1),dI g9.2]) []:=by
 unfold Zm at h;refine XG.call (ks:=[]) mixed fun us=>?_;apply g0 (o:=g9);refine gQ (AW X0.D ([]:List X0))<|gG 17 (.rwl ((eE).map X0.D)) (AW X0.D eE)<|gW 16 (.fzn 0) ?_;obtain⟨h1,h⟩:=cS h;refine gQ (AY X0.D h1)<|gQ (AX X0.D ([]:List X0) eE)<|xX 21 Xe.D h fun x1 h=>?_;obtain⟨o5,h10,h⟩:=bS h;refine gL [.live [2,3,4,10,11,12],.keep [0,4,17,997],.ren 0 3,.ren 17 10,.sort] (aC0 none us h10) ?_;replace h:=AM h;rcases h with⟨o6,rfl,h⟩|⟨o7,rfl,h⟩
 exact lX h [.frz 10,.look 8,.live [8,9],.keep [997]];exact lX h [.look 8,.live [8,9],.keep [997]]
theorem aNi(h:Qs dM dJ gA f8=some gB):AN Tryz.prog 120 [.d (AA.D dM),dI dJ,.d (X4.D gA),.d (AL.D f8)] [] (.tup [.d (X4.D gB.1),.d (D.b gB.2.1),dI gB.2.2]) []:=by unfold Qs at h;apply g0 (o:=gB);obtain⟨r1,h1,h⟩:=bS h;refine gG 19 (.cx false [] [(0,19)] (.row 0) [rW 0 81 4 X0.D r1]) (aP7 h1) ?_;obtain⟨r2,h2,h⟩:=bS h;refine gG 26 (.lend [19] (.tup [.d (D.b r2.1),dI r2.2])) (aNh h2) ?_;refine iB 31 h (fun h=>?_) fun h=>?_;exact lf h;refine iB 34 h (fun h=>?_) fun h=>?_;exact lf h;obtain⟨r3,h5,h⟩:=bS h;refine gG 43 (.cx false [(0,19)] [] (.tup [.d ((D.l X0.D) r3.1),dI r3.2]) []) (aP8 h5) ?_;refine iB 47 h (fun h=>?_) fun h=>?_;exact lf h;refine xX 53 Xe.D h fun x4 h=>?_;exact lf h
theorem aJ7(h:Qn dJ dK=some dL):AN Tryz.prog 110 [dI dJ,dI dK] [] (dI dL) []:=by unfold Qn at h;apply g0 (o:=dL);refine iB 7 h (fun h=>?_) fun h=>?_;exact lf h;refine iB 10 h (fun h=>?_) fun h=>?_;refine iB 15 h (fun h=>?_) fun h=>?_;exact lf h;exact lf h;exact lf h
def TC(w2 w3:X4)(s5:Int):St:=⟨sp 59 0 [bx 2,bx 3,sI 5 s5],[cL 2 X4.D w2,cL 3 X4.D w3],[]⟩
def TD(w2 w3:X4)(o:Unit⊕Bool):Ex×St:=match o with
 | .inl o=>(.exit 0,⟨sp 59 0 [bx 2,bx 3],[cL 2 X4.D w2,cL 3 X4.D w3],[]⟩)
 | .inr o=>(.ret,⟨sp 59 0 [sD 4 D.b o],[],[]⟩)
theorem aBu(rd:Option Nat)(h:aBs gA gD dJ=some gE):Lq 121 rd 58 (TC gA gD dJ) ((TD gA gD) gE):=
 lL (fun s:Int=>TC gA gD s) (TD gA gD) dJ (fun dJ o h=>by
 unfold JG at h
 refine gN 19 X0.D gA.vals ?_
 refine iB 21 h (fun h=>?_) fun h=>?_
 refine gN 25 X0.D gD.vals ?_
 refine iB 27 h (fun h=>?_) fun h=>?_
 refine xX 33 X0.D h fun x1 h=>?_
 refine xX 38 X0.D h fun x2 h=>?_
 refine iB 40 h (fun h=>?_) fun h=>?_
 refine xX 44 X0.D h fun x3 h=>?_
 refine xX 49 X0.D h fun x4 h=>?_
 obtain⟨r5,h9,h⟩:=bS h
 refine gC 51 (aC6 h9) ?_
 exact lb h
 exact lb h
 exact lb h
 exact lb h) h
theorem aBv(h:Yi gA gD=some eB):AN Tryz.prog 121 [.d (X4.D gA),.d (X4.D gD)] [] (.d (D.b eB)) []:=by
 unfold Yi at h;apply g0 (o:=eB);refine iB 10 h (fun h=>?_) fun h=>?_;exact lf h;obtain⟨o6,h10,h⟩:=bS h;refine gl (aBu none h10) ?_;replace h:=AM h;rcases h with⟨o7,rfl,h⟩|⟨o8,rfl,h⟩
 refine gN 54 X0.D gA.vals<|gN 57 X0.D gD.vals ?_;exact lf h;exact lf h
theorem aJ2(h:Q9 gA gD=some eB):AN Tryz.prog 122 [.d (X4.D gA),.d (X4.D gD)] [] (.d (D.b eB)) []:=by unfold Q9 at h;apply g0 (o:=eB);obtain⟨r1,h1,h⟩:=bS h;refine gC 7 (aBv h1) ?_;refine iB 9 h (fun h=>?_) fun h=>?_;obtain⟨r2,h3,h⟩:=bS h;refine gC 12 (aBv h3) ?_;exact lf h;exact lf h
def TV(us:List Value)(w0:List X4)(w3:X4)(s5:Int):St:=⟨sp 48 0 [rx 0,bx 3,sI 5 s5],[rW 0 171 2 X4.D w0,cL 3 X4.D w3,(997,.vals [] us)],[]⟩
def TW(us:List Value)(w0:List X4)(w3:X4)(o:Int):Ex×St:=(.exit 0,⟨sp 48 0 [rx 0,bx 3,sI 5 o],[rW 0 171 2 X4.D w0,cL 3 X4.D w3,(997,.vals [] us)],[]⟩)
theorem aB4(rd:Option Nat)(us:List Value)(h:OY fW gA dJ=some dK):Lq 111 rd 28 (TV us fW gA dJ) ((TW us fW gA) dK):=
 lL (fun s:Int=>TV us fW gA s) (TW us fW gA) dJ (fun dJ o h=>by
 unfold E5 at h
 refine iB 11 h (fun h=>?_) fun h=>?_
 obtain⟨h2,h⟩:=cS h
 refine gQ h2.1<|gQ (DI X4.D h2.2) ?_
 obtain⟨x1,h3,h⟩:=xS h
 refine gG 17 (.el (X4.D x1)) (Dh X4.D h3) ?_
 obtain⟨r2,h4,h⟩:=bS h
 refine gQ (aBv h4) ?_
 cases r2
 replace h:=CJ h
 refine gW 18 (.ret (.d (D.b false))) ?_
 exact lb h
 replace h:=CK h
 refine gW 18 (.ret (.d (D.b true))) ?_
 exact lb h
 exact lb h) h
theorem aPd(h:Yp gA fW=some gH):AN Tryz.prog 111 [.row 0,.d (X4.D gA)] [rW 0 171 2 X4.D fW] (.row 1) [rW 1 171 2 X4.D gH]:=by unfold Yp at h;refine XG.call (ks:=[]) mixed fun us=>?_;apply g0 (o:=gH);refine gN 8 X4.D fW ?_;obtain⟨o3,h6,h⟩:=bS h;refine gl (aB4 none us h6) ?_;refine iB 24 h (fun h=>?_) fun h=>?_;obtain⟨h8,h⟩:=cS h;refine gQ h8.1<|gQ (DI X4.D h8.2) ?_;obtain⟨x4,h9,h⟩:=xS h;refine gG 29 (.el (X4.D x4)) (Dh X4.D h9) ?_;obtain⟨r5,h10,h⟩:=bS h;refine gQ (aJ2 h10) ?_;cases r5;replace h:=CJ h;refine gQ (AW X4.D ([]:List X4))<|gW 31 (.ret (.d (D.b false)))<|gW 35 (.fzn 0)<|gW 37 (.sl ((sub fW 0 o3).map X4.D))<|gW 38 (.rwl ((sub fW 0 o3).map X4.D))<|gW 42 (.rwl (((sub fW 0 o3)++[gA]).map X4.D))<|gW 46 (.sl ((sub fW o3 (fW.length:Int)).map X4.D))<|gW 47 (.rwl ((((sub fW 0 o3)++[gA])++(sub fW o3 (fW.length:Int))).map X4.D)) ?_;obtain⟨h12,h⟩:=cS h;refine gQ (DS X4.D h12)<|gQ (AW X4.D (sub fW 0 o3)) ?_;obtain⟨h13,h⟩:=cS h;refine gQ (AY X4.D h13)<|gQ (AX X4.D ([]:List X4) (sub fW 0 o3))<|gQ (AW X4.D [gA])<|gQ (AW X4.D [gA]) ?_;obtain⟨h14,h⟩:=cS h;refine gQ (AY X4.D h14)<|gQ (AX X4.D (sub fW 0 o3) [gA]) ?_;obtain⟨h15,h⟩:=cS h;refine gQ (DR X4.D h15)<|gQ (AW X4.D (sub fW o3 (fW.length:Int))) ?_;obtain⟨h16,h⟩:=cS h;refine gQ (AY X4.D h16)<|gQ (AX X4.D ((sub fW 0 o3)++[gA]) (sub fW o3 (fW.length:Int))) ?_;exact lX h [.live [4],.keep [47,997],.ren 47 1,.sort];replace h:=CK h;refine gW 31 (.ret (.d (D.b true))) ?_;exact lX h [.live [4],.keep [0,997],.ren 0 1,.sort];refine gQ (AW X4.D ([]:List X4))<|gW 35 (.fzn 0)<|gW 37 (.sl ((sub fW 0 o3).map X4.D))<|gW 38 (.rwl ((sub fW 0 o3).map X4.D))<|gW 42 (.rwl (((sub fW 0 o3)++[gA]).map X4.D))<|gW 46 (.sl ((sub fW o3 (fW.length:Int)).map X4.D))<|gW 47 (.rwl ((((sub fW 0 o3)++[gA])++(sub fW o3 (fW.length:Int))).map X4.D)) ?_;obtain⟨h17,h⟩:=cS h;refine gQ (DS X4.D h17)<|gQ (AW X4.D (sub fW 0 o3)) ?_;obtain⟨h18,h⟩:=cS h;refine gQ (AY X4.D h18)<|gQ (AX X4.D ([]:List X4) (sub fW 0 o3))<|gQ (AW X4.D [gA])<|gQ (AW X4.D [gA]) ?_;obtain⟨h19,h⟩:=cS h;refine gQ (AY X4.D h19)<|gQ (AX X4.D (sub fW 0 o3) [gA]) ?_;obtain⟨h20,h⟩:=cS h;refine gQ (DR X4.D h20)<|gQ (AW X4.D (sub fW o3 (fW.length:Int))) ?_;obtain⟨h21,h⟩:=cS h;refine gQ (AY X4.D h21)<|gQ (AX X4.D ((sub fW 0 o3)++[gA]) (sub fW o3 (fW.length:Int))) ?_;exact lX h [.live [4],.keep [47,997],.ren 47 1,.sort]
theorem YH(rd:Option Nat)(h:YG fC dJ dK dL eB dM gA fW gD=some gI):Lq 109 rd 4007503 ⟨sp 89 0 [sD 2 (D.l AL.D) fC,bx 3,bx 4,rx 8,sI 9 dJ,sI 10 dK,sI 11 dL,bx 12,sD 64 D.b eB],[cL 3 AA.D dM,cL 4 X4.D gA,rW 8 171 2 X4.D fW,cL 12 X4.D gD],[]⟩ (.normal,⟨sp 89 0 [sD 2 (D.l AL.D) fC,bx 3,bx 4,rx 8,sI 9 dJ,sI 10 dK,sI 11 dL],[cL 3 AA.D dM,cL 4 X4.D gA,rW 8 171 2 X4.D gI],[]⟩):=by unfold YG at h;apply g0 (o:=gI);cases eB;replace h:=CJ h;exact lp h;replace h:=CK h;obtain⟨r7,h12,h⟩:=bS h;refine gG 67 (.cx false [(0,8)] [(1,67)] (.row 1) [rW 1 171 2 X4.D r7]) (aPd h12) ?_;exact lP h [.live [2,3,4,8,9,10,11],.keep [3,4,67],.ren 67 8,.sort]
theorem YF(rd:Option Nat)(h:YE fC dJ dK dL dM gA fW=some gJ):Lq 109 rd 125234 ⟨sp 89 0 [sD 2 (D.l AL.D) fC,bx 3,bx 4,rx 8,sI 9 dJ,sI 10 dK,sI 11 dL],[cL 3 AA.D dM,cL 4 X4.D gA,rW 8 171 2 X4.D fW],[]⟩ (.normal,⟨sp 89 0 [sD 2 (D.l AL.D) fC,bx 3,bx 4,rx 8,sI 9 gJ.1,sI 10 dK,sI 11 dL],[cL 3 AA.D dM,cL 4 X4.D gA,rW 8 171 2 X4.D gJ.2],[]⟩):=by unfold YE at h;apply g0 (o:=gJ);refine xX 39 AL.D h fun x2 h=>?_;refine xX 45 Xe.D h fun x3 h=>?_;refine iB 48 h (fun h=>?_) fun h=>?_;exact lp h;refine xX 55 AL.D h fun x4 h=>?_;obtain⟨r5,h9,h⟩:=bS h;refine gC 57 (aNi h9) ?_;obtain⟨r6,h10,h⟩:=bS h;refine gC 63 (aJ7 h10) ?_;obtain⟨o8,h13,h⟩:=bS h;refine gl (YH rd h13) ?_;exact lp h
def RV(s2:List AL)(s10:Int)(w3:AA)(w4:X4)(s9 s11:Int)(w8:List X4):St:=⟨sp 89 0 [sD 2 (D.l AL.D) s2,bx 3,bx 4,rx 8,sI 9 s9,sI 10 s10,sI 11 s11],[cL 3 AA.D w3,cL 4 X4.D w4,rW 8 171 2 X4.D w8],[]⟩
def RW(s2:List AL)(s10:Int)(w3:AA)(w4:X4)(o:(Int×List X4)):Ex×St:=(.exit 2,⟨sp 89 0 [sD 2 (D.l AL.D) s2,bx 3,bx 4,rx 8,sI 9 o.1,sI 10 s10],[cL 3 AA.D w3,cL 4 X4.D w4,rW 8 171 2 X4.D o.2],[]⟩)
theorem YJ(rd:Option Nat)(h:aG1 fC dJ dM gA dK dL fW=some gJ):Lq 109 rd 15654 (RV fC dJ dM gA dK dL fW) ((RW fC dJ dM gA) gJ):=
 lL (fun s:Int×Int×List X4=>RV fC dJ dM gA s.1 s.2.1 s.2.2) (RW fC dJ dM gA) (dK,dL,fW) (fun⟨dK,dL,fW⟩ o h=>by
 unfold GU at h
 refine gN 33 AL.D fC ?_
 refine iB 34 h (fun h=>?_) fun h=>?_
 obtain⟨o9,h14,h⟩:=bS h
 refine gl (YF rd h14) ?_
 exact lb h
 exact lb h) h
theorem YD(rd:Option Nat)(h:YC fC dJ dK dM gA fW=some gJ):Lq 109 rd 978 ⟨sp 89 0 [sD 2 (D.l AL.D) fC,bx 3,bx 4,rx 8,sI 9 dJ,sI 10 dK],[cL 3 AA.D dM,cL 4 X4.D gA,rW 8 171 2 X4.D fW],[]⟩ (.normal,⟨sp 89 0 [sD 2 (D.l AL.D) fC,bx 3,bx 4,rx 8,sI 9 gJ.1,sI 10 dK],[cL 3 AA.D dM,cL 4 X4.D gA,rW 8 171 2 X4.D gJ.2],[]⟩):=by unfold YC at h;apply g0 (o:=gJ);refine xX 25 Xe.D h fun x1 h=>?_;refine iB 30 h (fun h=>?_) fun h=>?_;exact lp h;obtain⟨o10,h15,h⟩:=bS h;refine gl (YJ rd h15) ?_;exact lp h
def RT(s2:List AL)(w3:AA)(w4:X4)(s9 s10:Int)(w8:List X4):St:=⟨sp 89 0 [sD 2 (D.l AL.D) s2,bx 3,bx 4,rx 8,sI 9 s9,sI 10 s10],[cL 3 AA.D w3,cL 4 X4.D w4,rW 8 171 2 X4.D w8],[]⟩
def RU(s2:List AL)(w3:AA)(w4:X4)(o:(Int×List X4)):Ex×St:=(.exit 0,⟨sp 89 0 [bx 3,bx 4,rx 8,sI 9 o.1],[cL 3 AA.D w3,cL 4 X4.D w4,rW 8 171 2 X4.D o.2],[]⟩)
theorem YI(rd:Option Nat)(h:aG0 fC dM gA dJ dK fW=some gJ):Lq 109 rd 122 (RT fC dM gA dJ dK fW) ((RU fC dM gA) gJ):=
 lL (fun s:Int×Int×List X4=>RT fC dM gA s.1 s.2.1 s.2.2) (RU fC dM gA) (dJ,dK,fW) (fun⟨dJ,dK,fW⟩ o h=>by
 unfold GT at h
 refine gN 18 Xe.D dM.trans ?_
 refine iB 19 h (fun h=>?_) fun h=>?_
 obtain⟨o11,h16,h⟩:=bS h
 refine gl (YD rd h16) ?_
 exact lb h
 exact lb h) h
theorem Mw(rd:Option Nat)(h:RS eB gA fW=some gI):Lq 109 rd 253 ⟨sp 89 0 [bx 4,rx 8,sD 83 D.b eB],[cL 4 X4.D gA,rW 8 171 2 X4.D fW],[]⟩ (.normal,⟨sp 89 0 [rx 8],[rW 8 171 2 X4.D gI],[]⟩):=by unfold RS at h;apply g0 (o:=gI);cases eB;replace h:=CJ h;exact lp h;replace h:=CK h;refine gQ (AW X4.D [gA])<|gG 87 (.rwl ((fW++[gA]).map X4.D)) (AW X4.D [gA]) ?_;obtain⟨h22,h⟩:=cS h;refine gQ (AY X4.D h22)<|gQ (AX X4.D fW [gA]) ?_;exact lP h [.live [8],.keep [87],.ren 87 8,.sort]
theorem aOb(h:Xl dM gA fC=some gK):AN Tryz.prog 109 [.d (AA.D dM),.d (X4.D gA),.d ((D.l AL.D) fC)] [] (.tup [.d ((D.l X4.D) gK.1),dI gK.2]) []:=by unfold Xl at h;apply g0 (o:=gK);obtain⟨o12,h17,h⟩:=bS h;refine gL [.live [2,3,4,8,9,10],.keep [3,4],.nilw 8 8 171 2,.sort] (YI none h17) ?_;refine iB 69 h (fun h=>?_) fun h=>?_;exact lf h;refine gN 72 X4.D o12.2 ?_;refine iB 74 h (fun h=>?_) fun h=>?_;refine xX 79 Xd.D h fun x13 h=>?_;obtain⟨o14,h23,h⟩:=bS h;refine gl (Mw none h23) ?_;exact lF h [.frz 8];obtain⟨o15,h24,h⟩:=bS h;refine gl (Mw none h24) ?_;exact lF h [.frz 8]
def SY(s0:List X4)(w3:X4)(s5:Int):St:=⟨sp 48 0 [sD 0 (D.l X4.D) s0,bx 3,sI 5 s5],[cL 3 X4.D w3],[]⟩
def SZ(s0:List X4)(w3:X4)(o:Int):Ex×St:=(.exit 0,⟨sp 48 0 [sD 0 (D.l X4.D) s0,bx 3,sI 5 o],[cL 3 X4.D w3],[]⟩)
theorem aAr(rd:Option Nat)(h:LY fW gA dJ=some dK):Lq 111 rd 28 (SY fW gA dJ) ((SZ fW gA) dK):=
 lL (fun s:Int=>SY fW gA s) (SZ fW gA) dJ (fun dJ o h=>by
 unfold DP at h
 refine iB 11 h (fun h=>?_) fun h=>?_
 refine xX 16 X4.D h fun x1 h=>?_
 obtain⟨r2,h3,h⟩:=bS h
 refine gQ (aBv h3) ?_
 cases r2
 replace h:=CJ h
 refine gW 18 (.ret (.d (D.b false))) ?_
 exact lb h
 replace h:=CK h
 refine gW 18 (.ret (.d (D.b true))) ?_
 exact lb h
 exact lb h) h
theorem aOt(h:Y3 fW gA=some gH):AN Tryz.prog 111 [.d ((D.l X4.D) fW),.d (X4.D gA)] [] (.d ((D.l X4.D) gH)) []:=by unfold Y3 at h;apply g0 (o:=gH);refine gN 8 X4.D fW ?_;obtain⟨o3,h5,h⟩:=bS h;refine gl (aAr none h5) ?_;refine iB 24 h (fun h=>?_) fun h=>?_;refine xX 28 X4.D h fun x4 h=>?_;obtain⟨r5,h8,h⟩:=bS h;refine gQ (aJ2 h8) ?_;cases r5;replace h:=CJ h;refine gQ (AW X4.D ([]:List X4))<|gW 31 (.ret (.d (D.b false)))<|gW 37 (.sl ((sub fW 0 o3).map X4.D))<|gW 38 (.sl ((([]:List X4)++(sub fW 0 o3)).map X4.D))<|gW 42 (.sl (((([]:List X4)++(sub fW 0 o3))++[gA]).map X4.D))<|gW 46 (.sl ((sub fW o3 (fW.length:Int)).map X4.D))<|gW 47 (.sl ((((([]:List X4)++(sub fW 0 o3))++[gA])++(sub fW o3 (fW.length:Int))).map X4.D)) ?_;obtain⟨h10,h⟩:=cS h;refine gQ (DS X4.D h10)<|gQ (AW X4.D (sub fW 0 o3)) ?_;obtain⟨h11,h⟩:=cS h;refine gQ (AY X4.D h11)<|gQ (AX X4.D ([]:List X4) (sub fW 0 o3))<|gQ (AW X4.D [gA])<|gQ (AW X4.D [gA]) ?_;obtain⟨h12,h⟩:=cS h;refine gQ (AY X4.D h12)<|gQ (AX X4.D (([]:List X4)++(sub fW 0 o3)) [gA]) ?_;obtain⟨h13,h⟩:=cS h;refine gQ (DR X4.D h13)<|gQ (AW X4.D (sub fW o3 (fW.length:Int))) ?_;obtain⟨h14,h⟩:=cS h;refine gQ (AY X4.D h14)<|gQ (AX X4.D ((([]:List X4)++(sub fW 0 o3))++[gA]) (sub fW o3 (fW.length:Int))) ?_;exact lf h;replace h:=CK h;refine gW 31 (.ret (.d (D.b true))) ?_;exact lf h;refine gQ (AW X4.D ([]:List X4))<|gW 37 (.sl ((sub fW 0 o3).map X4.D))<|gW 38 (.sl ((([]:List X4)++(sub fW 0 o3)).map X4.D))<|gW 42 (.sl (((([]:List X4)++(sub fW 0 o3))++[gA]).map X4.D))<|gW 46 (.sl ((sub fW o3 (fW.length:Int)).map X4.D))<|gW 47 (.sl ((((([]:List X4)++(sub fW 0 o3))++[gA])++(sub fW o3 (fW.length:Int))).map X4.D)) ?_;obtain⟨h15,h⟩:=cS h;refine gQ (DS X4.D h15)<|gQ (AW X4.D (sub fW 0 o3)) ?_;obtain⟨h16,h⟩:=cS h;refine gQ (AY X4.D h16)<|gQ (AX X4.D ([]:List X4) (sub fW 0 o3))<|gQ (AW X4.D [gA])<|gQ (AW X4.D [gA]) ?_;obtain⟨h17,h⟩:=cS h;refine gQ (AY X4.D h17)<|gQ (AX X4.D (([]:List X4)++(sub fW 0 o3)) [gA]) ?_;obtain⟨h18,h⟩:=cS h;refine gQ (DR X4.D h18)<|gQ (AW X4.D (sub fW o3 (fW.length:Int))) ?_;obtain⟨h19,h⟩:=cS h;refine gQ (AY X4.D h19)<|gQ (AX X4.D ((([]:List X4)++(sub fW 0 o3))++[gA]) (sub fW o3 (fW.length:Int))) ?_;exact lf h
def R4(s1:List X4)(s2:List AL)(s9 s10:Int)(s11:List X4)(w3:AA)(s8:List X4)(s13:Int):St:=⟨sp 56 0 [sD 1 (D.l X4.D) s1,sD 2 (D.l AL.D) s2,bx 3,sD 8 (D.l X4.D) s8,sI 9 s9,sI 10 s10,sD 11 (D.l X4.D) s11,sI 13 s13],[cL 3 AA.D w3],[]⟩
def R5(s1:List X4)(s2:List AL)(s9 s10:Int)(s11:List X4)(w3:AA)(o:(List X4)):Ex×St:=(.exit 2,⟨sp 56 0 [sD 1 (D.l X4.D) s1,sD 2 (D.l AL.D) s2,bx 3,sD 8 (D.l X4.D) o,sI 9 s9,sI 10 s10],[cL 3 AA.D w3],[]⟩)
theorem ZL(rd:Option Nat)(h:ZK fW fC dJ dK gH dM gM dL=some gI):Lq 100 rd 31310 (R4 fW fC dJ dK gH dM gM dL) ((R5 fW fC dJ dK gH dM) gI):=
 lL (fun s:List X4×Int=>R4 fW fC dJ dK gH dM s.1 s.2) (R5 fW fC dJ dK gH dM) (gM,dL) (fun⟨gM,dL⟩ o h=>by
 unfold C6 at h
 refine gN 35 X4.D gH ?_
 refine iB 36 h (fun h=>?_) fun h=>?_
 refine xX 42 X4.D h fun x12 h=>?_
 obtain⟨r13,h18,h⟩:=bS h
 refine gC 44 (aOt h18) ?_
 exact lb h
 exact lb h) h
def R2(s1:List X4)(s2:List AL)(w3:AA)(s8:List X4)(s9 s10:Int):St:=⟨sp 56 0 [sD 1 (D.l X4.D) s1,sD 2 (D.l AL.D) s2,bx 3,sD 8 (D.l X4.D) s8,sI 9 s9,sI 10 s10],[cL 3 AA.D w3],[]⟩
def R3(s1:List X4)(s2:List AL)(w3:AA)(o:(List X4×Int)):Ex×St:=(.exit 0,⟨sp 56 0 [sD 8 (D.l X4.D) o.1,sI 9 o.2],[],[]⟩)
theorem ZJ(rd:Option Nat)(h:ZI fW fC dM gH dJ dK=some gO):Lq 100 rd 122 (R2 fW fC dM gH dJ dK) ((R3 fW fC dM) gO):=
 lL (fun s:List X4×Int×Int=>R2 fW fC dM s.1 s.2.1 s.2.2) (R3 fW fC dM) (gH,dJ,dK) (fun⟨gH,dJ,dK⟩ o h=>by
 unfold C5 at h
 refine gN 16 X4.D fW ?_
 refine iB 17 h (fun h=>?_) fun h=>?_
 refine xX 24 X4.D h fun x9 h=>?_
 obtain⟨r10,h14,h⟩:=bS h
 refine gC 27 (aOb h14) ?_
 obtain⟨r11,h15,h⟩:=bS h
 refine gC 32 (aJ7 h15) ?_
 obtain⟨o14,h19,h⟩:=bS h
 refine gl (ZL rd h19) ?_
 exact lb h
 exact lb h) h
theorem M5(rd:Option Nat)(h:R1 fW dJ eB=some dK):Lq 100 rd 125 ⟨sp 56 0 [sD 8 (D.l X4.D) fW,sI 9 dJ,sD 51 D.b eB],[],[]⟩ (.normal,⟨sp 56 0 [sD 8 (D.l X4.D) fW,sI 9 dK],[],[]⟩):=by unfold R1 at h;apply g0 (o:=dK);cases eB;replace h:=CJ h;exact lp h;replace h:=CK h;exact lp h
theorem aOh(h:Xr dM fW fC=some gK):AN Tryz.prog 100 [.d (AA.D dM),.d ((D.l X4.D) fW),.d ((D.l AL.D) fC)] [] (.tup [.d ((D.l X4.D) gK.1),dI gK.2]) []:=by unfold Xr at h;apply g0 (o:=gK);obtain⟨o15,h20,h⟩:=bS h;refine gL [.look 8,.live [1,2,3,8,9,10],.keep [3]] (ZJ none h20) ?_;refine iB 47 h (fun h=>?_) fun h=>?_;refine gN 49 X4.D o15.1 ?_;obtain⟨o16,h23,h⟩:=bS h;refine gl (M5 none h23) ?_;refine iB 53 h (fun h=>?_) fun h=>?_;exact lf h;exact lf h;obtain⟨o17,h25,h⟩:=bS h;refine gl (M5 none h25) ?_;refine iB 53 h (fun h=>?_) fun h=>?_;exact lf h;exact lf h
theorem aNj(h:Qt dM eQ fW eO=some gK):AN Tryz.prog 88 [.d (AA.D dM),.d ((D.l X2.D) eQ),.d ((D.l X4.D) fW),.d (X3.D eO)] [] (.tup [.d ((D.l X4.D) gK.1),dI gK.2]) []:=by unfold Qt at h;apply g0 (o:=gK);obtain⟨r1,h1,h⟩:=bS h;refine gC 13 (aG8 h1) ?_;obtain⟨r2,h2,h⟩:=bS h;refine gC 15 (aKt h2)<|gN 17 AL.D r2 ?_;refine iB 18 h (fun h=>?_) fun h=>?_;exact lf h;obtain⟨r3,h4,h⟩:=bS h;refine gC 23 (aOh h4) ?_;exact lf h
def Tc(s1:List X2)(s3:List X3)(w4:AA)(s2:List X4)(s11:Int):St:=⟨sp 38 0 [sD 1 (D.l X2.D) s1,sD 2 (D.l X4.D) s2,sD 3 (D.l X3.D) s3,bx 4,sI 11 s11],[cL 4 AA.D w4],[]⟩
def Td(s1:List X2)(s3:List X3)(w4:AA)(o:(List X4)⊕(Int×Int)):Ex×St:=match o with
 | .inl o=>(.exit 0,⟨sp 38 0 [sD 2 (D.l X4.D) o],[],[]⟩)
 | .inr o=>(.ret,⟨sp 38 0 [(8,.nil),sI 9 o.1,sI 10 o.2],[],[]⟩)
theorem aB8(rd:Option Nat)(h:Oa eQ eM dM fW dJ=some gP):Lq 69 rd 26 (Tc eQ eM dM fW dJ) ((Td eQ eM dM) gP):=
 lL (fun s:List X4×Int=>Tc eQ eM dM s.1 s.2) (Td eQ eM dM) (fW,dJ) (fun⟨fW,dJ⟩ o h=>by
 unfold Gt at h
 refine gN 16 X3.D eM ?_
 refine iB 17 h (fun h=>?_) fun h=>?_
 refine xX 26 X3.D h fun x1 h=>?_
 obtain⟨r2,h3,h⟩:=bS h
 refine gC 28 (aNj h3) ?_
 refine iB 32 h (fun h=>?_) fun h=>?_
 exact lb h
 exact lb h
 exact lb h) h
theorem aPg(h:Yt dM eQ fW eM=some gR):AN Tryz.prog 69 [.d (AA.D dM),.d ((D.l X2.D) eQ),.d ((D.l X4.D) fW),.d ((D.l X3.D) eM)] [] (.tup [.d ((D.l X4.D) gR.1),dI gR.2.1,dI gR.2.2]) []:=by
 unfold Yt at h;apply g0 (o:=gR);obtain⟨o3,h5,h⟩:=bS h;refine gl (aB8 none h5) ?_;replace h:=AM h;rcases h with⟨o4,rfl,h⟩|⟨o5,rfl,h⟩
 exact lf h;exact lf h
def UK(s1:List X4)(w2:AA)(s5:Int):St:=⟨sp 22 0 [sD 1 (D.l X4.D) s1,bx 2,sI 5 s5],[cL 2 AA.D w2],[]⟩
def UL(s1:List X4)(w2:AA)(o:Unit⊕Unit):Ex×St:=match o with
 | .inl o=>(.exit 0,⟨sp 22 0 [],[],[]⟩)
 | .inr o=>(.ret,⟨sp 22 0 [sD 4 D.b true],[],[]⟩)
theorem aCu(rd:Option Nat)(h:aH9 fW dM dJ=some eC):Lq 71 rd 26 (UK fW dM dJ) ((UL fW dM) eC):=
 lL (fun s:Int=>UK fW dM s) (UL fW dM) dJ (fun dJ o h=>by
 unfold HA at h
 refine gN 8 X4.D fW ?_
 refine iB 9 h (fun h=>?_) fun h=>?_
 refine xX 16 X4.D h fun x1 h=>?_
 refine xX 19 Xd.D h fun x2 h=>?_
 refine iB 21 h (fun h=>?_) fun h=>?_
 exact lb h
 exact lb h
 exact lb h) h
theorem aP1(h:Zf dM fW=some eB):AN Tryz.prog 71 [.d (AA.D dM),.d ((D.l X4.D) fW)] [] (.d (D.b eB)) []:=by
 unfold Zf at h;apply g0 (o:=eB);obtain⟨o3,h5,h⟩:=bS h;refine gl (aCu none h5) ?_;replace h:=AM h;rcases h with⟨o4,rfl,h⟩|⟨o5,rfl,h⟩
 exact lf h;exact lf h
theorem aNk(h:Qu dM eQ eM=some eB):AN Tryz.prog 47 [.d (AA.D dM),.d ((D.l X2.D) eQ),.d ((D.l X3.D) eM)] [] (.d (D.b eB)) []:=by unfold Qu at h;apply g0 (o:=eB);obtain⟨r1,h1,h⟩:=bS h;refine gC 14 (aP0 h1) ?_;obtain⟨r2,h2,h⟩:=bS h;refine gC 16 (aPg h2) ?_;obtain⟨r3,h3,h⟩:=bS h;refine gC 22 (aP1 h3) ?_;exact lf h
def TM(s1:List (List X0))(s2:Int)(s3:List X2)(s4:List X3)(s11:Bool)(w5:AA)(s12:Int):St:=⟨sp 63 0 [sD 1 (D.l (D.l X0.D)) s1,sI 2 s2,sD 3 (D.l X2.D) s3,sD 4 (D.l X3.D) s4,bx 5,sD 11 D.b s11,sI 12 s12],[cL 5 AA.D w5],[]⟩
def TN(s1:List (List X0))(s2:Int)(s3:List X2)(s4:List X3)(s11:Bool)(w5:AA)(o:Unit⊕Unit):Ex×St:=match o with
 | .inl o=>(.exit 0,⟨sp 63 0 [sD 11 D.b s11],[],[]⟩)
 | .inr o=>(.ret,⟨sp 63 0 [sD 10 D.b (!s11)],[],[]⟩)
theorem aB0(rd:Option Nat)(self:AA->(List (List X0))->Int->(List X2)->(List X3)->Option Bool)(hs:∀(a0:AA) (a1:List (List X0)) (a2:Int) (a3:List X2) (a4:List X3) (r:Bool),self a0 a1 a2 a3 a4=some r->AN Tryz.prog 29 [.d (AA.D a0),.d ((D.l (D.l X0.D)) a1),dI a2,.d ((D.l X2.D) a3),.d ((D.l X3.D) a4)] [] (.d (D.b r)) []){s1:List (List X0)}{s2:Int}{s3:List X2}{s4:List X3}{s11:Bool}{w5:AA}{s12:Int}{t:Unit⊕Unit}(h:aK3 self s1 s2 s3 s4 s11 w5 s12=some t):Lq 29 rd 122 (TM s1 s2 s3 s4 s11 w5 s12) ((TN s1 s2 s3 s4 s11 w5) t):=
 lL (fun s:Int=>TM s1 s2 s3 s4 s11 w5 s) (TN s1 s2 s3 s4 s11 w5) s12 (fun s12 o h=>by
 unfold TO at h
 refine xX 31 (D.l X0.D) h fun x3 h=>?_
 refine gN 33 X0.D x3 ?_
 refine iB 34 h (fun h=>?_) fun h=>?_
 refine gQ (AW X2.D ([]:List X2))<|gG 39 (.sl ((([]:List X2)++s3).map X2.D)) (AW X2.D s3) ?_
 obtain⟨h6,h⟩:=cS h
 refine gQ (AY X2.D h6)<|gQ (AX X2.D ([]:List X2) s3)<|xX 43 (D.l X0.D) h fun x4 h=>?_
 refine xX 46 X0.D h fun x5 h=>?_
 refine gQ (AW X2.D [X2.mk s2 x5])<|gG 50 (.sl (((([]:List X2)++s3)++[X2.mk s2 x5]).map X2.D)) (AW X2.D [X2.mk s2 x5]) ?_
 obtain⟨h9,h⟩:=cS h
 refine gQ (AY X2.D h9)<|gQ (AX X2.D (([]:List X2)++s3) [X2.mk s2 x5]) ?_
 obtain⟨r6,h10,h⟩:=bS h
 refine gG 57 (.ret (.d (D.b r6))) (hs w5 s1 (AB .add .i64 s2 1) ((([]:List X2)++s3)++[X2.mk s2 x5]) s4 r6 h10) ?_
 refine iB 59 h (fun h=>?_) fun h=>?_
 exact lb h
 exact lb h
 exact lb h) h
theorem aHm(self:AA->(List (List X0))->Int->(List X2)->(List X3)->Option Bool)(hs:∀(a0:AA) (a1:List (List X0)) (a2:Int) (a3:List X2) (a4:List X3) (r:Bool),self a0 a1 a2 a3 a4=some r->AN Tryz.prog 29 [.d (AA.D a0),.d ((D.l (D.l X0.D)) a1),dI a2,.d ((D.l X2.D) a3),.d ((D.l X3.D) a4)] [] (.d (D.b r)) [])(a0:AA)(a1:List (List X0))(a2:Int)(a3:List X2)(a4:List X3)(r:Bool)(h:aK2 self a0 a1 a2 a3 a4=some r):AN Tryz.prog 29 [.d (AA.D a0),.d ((D.l (D.l X0.D)) a1),dI a2,.d ((D.l X2.D) a3),.d ((D.l X3.D) a4)] [] (.d (D.b r)) []:=by
 unfold aK2 at h;apply g0 (o:=r);refine gN 16 (D.l X0.D) a1 ?_;refine iB 17 h (fun h=>?_) fun h=>?_;obtain⟨r1,h2,h⟩:=bS h;refine gC 21 (aNk h2) ?_;exact lf h;refine xX 25 Xt.D h fun x2 h=>?_;obtain⟨o7,h12,h⟩:=bS h;refine gl (aB0 none self hs h12) ?_;replace h:=AM h;rcases h with⟨o8,rfl,h⟩|⟨o9,rfl,h⟩
 exact lf h;exact lf h
theorem TP:∀(n:Nat) (a0:AA) (a1:List (List X0)) (a2:Int) (a3:List X2) (a4:List X3) (r:Bool),aK4 n a0 a1 a2 a3 a4=some r->AN Tryz.prog 29 [.d (AA.D a0),.d ((D.l (D.l X0.D)) a1),dI a2,.d ((D.l X2.D) a3),.d ((D.l X3.D) a4)] [] (.d (D.b r)) []
 |0,a0,a1,a2,a3,a4,r,h=>by simp[aK4]at h
 |n+1,a0,a1,a2,a3,a4,r,h=>aHm _ (TP n) a0 a1 a2 a3 a4 r h
theorem aO8(h:Ym dM fT dJ eQ eM=some eB):AN Tryz.prog 29 [.d (AA.D dM),.d ((D.l (D.l X0.D)) fT),dI dJ,.d ((D.l X2.D) eQ),.d ((D.l X3.D) eM)] [] (.d (D.b eB)) []:=TP 100000 dM fT dJ eQ eM eB h
theorem aJ4(h:Qc dM eM=some eB):AN Tryz.prog 13 [.d (AA.D dM),.d ((D.l X3.D) eM)] [] (.d (D.b eB)) []:=by unfold Qc at h;apply g0 (o:=eB);obtain⟨r1,h1,h⟩:=bS h;refine gC 8 (aPz h1) ?_;obtain⟨r2,h2,h⟩:=bS h;refine gC 10 (aO8 h2) ?_;exact lf h
def TQ(s5:List X3)(s6:Bool)(w2 w3:AA)(s10:Int):St:=⟨sp 117 0 [bx 2,bx 3,sD 5 (D.l X3.D) s5,sD 6 D.b s6,sI 10 s10],[cL 2 AA.D w2,cL 3 AA.D w3],[]⟩
def TR(s5:List X3)(s6:Bool)(w2 w3:AA)(o:Unit⊕Unit):Ex×St:=match o with
 | .inl o=>(.exit 0,⟨sp 117 0 [bx 2,bx 3,sD 5 (D.l X3.D) s5,sD 6 D.b s6],[cL 2 AA.D w2,cL 3 AA.D w3],[]⟩)
 | .inr o=>(.ret,⟨sp 117 0 [sD 4 D.b false],[],[]⟩)
theorem aB1(rd:Option Nat)(h:aHn eM eB dM dN dJ=some eC):Lq 3 rd 2042 (TQ eM eB dM dN dJ) ((TR eM eB dM dN) eC):=
 lL (fun s:Int=>TQ eM eB dM dN s) (TR eM eB dM dN) dJ (fun dJ o h=>by
 unfold Gr at h
 refine gN 91 X3.D eM ?_
 refine iB 92 h (fun h=>?_) fun h=>?_
 refine xX 99 X3.D h fun x12 h=>?_
 obtain⟨r13,h27,h⟩:=bS h
 refine gC 101 (aHq h27) ?_
 refine iB 102 h (fun h=>?_) fun h=>?_
 exact lb h
 exact lb h
 exact lb h) h
theorem aPa(h:Yn dM dN=some eB):AN Tryz.prog 3 [.d (AA.D dM),.d (AA.D dN)] [] (.d (D.b eB)) []:=by
 unfold Yn at h;apply g0 (o:=eB);obtain⟨r1,h1,h⟩:=bS h;refine gC 12 (aLe h1) ?_;refine iB 14 h (fun h=>?_) fun h=>?_;obtain⟨r2,h3,h⟩:=bS h;refine gC 19 (US h3) ?_;exact lf h;obtain⟨r3,h4,h⟩:=bS h;refine gC 16 (aLe h4) ?_;refine iB 18 h (fun h=>?_) fun h=>?_;obtain⟨r4,h6,h⟩:=bS h;refine gC 19 (US h6) ?_;exact lf h;obtain⟨r5,h7,h⟩:=bS h;refine gC 23 (aGo h7) ?_;obtain⟨r6,h8,h⟩:=bS h;refine gC 29 (aLk h8) ?_;obtain⟨r7,h9,h⟩:=bS h;refine gC 34 (aOw h9) ?_;refine iB 35 h (fun h=>?_) fun h=>?_;obtain⟨r8,h11,h⟩:=bS h;refine gC 38 (Tb h11) ?_;refine iB 40 h (fun h=>?_) fun h=>?_;refine gN 42 X3.D r5.1 ?_;refine iB 45 h (fun h=>?_) fun h=>?_;refine iB 49 h (fun h=>?_) fun h=>?_;refine iB 53 h (fun h=>?_) fun h=>?_;refine iB 57 h (fun h=>?_) fun h=>?_;obtain⟨r9,h17,h⟩:=bS h;refine gC 58 (US h17) ?_;exact lf h;exact lf h;exact lf h;exact lf h;exact lf h;exact lf h;obtain⟨r10,h18,h⟩:=bS h;refine gC 62 (aN9 h18) ?_;obtain⟨r11,h19,h⟩:=bS h;refine gC 65 (Tb h19) ?_;refine iB 67 h (fun h=>?_) fun h=>?_;exact lf h;refine iB 73 h (fun h=>?_) fun h=>?_;exact lf h;refine iB 78 h (fun h=>?_) fun h=>?_;exact lf h;refine iB 82 h (fun h=>?_) fun h=>?_;exact lf h;refine gN 84 X3.D r5.1<|gG 86 (.int (K5 r10 0)) (rfl:K5 r10 0=K5 r10 0) ?_;refine iB 88 h (fun h=>?_) fun h=>?_;exact lf h;obtain⟨o14,h29,h⟩:=bS h;refine gl (aB1 none h29) ?_;replace h:=AM h;rcases h with⟨o15,rfl,h⟩|⟨o16,rfl,h⟩
 refine iB 105 h (fun h=>?_) fun h=>?_;obtain⟨r17,h31,h⟩:=bS h;refine gC 115 (US h31) ?_;exact lf h;obtain⟨r18,h32,h⟩:=bS h;refine gC 108 (aJ4 h32) ?_;obtain⟨r19,h33,h⟩:=bS h;refine gC 111 (aJ4 h33) ?_;refine iB 114 h (fun h=>?_) fun h=>?_;obtain⟨r20,h35,h⟩:=bS h;refine gC 115 (US h35) ?_;exact lf h;exact lf h;exact lf h
end Go.Ac
