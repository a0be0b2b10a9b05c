/- Own work, printed: the functions compute these. -/
import Derived.Test.YtaacajciajkodaaGreatWa36cx1
set_option linter.unusedVariables false
set_option linter.unusedSimpArgs false
namespace Go.Ac
open Go.Proofs
variable {cJ cK cM cT cW d6 d7 d9 dA dD:Int}
variable {cN cQ dE eH:List Int}
variable {cO:(Int×List Int)}
variable {cP:Int×Bool×List Int}
variable {cR:List X2}
variable {cU:AD}
variable {cV cX:List (Int×Bool)}
variable {cY:(List (Int×Bool))}
variable {cZ:(List Int)}
variable {d4:Bool}
variable {d5:List Xg}
variable {d8:List Xr}
variable {dB:Xg}
variable {dC:Xr}
variable {dF dG:MP Int Int}
variable {dH:(List Int×MP Int Int×MP Int Int)}
variable {dJ:List Int×MP Int Int×MP Int Int}
variable {dK:(Int×List Int)⊕(Unit⊕Unit)}
variable {dL:(List Int)⊕(List Int)}
variable {dM:(List Int×Int)}
variable {dN:Int×Int×Int}
variable {dO:Int×Int}
variable {dP:(Int×Int×Int×Int)}
variable {dQ:(Int×Int)}
variable {dR:(Int×List Int)⊕Bool}
variable {dS:(List Int)⊕(Bool×List Int)}
variable {dV:Bool×List Int}
variable {dX:Int×List Int}
variable {dY:Unit⊕Unit}
variable {e9:List UInt8}
variable {eA:(List UInt8)}
variable {eB:List UInt8×MP Int Int}
variable {eC:List (List UInt8)}
variable {eE:MP (List UInt8) Int}
variable {eF:(MP (List UInt8) Int)}
variable {eG:(MP (List UInt8) Int×List Int)}
variable {eI:(MP Int Int)}
variable {eK:(List (List UInt8))}
variable {eL:List Int×List Int}
variable {eM:Unit}
variable {eN eR eS:X3}
variable {eO:List X3}
variable {eQ:MP X3 Xe}
variable {eT:(List X3×MP X3 Xe)}
variable {eU:(Int×List X3×MP X3 Xe)}
variable {eV:List Int×Bool}
variable {eW eY:List X0}
variable {eX:X0}
variable {eZ:(List X0)}
variable {f0:B0}
def U8(us:List Value)(s1:Int)(o:(Int×List Int)):Ex×St:=(.exit 4,⟨sp 168 0 [rx 0,sI 1 s1,sI 11 o.1],[rW 0 49 1 dU o.2,(997,.vals [.row 0] us)],[]⟩)
theorem aGw(rd:Option Nat)(us:List Value)(h:Sb cJ cK cM cN=some cO):Lq 103 rd 4092 (U7 us cJ cK cM cN) ((U8 us cJ) cO):=
 lL (fun s:Int×Int×List Int=>U7 us cJ s.1 s.2.1 s.2.2) (U8 us cJ) (cK,cM,cN) (fun⟨cK,cM,cN⟩ o h=>by
 unfold IL at h
 obtain⟨o18,h49,h⟩:=bS h
 refine gl (aGy rd us h49) ?_
 obtain⟨o22,h57,h⟩:=bS h
 refine gl (aG0 rd us h57) ?_
 refine iB 134 h (fun h=>?_) fun h=>?_
 exact lb h
 obtain⟨h59,h⟩:=cS h
 refine gQ h59.1<|gQ (AF dU h59.2) ?_
 obtain⟨x23,h60,h⟩:=xS h
 refine gG 142 (.el (dU x23)) (AH dU h60)<|gW 10147 (.sl ((cN.set o18.toNat x23).map dU)) ?_
 obtain⟨h61,h⟩:=cS h
 refine gQ h61.1<|gQ (AF dU h61.2) ?_
 obtain⟨x24,h62,h⟩:=xS h
 refine gG 146 (.el (dU x24)) (AH dU h62)<|gW 10148 (.sl (((cN.set o18.toNat x23).set o22.toNat x24).map dU)) ?_
 obtain⟨h63,h⟩:=cS h
 refine gQ h63.1<|gQ (AF dU h63.2) ?_
 obtain⟨h64,h⟩:=cS h
 refine gQ (Ay dU h64)<|gQ (AS dU cN o18 x23) ?_
 obtain⟨h65,h⟩:=cS h
 refine gQ h65.1<|gQ (AF dU h65.2) ?_
 obtain⟨h66,h⟩:=cS h
 refine gQ (Ay dU h66)<|gQ (AS dU (cN.set o18.toNat x23) o22 x24) ?_
 exact lb h) h
theorem Sc(h:Xa cJ cK cM cN=some cP):AM Tryz.prog 103 [.row 0,dI cJ,dI cK,dI cM] [rW 0 49 1 dU cN] (.tup [dI cP.1,.d (D.b cP.2.1)]) [rW 0 49 1 dU cP.2.2]:=by unfold Xa at h;refine XG.call (ks:=[0]) mixed fun us=>?_;apply g0 (o:=cP);obtain⟨h1,h⟩:=cS h;refine gQ h1.1<|gQ (AF dU h1.2) ?_;obtain⟨x1,h2,h⟩:=xS h;refine gG 19 (.el (dU x1)) (AH dU h2)<|gW 10024 (.sl ((cN.set cJ.toNat x1).map dU)) ?_;obtain⟨h3,h⟩:=cS h;refine gQ h3.1<|gQ (AF dU h3.2) ?_;obtain⟨x2,h4,h⟩:=xS h;refine gG 23 (.el (dU x2)) (AH dU h4)<|gW 10025 (.sl (((cN.set cJ.toNat x1).set cM.toNat x2).map dU)) ?_;obtain⟨h5,h⟩:=cS h;refine gQ h5.1<|gQ (AF dU h5.2) ?_;obtain⟨h6,h⟩:=cS h;refine gQ (Ay dU h6)<|gQ (AS dU cN cJ x1) ?_;obtain⟨h7,h⟩:=cS h;refine gQ h7.1<|gQ (AF dU h7.2) ?_;obtain⟨h8,h⟩:=cS h;refine gQ (Ay dU h8)<|gQ (AS dU (cN.set cJ.toNat x1) cM x2) ?_;obtain⟨o6,h16,h⟩:=bS h;refine gl (aGt none us h16) ?_;obtain⟨o10,h24,h⟩:=bS h;refine gl (aGu none us h24) ?_;refine iB 65 h (fun h=>?_) fun h=>?_;obtain⟨h26,h⟩:=cS h;refine gQ h26.1<|gQ (AF dU h26.2) ?_;obtain⟨x11,h27,h⟩:=xS h;refine gG 73 (.el (dU x11)) (AH dU h27)<|gW 10078 (.sl ((((cN.set cJ.toNat x1).set cM.toNat x2).set o10.toNat x11).map dU)) ?_;obtain⟨h28,h⟩:=cS h;refine gQ h28.1<|gQ (AF dU h28.2) ?_;obtain⟨x12,h29,h⟩:=xS h;refine gG 77 (.el (dU x12)) (AH dU h29)<|gW 10079 (.sl (((((cN.set cJ.toNat x1).set cM.toNat x2).set o10.toNat x11).set cJ.toNat x12).map dU)) ?_;obtain⟨h30,h⟩:=cS h;refine gQ h30.1<|gQ (AF dU h30.2) ?_;obtain⟨h31,h⟩:=cS h;refine gQ (Ay dU h31)<|gQ (AS dU ((cN.set cJ.toNat x1).set cM.toNat x2) o10 x11) ?_;obtain⟨h32,h⟩:=cS h;refine gQ h32.1<|gQ (AF dU h32.2) ?_;obtain⟨h33,h⟩:=cS h;refine gQ (Ay dU h33)<|gQ (AS dU (((cN.set cJ.toNat x1).set cM.toNat x2).set o10.toNat x11) cJ x12) ?_;exact lX h (lv [8,9] [0,997]);obtain⟨h34,h⟩:=cS h;refine gQ h34.1<|gQ (AF dU h34.2) ?_;obtain⟨x13,h35,h⟩:=xS h;refine gG 88 (.el (dU x13)) (AH dU h35)<|gW 10093 (.sl ((((cN.set cJ.toNat x1).set cM.toNat x2).set o6.toNat x13).map dU)) ?_;obtain⟨h36,h⟩:=cS h;refine gQ h36.1<|gQ (AF dU h36.2) ?_;obtain⟨x14,h37,h⟩:=xS h;refine gG 92 (.el (dU x14)) (AH dU h37)<|gW 10094 (.sl (((((cN.set cJ.toNat x1).set cM.toNat x2).set o6.toNat x13).set o10.toNat x14).map dU)) ?_;obtain⟨h38,h⟩:=cS h;refine gQ h38.1<|gQ (AF dU h38.2) ?_;obtain⟨h39,h⟩:=cS h;refine gQ (Ay dU h39)<|gQ (AS dU ((cN.set cJ.toNat x1).set cM.toNat x2) o6 x13) ?_;obtain⟨h40,h⟩:=cS h;refine gQ h40.1<|gQ (AF dU h40.2) ?_;obtain⟨h41,h⟩:=cS h;refine gQ (Ay dU h41)<|gQ (AS dU (((cN.set cJ.toNat x1).set cM.toNat x2).set o6.toNat x13) o10 x14) ?_;obtain⟨o25,h67,h⟩:=bS h;refine gl (aGw none us h67) ?_;obtain⟨h68,h⟩:=cS h;refine gQ h68.1<|gQ (AF dU h68.2) ?_;obtain⟨x26,h69,h⟩:=xS h;refine gG 160 (.el (dU x26)) (AH dU h69)<|gW 10165 (.sl ((o25.2.set o25.1.toNat x26).map dU)) ?_;obtain⟨h70,h⟩:=cS h;refine gQ h70.1<|gQ (AF dU h70.2) ?_;obtain⟨x27,h71,h⟩:=xS h;refine gG 164 (.el (dU x27)) (AH dU h71)<|gW 10166 (.sl (((o25.2.set o25.1.toNat x26).set cJ.toNat x27).map dU)) ?_;obtain⟨h72,h⟩:=cS h;refine gQ h72.1<|gQ (AF dU h72.2) ?_;obtain⟨h73,h⟩:=cS h;refine gQ (Ay dU h73)<|gQ (AS dU o25.2 o25.1 x26) ?_;obtain⟨h74,h⟩:=cS h;refine gQ h74.1<|gQ (AF dU h74.2) ?_;obtain⟨h75,h⟩:=cS h;refine gQ (Ay dU h75)<|gQ (AS dU (o25.2.set o25.1.toNat x26) cJ x27) ?_;exact lX h (lv [8,9] [0,997])
theorem aHl(rd:Option Nat)(self:Int->Int->Int->(List Int)->Option (List Int))(hs:∀(a1 a2 a3:Int) (w0 r:List Int),self a1 a2 a3 w0=some r->AM Tryz.prog 65 [.row 0,dI a1,dI a2,dI a3] [rW 0 49 1 dU w0] (.tup []) [rW 0 49 1 dU r])(us:List Value){s1 s2 s3:Int}{s8 s9:Bool}{s10:Int}{s35:Bool}{w0:List Int}{o:(Int×List Int)}(h:OQ self s1 s2 s3 s8 s9 s10 s35 w0=some o):Lq 65 rd 1821 ⟨sp 134 0 [rx 0,sI 1 s1,sI 2 s2,sI 3 s3,sD 8 D.b s8,sD 9 D.b s9,sI 10 s10,sD 35 D.b s35],[rW 0 49 1 dU w0,(997,.vals [.row 0] us)],[]⟩ (.normal,⟨sp 134 0 [rx 0,sI 1 s1,sI 2 s2,sI 3 o.1,sD 8 D.b s8,sD 9 D.b s9,sI 10 s10],[rW 0 49 1 dU o.2,(997,.vals [.row 0] us)],[]⟩):=by unfold OQ at h;apply g0 (o:=o);cases s35;replace h:=CL h;exact lp h;replace h:=CM h;obtain⟨r3,h6,h⟩:=bS h;refine gG 39 (.cx false [(0,0)] [] (.tup []) [rW 0 49 1 dU r3]) (aZq h6) ?_;exact lp h
theorem aHm(rd:Option Nat)(self:Int->Int->Int->(List Int)->Option (List Int))(hs:∀(a1 a2 a3:Int) (w0 r:List Int),self a1 a2 a3 w0=some r->AM Tryz.prog 65 [.row 0,dI a1,dI a2,dI a3] [rW 0 49 1 dU w0] (.tup []) [rW 0 49 1 dU r])(us:List Value){s1 s2 s3:Int}{s8 s9:Bool}{s10 s11 s12:Int}{s50:Bool}{w0:List Int}{o:(Int×Int×List Int)}(h:OR self s1 s2 s3 s8 s9 s10 s11 s12 s50 w0=some o):Lq 65 rd 7293 ⟨sp 134 0 [rx 0,sI 1 s1,sI 2 s2,sI 3 s3,sD 8 D.b s8,sD 9 D.b s9,sI 10 s10,sI 11 s11,sI 12 s12,sD 50 D.b s50],[rW 0 49 1 dU w0,(997,.vals [.row 0] us)],[]⟩ (.normal,⟨sp 134 0 [rx 0,sI 1 s1,sI 2 s2,sI 3 s3,sD 8 D.b s8,sD 9 D.b s9,sI 10 s10,sI 11 o.1,sI 12 o.2.1],[rW 0 49 1 dU o.2.2,(997,.vals [.row 0] us)],[]⟩):=by unfold OR at h;apply g0 (o:=o);cases s50;replace h:=CL h;exact lp h;replace h:=CM h;obtain⟨r6,h10,h⟩:=bS h;refine gG 54 (.cx false [(0,0)] [] (.tup []) [rW 0 49 1 dU r6]) (bA0 h10) ?_;exact lp h
theorem LE(rd:Option Nat)(self:Int->Int->Int->(List Int)->Option (List Int))(hs:∀(a1 a2 a3:Int) (w0 r:List Int),self a1 a2 a3 w0=some r->AM Tryz.prog 65 [.row 0,dI a1,dI a2,dI a3] [rW 0 49 1 dU w0] (.tup []) [rW 0 49 1 dU r])(us:List Value){s1 s2 s3:Int}{s8 s9:Bool}{s10 s11:Int}{s68:Bool}{w0:List Int}{o:(List Int)⊕(List Int)}(h:KJ self s1 s2 s3 s8 s9 s10 s11 s68 w0=some o):Lq 65 rd 14589 ⟨sp 134 0 [rx 0,sI 1 s1,sI 2 s2,sI 3 s3,sD 8 D.b s8,sD 9 D.b s9,sI 10 s10,sI 11 s11,sD 68 D.b s68],[rW 0 49 1 dU w0,(997,.vals [.row 0] us)],[]⟩ (match (generalizing:=false) o with
 | .inl o=>(.normal,⟨sp 134 0 [rx 0,sI 1 s1,sI 2 s2,sI 3 s3,sD 8 D.b s8,sD 9 D.b s9,sI 10 s10,sI 11 s11],[rW 0 49 1 dU o,(997,.vals [.row 0] us)],[]⟩)
 | .inr o=>(.ret,⟨sp 134 0 [],[rW 0 49 1 dU o,(997,.vals [.row 0] us)],[]⟩)):=by
 unfold KJ at h
 apply g0 (o:=o)
 cases s68
 replace h:=CL h
 exact lp h
 replace h:=CM h
 obtain⟨r8,h15,h⟩:=bS h
 refine gQ (aYm h15) ?_
 rcases r8 with⟨r8_1,r8_2⟩
 cases r8_1
 replace h:=CL h
 refine gW 72 (.cx false [(0,0)] [] (.d (D.b false)) [rW 0 49 1 dU r8_2]) ?_
 exact lp h
 replace h:=CM h
 refine gW 72 (.cx false [(0,0)] [] (.d (D.b true)) [rW 0 49 1 dU r8_2]) ?_
 exact lp h
theorem FK(rd:Option Nat)(self:Int->Int->Int->(List Int)->Option (List Int))(hs:∀(a1 a2 a3:Int) (w0 r:List Int),self a1 a2 a3 w0=some r->AM Tryz.prog 65 [.row 0,dI a1,dI a2,dI a3] [rW 0 49 1 dU w0] (.tup []) [rW 0 49 1 dU r])(us:List Value){s1 s2 s3:Int}{s9:Bool}{s14 s16:Int}{s17 s18:Int}{s113:Bool}{w0:List Int}{o:(Int×Int×Bool×List Int)}(h:Fy self s1 s2 s3 s9 s14 s16 s17 s18 s113 w0=some o):Lq 65 rd 466943 ⟨sp 134 0 [rx 0,sI 1 s1,sI 2 s2,sI 3 s3,sD 9 D.b s9,sI 14 s14,sI 16 s16,sI 17 s17,sI 18 s18,sD 113 D.b s113],[rW 0 49 1 dU w0,(997,.vals [.row 0] us)],[]⟩ (.normal,⟨sp 134 0 [rx 0,sI 1 o.1,sI 2 o.2.1,sI 3 s3,sD 8 D.b o.2.2.1,sD 9 D.b s9],[rW 0 49 1 dU o.2.2.2,(997,.vals [.row 0] us)],[]⟩):=by unfold Fy at h;apply g0 (o:=o);cases s113;replace h:=CL h;obtain⟨r18,h29,h⟩:=bS h;refine gG 132 (.cx false [(0,0)] [] (.tup []) [rW 0 49 1 dU r18]) (hs (AA .add .i64 s14 1) s2 s3 w0 r18 h29) ?_;exact lp h;replace h:=CM h;obtain⟨r17,h28,h⟩:=bS h;refine gG 121 (.cx false [(0,0)] [] (.tup []) [rW 0 49 1 dU r17]) (hs s1 s14 s3 w0 r17 h28) ?_;exact lp h
theorem aHk(rd:Option Nat)(self:Int->Int->Int->(List Int)->Option (List Int))(hs:∀(a1 a2 a3:Int) (w0 r:List Int),self a1 a2 a3 w0=some r->AM Tryz.prog 65 [.row 0,dI a1,dI a2,dI a3] [rW 0 49 1 dU w0] (.tup []) [rW 0 49 1 dU r])(us:List Value){s1 s2 s3:Int}{s8 s9:Bool}{w0:List Int}{o:(Int×Int×Int×Bool×Bool×List Int)⊕(List Int)}(h:OP self s1 s2 s3 s8 s9 w0=some o):Lq 65 rd 28 ⟨sp 134 0 [rx 0,sI 1 s1,sI 2 s2,sI 3 s3,sD 8 D.b s8,sD 9 D.b s9],[rW 0 49 1 dU w0,(997,.vals [.row 0] us)],[]⟩ (match (generalizing:=false) o with
 | .inl o=>(.normal,⟨sp 134 0 [rx 0,sI 1 o.1,sI 2 o.2.1,sI 3 o.2.2.1,sD 8 D.b o.2.2.2.1,sD 9 D.b o.2.2.2.2.1],[rW 0 49 1 dU o.2.2.2.2.2,(997,.vals [.row 0] us)],[]⟩)
 | .inr o=>(.ret,⟨sp 134 0 [],[rW 0 49 1 dU o,(997,.vals [.row 0] us)],[]⟩)):=by
 unfold OP at h
 apply g0 (o:=o)
 refine iB 23 h (fun h=>?_) fun h=>?_
 obtain⟨r1,h2,h⟩:=bS h
 refine gG 27 (.cx false [(0,0)] [] (.tup []) [rW 0 49 1 dU r1]) (aZr h2) ?_
 exact lp h
 refine iB 29 h (fun h=>?_) fun h=>?_
 obtain⟨r2,h4,h⟩:=bS h
 refine gG 33 (.cx false [(0,0)] [] (.tup []) [rW 0 49 1 dU r2]) (aZx h4) ?_
 exact lp h
 obtain⟨o4,h7,h⟩:=bS h
 refine gl (aHl rd self hs us h7) ?_
 obtain⟨r5,h8,h⟩:=bS h
 refine gG 46 (.lend [0] (.tup [dI r5.1,dI r5.2])) (bA5 h8) ?_
 obtain⟨o7,h11,h⟩:=bS h
 refine gl (aHm rd self hs us h11) ?_
 refine iB 62 h (fun h=>?_) fun h=>?_
 refine iB 65 h (fun h=>?_) fun h=>?_
 obtain⟨o9,h17,h⟩:=bS h
 refine gl (LE rd self hs us h17) ?_
 replace h:=AL h
 rcases h with⟨o10,rfl,h⟩|⟨o11,rfl,h⟩
 refine iB 75 h (fun h=>?_) fun h=>?_
 obtain⟨h19,h⟩:=cS h
 refine gQ h19.1<|gQ (AF dU h19.2) ?_
 obtain⟨x12,h20,h⟩:=xS h
 refine gG 80 (.el (dU x12)) (AH dU h20) ?_
 obtain⟨h21,h⟩:=cS h
 refine gQ h21.1<|gQ (AF dU h21.2) ?_
 obtain⟨x13,h22,h⟩:=xS h
 refine gG 84 (.el (dU x13)) (AH dU h22) ?_
 obtain⟨r14,h23,h⟩:=bS h
 refine gC 85 (E4 h23) ?_
 refine iB 87 h (fun h=>?_) fun h=>?_
 obtain⟨r15,h25,h⟩:=bS h
 refine gG 92 (.cx false [(0,0)] [] (dI r15.1) [rW 0 49 1 dU r15.2]) (aQ9 h25) ?_
 exact lp h
 obtain⟨r16,h26,h⟩:=bS h
 refine gG 99 (.cx false [(0,0)] [] (.tup [dI r16.1,.d (D.b r16.2.1)]) [rW 0 49 1 dU r16.2.2]) (Sc h26)<|gQ (of_decide_eq_true rfl:(8:Int)≠0) ?_
 obtain⟨o19,h30,h⟩:=bS h
 refine gl (FK rd self hs us h30) ?_
 exact lp h
 obtain⟨r20,h31,h⟩:=bS h
 refine gG 99 (.cx false [(0,0)] [] (.tup [dI r20.1,.d (D.b r20.2.1)]) [rW 0 49 1 dU r20.2.2]) (Sc h31)<|gQ (of_decide_eq_true rfl:(8:Int)≠0) ?_
 obtain⟨o21,h32,h⟩:=bS h
 refine gl (FK rd self hs us h32) ?_
 exact lp h
 exact lp h
 obtain⟨o22,h33,h⟩:=bS h
 refine gl (LE rd self hs us h33) ?_
 replace h:=AL h
 rcases h with⟨o23,rfl,h⟩|⟨o24,rfl,h⟩
 refine iB 75 h (fun h=>?_) fun h=>?_
 obtain⟨h35,h⟩:=cS h
 refine gQ h35.1<|gQ (AF dU h35.2) ?_
 obtain⟨x25,h36,h⟩:=xS h
 refine gG 80 (.el (dU x25)) (AH dU h36) ?_
 obtain⟨h37,h⟩:=cS h
 refine gQ h37.1<|gQ (AF dU h37.2) ?_
 obtain⟨x26,h38,h⟩:=xS h
 refine gG 84 (.el (dU x26)) (AH dU h38) ?_
 obtain⟨r27,h39,h⟩:=bS h
 refine gC 85 (E4 h39) ?_
 refine iB 87 h (fun h=>?_) fun h=>?_
 obtain⟨r28,h41,h⟩:=bS h
 refine gG 92 (.cx false [(0,0)] [] (dI r28.1) [rW 0 49 1 dU r28.2]) (aQ9 h41) ?_
 exact lp h
 obtain⟨r29,h42,h⟩:=bS h
 refine gG 99 (.cx false [(0,0)] [] (.tup [dI r29.1,.d (D.b r29.2.1)]) [rW 0 49 1 dU r29.2.2]) (Sc h42)<|gQ (of_decide_eq_true rfl:(8:Int)≠0) ?_
 obtain⟨o30,h43,h⟩:=bS h
 refine gl (FK rd self hs us h43) ?_
 exact lp h
 obtain⟨r31,h44,h⟩:=bS h
 refine gG 99 (.cx false [(0,0)] [] (.tup [dI r31.1,.d (D.b r31.2.1)]) [rW 0 49 1 dU r31.2.2]) (Sc h44)<|gQ (of_decide_eq_true rfl:(8:Int)≠0) ?_
 obtain⟨o32,h45,h⟩:=bS h
 refine gl (FK rd self hs us h45) ?_
 exact lp h
 exact lp h
 obtain⟨o33,h46,h⟩:=bS h
 refine gl (LE rd self hs us h46) ?_
 replace h:=AL h
 rcases h with⟨o34,rfl,h⟩|⟨o35,rfl,h⟩
 refine iB 75 h (fun h=>?_) fun h=>?_
 obtain⟨h48,h⟩:=cS h
 refine gQ h48.1<|gQ (AF dU h48.2) ?_
 obtain⟨x36,h49,h⟩:=xS h
 refine gG 80 (.el (dU x36)) (AH dU h49) ?_
 obtain⟨h50,h⟩:=cS h
 refine gQ h50.1<|gQ (AF dU h50.2) ?_
 obtain⟨x37,h51,h⟩:=xS h
 refine gG 84 (.el (dU x37)) (AH dU h51) ?_
 obtain⟨r38,h52,h⟩:=bS h
 refine gC 85 (E4 h52) ?_
 refine iB 87 h (fun h=>?_) fun h=>?_
 obtain⟨r39,h54,h⟩:=bS h
 refine gG 92 (.cx false [(0,0)] [] (dI r39.1) [rW 0 49 1 dU r39.2]) (aQ9 h54) ?_
 exact lp h
 obtain⟨r40,h55,h⟩:=bS h
 refine gG 99 (.cx false [(0,0)] [] (.tup [dI r40.1,.d (D.b r40.2.1)]) [rW 0 49 1 dU r40.2.2]) (Sc h55)<|gQ (of_decide_eq_true rfl:(8:Int)≠0) ?_
 obtain⟨o41,h56,h⟩:=bS h
 refine gl (FK rd self hs us h56) ?_
 exact lp h
 obtain⟨r42,h57,h⟩:=bS h
 refine gG 99 (.cx false [(0,0)] [] (.tup [dI r42.1,.d (D.b r42.2.1)]) [rW 0 49 1 dU r42.2.2]) (Sc h57)<|gQ (of_decide_eq_true rfl:(8:Int)≠0) ?_
 obtain⟨o43,h58,h⟩:=bS h
 refine gl (FK rd self hs us h58) ?_
 exact lp h
 exact lp h
def VY(us:List Value)(s1 s2 s3:Int)(s8 s9:Bool)(w0:List Int):St:=⟨sp 134 0 [rx 0,sI 1 s1,sI 2 s2,sI 3 s3,sD 8 D.b s8,sD 9 D.b s9],[rW 0 49 1 dU w0,(997,.vals [.row 0] us)],[]⟩
def VZ(us:List Value)(o:(List Int)):Ex×St:=(.ret,⟨sp 134 0 [],[rW 0 49 1 dU o,(997,.vals [.row 0] us)],[]⟩)
theorem aHo(rd:Option Nat)(self:Int->Int->Int->(List Int)->Option (List Int))(hs:∀(a1 a2 a3:Int) (w0 r:List Int),self a1 a2 a3 w0=some r->AM Tryz.prog 65 [.row 0,dI a1,dI a2,dI a3] [rW 0 49 1 dU w0] (.tup []) [rW 0 49 1 dU r])(us:List Value){s1 s2 s3:Int}{s8 s9:Bool}{w0:List Int}{t:(List Int)}(h:Sg self s1 s2 s3 s8 s9 w0=some t):Lq 65 rd 14 (VY us s1 s2 s3 s8 s9 w0) ((VZ us) t):=
 lL (fun s:Int×Int×Int×Bool×Bool×List Int=>VY us s.1 s.2.1 s.2.2.1 s.2.2.2.1 s.2.2.2.2.1 s.2.2.2.2.2) (VZ us) (s1,s2,s3,s8,s9,w0) (fun⟨s1,s2,s3,s8,s9,w0⟩ o h=>by
 unfold IT at h
 obtain⟨o44,h59,h⟩:=bS h
 refine gl (aHk rd self hs us h59) ?_
 replace h:=AL h
 rcases h with⟨o45,rfl,h⟩|⟨o46,rfl,h⟩
 exact lb h
 exact lb h) h
theorem aQ1(self:Int->Int->Int->(List Int)->Option (List Int))(hs:∀(a1 a2 a3:Int) (w0 r:List Int),self a1 a2 a3 w0=some r->AM Tryz.prog 65 [.row 0,dI a1,dI a2,dI a3] [rW 0 49 1 dU w0] (.tup []) [rW 0 49 1 dU r])(a1 a2 a3:Int)(w0 r:List Int)(h:aQ0 self a1 a2 a3 w0=some r):AM Tryz.prog 65 [.row 0,dI a1,dI a2,dI a3] [rW 0 49 1 dU w0] (.tup []) [rW 0 49 1 dU r]:=by unfold aQ0 at h;refine XG.call (ks:=[0]) mixed fun us=>?_;apply g0 (o:=r);obtain⟨o47,h60,h⟩:=bS h;refine gl (aHo none self hs us h60) ?_;exact lX h (lv [] [0,997])
theorem Va:∀(n:Nat) (a1 a2 a3:Int) (w0 r:List Int),aPi n a1 a2 a3 w0=some r->AM Tryz.prog 65 [.row 0,dI a1,dI a2,dI a3] [rW 0 49 1 dU w0] (.tup []) [rW 0 49 1 dU r]
 |0,a1,a2,a3,w0,r,h=>by simp[aPi]at h
 |n+1,a1,a2,a3,w0,r,h=>aQ1 _ (Va n) a1 a2 a3 w0 r h
theorem aYx(h:Xf cJ cK cM cN=some cQ):AM Tryz.prog 65 [.row 0,dI cJ,dI cK,dI cM] [rW 0 49 1 dU cN] (.tup []) [rW 0 49 1 dU cQ]:=Va 100000 cJ cK cM cN cQ h
theorem aXz(h:Q7 cN=some cQ):AM Tryz.prog 47 [.row 0] [rW 0 49 1 dU cN] (.tup []) [rW 0 49 1 dU cQ]:=by unfold Q7 at h;refine XG.call (ks:=[0]) mixed fun us=>?_;apply g0 (o:=cQ);refine gN 4 dU cN ?_;obtain⟨r1,h1,h⟩:=bS h;refine gC 9 (aQr h1) ?_;obtain⟨r2,h2,h⟩:=bS h;refine gG 10 (.cx false [(0,0)] [] (.tup []) [rW 0 49 1 dU r2]) (aYx h2) ?_;exact lX h (lv [] [0,997])
theorem aYc(h:Qq cN=some cQ):AM Tryz.prog 47 [.row 0] [(0,.bag 49 1 (cN.map dU))] (.tup []) [rW 0 49 1 dU cQ]:=
 AM.bagE (R:=fun _=>.tup []) (X':=fun cQ=> [rW 0 49 1 dU cQ]) (fun _ _ h=>aXz h) cQ h
def UQ(s1:List X2)(s6 s15:Int)(s16 s30:Int)(w2:AD)(w5:List (Int×Bool))(s31:Int)(w7:List (Int×Bool)):St:=⟨sp 65 0 [sD 1 (D.l X2.D) s1,bx 2,rx 5,sI 6 s6,rx 7,sI 15 s15,sI 16 s16,sI 30 s30,sI 31 s31],[cL 2 AD.D w2,(5,.mapS (ms dU D.b w5)),(7,.mapS (ms dU D.b w7))],[]⟩
def UR(s1:List X2)(s6 s15:Int)(s16 s30:Int)(w2:AD)(w5:List (Int×Bool))(o:(List (Int×Bool))):Ex×St:=(.exit 2,⟨sp 65 0 [sD 1 (D.l X2.D) s1,bx 2,rx 5,rx 7,sI 15 s15,sI 16 s16],[cL 2 AD.D w2,(5,.mapS (ms dU D.b w5)),(7,.mapS (ms dU D.b o))],[]⟩)
theorem aFn(rd:Option Nat)(h:UP cR cJ cK cM cT cU cV cW cX=some cY):Lq 22 rd 59802 (UQ cR cJ cK cM cT cU cV cW cX) ((UR cR cJ cK cM cT cU cV) cY):=
 lL (fun s:Int×(List (Int×Bool))=>UQ cR cJ cK cM cT cU cV s.1 s.2) (UR cR cJ cK cM cT cU cV) (cW,cX) (fun⟨cW,cX⟩ o h=>by
 unfold Fs at h
 refine iB 32 h (fun h=>?_) fun h=>?_
 obtain⟨r3,h5,h⟩:=bS h
 refine gG 40 (.cx false [(0,7)] [(1,40)] (.row 1) [(1,.mapS (ms dU D.b r3))]) (aY2 h5) ?_
 exact lB h [.live [1,2,5,6,7,15,16,30,31],.keep [2,5,40],.ren 40 7,.sort]
 exact lb h) h
def Gq(clk:Nat)(es:List (Nat×Int×Bool))(s1:List X2)(s15 s16:Int)(w2:AD)(w7 w5:List (Int×Bool))(sn:List Nat):St:=⟨sp 65 0 [sD 1 (D.l X2.D) s1,bx 2,rx 5,sI 15 s15,sI 16 s16,bx 43],[cL 2 AD.D w2,(5,.mapS (ms dU D.b w5)),(7,.map clk (dl dU D.b es)),(43,.mit 7 clk sn)],[]⟩
def Gr(clk:Nat)(es:List (Nat×Int×Bool))(s1:List X2)(s15 s16:Int)(w2:AD)(w7:List (Int×Bool))(o:(List (Int×Bool))):Ex×St:=(.exit 4,⟨sp 65 0 [sD 1 (D.l X2.D) s1,bx 2,rx 5,sI 15 s15,sI 16 s16],[cL 2 AD.D w2,(5,.mapS (ms dU D.b o))],[]⟩)
def aQv(clk:Nat)(es:List (Nat×Int×Bool))(s1:List X2)(s15 s16:Int)(w2:AD)(w7 w5:List (Int×Bool)):St:=⟨sp 65 0 [sD 1 (D.l X2.D) s1,bx 2,rx 5,sI 15 s15,sI 16 s16],[cL 2 AD.D w2,(5,.mapS (ms dU D.b w5))],[]⟩
set_option maxRecDepth 100000 in
theorem UU(rd:Option Nat)(clk:Nat)(es:List (Nat×Int×Bool))(s1:List X2)(s15 s16:Int)(w2:AD)(w7:List (Int×Bool))(k:Int)(v:Bool)(w5:List (Int×Bool))(sn:List Nat)(st:Nat)(hm:(st,k,v)∈es)(o:(List (Int×Bool)))(h:Gs s1 s15 s16 w2 w7 k v w5=some o):Nh Tryz.prog rd (ER Tryz.prog 22) [0,1,1,1,1,0,0,1,1,0,0,1,0,1,1] ((⟨(Gq clk es s1 s15 s16 w2 w7 w5 sn).E,By (Gq clk es s1 s15 s16 w2 w7 w5 sn).B 43 (.mit 7 clk (sn++[st])),[]⟩:St).put (some 44) (.tup [bo true,.d (dU k),.d (D.b v)])) fun zx zs=>zx=.normal/\Wk zs ((fun s:(List (Int×Bool))=>Gq clk es s1 s15 s16 w2 w7 s (sn++[st])) o):=by unfold Gs at h;obtain rfl:=si h;exact Fe mixed [(46,.en (dU k) (D.b v)),(10048,.ms (ms dU D.b (GP k true w5)))] [] [.live [1,2,5,15,16,43],.keep [2,5,7,43]] (ai (Pi (fk:=dU) (fv:=D.b) (clk:=clk) (sn:=sn) hm) (ai (Pu (aE1 Tryz.underlying49) D.b w5 k true) (ti))) (by kernel_rfl)
set_option maxRecDepth 100000 in
theorem UT(rd:Option Nat)(clk:Nat)(es:List (Nat×Int×Bool))(s1:List X2)(s15 s16:Int)(w2:AD)(w7 w5:List (Int×Bool))(sn:List Nat):Nh Tryz.prog rd (ER Tryz.prog 22) [0,1,1,1,1,0,0,1,1,0,0,1,0,1,1] ((Gq clk es s1 s15 s16 w2 w7 w5 sn).put (some 44) (.tup [bo false])) fun zx zs=>zx=(Gr clk es s1 s15 s16 w2 w7 (IE s1 s15 s16 w2 w7 w5)).1/\Wk zs (Gr clk es s1 s15 s16 w2 w7 (IE s1 s15 s16 w2 w7 w5)).2:=by refine Nh.wk (e:=.exit 4) (s1:=aQv clk es s1 s15 s16 w2 w7 w5) (Fe mixed [] [] [.live [1,2,5,15,16],.keep [2,5]] (ti) (by kernel_rfl)) ?_;exact(Wk.canS 5 (by kernel_rfl) rfl)
set_option maxRecDepth 100000 in
theorem aFp(rd:Option Nat)(clk:Nat)(es:List (Nat×Int×Bool))(s1:List X2)(s15 s16:Int)(w2:AD)(w7 w5:List (Int×Bool))(hp:(es.map (·.2)).Perm w7)(o:(List (Int×Bool)))(h:US s1 s15 s16 w2 w7 w5=some o):Fm Tryz.prog rd (ER Tryz.prog 22) [0,1,1,1,1,0,0,1,1,0,0,1,0,1,1] (Gq clk es s1 s15 s16 w2 w7 w5 []) ((Gr clk es s1 s15 s16 w2 w7) o).1 ((Gr clk es s1 s15 s16 w2 w7) o).2:=
 Pe (fk:=dU) (fv:=D.b) (step:=(fun(x:Int×Bool) (s:(List (Int×Bool)))=>Gs s1 s15 s16 w2 w7 x.1 x.2 s)) (s0:=w5) 43 44 43 7 clk es (fun(sn:List Nat) (s:(List (Int×Bool)))=>Gq clk es s1 s15 s16 w2 w7 s sn) (Gr clk es s1 s15 s16 w2 w7) (by kernel_rfl) (Rl (by rfl)) (fun _ _=>by kernel_rfl) (fun _ _=>by kernel_rfl) (fun _ _=>by kernel_rfl) hp
  (fun sn s k v st a hm h=>UU rd clk es s1 s15 s16 w2 w7 k v s sn st hm a h) (fun sn s hc=>hc▸UT rd clk es s1 s15 s16 w2 w7 s sn) h
theorem aFh(rd:Option Nat)(h:SG cR cJ cK cU cV cX=some cY):Lq 22 rd 14951 ⟨sp 65 0 [sD 1 (D.l X2.D) cR,bx 2,rx 5,rx 7,sI 15 cJ,sI 16 cK],[cL 2 AD.D cU,(5,.mapS (ms dU D.b cV)),(7,.mapS (ms dU D.b cX))],[]⟩ (.normal,⟨sp 65 0 [sD 1 (D.l X2.D) cR,bx 2,rx 5,sI 15 cJ,sI 16 cK],[cL 2 AD.D cU,(5,.mapS (ms dU D.b cY))],[]⟩):=by unfold SG at h;obtain⟨o5,h7,h⟩:=bS h;obtain rfl:=si h;exact Arr.lp (Arr.exact (fk:=dU) (fv:=D.b) (S:=cX) 7 (by kernel_rfl) fun clk es hp=>Gf mixed [] [⟨[0,1,1,1,1,0,0,1,1,0,0,1,0,1,1],[.live [1,2,5,15,16,43],.keep [2,5,7,43]],.exit 4,(Gr clk es cR cJ cK cU cX o5).2⟩] [.live [1,2,5,15,16],.keep [2,5]] (ai (aFp rd clk es cR cJ cK cU cX cV hp o5 h7) (ti)) (by kernel_rfl))
def UN(s1:List X2)(s15:Int)(w2:AD)(s16:Int)(w5:List (Int×Bool)):St:=⟨sp 65 0 [sD 1 (D.l X2.D) s1,bx 2,rx 5,sI 15 s15,sI 16 s16],[cL 2 AD.D w2,(5,.mapS (ms dU D.b w5))],[]⟩
def UO(s1:List X2)(s15:Int)(w2:AD)(o:(List (Int×Bool))):Ex×St:=(.exit 0,⟨sp 65 0 [rx 5],[(5,.mapS (ms dU D.b o))],[]⟩)
theorem aFl(rd:Option Nat)(h:UM cR cJ cU cK cV=some cY):Lq 22 rd 58 (UN cR cJ cU cK cV) ((UO cR cJ cU) cY):=
 lL (fun s:Int×(List (Int×Bool))=>UN cR cJ cU s.1 s.2) (UO cR cJ cU) (cK,cV) (fun⟨cK,cV⟩ o h=>by
 unfold Fr at h
 refine iB 17 h (fun h=>?_) fun h=>?_
 refine gW 19 .frz ?_
 obtain⟨r1,h2,h⟩:=bS h
 refine gC 22 (aZ0 h2)<|gQ (Pu (aE1 Tryz.underlying49) D.b ([]:List (Int×Bool)) r1 true)<|gW 10019 (.ms (ms dU D.b (GP r1 true ([]:List (Int×Bool)))))<|xX 27 Xm.D h fun x2 h=>?_
 refine gN 30 dZ x2.types ?_
 obtain⟨o4,h6,h⟩:=bS h
 refine gL [.live [1,2,5,6,7,15,16,30,31],.keep [2,5,19],.ren 19 7,.sort] (aFn rd h6) ?_
 obtain⟨o6,h8,h⟩:=bS h
 refine gl (aFh rd h8) ?_
 exact lb h
 exact lb h) h
def Gt(clk:Nat)(es:List (Nat×Int×Bool))(w5:List (Int×Bool))(w10:List Int)(sn:List Nat):St:=⟨sp 65 0 [rx 10,bx 53],[(5,.map clk (dl dU D.b es)),rW 10 49 1 dU w10,(53,.mit 5 clk sn)],[]⟩
def Gu(clk:Nat)(es:List (Nat×Int×Bool))(w5:List (Int×Bool))(o:List Int):Ex×St:=(.exit 6,⟨sp 65 0 [rx 10],[(10,.bag 49 1 (o.map dU))],[]⟩)
def aQw(clk:Nat)(es:List (Nat×Int×Bool))(w5:List (Int×Bool))(w10:List Int):St:=⟨sp 65 0 [rx 10],[rW 10 49 1 dU w10],[]⟩
set_option maxRecDepth 100000 in
theorem UX(rd:Option Nat)(clk:Nat)(es:List (Nat×Int×Bool))(w5:List (Int×Bool))(k:Int)(v:Bool)(w10:List Int)(sn:List Nat)(st:Nat)(hm:(st,k,v)∈es)(o:List Int)(h:Ez w5 k v w10=some o):Nh Tryz.prog rd (ER Tryz.prog 22) [0,1,0,1,1,1,1,1] ((⟨(Gt clk es w5 w10 sn).E,By (Gt clk es w5 w10 sn).B 53 (.mit 5 clk (sn++[st])),[]⟩:St).put (some 54) (.tup [bo true,.d (dU k),.d (D.b v)])) fun zx zs=>zx=.normal/\Wk zs ((fun s:List Int=>Gt clk es w5 s (sn++[st])) o):=by unfold Ez at h;obtain⟨h10,h⟩:=cS h;obtain rfl:=si h;exact Fe mixed [(56,.en (dU k) (D.b v)),(61,.rwl ((w10++[k]).map dU))] [] [.live [10,53],.keep [5,53,61],.ren 61 10,.sort] (ai (Pi (fk:=dU) (fv:=D.b) (clk:=clk) (sn:=sn) hm) (ai (Ah dU [k]) (ai (Ah dU [k]) (ai (Ao dU h10) (ai (Am dU w10 [k]) (ti)))))) (by kernel_rfl)
set_option maxRecDepth 100000 in
theorem UW(rd:Option Nat)(clk:Nat)(es:List (Nat×Int×Bool))(w5:List (Int×Bool))(w10:List Int)(sn:List Nat):Nh Tryz.prog rd (ER Tryz.prog 22) [0,1,0,1,1,1,1,1] ((Gt clk es w5 w10 sn).put (some 54) (.tup [bo false])) fun zx zs=>zx=(Gu clk es w5 (K9 w5 w10)).1/\Wk zs (Gu clk es w5 (K9 w5 w10)).2:=by refine Nh.wk (e:=.exit 6) (s1:=aQw clk es w5 w10) (Fe mixed [] [] [.live [10],.keep [10]] (ti) (by kernel_rfl)) ?_;exact(Wk.canB 10 (Dl _).symm (by kernel_rfl) rfl)
set_option maxRecDepth 100000 in
theorem aFr(rd:Option Nat)(clk:Nat)(es:List (Nat×Int×Bool))(w5:List (Int×Bool))(w10:List Int)(hp:(es.map (·.2)).Perm w5)(o:List Int)(h:UV w5 w10=some o):Fm Tryz.prog rd (ER Tryz.prog 22) [0,1,0,1,1,1,1,1] (Gt clk es w5 w10 []) ((Gu clk es w5) o).1 ((Gu clk es w5) o).2:=
 Pe (fk:=dU) (fv:=D.b) (step:=(fun(x:Int×Bool) (s:List Int)=>Ez w5 x.1 x.2 s)) (s0:=w10) 53 54 53 5 clk es (fun(sn:List Nat) (s:List Int)=>Gt clk es w5 s sn) (Gu clk es w5) (by kernel_rfl) (Rl (by rfl)) (fun _ _=>by kernel_rfl) (fun _ _=>by kernel_rfl) (fun _ _=>by kernel_rfl) hp
  (fun sn s k v st a hm h=>UX rd clk es w5 k v s sn st hm a h) (fun sn s hc=>hc▸UW rd clk es w5 s sn) h
theorem aFj(rd:Option Nat)(h:SH cV=some cZ):Lq 22 rd 126 ⟨sp 65 0 [rx 5,(10,.nil)],[(5,.mapS (ms dU D.b cV))],[]⟩ (.normal,⟨sp 65 0 [rx 10],[(10,.bag 49 1 (cZ.map dU))],[]⟩):=by unfold SH at h;obtain⟨o8,h11,h⟩:=bS h;obtain rfl:=si h;exact Arr.lp (Arr.exact (fk:=dU) (fv:=D.b) (S:=cV) 5 (by kernel_rfl) fun clk es hp=>Gf mixed [] [⟨[0,1,0,1,1,1,1,1],[.live [10,53],.keep [5,53],.nilw 10 10 49 1,.sort],.exit 6,(Gu clk es cV o8).2⟩] [.live [10],.keep [10]] (ai (aFr rd clk es cV ([]:List Int) hp o8 h11) (ti)) (by kernel_rfl))
theorem aQx(h:X4 cU cR=some cN):AM Tryz.prog 22 [.d (AD.D cU),.d ((D.l X2.D) cR)] [] (.d ((D.l dU) cN)) []:=by unfold X4 at h;apply g0 (o:=cN);refine gN 15 Xm.D cU.decls<|gW 12 .frz ?_;obtain⟨o7,h9,h⟩:=bS h;refine gL [.live [1,2,5,15,16],.keep [2,12],.ren 12 5,.sort] (aFl none h9)<|gQ (aS7 (aE1 Tryz.underlying49) D.b o7 0)<|gW 10051 (.ms (ms dU D.b (Nb 0 o7))) ?_;obtain⟨o9,h12,h⟩:=bS h;refine gl (aFj none h12) ?_;obtain⟨r10,h13,h⟩:=bS h;refine gG 63 (.cx true [(0,10)] [] (.tup []) [rW 0 49 1 dU r10]) (aYc h13) ?_;exact lF h [.frz 10]
theorem aYd(h:Qr cJ=some d4):AM Tryz.prog 43 [.d (dW cJ)] [] (.d (D.b d4)) []:=by unfold Qr at h;apply g0 (o:=d4);exact lf h
theorem QD(rd:Option Nat)(h:Us cJ cK cM cT cW d5 d6 d7 d8 d9 dA d4 cU dB dC=some dD):Lq 30 rd 15310131 ⟨sp 69 0 [sD 1 dW cJ,sD 2 dU cK,bx 3,sD 7 dW cM,sI 8 cT,bx 9,sD 10 dW cW,bx 12,sD 14 (D.l Xg.D) d5,sI 15 d6,sI 16 d7,sD 28 (D.l Xr.D) d8,sI 29 d9,sI 30 dA,sD 46 D.b d4],[cL 3 AD.D cU,cL 9 Xg.D dB,cL 12 Xr.D dC],[]⟩ (.normal,⟨sp 69 0 [sD 1 dW cJ,sD 2 dU cK,bx 3,sD 7 dW cM,sI 8 cT,bx 9,sD 10 dW dD,sD 14 (D.l Xg.D) d5,sI 15 d6,sI 16 d7,sD 28 (D.l Xr.D) d8,sI 29 d9,sI 30 dA],[cL 3 AD.D cU,cL 9 Xg.D dB],[]⟩):=by unfold Us at h;apply g0 (o:=dD);cases d4;replace h:=CL h;exact lp h;replace h:=CM h;obtain⟨h10,h⟩:=cS h;refine gQ h10 ?_;exact lp h
theorem aGe(rd:Option Nat)(h:aGd cJ cK cM cT cW d5 d6 d7 d8 d9 dA cU dB=some dD):Lq 30 rd 1913766 ⟨sp 69 0 [sD 1 dW cJ,sD 2 dU cK,bx 3,sD 7 dW cM,sI 8 cT,bx 9,sD 10 dW cW,sD 14 (D.l Xg.D) d5,sI 15 d6,sI 16 d7,sD 28 (D.l Xr.D) d8,sI 29 d9,sI 30 dA],[cL 3 AD.D cU,cL 9 Xg.D dB],[]⟩ (.normal,⟨sp 69 0 [sD 1 dW cJ,sD 2 dU cK,bx 3,sD 7 dW cM,sI 8 cT,bx 9,sD 10 dW dD,sD 14 (D.l Xg.D) d5,sI 15 d6,sI 16 d7,sD 28 (D.l Xr.D) d8,sI 29 d9,sI 30 dA],[cL 3 AD.D cU,cL 9 Xg.D dB],[]⟩):=by unfold aGd at h;apply g0 (o:=dD);refine xX 32 Xr.D h fun x2 h=>?_;refine iB 38 h (fun h=>?_) fun h=>?_;obtain⟨h8,h⟩:=cS h;refine gQ h8 ?_;obtain⟨o3,h11,h⟩:=bS h;refine gl (QD rd h11) ?_;exact lp h;obtain⟨o4,h12,h⟩:=bS h;refine gl (QD rd h12) ?_;exact lp h
def Uw(s1 s2:Int)(s7 s8:Int)(s14:List Xg)(s15 s16:Int)(s28:List Xr)(s29:Int)(w3:AD)(w9:Xg)(s10 s30:Int):St:=⟨sp 69 0 [sD 1 dW s1,sD 2 dU s2,bx 3,sD 7 dW s7,sI 8 s8,bx 9,sD 10 dW s10,sD 14 (D.l Xg.D) s14,sI 15 s15,sI 16 s16,sD 28 (D.l Xr.D) s28,sI 29 s29,sI 30 s30],[cL 3 AD.D w3,cL 9 Xg.D w9],[]⟩
def Ux(s1 s2:Int)(s7 s8:Int)(s14:List Xg)(s15 s16:Int)(s28:List Xr)(s29:Int)(w3:AD)(w9:Xg)(o:Int):Ex×St:=(.exit 2,⟨sp 69 0 [sD 1 dW s1,sD 2 dU s2,bx 3,sD 7 dW s7,sI 8 s8,bx 9,sD 10 dW o,sD 14 (D.l Xg.D) s14,sI 15 s15,sI 16 s16],[cL 3 AD.D w3,cL 9 Xg.D w9],[]⟩)
theorem aGi(rd:Option Nat)(h:SU cJ cK cM cT d5 cW d6 d8 d7 cU dB d9 dA=some dD):Lq 30 rd 119610 (Uw cJ cK cM cT d5 cW d6 d8 d7 cU dB d9 dA) ((Ux cJ cK cM cT d5 cW d6 d8 d7 cU dB) dD):=
 lL (fun s:Int×Int=>Uw cJ cK cM cT d5 cW d6 d8 d7 cU dB s.1 s.2) (Ux cJ cK cM cT d5 cW d6 d8 d7 cU dB) (d9,dA) (fun⟨d9,dA⟩ o h=>by
 unfold G0 at h
 refine iB 31 h (fun h=>?_) fun h=>?_
 obtain⟨o5,h13,h⟩:=bS h
 refine gl (aGe rd h13) ?_
 exact lb h
 exact lb h) h
theorem QE(rd:Option Nat)(h:LA cJ cK cM cT cW d5 d6 d7 d4 cU=some d9):Lq 30 rd 119613 ⟨sp 69 0 [sD 1 dW cJ,sD 2 dU cK,bx 3,sD 7 dW cM,sI 8 cT,sD 10 dW cW,sD 14 (D.l Xg.D) d5,sI 15 d6,sI 16 d7,sD 60 D.b d4],[cL 3 AD.D cU],[]⟩ (.normal,⟨sp 69 0 [sD 1 dW cJ,sD 2 dU cK,bx 3,sD 7 dW cM,sD 10 dW d9,sD 14 (D.l Xg.D) d5,sI 15 d6,sI 16 d7],[cL 3 AD.D cU],[]⟩):=by unfold LA at h;apply g0 (o:=d9);cases d4;replace h:=CL h;exact lp h;replace h:=CM h;obtain⟨h17,h⟩:=cS h;refine gQ h17 ?_;exact lp h
theorem aGc(rd:Option Nat)(h:SS cJ cK cM d5 cT cW cU=some d6):Lq 30 rd 934 ⟨sp 69 0 [sD 1 dW cJ,sD 2 dU cK,bx 3,sD 7 dW cM,sD 14 (D.l Xg.D) d5,sI 15 cT,sI 16 cW],[cL 3 AD.D cU],[]⟩ (.normal,⟨sp 69 0 [sD 1 dW cJ,sD 2 dU cK,bx 3,sD 7 dW d6,sD 14 (D.l Xg.D) d5,sI 15 cT,sI 16 cW],[cL 3 AD.D cU],[]⟩):=by unfold SS at h;apply g0 (o:=d6);refine xX 19 Xg.D h fun x1 h=>?_;obtain⟨h3,h⟩:=cS h;refine gQ h3 ?_;refine iB 26 h (fun h=>?_) fun h=>?_;exact lp h;refine gN 29 Xr.D cU.trans ?_;obtain⟨o6,h14,h⟩:=bS h;refine gl (aGi rd h14) ?_;refine iB 56 h (fun h=>?_) fun h=>?_;obtain⟨o7,h18,h⟩:=bS h;refine gl (QE rd h18) ?_;exact lp h;obtain⟨o8,h19,h⟩:=bS h;refine gl (QE rd h19) ?_;exact lp h
def Uu(s1 s2:Int)(s14:List Xg)(s15:Int)(w3:AD)(s7 s16:Int):St:=⟨sp 69 0 [sD 1 dW s1,sD 2 dU s2,bx 3,sD 7 dW s7,sD 14 (D.l Xg.D) s14,sI 15 s15,sI 16 s16],[cL 3 AD.D w3],[]⟩
def Uv(s1 s2:Int)(s14:List Xg)(s15:Int)(w3:AD)(o:Int):Ex×St:=(.exit 0,⟨sp 69 0 [sD 7 dW o],[],[]⟩)
theorem aGg(rd:Option Nat)(h:Ut cJ cK d5 cM cU cT cW=some d6):Lq 30 rd 58 (Uu cJ cK d5 cM cU cT cW) ((Uv cJ cK d5 cM cU) d6):=
 lL (fun s:Int×Int=>Uu cJ cK d5 cM cU s.1 s.2) (Uv cJ cK d5 cM cU) (cT,cW) (fun⟨cT,cW⟩ o h=>by
 unfold E0 at h
 refine iB 17 h (fun h=>?_) fun h=>?_
 obtain⟨o9,h20,h⟩:=bS h
 refine gl (aGc rd h20) ?_
 exact lb h
 exact lb h) h
theorem aGj(h:X8 cU cJ cK=some cM):AM Tryz.prog 30 [.d (AD.D cU),.d (dW cJ),.d (dU cK)] [] (.d (dW cM)) []:=by unfold X8 at h;apply g0 (o:=cM);refine gN 15 Xg.D cU.states ?_;obtain⟨o10,h21,h⟩:=bS h;refine gl (aGg none h21) ?_;exact lf h
theorem aH3(rd:Option Nat)(us:List Value)(h:Vt cN cJ cK cM cQ cT cW d4 cU dE dF dG=some dH):Lq 42 rd 58346703 ⟨sp 84 0 [(3,.clo (.func 43) [] []),bx 4,rx 8,rx 9,rx 10,sD 11 (D.l dU) cN,sI 12 cJ,sD 14 dU cK,sD 15 dW cM,sD 44 (D.l dU) cQ,sI 45 cT,sI 46 cW,sD 64 D.b d4],[cL 4 AD.D cU,rW 8 32 1 dW dE,(9,.map dF.clk (MP.dl dW dW dF)),(10,.map dG.clk (MP.dl dW dU dG)),(997,.vals [] us)],[]⟩ (.normal,⟨sp 84 0 [(3,.clo (.func 43) [] []),bx 4,rx 8,rx 9,rx 10,sD 11 (D.l dU) cN,sI 12 cJ,sD 44 (D.l dU) cQ,sI 45 cT,sI 46 cW],[cL 4 AD.D cU,rW 8 32 1 dW dH.1,(9,.map dH.2.1.clk (MP.dl dW dW dH.2.1)),(10,.map dH.2.2.clk (MP.dl dW dU dH.2.2)),(997,.vals [] us)],[]⟩):=by unfold Vt at h;apply g0 (o:=dH);cases d4;replace h:=CL h;exact lp h;replace h:=CM h;refine gW 74 (.me (HX 0 dF cM).clk (MP.dl dW dW (HX 0 dF cM)) (dW (bDp 0 dF cM)) (Pj 0 dF cM))<|gW 10067 (.mp (Cb dG cM cK).clk (MP.dl dW dU (Cb dG cM cK)))<|gW 79 (.rwl ((dE++[cM]).map dW)) ?_;obtain⟨h14,h⟩:=cS h;refine gQ h14.1<|gQ (AF dW h14.2) ?_;obtain⟨x7,h15,h⟩:=xS h;refine gG 72 (.el (dW x7)) (AH dW h15)<|gW 10075 (.mp (Tn (HX 0 dF cM) ((Pj 0 dF cM:Nat):Int) x7).clk (MP.dl dW dW (Tn (HX 0 dF cM) ((Pj 0 dF cM:Nat):Int) x7))) ?_;obtain⟨h16,h⟩:=cS h;refine gQ (aTn (aE1 Tryz.underlying32) dW 0 dF cM h16) ?_;obtain⟨h17,h⟩:=cS h;refine gQ (aTq dW dW (HX 0 dF cM) ((Pj 0 dF cM:Nat):Int) x7 h17)<|gQ (HY (aE1 Tryz.underlying32) dU dG cM cK)<|gQ (Ah dW [cM])<|gQ (Ah dW [cM]) ?_;obtain⟨h18,h⟩:=cS h;refine gQ (Ao dW h18)<|gQ (Am dW dE [cM]) ?_;exact lP h [.live [3,4,8,9,10,11,12,44,45,46],.keep [4,9,10,79,997],.ren 79 8,.sort]
theorem aH2(rd:Option Nat)(us:List Value)(h:Sj cN cJ cQ cK cM cU dE dF dG=some dH):Lq 42 rd 1823334 ⟨sp 84 0 [(3,.clo (.func 43) [] []),bx 4,rx 8,rx 9,rx 10,sD 11 (D.l dU) cN,sI 12 cJ,sD 44 (D.l dU) cQ,sI 45 cK,sI 46 cM],[cL 4 AD.D cU,rW 8 32 1 dW dE,(9,.map dF.clk (MP.dl dW dW dF)),(10,.map dG.clk (MP.dl dW dU dG)),(997,.vals [] us)],[]⟩ (.normal,⟨sp 84 0 [(3,.clo (.func 43) [] []),bx 4,rx 8,rx 9,rx 10,sD 11 (D.l dU) cN,sI 12 cJ,sD 44 (D.l dU) cQ,sI 45 cK,sI 46 cM],[cL 4 AD.D cU,rW 8 32 1 dW dH.1,(9,.map dH.2.1.clk (MP.dl dW dW dH.2.1)),(10,.map dH.2.2.clk (MP.dl dW dU dH.2.2)),(997,.vals [] us)],[]⟩):=by unfold Sj at h;apply g0 (o:=dH);refine xX 48 dU h fun x4 h=>?_;obtain⟨h10,h⟩:=cS h;refine gQ h10.1<|gQ (AF dW h10.2) ?_;obtain⟨x5,h11,h⟩:=xS h;refine gG 54 (.el (dW x5)) (AH dW h11) ?_;obtain⟨r6,h12,h⟩:=bS h;refine gC 56 (aGj h12)<|gG 60 (.mg (dW (BH 0 dF r6).1) (BH 0 dF r6).2) (GK (aE1 Tryz.underlying32) dW 0 dF r6) ?_;obtain⟨o8,h19,h⟩:=bS h;refine gl (aH3 rd us h19) ?_;exact lp h
def Vz(us:List Value)(s11:List Int)(s12:Int)(s44:List Int)(s45:Int)(w4:AD)(s46:Int)(w8:List Int)(w9 w10:MP Int Int):St:=⟨sp 84 0 [(3,.clo (.func 43) [] []),bx 4,rx 8,rx 9,rx 10,sD 11 (D.l dU) s11,sI 12 s12,sD 44 (D.l dU) s44,sI 45 s45,sI 46 s46],[cL 4 AD.D w4,rW 8 32 1 dW w8,(9,.map w9.clk (MP.dl dW dW w9)),(10,.map w10.clk (MP.dl dW dU w10)),(997,.vals [] us)],[]⟩
def V0(us:List Value)(s11:List Int)(s12:Int)(s44:List Int)(s45:Int)(w4:AD)(o:(List Int×MP Int Int×MP Int Int)):Ex×St:=(.exit 2,⟨sp 84 0 [(3,.clo (.func 43) [] []),bx 4,rx 8,rx 9,rx 10,sD 11 (D.l dU) s11,sI 12 s12],[cL 4 AD.D w4,rW 8 32 1 dW o.1,(9,.map o.2.1.clk (MP.dl dW dW o.2.1)),(10,.map o.2.2.clk (MP.dl dW dU o.2.2)),(997,.vals [] us)],[]⟩)
theorem aH7(rd:Option Nat)(us:List Value)(h:Vy cN cJ cQ cK cU cM dE dF dG=some dH):Lq 42 rd 113958 (Vz us cN cJ cQ cK cU cM dE dF dG) ((V0 us cN cJ cQ cK cU) dH):=
 lL (fun s:Int×List Int×MP Int Int×MP Int Int=>Vz us cN cJ cQ cK cU s.1 s.2.1 s.2.2.1 s.2.2.2) (V0 us cN cJ cQ cK cU) (cM,dE,dF,dG) (fun⟨cM,dE,dF,dG⟩ o h=>by
 unfold F3 at h
 refine iB 47 h (fun h=>?_) fun h=>?_
 obtain⟨o9,h20,h⟩:=bS h
 refine gl (aH2 rd us h20) ?_
 exact lb h
 exact lb h) h
def Vv(us:List Value)(s11:List Int)(w4:AD)(s12:Int)(w8:List Int)(w9 w10:MP Int Int):St:=⟨sp 84 0 [(3,.clo (.func 43) [] []),bx 4,rx 8,rx 9,rx 10,sD 11 (D.l dU) s11,sI 12 s12],[cL 4 AD.D w4,rW 8 32 1 dW w8,(9,.map w9.clk (MP.dl dW dW w9)),(10,.map w10.clk (MP.dl dW dU w10)),(997,.vals [] us)],[]⟩
def Vw(us:List Value)(s11:List Int)(w4:AD)(o:(List Int×MP Int Int×MP Int Int)):Ex×St:=(.exit 0,⟨sp 84 0 [rx 8,rx 9,rx 10],[rW 8 32 1 dW o.1,(9,.map o.2.1.clk (MP.dl dW dW o.2.1)),(10,.map o.2.2.clk (MP.dl dW dU o.2.2)),(997,.vals [] us)],[]⟩)
theorem aH5(rd:Option Nat)(us:List Value)(h:Vu cN cU cJ cQ dF dG=some dH):Lq 42 rd 890 (Vv us cN cU cJ cQ dF dG) ((Vw us cN cU) dH):=
 lL (fun s:Int×List Int×MP Int Int×MP Int Int=>Vv us cN cU s.1 s.2.1 s.2.2.1 s.2.2.2) (Vw us cN cU) (cJ,cQ,dF,dG) (fun⟨cJ,cQ,dF,dG⟩ o h=>by
 unfold F2 at h
 refine gN 30 dW cQ ?_
 refine iB 31 h (fun h=>?_) fun h=>?_
 obtain⟨h3,h⟩:=cS h
 refine gQ h3.1<|gQ (AF dW h3.2) ?_
 obtain⟨x2,h4,h⟩:=xS h
 refine gG 38 (.el (dW x2)) (AH dW h4) ?_
 obtain⟨r3,h5,h⟩:=bS h
 refine gQ (aYd h5) ?_
 cases r3
 replace h:=CL h
 refine gN 45 dU cN<|gW 39 (.ret (.d (D.b false))) ?_
 obtain⟨o10,h21,h⟩:=bS h
 refine gl (aH7 rd us h21) ?_
 exact lb h
 replace h:=CM h
 refine gW 39 (.ret (.d (D.b true)))<|gW 43 (.sl ((cQ.take ((AA .add .i64 cJ 1)).toNat).map dW)) ?_
 obtain⟨h7,h⟩:=cS h
 refine gQ h7.1<|gQ (bCr dW h7.2)<|gQ (aWf dW cQ (AA .add .i64 cJ 1)) ?_
 exact lB h [.live [8,9,10],.keep [9,10,43,997],.ren 43 8,.sort]
 exact lb h) h
theorem aY6(h:Xj cU cR cJ=some dJ):AM Tryz.prog 42 [.d (AD.D cU),.d ((D.l X2.D) cR),.d (dW cJ),.clo (.func 43) [] []] [] (.tup [.row 0,.row 1,.row 2]) [rW 0 32 1 dW dJ.1,(1,.map dJ.2.1.clk (MP.dl dW dW dJ.2.1)),(2,.map dJ.2.2.clk (MP.dl dW dU dJ.2.2))]:=by unfold Xj at h;refine XG.call (ks:=[]) mixed fun us=>?_;apply g0 (o:=dJ);refine gW 22 .frz<|gW 10023 (.mp (Cb (Dk:MP Int Int) cJ cJ).clk (MP.dl dW dW (Cb (Dk:MP Int Int) cJ cJ))) ?_;obtain⟨r1,h1,h⟩:=bS h;refine gC 20 (aQx h1)<|gQ (Ah dW [cJ])<|gQ (HY (aE1 Tryz.underlying32) dW (Dk:MP Int Int) cJ cJ) ?_;obtain⟨o11,h22,h⟩:=bS h;refine gL [.live [3,4,8,9,10,11,12],.keep [4,22,23,27,997],.ren 22 8,.ren 23 9,.ren 27 10,.sort] (aH5 none us h22) ?_;exact lX h [.live [8,9,10],.keep [8,9,10,997],.ren 8 0,.ren 9 1,.ren 10 2,.sort]
theorem EM(h:Qd cJ=some d4):AM Tryz.prog 112 [.d (dW cJ)] [] (.d (D.b d4)) []:=by unfold Qd at h;apply g0 (o:=d4);exact lf h
theorem AV(h:Yk cJ cK=some d4):AM Tryz.prog 85 [.d (dW cJ),.d (dW cK)] [] (.d (D.b d4)) []:=by unfold Yk at h;apply g0 (o:=d4);obtain⟨r1,h1,h⟩:=bS h;refine gQ (EM h1) ?_;cases r1;replace h:=CL h;refine gW 6 (.ret (.d (D.b false))) ?_;exact lf h;replace h:=CM h;refine gW 6 (.ret (.d (D.b true))) ?_;obtain⟨r2,h3,h⟩:=bS h;refine gC 9 (EM h3) ?_;refine iB 12 h (fun h=>?_) fun h=>?_;exact lf h;exact lf h
def Bi(us:List Value)(s1 s2:Int)(s6 s7:Int)(w0:List Int):St:=⟨sp 49 0 [rx 0,sI 1 s1,sI 2 s2,sI 6 s6,sI 7 s7],[rW 0 32 1 dW w0,(997,.vals [.row 0] us)],[]⟩
def Bj(us:List Value)(s1 s2 s6:Int)(o:(List Int)):Ex×St:=(.exit 2,⟨sp 49 0 [rx 0,sI 1 s1,sI 2 s2,sI 6 s6],[rW 0 32 1 dW o,(997,.vals [.row 0] us)],[]⟩)
theorem Cy(rd:Option Nat)(us:List Value)(h:TA cJ cK cM cT cN=some cZ):Lq 79 rd 402 (Bi us cJ cK cM cT cN) ((Bj us cJ cK cM) cZ):=
 lL (fun s:Int×List Int=>Bi us cJ cK cM s.1 s.2) (Bj us cJ cK cM) (cT,cN) (fun⟨cT,cN⟩ o h=>by
 unfold E1 at h
 refine iB 19 h (fun h=>?_) fun h=>?_
 obtain⟨h3,h⟩:=cS h
 refine gQ h3.1<|gQ (AF dW h3.2) ?_
 obtain⟨x1,h4,h⟩:=xS h
 refine gG 23 (.el (dW x1)) (AH dW h4) ?_
 obtain⟨h5,h⟩:=cS h
 refine gQ h5.1<|gQ (AF dW h5.2) ?_
 obtain⟨x2,h6,h⟩:=xS h
 refine gG 28 (.el (dW x2)) (AH dW h6) ?_
 obtain⟨r3,h7,h⟩:=bS h
 refine gQ (AV h7) ?_
 cases r3
 replace h:=CL h
 refine gW 29 (.ret (.d (D.b false))) ?_
 exact lb h
 replace h:=CM h
 refine gW 29 (.ret (.d (D.b true))) ?_
 obtain⟨h9,h⟩:=cS h
 refine gQ h9.1<|gQ (AF dW h9.2) ?_
 obtain⟨x4,h10,h⟩:=xS h
 refine gG 42 (.el (dW x4)) (AH dW h10)<|gW 10047 (.sl ((cN.set cT.toNat x4).map dW)) ?_
 obtain⟨h11,h⟩:=cS h
 refine gQ h11.1<|gQ (AF dW h11.2) ?_
 obtain⟨x5,h12,h⟩:=xS h
 refine gG 46 (.el (dW x5)) (AH dW h12)<|gW 10048 (.sl (((cN.set cT.toNat x4).set (AA .sub .i64 cT 1).toNat x5).map dW)) ?_
 obtain⟨h13,h⟩:=cS h
 refine gQ h13.1<|gQ (AF dW h13.2) ?_
 obtain⟨h14,h⟩:=cS h
 refine gQ (Ay dW h14)<|gQ (AS dW cN cT x4) ?_
 obtain⟨h15,h⟩:=cS h
 refine gQ h15.1<|gQ (AF dW h15.2) ?_
 obtain⟨h16,h⟩:=cS h
 refine gQ (Ay dW h16)<|gQ (AS dW (cN.set cT.toNat x4) (AA .sub .i64 cT 1) x5) ?_
 exact lb h
 exact lb h) h
def Bg(us:List Value)(s1 s2 s6:Int)(w0:List Int):St:=⟨sp 49 0 [rx 0,sI 1 s1,sI 2 s2,sI 6 s6],[rW 0 32 1 dW w0,(997,.vals [.row 0] us)],[]⟩
def Bh(us:List Value)(s1 s2:Int)(o:(List Int)):Ex×St:=(.exit 0,⟨sp 49 0 [],[rW 0 32 1 dW o,(997,.vals [.row 0] us)],[]⟩)
theorem Cx(rd:Option Nat)(us:List Value)(h:S9 cJ cK cM cN=some cZ):Lq 79 rd 6 (Bg us cJ cK cM cN) ((Bh us cJ cK) cZ):=
 lL (fun s:Int×List Int=>Bg us cJ cK s.1 s.2) (Bh us cJ cK) (cM,cN) (fun⟨cM,cN⟩ o h=>by
 unfold HC at h
 refine iB 12 h (fun h=>?_) fun h=>?_
 obtain⟨o6,h17,h⟩:=bS h
 refine gl (Cy rd us h17) ?_
 exact lb h
 exact lb h) h
theorem DF(h:Y3 cJ cK cN=some cQ):AM Tryz.prog 79 [.row 0,dI cJ,dI cK] [rW 0 32 1 dW cN] (.tup []) [rW 0 32 1 dW cQ]:=by unfold Y3 at h;refine XG.call (ks:=[0]) mixed fun us=>?_;apply g0 (o:=cQ);obtain⟨o7,h18,h⟩:=bS h;refine gl (Cx none us h18) ?_;exact lX h (lv [] [0,997])
theorem B4(rd:Option Nat)(us:List Value)(h:LI cJ cK cM cT d4 cN=some cW):Lq 107 rd 397 ⟨sp 76 0 [rx 0,sI 2 cJ,sI 3 cK,sI 8 cM,sI 9 cT,sD 36 D.b d4],[rW 0 32 1 dW cN,(997,.vals [.row 0] us)],[]⟩ (.normal,⟨sp 76 0 [rx 0,sI 2 cJ,sI 3 cK,sI 8 cM,sI 9 cW],[rW 0 32 1 dW cN,(997,.vals [.row 0] us)],[]⟩):=by unfold LI at h;apply g0 (o:=cW);cases d4;replace h:=CL h;exact lp h;replace h:=CM h;exact lp h
theorem DP(rd:Option Nat)(us:List Value)(h:KK cJ cK cM cN=some dK):Lq 107 rd 12 ⟨sp 76 0 [rx 0,sI 2 cJ,sI 3 cK,sI 8 cM],[rW 0 32 1 dW cN,(997,.vals [.row 0] us)],[]⟩ (match (generalizing:=false) dK with
 | .inl dK=>(.normal,⟨sp 76 0 [rx 0,sI 2 cJ,sI 3 cK,sI 8 dK.1],[rW 0 32 1 dW dK.2,(997,.vals [.row 0] us)],[]⟩)
 | .inr dK=>match (generalizing:=false) dK with
 | .inl dK=>(.exit 0,⟨sp 76 0 [],[rW 0 32 1 dW cN,(997,.vals [.row 0] us)],[]⟩)
 | .inr dK=>(.ret,⟨sp 76 0 [],[rW 0 32 1 dW cN,(997,.vals [.row 0] us)],[]⟩)):=by
 unfold KK at h
 apply g0 (o:=dK)
 refine iB 16 h (fun h=>?_) fun h=>?_
 exact lp h
 refine iB 21 h (fun h=>?_) fun h=>?_
 obtain⟨h3,h⟩:=cS h
 refine gQ h3.1<|gQ (AF dW h3.2) ?_
 obtain⟨x1,h4,h⟩:=xS h
 refine gG 27 (.el (dW x1)) (AH dW h4) ?_
 obtain⟨h5,h⟩:=cS h
 refine gQ h5.1<|gQ (AF dW h5.2) ?_
 obtain⟨x2,h6,h⟩:=xS h
 refine gG 34 (.el (dW x2)) (AH dW h6) ?_
 obtain⟨r3,h7,h⟩:=bS h
 refine gC 35 (AV h7) ?_
 obtain⟨o4,h9,h⟩:=bS h
 refine gl (B4 rd us h9) ?_
 obtain⟨h10,h⟩:=cS h
 refine gQ h10.1<|gQ (AF dW h10.2) ?_
 obtain⟨x5,h11,h⟩:=xS h
 refine gG 44 (.el (dW x5)) (AH dW h11) ?_
 obtain⟨h12,h⟩:=cS h
 refine gQ h12.1<|gQ (AF dW h12.2) ?_
 obtain⟨x6,h13,h⟩:=xS h
 refine gG 50 (.el (dW x6)) (AH dW h13) ?_
 obtain⟨r7,h14,h⟩:=bS h
 refine gC 51 (AV h14) ?_
 refine iB 52 h (fun h=>?_) fun h=>?_
 exact lp h
 obtain⟨h16,h⟩:=cS h
 refine gQ h16.1<|gQ (AF dW h16.2) ?_
 obtain⟨x8,h17,h⟩:=xS h
 refine gG 66 (.el (dW x8)) (AH dW h17)<|gW 10073 (.sl ((cN.set (AA .add .i64 cK cM).toNat x8).map dW)) ?_
 obtain⟨h18,h⟩:=cS h
 refine gQ h18.1<|gQ (AF dW h18.2) ?_
 obtain⟨x9,h19,h⟩:=xS h
 refine gG 72 (.el (dW x9)) (AH dW h19)<|gW 10074 (.sl (((cN.set (AA .add .i64 cK cM).toNat x8).set (AA .add .i64 cK o4).toNat x9).map dW)) ?_
 obtain⟨h20,h⟩:=cS h
 refine gQ h20.1<|gQ (AF dW h20.2) ?_
 obtain⟨h21,h⟩:=cS h
 refine gQ (Ay dW h21)<|gQ (AS dW cN (AA .add .i64 cK cM) x8) ?_
 obtain⟨h22,h⟩:=cS h
 refine gQ h22.1<|gQ (AF dW h22.2) ?_
 obtain⟨h23,h⟩:=cS h
 refine gQ (Ay dW h23)<|gQ (AS dW (cN.set (AA .add .i64 cK cM).toNat x8) (AA .add .i64 cK o4) x9) ?_
 exact lp h
 obtain⟨o10,h24,h⟩:=bS h
 refine gl (B4 rd us h24) ?_
 obtain⟨h25,h⟩:=cS h
 refine gQ h25.1<|gQ (AF dW h25.2) ?_
 obtain⟨x11,h26,h⟩:=xS h
 refine gG 44 (.el (dW x11)) (AH dW h26) ?_
 obtain⟨h27,h⟩:=cS h
 refine gQ h27.1<|gQ (AF dW h27.2) ?_
 obtain⟨x12,h28,h⟩:=xS h
 refine gG 50 (.el (dW x12)) (AH dW h28) ?_
 obtain⟨r13,h29,h⟩:=bS h
 refine gC 51 (AV h29) ?_
 refine iB 52 h (fun h=>?_) fun h=>?_
 exact lp h
 obtain⟨h31,h⟩:=cS h
 refine gQ h31.1<|gQ (AF dW h31.2) ?_
 obtain⟨x14,h32,h⟩:=xS h
 refine gG 66 (.el (dW x14)) (AH dW h32)<|gW 10073 (.sl ((cN.set (AA .add .i64 cK cM).toNat x14).map dW)) ?_
 obtain⟨h33,h⟩:=cS h
 refine gQ h33.1<|gQ (AF dW h33.2) ?_
 obtain⟨x15,h34,h⟩:=xS h
 refine gG 72 (.el (dW x15)) (AH dW h34)<|gW 10074 (.sl (((cN.set (AA .add .i64 cK cM).toNat x14).set (AA .add .i64 cK o10).toNat x15).map dW)) ?_
 obtain⟨h35,h⟩:=cS h
 refine gQ h35.1<|gQ (AF dW h35.2) ?_
 obtain⟨h36,h⟩:=cS h
 refine gQ (Ay dW h36)<|gQ (AS dW cN (AA .add .i64 cK cM) x14) ?_
 obtain⟨h37,h⟩:=cS h
 refine gQ h37.1<|gQ (AF dW h37.2) ?_
 obtain⟨h38,h⟩:=cS h
 refine gQ (Ay dW h38)<|gQ (AS dW (cN.set (AA .add .i64 cK cM).toNat x14) (AA .add .i64 cK o10) x15) ?_
 exact lp h
def CH(us:List Value)(s2 s3 s8:Int)(w0:List Int):St:=⟨sp 76 0 [rx 0,sI 2 s2,sI 3 s3,sI 8 s8],[rW 0 32 1 dW w0,(997,.vals [.row 0] us)],[]⟩
def CJ(us:List Value)(s2 s3:Int)(o:(List Int)⊕(List Int)):Ex×St:=match o with
 | .inl o=>(.exit 0,⟨sp 76 0 [],[rW 0 32 1 dW o,(997,.vals [.row 0] us)],[]⟩)
 | .inr o=>(.ret,⟨sp 76 0 [],[rW 0 32 1 dW o,(997,.vals [.row 0] us)],[]⟩)
theorem DQ(rd:Option Nat)(us:List Value)(h:S1 cJ cK cM cN=some dL):Lq 107 rd 6 (CH us cJ cK cM cN) ((CJ us cJ cK) dL):=
 lL (fun s:Int×List Int=>CH us cJ cK s.1 s.2) (CJ us cJ cK) (cM,cN) (fun⟨cM,cN⟩ o h=>by
 unfold Ec at h
 obtain⟨o16,h39,h⟩:=bS h
 refine gl (DP rd us h39) ?_
 replace h:=AL h
 rcases h with⟨o17,rfl,h⟩|⟨o18,rfl,h⟩
 exact lb h
 replace h:=AL h
 rcases h with⟨o19,rfl,h⟩|⟨o20,rfl,h⟩
 exact lb h
 exact lb h) h
theorem CV(h:Xy cJ cK cM cN=some cQ):AM Tryz.prog 107 [.row 0,dI cJ,dI cK,dI cM] [rW 0 32 1 dW cN] (.tup []) [rW 0 32 1 dW cQ]:=by
 unfold Xy at h;refine XG.call (ks:=[0]) mixed fun us=>?_;apply g0 (o:=cQ);obtain⟨o21,h40,h⟩:=bS h;refine gl (DQ none us h40) ?_;replace h:=AL h;rcases h with⟨o22,rfl,h⟩|⟨o23,rfl,h⟩
 exact lX h (lv [] [0,997]);exact lX h (lv [] [0,997])
def CD(us:List Value)(s6 s7:Int)(s8 s9:Int)(w0:List Int):St:=⟨sp 56 0 [rx 0,sI 6 s6,sI 7 s7,sI 8 s8,sI 9 s9],[rW 0 32 1 dW w0,(997,.vals [.row 0] us)],[]⟩
def CE(us:List Value)(s6 s7 s8:Int)(o:(List Int)):Ex×St:=(.exit 0,⟨sp 56 0 [rx 0,sI 6 s6,sI 7 s7,sI 8 s8],[rW 0 32 1 dW o,(997,.vals [.row 0] us)],[]⟩)
theorem DN(rd:Option Nat)(us:List Value)(h:TB cJ cK cM cT cN=some cZ):Lq 80 rd 122 (CD us cJ cK cM cT cN) ((CE us cJ cK cM) cZ):=
 lL (fun s:Int×List Int=>CD us cJ cK cM s.1 s.2) (CE us cJ cK cM) (cT,cN) (fun⟨cT,cN⟩ o h=>by
 unfold HD at h
 refine iB 19 h (fun h=>?_) fun h=>?_
 obtain⟨r1,h2,h⟩:=bS h
 refine gG 26 (.cx false [(0,0)] [] (.tup []) [rW 0 32 1 dW r1]) (CV h2) ?_
 exact lb h
 exact lb h) h
def CF(us:List Value)(s6 s7 s10:Int)(w0:List Int):St:=⟨sp 56 0 [rx 0,sI 6 s6,sI 7 s7,sI 10 s10],[rW 0 32 1 dW w0,(997,.vals [.row 0] us)],[]⟩
def CG(us:List Value)(s6 s7:Int)(o:(List Int)):Ex×St:=(.exit 2,⟨sp 56 0 [],[rW 0 32 1 dW o,(997,.vals [.row 0] us)],[]⟩)
theorem DO(rd:Option Nat)(us:List Value)(h:TC cJ cK cM cN=some cZ):Lq 80 rd 126 (CF us cJ cK cM cN) ((CG us cJ cK) cZ):=
 lL (fun s:Int×List Int=>CF us cJ cK s.1 s.2) (CG us cJ cK) (cM,cN) (fun⟨cM,cN⟩ o h=>by
 unfold HE at h
 refine iB 30 h (fun h=>?_) fun h=>?_
 obtain⟨h5,h⟩:=cS h
 refine gQ h5.1<|gQ (AF dW h5.2) ?_
 obtain⟨x3,h6,h⟩:=xS h
 refine gG 44 (.el (dW x3)) (AH dW h6)<|gW 10049 (.sl ((cN.set cJ.toNat x3).map dW)) ?_
 obtain⟨h7,h⟩:=cS h
 refine gQ h7.1<|gQ (AF dW h7.2) ?_
 obtain⟨x4,h8,h⟩:=xS h
 refine gG 48 (.el (dW x4)) (AH dW h8)<|gW 10050 (.sl (((cN.set cJ.toNat x3).set (AA .add .i64 cJ cM).toNat x4).map dW)) ?_
 obtain⟨h9,h⟩:=cS h
 refine gQ h9.1<|gQ (AF dW h9.2) ?_
 obtain⟨h10,h⟩:=cS h
 refine gQ (Ay dW h10)<|gQ (AS dW cN cJ x3) ?_
 obtain⟨h11,h⟩:=cS h
 refine gQ h11.1<|gQ (AF dW h11.2) ?_
 obtain⟨h12,h⟩:=cS h
 refine gQ (Ay dW h12)<|gQ (AS dW (cN.set cJ.toNat x3) (AA .add .i64 cJ cM) x4) ?_
 obtain⟨r5,h13,h⟩:=bS h
 refine gG 55 (.cx false [(0,0)] [] (.tup []) [rW 0 32 1 dW r5]) (CV h13) ?_
 exact lb h
 exact lb h) h
theorem Do(h:Y6 cJ cK cN=some cQ):AM Tryz.prog 80 [.row 0,dI cJ,dI cK] [rW 0 32 1 dW cN] (.tup []) [rW 0 32 1 dW cQ]:=by unfold Y6 at h;refine XG.call (ks:=[0]) mixed fun us=>?_;apply g0 (o:=cQ);refine gQ (of_decide_eq_true rfl:(2:Int)≠0) ?_;obtain⟨o2,h3,h⟩:=bS h;refine gl (DN none us h3) ?_;obtain⟨o6,h14,h⟩:=bS h;refine gl (DO none us h14) ?_;exact lX h (lv [] [0,997])
theorem Cv(rd:Option Nat)(us:List Value)(h:Om cJ cK cM cT cW d4 cN d6=some d7):Lq 81 rd 30501 ⟨sp 65 0 [rx 0,sI 1 cJ,sI 6 cK,bx 7,sD 8 dU cM,sI 9 cT,sI 10 cW,sD 43 D.b d4],[rW 0 32 1 dW cN,(7,.cells ([.d (dU d6)])),(997,.vals [.row 0] us)],[]⟩ (.normal,⟨sp 65 0 [rx 0,sI 1 cJ,sI 6 cK,bx 7,sD 8 dU cM,sI 9 cT,sI 10 d7],[rW 0 32 1 dW cN,(7,.cells ([.d (dU d6)])),(997,.vals [.row 0] us)],[]⟩):=by unfold Om at h;apply g0 (o:=d7);cases d4;replace h:=CL h;exact lp h;replace h:=CM h;exact lp h
theorem Cu(rd:Option Nat)(us:List Value)(h:S7 cJ cK cM cT cN cW=some dM):Lq 81 rd 1906 ⟨sp 65 0 [rx 0,sI 1 cJ,sI 6 cK,bx 7,sD 8 dU cM,sI 9 cT],[rW 0 32 1 dW cN,(7,.cells ([.d (dU cW)])),(997,.vals [.row 0] us)],[]⟩ (.normal,⟨sp 65 0 [rx 0,sI 1 cJ,sI 6 cK,bx 7,sD 8 dU cM,sI 9 cT],[rW 0 32 1 dW dM.1,(7,.cells ([.d (dU dM.2)])),(997,.vals [.row 0] us)],[]⟩):=by unfold S7 at h;apply g0 (o:=dM);obtain⟨r2,h4,h⟩:=bS h;refine gG 36 (.cx false [(0,7)] [] (.d (dU r2.1)) [(0,.cells ([.d (dU r2.2)]))]) (aU1 h4) ?_;obtain⟨o3,h6,h⟩:=bS h;refine gl (Cv rd us h6) ?_;obtain⟨h7,h⟩:=cS h;refine gQ h7.1<|gQ (AF dW h7.2) ?_;obtain⟨x4,h8,h⟩:=xS h;refine gG 58 (.el (dW x4)) (AH dW h8)<|gW 10063 (.sl ((cN.set cT.toNat x4).map dW)) ?_;obtain⟨h9,h⟩:=cS h;refine gQ h9.1<|gQ (AF dW h9.2) ?_;obtain⟨x5,h10,h⟩:=xS h;refine gG 62 (.el (dW x5)) (AH dW h10)<|gW 10064 (.sl (((cN.set cT.toNat x4).set (AA .add .i64 cJ o3).toNat x5).map dW)) ?_;obtain⟨h11,h⟩:=cS h;refine gQ h11.1<|gQ (AF dW h11.2) ?_;obtain⟨h12,h⟩:=cS h;refine gQ (Ay dW h12)<|gQ (AS dW cN cT x4) ?_;obtain⟨h13,h⟩:=cS h;refine gQ h13.1<|gQ (AF dW h13.2) ?_;obtain⟨h14,h⟩:=cS h;refine gQ (Ay dW h14)<|gQ (AS dW (cN.set cT.toNat x4) (AA .add .i64 cJ o3) x5) ?_;exact lp h
def Be(us:List Value)(s1 s6:Int)(s8 s9:Int)(w0:List Int)(w7:Int):St:=⟨sp 65 0 [rx 0,sI 1 s1,sI 6 s6,bx 7,sD 8 dU s8,sI 9 s9],[rW 0 32 1 dW w0,(7,.cells ([.d (dU w7)])),(997,.vals [.row 0] us)],[]⟩
def Bf(us:List Value)(s1 s6 s8:Int)(o:(List Int)):Ex×St:=(.exit 0,⟨sp 65 0 [],[rW 0 32 1 dW o,(997,.vals [.row 0] us)],[]⟩)
theorem Cw(rd:Option Nat)(us:List Value)(h:S8 cJ cK cM cT cN cW=some cZ):Lq 81 rd 238 (Be us cJ cK cM cT cN cW) ((Bf us cJ cK cM) cZ):=
 lL (fun s:Int×List Int×Int=>Be us cJ cK cM s.1 s.2.1 s.2.2) (Bf us cJ cK cM) (cT,cN,cW) (fun⟨cT,cN,cW⟩ o h=>by
 unfold HB at h
 refine gQ (of_decide_eq_true rfl:(4:Int)≠0) ?_
 refine iB 33 h (fun h=>?_) fun h=>?_
 obtain⟨o6,h15,h⟩:=bS h
 refine gl (Cu rd us h15) ?_
 exact lb h
 exact lb h) h
theorem Ct(rd:Option Nat)(us:List Value)(h:S6 cJ cK d4 cN=some cZ):Lq 81 rd 7 ⟨sp 65 0 [rx 0,sI 1 cJ,sI 6 cK,sD 15 D.b d4],[rW 0 32 1 dW cN,(997,.vals [.row 0] us)],[]⟩ (.normal,⟨sp 65 0 [],[rW 0 32 1 dW cZ,(997,.vals [.row 0] us)],[]⟩):=by unfold S6 at h;apply g0 (o:=cZ);cases d4;replace h:=CL h;exact lp h;replace h:=CM h;obtain⟨r1,h2,h⟩:=bS h;refine gC 19 (aU0 h2)<|gQ (of_decide_eq_true rfl:(4:Int)≠0) ?_;obtain⟨o7,h16,h⟩:=bS h;refine gl (Cw rd us h16) ?_;exact lp h
theorem DE(h:Y2 cJ cK cN=some cQ):AM Tryz.prog 81 [.row 0,dI cJ,dI cK] [rW 0 32 1 dW cN] (.tup []) [rW 0 32 1 dW cQ]:=by unfold Y2 at h;refine XG.call (ks:=[0]) mixed fun us=>?_;apply g0 (o:=cQ);obtain⟨o8,h17,h⟩:=bS h;refine gl (Ct none us h17) ?_;exact lX h (lv [] [0,997])
theorem BN(h:Zz cN cJ cK cM=some dN):AM Tryz.prog 127 [.d ((D.l dW) cN),dI cJ,dI cK,.box 0 0] [(0,.cells ([dI cM]))] (.tup [dI dN.1,dI dN.2.1]) [(0,.cells ([dI dN.2.2]))]:=by unfold Zz at h;refine XG.call (ks:=[3]) mixed fun us=>?_;apply g0 (o:=dN);refine xX 12 dW h fun x1 h=>?_;refine xX 16 dW h fun x2 h=>?_;obtain⟨r3,h3,h⟩:=bS h;refine gQ (AV h3) ?_;cases r3;replace h:=CL h;refine gW 18 (.ret (.d (D.b false))) ?_;exact lX h (lv [8,9] [0,997]);replace h:=CM h;refine gW 18 (.ret (.d (D.b true))) ?_;exact lX h (lv [8,9] [0,997])
theorem CN(h:Q9 cN cJ cK cM cT=some dO):AM Tryz.prog 111 [.d ((D.l dW) cN),dI cJ,dI cK,dI cM,.box 0 0] [(0,.cells ([dI cT]))] (dI dO.1) [(0,.cells ([dI dO.2]))]:=by unfold Q9 at h;refine XG.call (ks:=[4]) mixed fun us=>?_;apply g0 (o:=dO);obtain⟨r1,h1,h⟩:=bS h;refine gG 16 (.cx false [(0,0)] [] (.tup [dI r1.1,dI r1.2.1]) [(0,.cells ([dI r1.2.2]))]) (BN h1) ?_;obtain⟨r2,h2,h⟩:=bS h;refine gG 24 (.cx false [(0,0)] [] (.tup [dI r2.1,dI r2.2.1]) [(0,.cells ([dI r2.2.2]))]) (BN h2) ?_;obtain⟨r3,h3,h⟩:=bS h;refine gG 32 (.cx false [(0,0)] [] (.tup [dI r3.1,dI r3.2.1]) [(0,.cells ([dI r3.2.2]))]) (BN h3) ?_;exact lX h (lv [10] [0,997])
theorem Av(h:Q0 cN cJ cK=some dO):AM Tryz.prog 110 [.d ((D.l dW) cN),dI cJ,.box 0 0] [(0,.cells ([dI cK]))] (dI dO.1) [(0,.cells ([dI dO.2]))]:=by unfold Q0 at h;refine XG.call (ks:=[2]) mixed fun us=>?_;apply g0 (o:=dO);obtain⟨r1,h1,h⟩:=bS h;refine gG 14 (.cx false [(0,0)] [] (dI r1.1) [(0,.cells ([dI r1.2]))]) (CN h1) ?_;exact lX h (lv [6] [0,997])
theorem DD(rd:Option Nat)(h:O1 cN cJ cK cM d4 cT=some dP):Lq 82 rd 4073 ⟨sp 57 0 [sD 0 (D.l dW) cN,bx 9,sI 10 cJ,sI 11 cK,sI 12 cM,sD 34 D.b d4],[(9,.cells ([dI cT]))],[]⟩ (.normal,⟨sp 57 0 [sD 0 (D.l dW) cN,bx 9,sI 10 dP.1,sI 11 dP.2.1,sI 12 dP.2.2.1],[(9,.cells ([dI dP.2.2.2]))],[]⟩):=by unfold O1 at h;apply g0 (o:=dP);cases d4;replace h:=CL h;exact lp h;replace h:=CM h;obtain⟨r1,h3,h⟩:=bS h;refine gG 37 (.cx false [(0,9)] [] (dI r1.1) [(0,.cells ([dI r1.2]))]) (Av h3) ?_;obtain⟨r2,h4,h⟩:=bS h;refine gG 40 (.cx false [(0,9)] [] (dI r2.1) [(0,.cells ([dI r2.2]))]) (Av h4) ?_;obtain⟨r3,h5,h⟩:=bS h;refine gG 43 (.cx false [(0,9)] [] (dI r3.1) [(0,.cells ([dI r3.2]))]) (Av h5) ?_;exact lp h
theorem DC(rd:Option Nat)(h:TH cN cJ cK cM cT d4 cW=some dQ):Lq 82 rd 509 ⟨sp 57 0 [sD 0 (D.l dW) cN,sI 8 cJ,bx 9,sI 10 cK,sI 11 cM,sI 12 cT,sD 32 D.b d4],[(9,.cells ([dI cW]))],[]⟩ (.normal,⟨sp 57 0 [bx 9,sI 11 dQ.1],[(9,.cells ([dI dQ.2]))],[]⟩):=by unfold TH at h;apply g0 (o:=dQ);cases d4;replace h:=CL h;exact lp h;replace h:=CM h;obtain⟨o4,h6,h⟩:=bS h;refine gl (DD rd h6) ?_;obtain⟨r5,h7,h⟩:=bS h;refine gG 48 (.cx false [(0,9)] [] (dI r5.1) [(0,.cells ([dI r5.2]))]) (CN h7) ?_;exact lp h
theorem DM(h:Z3 cN cJ cK=some dO):AM Tryz.prog 82 [.d ((D.l dW) cN),dI cJ,dI cK] [] (.tup [dI dO.1,dI dO.2]) []:=by unfold Z3 at h;apply g0 (o:=dO);refine gQ (of_decide_eq_true rfl:(4:Int)≠0)<|gQ (of_decide_eq_true rfl:(4:Int)≠0)<|gQ (of_decide_eq_true rfl:(4:Int)≠0) ?_;obtain⟨o6,h8,h⟩:=bS h;refine gl (DC none h8) ?_;refine iB 51 h (fun h=>?_) fun h=>?_;exact lf h;refine iB 54 h (fun h=>?_) fun h=>?_;exact lf h;exact lf h
def Bv(us:List Value)(s6 s7:Int)(w0:List Int):St:=⟨sp 32 0 [rx 0,sI 6 s6,sI 7 s7],[rW 0 32 1 dW w0,(997,.vals [.row 0] us)],[]⟩
def Bw(us:List Value)(o:(List Int)):Ex×St:=(.exit 0,⟨sp 32 0 [],[rW 0 32 1 dW o,(997,.vals [.row 0] us)],[]⟩)
theorem C7(rd:Option Nat)(us:List Value)(h:TG cJ cK cN=some cZ):Lq 83 rd 14 (Bv us cJ cK cN) ((Bw us) cZ):=
 lL (fun s:Int×Int×List Int=>Bv us s.1 s.2.1 s.2.2) (Bw us) (cJ,cK,cN) (fun⟨cJ,cK,cN⟩ o h=>by
 unfold I9 at h
 refine iB 13 h (fun h=>?_) fun h=>?_
 obtain⟨h2,h⟩:=cS h
 refine gQ h2.1<|gQ (AF dW h2.2) ?_
 obtain⟨x1,h3,h⟩:=xS h
 refine gG 21 (.el (dW x1)) (AH dW h3)<|gW 10026 (.sl ((cN.set cJ.toNat x1).map dW)) ?_
 obtain⟨h4,h⟩:=cS h
 refine gQ h4.1<|gQ (AF dW h4.2) ?_
 obtain⟨x2,h5,h⟩:=xS h
 refine gG 25 (.el (dW x2)) (AH dW h5)<|gW 10027 (.sl (((cN.set cJ.toNat x1).set cK.toNat x2).map dW)) ?_
 obtain⟨h6,h⟩:=cS h
 refine gQ h6.1<|gQ (AF dW h6.2) ?_
 obtain⟨h7,h⟩:=cS h
 refine gQ (Ay dW h7)<|gQ (AS dW cN cJ x1) ?_
 obtain⟨h8,h⟩:=cS h
 refine gQ h8.1<|gQ (AF dW h8.2) ?_
 obtain⟨h9,h⟩:=cS h
 refine gQ (Ay dW h9)<|gQ (AS dW (cN.set cJ.toNat x1) cK x2) ?_
 exact lb h
 exact lb h) h
theorem DI(h:Yy cJ cK cN=some cQ):AM Tryz.prog 83 [.row 0,dI cJ,dI cK] [rW 0 32 1 dW cN] (.tup []) [rW 0 32 1 dW cQ]:=by unfold Yy at h;refine XG.call (ks:=[0]) mixed fun us=>?_;apply g0 (o:=cQ);obtain⟨o3,h10,h⟩:=bS h;refine gl (C7 none us h10) ?_;exact lX h (lv [] [0,997])
def A4(us:List Value)(s1 s2 s8:Int)(w0:List Int)(s7:Int):St:=⟨sp 133 0 [rx 0,sI 1 s1,sI 2 s2,sI 7 s7,sI 8 s8],[rW 0 32 1 dW w0,(997,.vals [.row 0] us)],[]⟩
def A5(us:List Value)(s1 s2 s8:Int)(w0:List Int)(o:Int):Ex×St:=(.exit 2,⟨sp 133 0 [rx 0,sI 1 s1,sI 2 s2,sI 7 o,sI 8 s8],[rW 0 32 1 dW w0,(997,.vals [.row 0] us)],[]⟩)
theorem CA(rd:Option Nat)(us:List Value)(h:SP cJ cK cM cN cT=some cW):Lq 84 rd 3728 (A4 us cJ cK cM cN cT) ((A5 us cJ cK cM cN) cW):=
 lL (fun s:Int=>A4 us cJ cK cM cN s) (A5 us cJ cK cM cN) cT (fun cT o h=>by
 unfold Gx at h
 refine iB 20 h (fun h=>?_) fun h=>?_
 obtain⟨h3,h⟩:=cS h
 refine gQ h3.1<|gQ (AF dW h3.2) ?_
 obtain⟨x1,h4,h⟩:=xS h
 refine gG 24 (.el (dW x1)) (AH dW h4) ?_
 obtain⟨h5,h⟩:=cS h
 refine gQ h5.1<|gQ (AF dW h5.2) ?_
 obtain⟨x2,h6,h⟩:=xS h
 refine gG 29 (.el (dW x2)) (AH dW h6) ?_
 obtain⟨r3,h7,h⟩:=bS h
 refine gC 30 (AV h7) ?_
 refine iB 32 h (fun h=>?_) fun h=>?_
 exact lb h
 exact lb h
 exact lb h) h
def A6(us:List Value)(s1 s2:Int)(s7 s8 s9:Int)(w0:List Int):St:=⟨sp 133 0 [rx 0,sI 1 s1,sI 2 s2,sI 7 s7,sI 8 s8,sI 9 s9],[rW 0 32 1 dW w0,(997,.vals [.row 0] us)],[]⟩
def A7(us:List Value)(s1 s2:Int)(s7 s8:Int)(o:(List Int)):Ex×St:=(.exit 4,⟨sp 133 0 [rx 0,sI 1 s1,sI 2 s2,sI 7 s7,sI 8 s8],[rW 0 32 1 dW o,(997,.vals [.row 0] us)],[]⟩)
theorem CB(rd:Option Nat)(us:List Value)(h:SQ cJ cK cM cT cW cN=some cZ):Lq 84 rd 477674 (A6 us cJ cK cM cT cW cN) ((A7 us cJ cK cM cT) cZ):=
 lL (fun s:Int×List Int=>A6 us cJ cK cM cT s.1 s.2) (A7 us cJ cK cM cT) (cW,cN) (fun⟨cW,cN⟩ o h=>by
 unfold Gy at h
 refine iB 65 h (fun h=>?_) fun h=>?_
 obtain⟨h22,h⟩:=cS h
 refine gQ h22.1<|gQ (AF dW h22.2) ?_
 obtain⟨x7,h23,h⟩:=xS h
 refine gG 71 (.el (dW x7)) (AH dW h23) ?_
 obtain⟨h24,h⟩:=cS h
 refine gQ h24.1<|gQ (AF dW h24.2) ?_
 obtain⟨x8,h25,h⟩:=xS h
 refine gG 76 (.el (dW x8)) (AH dW h25) ?_
 obtain⟨r9,h26,h⟩:=bS h
 refine gC 77 (AV h26) ?_
 refine iB 78 h (fun h=>?_) fun h=>?_
 exact lb h
 obtain⟨h28,h⟩:=cS h
 refine gQ h28.1<|gQ (AF dW h28.2) ?_
 obtain⟨x10,h29,h⟩:=xS h
 refine gG 88 (.el (dW x10)) (AH dW h29)<|gW 10093 (.sl ((cN.set cW.toNat x10).map dW)) ?_
 obtain⟨h30,h⟩:=cS h
 refine gQ h30.1<|gQ (AF dW h30.2) ?_
 obtain⟨x11,h31,h⟩:=xS h
 refine gG 92 (.el (dW x11)) (AH dW h31)<|gW 10094 (.sl (((cN.set cW.toNat x10).set (AA .sub .i64 cW 1).toNat x11).map dW)) ?_
 obtain⟨h32,h⟩:=cS h
 refine gQ h32.1<|gQ (AF dW h32.2) ?_
 obtain⟨h33,h⟩:=cS h
 refine gQ (Ay dW h33)<|gQ (AS dW cN cW x10) ?_
 obtain⟨h34,h⟩:=cS h
 refine gQ h34.1<|gQ (AF dW h34.2) ?_
 obtain⟨h35,h⟩:=cS h
 refine gQ (Ay dW h35)<|gQ (AS dW (cN.set cW.toNat x10) (AA .sub .i64 cW 1) x11) ?_
 exact lb h
 exact lb h) h
theorem B6(rd:Option Nat)(us:List Value)(h:N4 cJ cK cM cT d4 cN=some cZ):Lq 84 rd 59709 ⟨sp 133 0 [rx 0,sI 1 cJ,sI 2 cK,sI 7 cM,sI 8 cT,sD 61 D.b d4],[rW 0 32 1 dW cN,(997,.vals [.row 0] us)],[]⟩ (.normal,⟨sp 133 0 [rx 0,sI 1 cJ,sI 2 cK,sI 7 cM,sI 8 cT],[rW 0 32 1 dW cZ,(997,.vals [.row 0] us)],[]⟩):=by unfold N4 at h;apply g0 (o:=cZ);cases d4;replace h:=CL h;exact lp h;replace h:=CM h;obtain⟨o12,h36,h⟩:=bS h;refine gl (CB rd us h36) ?_;exact lp h
def A8(us:List Value)(s1 s2:Int)(s7 s8 s10:Int)(w0:List Int):St:=⟨sp 133 0 [rx 0,sI 1 s1,sI 2 s2,sI 7 s7,sI 8 s8,sI 10 s10],[rW 0 32 1 dW w0,(997,.vals [.row 0] us)],[]⟩
def A9(us:List Value)(s1 s2:Int)(s7 s8:Int)(o:(List Int)):Ex×St:=(.exit 6,⟨sp 133 0 [rx 0,sI 1 s1,sI 2 s2,sI 7 s7,sI 8 s8],[rW 0 32 1 dW o,(997,.vals [.row 0] us)],[]⟩)
theorem CC(rd:Option Nat)(us:List Value)(h:SR cJ cK cM cT cW cN=some cZ):Lq 84 rd 477690 (A8 us cJ cK cM cT cW cN) ((A9 us cJ cK cM cT) cZ):=
 lL (fun s:Int×List Int=>A8 us cJ cK cM cT s.1 s.2) (A9 us cJ cK cM cT) (cW,cN) (fun⟨cW,cN⟩ o h=>by
 unfold Gz at h
 refine iB 103 h (fun h=>?_) fun h=>?_
 obtain⟨h40,h⟩:=cS h
 refine gQ h40.1<|gQ (AF dW h40.2) ?_
 obtain⟨x14,h41,h⟩:=xS h
 refine gG 109 (.el (dW x14)) (AH dW h41) ?_
 obtain⟨h42,h⟩:=cS h
 refine gQ h42.1<|gQ (AF dW h42.2) ?_
 obtain⟨x15,h43,h⟩:=xS h
 refine gG 114 (.el (dW x15)) (AH dW h43) ?_
 obtain⟨r16,h44,h⟩:=bS h
 refine gC 115 (AV h44) ?_
 refine iB 116 h (fun h=>?_) fun h=>?_
 exact lb h
 obtain⟨h46,h⟩:=cS h
 refine gQ h46.1<|gQ (AF dW h46.2) ?_
 obtain⟨x17,h47,h⟩:=xS h
 refine gG 126 (.el (dW x17)) (AH dW h47)<|gW 10131 (.sl ((cN.set cW.toNat x17).map dW)) ?_
 obtain⟨h48,h⟩:=cS h
 refine gQ h48.1<|gQ (AF dW h48.2) ?_
 obtain⟨x18,h49,h⟩:=xS h
 refine gG 130 (.el (dW x18)) (AH dW h49)<|gW 10132 (.sl (((cN.set cW.toNat x17).set (AA .sub .i64 cW 1).toNat x18).map dW)) ?_
 obtain⟨h50,h⟩:=cS h
 refine gQ h50.1<|gQ (AF dW h50.2) ?_
 obtain⟨h51,h⟩:=cS h
 refine gQ (Ay dW h51)<|gQ (AS dW cN cW x17) ?_
 obtain⟨h52,h⟩:=cS h
 refine gQ h52.1<|gQ (AF dW h52.2) ?_
 obtain⟨h53,h⟩:=cS h
 refine gQ (Ay dW h53)<|gQ (AS dW (cN.set cW.toNat x17) (AA .sub .i64 cW 1) x18) ?_
 exact lb h
 exact lb h) h
theorem B8(rd:Option Nat)(us:List Value)(h:N5 cJ cK cM cT d4 cN=some cZ):Lq 84 rd 59711 ⟨sp 133 0 [rx 0,sI 1 cJ,sI 2 cK,sI 7 cM,sI 8 cT,sD 98 D.b d4],[rW 0 32 1 dW cN,(997,.vals [.row 0] us)],[]⟩ (.normal,⟨sp 133 0 [rx 0,sI 1 cJ,sI 2 cK,sI 7 cM,sI 8 cT],[rW 0 32 1 dW cZ,(997,.vals [.row 0] us)],[]⟩):=by unfold N5 at h;apply g0 (o:=cZ);cases d4;replace h:=CL h;exact lp h;replace h:=CM h;obtain⟨o19,h54,h⟩:=bS h;refine gl (CC rd us h54) ?_;exact lp h
theorem B5(rd:Option Nat)(us:List Value)(h:SO cJ cK cM cT cN=some dR):Lq 84 rd 466 ⟨sp 133 0 [rx 0,sI 1 cJ,sI 2 cK,sI 7 cM,sI 8 cT],[rW 0 32 1 dW cN,(997,.vals [.row 0] us)],[]⟩ (match (generalizing:=false) dR with
 | .inl dR=>(.normal,⟨sp 133 0 [rx 0,sI 1 cJ,sI 2 cK,sI 7 dR.1,sI 8 cT],[rW 0 32 1 dW dR.2,(997,.vals [.row 0] us)],[]⟩)
 | .inr dR=>(.ret,⟨sp 133 0 [sD 6 D.b dR],[rW 0 32 1 dW cN,(997,.vals [.row 0] us)],[]⟩)):=by
 unfold SO at h
 apply g0 (o:=dR)
 obtain⟨o4,h9,h⟩:=bS h
 refine gl (CA rd us h9) ?_
 refine iB 37 h (fun h=>?_) fun h=>?_
 exact lp h
 refine iB 41 h (fun h=>?_) fun h=>?_
 exact lp h
 obtain⟨h12,h⟩:=cS h
 refine gQ h12.1<|gQ (AF dW h12.2) ?_
 obtain⟨x5,h13,h⟩:=xS h
 refine gG 51 (.el (dW x5)) (AH dW h13)<|gW 10056 (.sl ((cN.set o4.toNat x5).map dW)) ?_
 obtain⟨h14,h⟩:=cS h
 refine gQ h14.1<|gQ (AF dW h14.2) ?_
 obtain⟨x6,h15,h⟩:=xS h
 refine gG 55 (.el (dW x6)) (AH dW h15)<|gW 10057 (.sl (((cN.set o4.toNat x5).set (AA .sub .i64 o4 1).toNat x6).map dW)) ?_
 obtain⟨h16,h⟩:=cS h
 refine gQ h16.1<|gQ (AF dW h16.2) ?_
 obtain⟨h17,h⟩:=cS h
 refine gQ (Ay dW h17)<|gQ (AS dW cN o4 x5) ?_
 obtain⟨h18,h⟩:=cS h
 refine gQ h18.1<|gQ (AF dW h18.2) ?_
 obtain⟨h19,h⟩:=cS h
 refine gQ (Ay dW h19)<|gQ (AS dW (cN.set o4.toNat x5) (AA .sub .i64 o4 1) x6) ?_
 obtain⟨o13,h37,h⟩:=bS h
 refine gl (B6 rd us h37) ?_
 obtain⟨o20,h55,h⟩:=bS h
 refine gl (B8 rd us h55) ?_
 exact lp h
def A0(us:List Value)(s1 s2:Int)(s7 s8:Int)(w0:List Int):St:=⟨sp 133 0 [rx 0,sI 1 s1,sI 2 s2,sI 7 s7,sI 8 s8],[rW 0 32 1 dW w0,(997,.vals [.row 0] us)],[]⟩
def A3(us:List Value)(s1 s2:Int)(o:(List Int)⊕(Bool×List Int)):Ex×St:=match o with
 | .inl o=>(.exit 0,⟨sp 133 0 [],[rW 0 32 1 dW o,(997,.vals [.row 0] us)],[]⟩)
 | .inr o=>(.ret,⟨sp 133 0 [sD 6 D.b o.1],[rW 0 32 1 dW o.2,(997,.vals [.row 0] us)],[]⟩)
theorem B9(rd:Option Nat)(us:List Value)(h:N6 cJ cK cM cT cN=some dS):Lq 84 rd 58 (A0 us cJ cK cM cT cN) ((A3 us cJ cK) dS):=
 lL (fun s:Int×Int×List Int=>A0 us cJ cK s.1 s.2.1 s.2.2) (A3 us cJ cK) (cM,cT,cN) (fun⟨cM,cT,cN⟩ o h=>by
 unfold Gw at h
 refine iB 14 h (fun h=>?_) fun h=>?_
 obtain⟨o21,h56,h⟩:=bS h
 refine gl (B5 rd us h56) ?_
 replace h:=AL h
 rcases h with⟨o22,rfl,h⟩|⟨o23,rfl,h⟩
 exact lb h
 exact lb h
 exact lb h) h
theorem CU(h:X7 cJ cK cN=some dV):AM Tryz.prog 84 [.row 0,dI cJ,dI cK] [rW 0 32 1 dW cN] (.d (D.b dV.1)) [rW 0 32 1 dW dV.2]:=by
 unfold X7 at h;refine XG.call (ks:=[0]) mixed fun us=>?_;apply g0 (o:=dV);obtain⟨o24,h57,h⟩:=bS h;refine gl (B9 none us h57) ?_;replace h:=AL h;rcases h with⟨o25,rfl,h⟩|⟨o26,rfl,h⟩
 exact lX h (lv [6] [0,997]);exact lX h (lv [6] [0,997])
def BQ(us:List Value)(s1 s10:Int)(w0:List Int)(s9:Int):St:=⟨sp 84 0 [rx 0,sI 1 s1,sI 9 s9,sI 10 s10],[rW 0 32 1 dW w0,(997,.vals [.row 0] us)],[]⟩
def BS(us:List Value)(s1 s10:Int)(w0:List Int)(o:Int):Ex×St:=(.exit 2,⟨sp 84 0 [rx 0,sI 1 s1,sI 9 o,sI 10 s10],[rW 0 32 1 dW w0,(997,.vals [.row 0] us)],[]⟩)
theorem Cd(rd:Option Nat)(us:List Value)(h:Sr cJ cK cN cM=some cT):Lq 86 rd 960 (BQ us cJ cK cN cM) ((BS us cJ cK cN) cT):=
 lL (fun s:Int=>BQ us cJ cK cN s) (BS us cJ cK cN) cM (fun cM o h=>by
 unfold G5 at h
 refine iB 32 h (fun h=>?_) fun h=>?_
 obtain⟨h10,h⟩:=cS h
 refine gQ h10.1<|gQ (AF dW h10.2) ?_
 obtain⟨x3,h11,h⟩:=xS h
 refine gG 36 (.el (dW x3)) (AH dW h11) ?_
 obtain⟨h12,h⟩:=cS h
 refine gQ h12.1<|gQ (AF dW h12.2) ?_
 obtain⟨x4,h13,h⟩:=xS h
 refine gG 40 (.el (dW x4)) (AH dW h13) ?_
 obtain⟨r5,h14,h⟩:=bS h
 refine gC 41 (AV h14) ?_
 refine iB 43 h (fun h=>?_) fun h=>?_
 exact lb h
 exact lb h
 exact lb h) h
def BT(us:List Value)(s1 s9:Int)(w0:List Int)(s10:Int):St:=⟨sp 84 0 [rx 0,sI 1 s1,sI 9 s9,sI 10 s10],[rW 0 32 1 dW w0,(997,.vals [.row 0] us)],[]⟩
def BU(us:List Value)(s1 s9:Int)(w0:List Int)(o:Int):Ex×St:=(.exit 4,⟨sp 84 0 [rx 0,sI 1 s1,sI 9 s9,sI 10 o],[rW 0 32 1 dW w0,(997,.vals [.row 0] us)],[]⟩)
theorem Ce(rd:Option Nat)(us:List Value)(h:Ss cJ cK cN cM=some cT):Lq 86 rd 1924 (BT us cJ cK cN cM) ((BU us cJ cK cN) cT):=
 lL (fun s:Int=>BT us cJ cK cN s) (BU us cJ cK cN) cM (fun cM o h=>by
 unfold G6 at h
 refine iB 49 h (fun h=>?_) fun h=>?_
 obtain⟨h18,h⟩:=cS h
 refine gQ h18.1<|gQ (AF dW h18.2) ?_
 obtain⟨x7,h19,h⟩:=xS h
 refine gG 53 (.el (dW x7)) (AH dW h19) ?_
 obtain⟨h20,h⟩:=cS h
 refine gQ h20.1<|gQ (AF dW h20.2) ?_
 obtain⟨x8,h21,h⟩:=xS h
 refine gG 57 (.el (dW x8)) (AH dW h21) ?_
 obtain⟨r9,h22,h⟩:=bS h
 refine gQ (AV h22) ?_
 cases r9
 replace h:=CL h
 refine gW 58 (.ret (.d (D.b false))) ?_
 exact lb h
 replace h:=CM h
 refine gW 58 (.ret (.d (D.b true))) ?_
 exact lb h
 exact lb h) h
def BO(us:List Value)(s1 s9 s10:Int)(w0:List Int):St:=⟨sp 84 0 [rx 0,sI 1 s1,sI 9 s9,sI 10 s10],[rW 0 32 1 dW w0,(997,.vals [.row 0] us)],[]⟩
def BP(us:List Value)(s1:Int)(o:(Int×List Int)):Ex×St:=(.exit 0,⟨sp 84 0 [sI 9 o.1],[rW 0 32 1 dW o.2,(997,.vals [.row 0] us)],[]⟩)
theorem Cc(rd:Option Nat)(us:List Value)(h:Sq cJ cK cM cN=some cO):Lq 86 rd 60 (BO us cJ cK cM cN) ((BP us cJ) cO):=
 lL (fun s:Int×Int×List Int=>BO us cJ s.1 s.2.1 s.2.2) (BP us cJ) (cK,cM,cN) (fun⟨cK,cM,cN⟩ o h=>by
 unfold If at h
 obtain⟨o6,h16,h⟩:=bS h
 refine gl (Cd rd us h16) ?_
 obtain⟨o10,h24,h⟩:=bS h
 refine gl (Ce rd us h24) ?_
 refine iB 64 h (fun h=>?_) fun h=>?_
 exact lb h
 obtain⟨h26,h⟩:=cS h
 refine gQ h26.1<|gQ (AF dW h26.2) ?_
 obtain⟨x11,h27,h⟩:=xS h
 refine gG 72 (.el (dW x11)) (AH dW h27)<|gW 10077 (.sl ((cN.set o6.toNat x11).map dW)) ?_
 obtain⟨h28,h⟩:=cS h
 refine gQ h28.1<|gQ (AF dW h28.2) ?_
 obtain⟨x12,h29,h⟩:=xS h
 refine gG 76 (.el (dW x12)) (AH dW h29)<|gW 10078 (.sl (((cN.set o6.toNat x11).set o10.toNat x12).map dW)) ?_
 obtain⟨h30,h⟩:=cS h
 refine gQ h30.1<|gQ (AF dW h30.2) ?_
 obtain⟨h31,h⟩:=cS h
 refine gQ (Ay dW h31)<|gQ (AS dW cN o6 x11) ?_
 obtain⟨h32,h⟩:=cS h
 refine gQ h32.1<|gQ (AF dW h32.2) ?_
 obtain⟨h33,h⟩:=cS h
 refine gQ (Ay dW h33)<|gQ (AS dW (cN.set o6.toNat x11) o10 x12) ?_
 exact lb h) h
theorem Aw(h:Xo cJ cK cM cN=some dX):AM Tryz.prog 86 [.row 0,dI cJ,dI cK,dI cM] [rW 0 32 1 dW cN] (dI dX.1) [rW 0 32 1 dW dX.2]:=by unfold Xo at h;refine XG.call (ks:=[0]) mixed fun us=>?_;apply g0 (o:=dX);obtain⟨h1,h⟩:=cS h;refine gQ h1.1<|gQ (AF dW h1.2) ?_;obtain⟨x1,h2,h⟩:=xS h;refine gG 18 (.el (dW x1)) (AH dW h2)<|gW 10023 (.sl ((cN.set cJ.toNat x1).map dW)) ?_;obtain⟨h3,h⟩:=cS h;refine gQ h3.1<|gQ (AF dW h3.2) ?_;obtain⟨x2,h4,h⟩:=xS h;refine gG 22 (.el (dW x2)) (AH dW h4)<|gW 10024 (.sl (((cN.set cJ.toNat x1).set cM.toNat x2).map dW)) ?_;obtain⟨h5,h⟩:=cS h;refine gQ h5.1<|gQ (AF dW h5.2) ?_;obtain⟨h6,h⟩:=cS h;refine gQ (Ay dW h6)<|gQ (AS dW cN cJ x1) ?_;obtain⟨h7,h⟩:=cS h;refine gQ h7.1<|gQ (AF dW h7.2) ?_;obtain⟨h8,h⟩:=cS h;refine gQ (Ay dW h8)<|gQ (AS dW (cN.set cJ.toNat x1) cM x2) ?_;obtain⟨o13,h34,h⟩:=bS h;refine gl (Cc none us h34) ?_;exact lX h (lv [8] [0,997])
def Bl(us:List Value)(s1 s11:Int)(w0:List Int)(s10:Int):St:=⟨sp 168 0 [rx 0,sI 1 s1,sI 10 s10,sI 11 s11],[rW 0 32 1 dW w0,(997,.vals [.row 0] us)],[]⟩
def Bm(us:List Value)(s1 s11:Int)(w0:List Int)(o:Int):Ex×St:=(.exit 0,⟨sp 168 0 [rx 0,sI 1 s1,sI 10 o,sI 11 s11],[rW 0 32 1 dW w0,(997,.vals [.row 0] us)],[]⟩)
theorem C2(rd:Option Nat)(us:List Value)(h:OG cJ cK cN cM=some cT):Lq 87 rd 60 (Bl us cJ cK cN cM) ((Bm us cJ cK cN) cT):=
 lL (fun s:Int=>Bl us cJ cK cN s) (Bm us cJ cK cN) cM (fun cM o h=>by
 unfold G1 at h
 refine iB 33 h (fun h=>?_) fun h=>?_
 obtain⟨h10,h⟩:=cS h
 refine gQ h10.1<|gQ (AF dW h10.2) ?_
 obtain⟨x3,h11,h⟩:=xS h
 refine gG 37 (.el (dW x3)) (AH dW h11) ?_
 obtain⟨h12,h⟩:=cS h
 refine gQ h12.1<|gQ (AF dW h12.2) ?_
 obtain⟨x4,h13,h⟩:=xS h
 refine gG 41 (.el (dW x4)) (AH dW h13) ?_
 obtain⟨r5,h14,h⟩:=bS h
 refine gQ (AV h14) ?_
 cases r5
 replace h:=CL h
 refine gW 42 (.ret (.d (D.b false))) ?_
 exact lb h
 replace h:=CM h
 refine gW 42 (.ret (.d (D.b true))) ?_
 exact lb h
 exact lb h) h
def Bn(us:List Value)(s1 s10:Int)(w0:List Int)(s11:Int):St:=⟨sp 168 0 [rx 0,sI 1 s1,sI 10 s10,sI 11 s11],[rW 0 32 1 dW w0,(997,.vals [.row 0] us)],[]⟩
def Bo(us:List Value)(s1 s10:Int)(w0:List Int)(o:Int):Ex×St:=(.exit 2,⟨sp 168 0 [rx 0,sI 1 s1,sI 10 s10,sI 11 o],[rW 0 32 1 dW w0,(997,.vals [.row 0] us)],[]⟩)
theorem C3(rd:Option Nat)(us:List Value)(h:OH cJ cK cN cM=some cT):Lq 87 rd 124 (Bn us cJ cK cN cM) ((Bo us cJ cK cN) cT):=
 lL (fun s:Int=>Bn us cJ cK cN s) (Bo us cJ cK cN) cM (fun cM o h=>by
 unfold G2 at h
 refine iB 49 h (fun h=>?_) fun h=>?_
 obtain⟨h18,h⟩:=cS h
 refine gQ h18.1<|gQ (AF dW h18.2) ?_
 obtain⟨x7,h19,h⟩:=xS h
 refine gG 53 (.el (dW x7)) (AH dW h19) ?_
 obtain⟨h20,h⟩:=cS h
 refine gQ h20.1<|gQ (AF dW h20.2) ?_
 obtain⟨x8,h21,h⟩:=xS h
 refine gG 57 (.el (dW x8)) (AH dW h21) ?_
 obtain⟨r9,h22,h⟩:=bS h
 refine gC 58 (AV h22) ?_
 refine iB 60 h (fun h=>?_) fun h=>?_
 exact lb h
 exact lb h
 exact lb h) h
def Br(us:List Value)(s1 s11:Int)(w0:List Int)(s10:Int):St:=⟨sp 168 0 [rx 0,sI 1 s1,sI 10 s10,sI 11 s11],[rW 0 32 1 dW w0,(997,.vals [.row 0] us)],[]⟩
def Bs(us:List Value)(s1 s11:Int)(w0:List Int)(o:Int):Ex×St:=(.exit 6,⟨sp 168 0 [rx 0,sI 1 s1,sI 10 o,sI 11 s11],[rW 0 32 1 dW w0,(997,.vals [.row 0] us)],[]⟩)
theorem C5(rd:Option Nat)(us:List Value)(h:aGx cJ cK cN cM=some cT):Lq 87 rd 65472 (Br us cJ cK cN cM) ((Bs us cJ cK cN) cT):=
 lL (fun s:Int=>Br us cJ cK cN s) (Bs us cJ cK cN) cM (fun cM o h=>by
 unfold OI at h
 refine iB 102 h (fun h=>?_) fun h=>?_
 obtain⟨h43,h⟩:=cS h
 refine gQ h43.1<|gQ (AF dW h43.2) ?_
 obtain⟨x15,h44,h⟩:=xS h
 refine gG 106 (.el (dW x15)) (AH dW h44) ?_
 obtain⟨h45,h⟩:=cS h
 refine gQ h45.1<|gQ (AF dW h45.2) ?_
 obtain⟨x16,h46,h⟩:=xS h
 refine gG 110 (.el (dW x16)) (AH dW h46) ?_
 obtain⟨r17,h47,h⟩:=bS h
 refine gQ (AV h47) ?_
 cases r17
 replace h:=CL h
 refine gW 111 (.ret (.d (D.b false))) ?_
 exact lb h
 replace h:=CM h
 refine gW 111 (.ret (.d (D.b true))) ?_
 exact lb h
 exact lb h) h
def Bt(us:List Value)(s1 s10:Int)(w0:List Int)(s11:Int):St:=⟨sp 168 0 [rx 0,sI 1 s1,sI 10 s10,sI 11 s11],[rW 0 32 1 dW w0,(997,.vals [.row 0] us)],[]⟩
def Bu(us:List Value)(s1 s10:Int)(w0:List Int)(o:Int):Ex×St:=(.exit 8,⟨sp 168 0 [rx 0,sI 1 s1,sI 10 s10,sI 11 o],[rW 0 32 1 dW w0,(997,.vals [.row 0] us)],[]⟩)
theorem C6(rd:Option Nat)(us:List Value)(h:aGz cJ cK cN cM=some cT):Lq 87 rd 130948 (Bt us cJ cK cN cM) ((Bu us cJ cK cN) cT):=
 lL (fun s:Int=>Bt us cJ cK cN s) (Bu us cJ cK cN) cM (fun cM o h=>by
 unfold OJ at h
 refine iB 118 h (fun h=>?_) fun h=>?_
 obtain⟨h51,h⟩:=cS h
 refine gQ h51.1<|gQ (AF dW h51.2) ?_
 obtain⟨x19,h52,h⟩:=xS h
 refine gG 122 (.el (dW x19)) (AH dW h52) ?_
 obtain⟨h53,h⟩:=cS h
 refine gQ h53.1<|gQ (AF dW h53.2) ?_
 obtain⟨x20,h54,h⟩:=xS h
 refine gG 126 (.el (dW x20)) (AH dW h54) ?_
 obtain⟨r21,h55,h⟩:=bS h
 refine gC 127 (AV h55) ?_
 refine iB 129 h (fun h=>?_) fun h=>?_
 exact lb h
 exact lb h
 exact lb h) h
def Bp(us:List Value)(s1 s10 s11:Int)(w0:List Int):St:=⟨sp 168 0 [rx 0,sI 1 s1,sI 10 s10,sI 11 s11],[rW 0 32 1 dW w0,(997,.vals [.row 0] us)],[]⟩
def Bq(us:List Value)(s1:Int)(o:(Int×List Int)):Ex×St:=(.exit 4,⟨sp 168 0 [rx 0,sI 1 s1,sI 11 o.1],[rW 0 32 1 dW o.2,(997,.vals [.row 0] us)],[]⟩)
theorem C4(rd:Option Nat)(us:List Value)(h:Sb cJ cK cM cN=some cO):Lq 87 rd 4092 (Bp us cJ cK cM cN) ((Bq us cJ) cO):=
 lL (fun s:Int×Int×List Int=>Bp us cJ s.1 s.2.1 s.2.2) (Bq us cJ) (cK,cM,cN) (fun⟨cK,cM,cN⟩ o h=>by
 unfold IL at h
 obtain⟨o18,h49,h⟩:=bS h
 refine gl (C5 rd us h49) ?_
 obtain⟨o22,h57,h⟩:=bS h
 refine gl (C6 rd us h57) ?_
 refine iB 134 h (fun h=>?_) fun h=>?_
 exact lb h
 obtain⟨h59,h⟩:=cS h
 refine gQ h59.1<|gQ (AF dW h59.2) ?_
 obtain⟨x23,h60,h⟩:=xS h
 refine gG 142 (.el (dW x23)) (AH dW h60)<|gW 10147 (.sl ((cN.set o18.toNat x23).map dW)) ?_
 obtain⟨h61,h⟩:=cS h
 refine gQ h61.1<|gQ (AF dW h61.2) ?_
 obtain⟨x24,h62,h⟩:=xS h
 refine gG 146 (.el (dW x24)) (AH dW h62)<|gW 10148 (.sl (((cN.set o18.toNat x23).set o22.toNat x24).map dW)) ?_
 obtain⟨h63,h⟩:=cS h
 refine gQ h63.1<|gQ (AF dW h63.2) ?_
 obtain⟨h64,h⟩:=cS h
 refine gQ (Ay dW h64)<|gQ (AS dW cN o18 x23) ?_
 obtain⟨h65,h⟩:=cS h
 refine gQ h65.1<|gQ (AF dW h65.2) ?_
 obtain⟨h66,h⟩:=cS h
 refine gQ (Ay dW h66)<|gQ (AS dW (cN.set o18.toNat x23) o22 x24) ?_
 exact lb h) h
theorem Ab(h:Xa cJ cK cM cN=some cP):AM Tryz.prog 87 [.row 0,dI cJ,dI cK,dI cM] [rW 0 32 1 dW cN] (.tup [dI cP.1,.d (D.b cP.2.1)]) [rW 0 32 1 dW cP.2.2]:=by unfold Xa at h;refine XG.call (ks:=[0]) mixed fun us=>?_;apply g0 (o:=cP);obtain⟨h1,h⟩:=cS h;refine gQ h1.1<|gQ (AF dW h1.2) ?_;obtain⟨x1,h2,h⟩:=xS h;refine gG 19 (.el (dW x1)) (AH dW h2)<|gW 10024 (.sl ((cN.set cJ.toNat x1).map dW)) ?_;obtain⟨h3,h⟩:=cS h;refine gQ h3.1<|gQ (AF dW h3.2) ?_;obtain⟨x2,h4,h⟩:=xS h;refine gG 23 (.el (dW x2)) (AH dW h4)<|gW 10025 (.sl (((cN.set cJ.toNat x1).set cM.toNat x2).map dW)) ?_;obtain⟨h5,h⟩:=cS h;refine gQ h5.1<|gQ (AF dW h5.2) ?_;obtain⟨h6,h⟩:=cS h;refine gQ (Ay dW h6)<|gQ (AS dW cN cJ x1) ?_;obtain⟨h7,h⟩:=cS h;refine gQ h7.1<|gQ (AF dW h7.2) ?_;obtain⟨h8,h⟩:=cS h;refine gQ (Ay dW h8)<|gQ (AS dW (cN.set cJ.toNat x1) cM x2) ?_;obtain⟨o6,h16,h⟩:=bS h;refine gl (C2 none us h16) ?_;obtain⟨o10,h24,h⟩:=bS h;refine gl (C3 none us h24) ?_;refine iB 65 h (fun h=>?_) fun h=>?_;obtain⟨h26,h⟩:=cS h;refine gQ h26.1<|gQ (AF dW h26.2) ?_;obtain⟨x11,h27,h⟩:=xS h;refine gG 73 (.el (dW x11)) (AH dW h27)<|gW 10078 (.sl ((((cN.set cJ.toNat x1).set cM.toNat x2).set o10.toNat x11).map dW)) ?_;obtain⟨h28,h⟩:=cS h;refine gQ h28.1<|gQ (AF dW h28.2) ?_;obtain⟨x12,h29,h⟩:=xS h;refine gG 77 (.el (dW x12)) (AH dW h29)<|gW 10079 (.sl (((((cN.set cJ.toNat x1).set cM.toNat x2).set o10.toNat x11).set cJ.toNat x12).map dW)) ?_;obtain⟨h30,h⟩:=cS h;refine gQ h30.1<|gQ (AF dW h30.2) ?_;obtain⟨h31,h⟩:=cS h;refine gQ (Ay dW h31)<|gQ (AS dW ((cN.set cJ.toNat x1).set cM.toNat x2) o10 x11) ?_;obtain⟨h32,h⟩:=cS h;refine gQ h32.1<|gQ (AF dW h32.2) ?_;obtain⟨h33,h⟩:=cS h;refine gQ (Ay dW h33)<|gQ (AS dW (((cN.set cJ.toNat x1).set cM.toNat x2).set o10.toNat x11) cJ x12) ?_;exact lX h (lv [8,9] [0,997]);obtain⟨h34,h⟩:=cS h;refine gQ h34.1<|gQ (AF dW h34.2) ?_;obtain⟨x13,h35,h⟩:=xS h;refine gG 88 (.el (dW x13)) (AH dW h35)<|gW 10093 (.sl ((((cN.set cJ.toNat x1).set cM.toNat x2).set o6.toNat x13).map dW)) ?_;obtain⟨h36,h⟩:=cS h;refine gQ h36.1<|gQ (AF dW h36.2) ?_;obtain⟨x14,h37,h⟩:=xS h;refine gG 92 (.el (dW x14)) (AH dW h37)<|gW 10094 (.sl (((((cN.set cJ.toNat x1).set cM.toNat x2).set o6.toNat x13).set o10.toNat x14).map dW)) ?_;obtain⟨h38,h⟩:=cS h;refine gQ h38.1<|gQ (AF dW h38.2) ?_;obtain⟨h39,h⟩:=cS h;refine gQ (Ay dW h39)<|gQ (AS dW ((cN.set cJ.toNat x1).set cM.toNat x2) o6 x13) ?_;obtain⟨h40,h⟩:=cS h;refine gQ h40.1<|gQ (AF dW h40.2) ?_;obtain⟨h41,h⟩:=cS h;refine gQ (Ay dW h41)<|gQ (AS dW (((cN.set cJ.toNat x1).set cM.toNat x2).set o6.toNat x13) o10 x14) ?_;obtain⟨o25,h67,h⟩:=bS h;refine gl (C4 none us h67) ?_;obtain⟨h68,h⟩:=cS h;refine gQ h68.1<|gQ (AF dW h68.2) ?_;obtain⟨x26,h69,h⟩:=xS h;refine gG 160 (.el (dW x26)) (AH dW h69)<|gW 10165 (.sl ((o25.2.set o25.1.toNat x26).map dW)) ?_;obtain⟨h70,h⟩:=cS h;refine gQ h70.1<|gQ (AF dW h70.2) ?_;obtain⟨x27,h71,h⟩:=xS h;refine gG 164 (.el (dW x27)) (AH dW h71)<|gW 10166 (.sl (((o25.2.set o25.1.toNat x26).set cJ.toNat x27).map dW)) ?_;obtain⟨h72,h⟩:=cS h;refine gQ h72.1<|gQ (AF dW h72.2) ?_;obtain⟨h73,h⟩:=cS h;refine gQ (Ay dW h73)<|gQ (AS dW o25.2 o25.1 x26) ?_;obtain⟨h74,h⟩:=cS h;refine gQ h74.1<|gQ (AF dW h74.2) ?_;obtain⟨h75,h⟩:=cS h;refine gQ (Ay dW h75)<|gQ (AS dW (o25.2.set o25.1.toNat x26) cJ x27) ?_;exact lX h (lv [8,9] [0,997])
theorem Dc(rd:Option Nat)(self:Int->Int->Int->(List Int)->Option (List Int))(hs:∀(a1 a2 a3:Int) (w0 r:List Int),self a1 a2 a3 w0=some r->AM Tryz.prog 61 [.row 0,dI a1,dI a2,dI a3] [rW 0 32 1 dW w0] (.tup []) [rW 0 32 1 dW r])(us:List Value){s1 s2 s3:Int}{s8 s9:Bool}{s10:Int}{s35:Bool}{w0:List Int}{o:(Int×List Int)}(h:OQ self s1 s2 s3 s8 s9 s10 s35 w0=some o):Lq 61 rd 1821 ⟨sp 134 0 [rx 0,sI 1 s1,sI 2 s2,sI 3 s3,sD 8 D.b s8,sD 9 D.b s9,sI 10 s10,sD 35 D.b s35],[rW 0 32 1 dW w0,(997,.vals [.row 0] us)],[]⟩ (.normal,⟨sp 134 0 [rx 0,sI 1 s1,sI 2 s2,sI 3 o.1,sD 8 D.b s8,sD 9 D.b s9,sI 10 s10],[rW 0 32 1 dW o.2,(997,.vals [.row 0] us)],[]⟩):=by unfold OQ at h;apply g0 (o:=o);cases s35;replace h:=CL h;exact lp h;replace h:=CM h;obtain⟨r3,h6,h⟩:=bS h;refine gG 39 (.cx false [(0,0)] [] (.tup []) [rW 0 32 1 dW r3]) (DE h6) ?_;exact lp h
theorem De(rd:Option Nat)(self:Int->Int->Int->(List Int)->Option (List Int))(hs:∀(a1 a2 a3:Int) (w0 r:List Int),self a1 a2 a3 w0=some r->AM Tryz.prog 61 [.row 0,dI a1,dI a2,dI a3] [rW 0 32 1 dW w0] (.tup []) [rW 0 32 1 dW r])(us:List Value){s1 s2 s3:Int}{s8 s9:Bool}{s10 s11 s12:Int}{s50:Bool}{w0:List Int}{o:(Int×Int×List Int)}(h:OR self s1 s2 s3 s8 s9 s10 s11 s12 s50 w0=some o):Lq 61 rd 7293 ⟨sp 134 0 [rx 0,sI 1 s1,sI 2 s2,sI 3 s3,sD 8 D.b s8,sD 9 D.b s9,sI 10 s10,sI 11 s11,sI 12 s12,sD 50 D.b s50],[rW 0 32 1 dW w0,(997,.vals [.row 0] us)],[]⟩ (.normal,⟨sp 134 0 [rx 0,sI 1 s1,sI 2 s2,sI 3 s3,sD 8 D.b s8,sD 9 D.b s9,sI 10 s10,sI 11 o.1,sI 12 o.2.1],[rW 0 32 1 dW o.2.2,(997,.vals [.row 0] us)],[]⟩):=by unfold OR at h;apply g0 (o:=o);cases s50;replace h:=CL h;exact lp h;replace h:=CM h;obtain⟨r6,h10,h⟩:=bS h;refine gG 54 (.cx false [(0,0)] [] (.tup []) [rW 0 32 1 dW r6]) (DI h10) ?_;exact lp h
theorem BK(rd:Option Nat)(self:Int->Int->Int->(List Int)->Option (List Int))(hs:∀(a1 a2 a3:Int) (w0 r:List Int),self a1 a2 a3 w0=some r->AM Tryz.prog 61 [.row 0,dI a1,dI a2,dI a3] [rW 0 32 1 dW w0] (.tup []) [rW 0 32 1 dW r])(us:List Value){s1 s2 s3:Int}{s8 s9:Bool}{s10 s11:Int}{s68:Bool}{w0:List Int}{o:(List Int)⊕(List Int)}(h:KJ self s1 s2 s3 s8 s9 s10 s11 s68 w0=some o):Lq 61 rd 14589 ⟨sp 134 0 [rx 0,sI 1 s1,sI 2 s2,sI 3 s3,sD 8 D.b s8,sD 9 D.b s9,sI 10 s10,sI 11 s11,sD 68 D.b s68],[rW 0 32 1 dW w0,(997,.vals [.row 0] us)],[]⟩ (match (generalizing:=false) o with
 | .inl o=>(.normal,⟨sp 134 0 [rx 0,sI 1 s1,sI 2 s2,sI 3 s3,sD 8 D.b s8,sD 9 D.b s9,sI 10 s10,sI 11 s11],[rW 0 32 1 dW o,(997,.vals [.row 0] us)],[]⟩)
 | .inr o=>(.ret,⟨sp 134 0 [],[rW 0 32 1 dW o,(997,.vals [.row 0] us)],[]⟩)):=by
 unfold KJ at h
 apply g0 (o:=o)
 cases s68
 replace h:=CL h
 exact lp h
 replace h:=CM h
 obtain⟨r8,h15,h⟩:=bS h
 refine gQ (CU h15) ?_
 rcases r8 with⟨r8_1,r8_2⟩
 cases r8_1
 replace h:=CL h
 refine gW 72 (.cx false [(0,0)] [] (.d (D.b false)) [rW 0 32 1 dW r8_2]) ?_
 exact lp h
 replace h:=CM h
 refine gW 72 (.cx false [(0,0)] [] (.d (D.b true)) [rW 0 32 1 dW r8_2]) ?_
 exact lp h
theorem Ae(rd:Option Nat)(self:Int->Int->Int->(List Int)->Option (List Int))(hs:∀(a1 a2 a3:Int) (w0 r:List Int),self a1 a2 a3 w0=some r->AM Tryz.prog 61 [.row 0,dI a1,dI a2,dI a3] [rW 0 32 1 dW w0] (.tup []) [rW 0 32 1 dW r])(us:List Value){s1 s2 s3:Int}{s9:Bool}{s14 s16:Int}{s17 s18:Int}{s113:Bool}{w0:List Int}{o:(Int×Int×Bool×List Int)}(h:Fy self s1 s2 s3 s9 s14 s16 s17 s18 s113 w0=some o):Lq 61 rd 466943 ⟨sp 134 0 [rx 0,sI 1 s1,sI 2 s2,sI 3 s3,sD 9 D.b s9,sI 14 s14,sI 16 s16,sI 17 s17,sI 18 s18,sD 113 D.b s113],[rW 0 32 1 dW w0,(997,.vals [.row 0] us)],[]⟩ (.normal,⟨sp 134 0 [rx 0,sI 1 o.1,sI 2 o.2.1,sI 3 s3,sD 8 D.b o.2.2.1,sD 9 D.b s9],[rW 0 32 1 dW o.2.2.2,(997,.vals [.row 0] us)],[]⟩):=by unfold Fy at h;apply g0 (o:=o);cases s113;replace h:=CL h;obtain⟨r18,h29,h⟩:=bS h;refine gG 132 (.cx false [(0,0)] [] (.tup []) [rW 0 32 1 dW r18]) (hs (AA .add .i64 s14 1) s2 s3 w0 r18 h29) ?_;exact lp h;replace h:=CM h;obtain⟨r17,h28,h⟩:=bS h;refine gG 121 (.cx false [(0,0)] [] (.tup []) [rW 0 32 1 dW r17]) (hs s1 s14 s3 w0 r17 h28) ?_;exact lp h
theorem Db(rd:Option Nat)(self:Int->Int->Int->(List Int)->Option (List Int))(hs:∀(a1 a2 a3:Int) (w0 r:List Int),self a1 a2 a3 w0=some r->AM Tryz.prog 61 [.row 0,dI a1,dI a2,dI a3] [rW 0 32 1 dW w0] (.tup []) [rW 0 32 1 dW r])(us:List Value){s1 s2 s3:Int}{s8 s9:Bool}{w0:List Int}{o:(Int×Int×Int×Bool×Bool×List Int)⊕(List Int)}(h:OP self s1 s2 s3 s8 s9 w0=some o):Lq 61 rd 28 ⟨sp 134 0 [rx 0,sI 1 s1,sI 2 s2,sI 3 s3,sD 8 D.b s8,sD 9 D.b s9],[rW 0 32 1 dW w0,(997,.vals [.row 0] us)],[]⟩ (match (generalizing:=false) o with
 | .inl o=>(.normal,⟨sp 134 0 [rx 0,sI 1 o.1,sI 2 o.2.1,sI 3 o.2.2.1,sD 8 D.b o.2.2.2.1,sD 9 D.b o.2.2.2.2.1],[rW 0 32 1 dW o.2.2.2.2.2,(997,.vals [.row 0] us)],[]⟩)
 | .inr o=>(.ret,⟨sp 134 0 [],[rW 0 32 1 dW o,(997,.vals [.row 0] us)],[]⟩)):=by
 unfold OP at h
 apply g0 (o:=o)
 refine iB 23 h (fun h=>?_) fun h=>?_
 obtain⟨r1,h2,h⟩:=bS h
 refine gG 27 (.cx false [(0,0)] [] (.tup []) [rW 0 32 1 dW r1]) (DF h2) ?_
 exact lp h
 refine iB 29 h (fun h=>?_) fun h=>?_
 obtain⟨r2,h4,h⟩:=bS h
 refine gG 33 (.cx false [(0,0)] [] (.tup []) [rW 0 32 1 dW r2]) (Do h4) ?_
 exact lp h
 obtain⟨o4,h7,h⟩:=bS h
 refine gl (Dc rd self hs us h7) ?_
 obtain⟨r5,h8,h⟩:=bS h
 refine gG 46 (.lend [0] (.tup [dI r5.1,dI r5.2])) (DM h8) ?_
 obtain⟨o7,h11,h⟩:=bS h
 refine gl (De rd self hs us h11) ?_
 refine iB 62 h (fun h=>?_) fun h=>?_
 refine iB 65 h (fun h=>?_) fun h=>?_
 obtain⟨o9,h17,h⟩:=bS h
 refine gl (BK rd self hs us h17) ?_
 replace h:=AL h
 rcases h with⟨o10,rfl,h⟩|⟨o11,rfl,h⟩
 refine iB 75 h (fun h=>?_) fun h=>?_
 obtain⟨h19,h⟩:=cS h
 refine gQ h19.1<|gQ (AF dW h19.2) ?_
 obtain⟨x12,h20,h⟩:=xS h
 refine gG 80 (.el (dW x12)) (AH dW h20) ?_
 obtain⟨h21,h⟩:=cS h
 refine gQ h21.1<|gQ (AF dW h21.2) ?_
 obtain⟨x13,h22,h⟩:=xS h
 refine gG 84 (.el (dW x13)) (AH dW h22) ?_
 obtain⟨r14,h23,h⟩:=bS h
 refine gC 85 (AV h23) ?_
 refine iB 87 h (fun h=>?_) fun h=>?_
 obtain⟨r15,h25,h⟩:=bS h
 refine gG 92 (.cx false [(0,0)] [] (dI r15.1) [rW 0 32 1 dW r15.2]) (Aw h25) ?_
 exact lp h
 obtain⟨r16,h26,h⟩:=bS h
 refine gG 99 (.cx false [(0,0)] [] (.tup [dI r16.1,.d (D.b r16.2.1)]) [rW 0 32 1 dW r16.2.2]) (Ab h26)<|gQ (of_decide_eq_true rfl:(8:Int)≠0) ?_
 obtain⟨o19,h30,h⟩:=bS h
 refine gl (Ae rd self hs us h30) ?_
 exact lp h
 obtain⟨r20,h31,h⟩:=bS h
 refine gG 99 (.cx false [(0,0)] [] (.tup [dI r20.1,.d (D.b r20.2.1)]) [rW 0 32 1 dW r20.2.2]) (Ab h31)<|gQ (of_decide_eq_true rfl:(8:Int)≠0) ?_
 obtain⟨o21,h32,h⟩:=bS h
 refine gl (Ae rd self hs us h32) ?_
 exact lp h
 exact lp h
 obtain⟨o22,h33,h⟩:=bS h
 refine gl (BK rd self hs us h33) ?_
 replace h:=AL h
 rcases h with⟨o23,rfl,h⟩|⟨o24,rfl,h⟩
 refine iB 75 h (fun h=>?_) fun h=>?_
 obtain⟨h35,h⟩:=cS h
 refine gQ h35.1<|gQ (AF dW h35.2) ?_
 obtain⟨x25,h36,h⟩:=xS h
 refine gG 80 (.el (dW x25)) (AH dW h36) ?_
 obtain⟨h37,h⟩:=cS h
 refine gQ h37.1<|gQ (AF dW h37.2) ?_
 obtain⟨x26,h38,h⟩:=xS h
 refine gG 84 (.el (dW x26)) (AH dW h38) ?_
 obtain⟨r27,h39,h⟩:=bS h
 refine gC 85 (AV h39) ?_
 refine iB 87 h (fun h=>?_) fun h=>?_
 obtain⟨r28,h41,h⟩:=bS h
 refine gG 92 (.cx false [(0,0)] [] (dI r28.1) [rW 0 32 1 dW r28.2]) (Aw h41) ?_
 exact lp h
 obtain⟨r29,h42,h⟩:=bS h
 refine gG 99 (.cx false [(0,0)] [] (.tup [dI r29.1,.d (D.b r29.2.1)]) [rW 0 32 1 dW r29.2.2]) (Ab h42)<|gQ (of_decide_eq_true rfl:(8:Int)≠0) ?_
 obtain⟨o30,h43,h⟩:=bS h
 refine gl (Ae rd self hs us h43) ?_
 exact lp h
 obtain⟨r31,h44,h⟩:=bS h
 refine gG 99 (.cx false [(0,0)] [] (.tup [dI r31.1,.d (D.b r31.2.1)]) [rW 0 32 1 dW r31.2.2]) (Ab h44)<|gQ (of_decide_eq_true rfl:(8:Int)≠0) ?_
 obtain⟨o32,h45,h⟩:=bS h
 refine gl (Ae rd self hs us h45) ?_
 exact lp h
 exact lp h
 obtain⟨o33,h46,h⟩:=bS h
 refine gl (BK rd self hs us h46) ?_
 replace h:=AL h
 rcases h with⟨o34,rfl,h⟩|⟨o35,rfl,h⟩
 refine iB 75 h (fun h=>?_) fun h=>?_
 obtain⟨h48,h⟩:=cS h
 refine gQ h48.1<|gQ (AF dW h48.2) ?_
 obtain⟨x36,h49,h⟩:=xS h
 refine gG 80 (.el (dW x36)) (AH dW h49) ?_
 obtain⟨h50,h⟩:=cS h
 refine gQ h50.1<|gQ (AF dW h50.2) ?_
 obtain⟨x37,h51,h⟩:=xS h
 refine gG 84 (.el (dW x37)) (AH dW h51) ?_
 obtain⟨r38,h52,h⟩:=bS h
 refine gC 85 (AV h52) ?_
 refine iB 87 h (fun h=>?_) fun h=>?_
 obtain⟨r39,h54,h⟩:=bS h
 refine gG 92 (.cx false [(0,0)] [] (dI r39.1) [rW 0 32 1 dW r39.2]) (Aw h54) ?_
 exact lp h
 obtain⟨r40,h55,h⟩:=bS h
 refine gG 99 (.cx false [(0,0)] [] (.tup [dI r40.1,.d (D.b r40.2.1)]) [rW 0 32 1 dW r40.2.2]) (Ab h55)<|gQ (of_decide_eq_true rfl:(8:Int)≠0) ?_
 obtain⟨o41,h56,h⟩:=bS h
 refine gl (Ae rd self hs us h56) ?_
 exact lp h
 obtain⟨r42,h57,h⟩:=bS h
 refine gG 99 (.cx false [(0,0)] [] (.tup [dI r42.1,.d (D.b r42.2.1)]) [rW 0 32 1 dW r42.2.2]) (Ab h57)<|gQ (of_decide_eq_true rfl:(8:Int)≠0) ?_
 obtain⟨o43,h58,h⟩:=bS h
 refine gl (Ae rd self hs us h58) ?_
 exact lp h
 exact lp h
def CO(us:List Value)(s1 s2 s3:Int)(s8 s9:Bool)(w0:List Int):St:=⟨sp 134 0 [rx 0,sI 1 s1,sI 2 s2,sI 3 s3,sD 8 D.b s8,sD 9 D.b s9],[rW 0 32 1 dW w0,(997,.vals [.row 0] us)],[]⟩
def CP(us:List Value)(o:(List Int)):Ex×St:=(.ret,⟨sp 134 0 [],[rW 0 32 1 dW o,(997,.vals [.row 0] us)],[]⟩)
theorem Df(rd:Option Nat)(self:Int->Int->Int->(List Int)->Option (List Int))(hs:∀(a1 a2 a3:Int) (w0 r:List Int),self a1 a2 a3 w0=some r->AM Tryz.prog 61 [.row 0,dI a1,dI a2,dI a3] [rW 0 32 1 dW w0] (.tup []) [rW 0 32 1 dW r])(us:List Value){s1 s2 s3:Int}{s8 s9:Bool}{w0:List Int}{t:(List Int)}(h:Sg self s1 s2 s3 s8 s9 w0=some t):Lq 61 rd 14 (CO us s1 s2 s3 s8 s9 w0) ((CP us) t):=
 lL (fun s:Int×Int×Int×Bool×Bool×List Int=>CO us s.1 s.2.1 s.2.2.1 s.2.2.2.1 s.2.2.2.2.1 s.2.2.2.2.2) (CP us) (s1,s2,s3,s8,s9,w0) (fun⟨s1,s2,s3,s8,s9,w0⟩ o h=>by
 unfold IT at h
 obtain⟨o44,h59,h⟩:=bS h
 refine gl (Db rd self hs us h59) ?_
 replace h:=AL h
 rcases h with⟨o45,rfl,h⟩|⟨o46,rfl,h⟩
 exact lb h
 exact lb h) h
theorem Dn(self:Int->Int->Int->(List Int)->Option (List Int))(hs:∀(a1 a2 a3:Int) (w0 r:List Int),self a1 a2 a3 w0=some r->AM Tryz.prog 61 [.row 0,dI a1,dI a2,dI a3] [rW 0 32 1 dW w0] (.tup []) [rW 0 32 1 dW r])(a1 a2 a3:Int)(w0 r:List Int)(h:aQ0 self a1 a2 a3 w0=some r):AM Tryz.prog 61 [.row 0,dI a1,dI a2,dI a3] [rW 0 32 1 dW w0] (.tup []) [rW 0 32 1 dW r]:=by unfold aQ0 at h;refine XG.call (ks:=[0]) mixed fun us=>?_;apply g0 (o:=r);obtain⟨o47,h60,h⟩:=bS h;refine gl (Df none self hs us h60) ?_;exact lX h (lv [] [0,997])
theorem CQ:∀(n:Nat) (a1 a2 a3:Int) (w0 r:List Int),aPi n a1 a2 a3 w0=some r->AM Tryz.prog 61 [.row 0,dI a1,dI a2,dI a3] [rW 0 32 1 dW w0] (.tup []) [rW 0 32 1 dW r]
 |0,a1,a2,a3,w0,r,h=>by simp[aPi]at h
 |n+1,a1,a2,a3,w0,r,h=>Dn _ (CQ n) a1 a2 a3 w0 r h
theorem Dy(h:Xf cJ cK cM cN=some cQ):AM Tryz.prog 61 [.row 0,dI cJ,dI cK,dI cM] [rW 0 32 1 dW cN] (.tup []) [rW 0 32 1 dW cQ]:=CQ 100000 cJ cK cM cN cQ h
theorem EI(h:Q7 cN=some cQ):AM Tryz.prog 44 [.row 0] [rW 0 32 1 dW cN] (.tup []) [rW 0 32 1 dW cQ]:=by unfold Q7 at h;refine XG.call (ks:=[0]) mixed fun us=>?_;apply g0 (o:=cQ);refine gN 4 dW cN ?_;obtain⟨r1,h1,h⟩:=bS h;refine gC 9 (aQr h1) ?_;obtain⟨r2,h2,h⟩:=bS h;refine gG 10 (.cx false [(0,0)] [] (.tup []) [rW 0 32 1 dW r2]) (Dy h2) ?_;exact lX h (lv [] [0,997])
theorem bB1(h:Zt cU cR cJ=some cN):AM Tryz.prog 21 [.d (AD.D cU),.d ((D.l X2.D) cR),.d (dW cJ)] [] (.d ((D.l dW) cN)) []:=by unfold Zt at h;apply g0 (o:=cN);obtain⟨r1,h1,h⟩:=bS h;refine gG 14 (.cx false [] [(0,14),(1,421),(2,428)] (.tup [.row 0,.row 1,.row 2]) [rW 0 32 1 dW r1.1,(1,.map r1.2.1.clk (MP.dl dW dW r1.2.1)),(2,.map r1.2.2.clk (MP.dl dW dU r1.2.2))]) (aY6 h1) ?_;obtain⟨r2,h2,h⟩:=bS h;refine gG 19 (.cx false [(0,14)] [] (.tup []) [rW 0 32 1 dW r2]) (EI h2) ?_;exact lF h [.frz 14]
def YJ(s1:Int)(s8:List Xg)(s9 s10:Int):St:=⟨sp 26 0 [sD 1 dW s1,sD 8 (D.l Xg.D) s8,sI 9 s9,sI 10 s10],[],[]⟩
def YK(s1:Int)(s8:List Xg)(s9:Int)(o:Unit⊕Unit):Ex×St:=match o with
 | .inl o=>(.exit 0,⟨sp 26 0 [],[],[]⟩)
 | .inr o=>(.ret,⟨sp 26 0 [sD 4 D.b true],[],[]⟩)
theorem aKy(rd:Option Nat)(h:YI cJ d5 cK cM=some dY):Lq 23 rd 26 (YJ cJ d5 cK cM) ((YK cJ d5 cK) dY):=
 lL (fun s:Int=>YJ cJ d5 cK s) (YK cJ d5 cK) cM (fun cM o h=>by
 unfold HG at h
 refine iB 11 h (fun h=>?_) fun h=>?_
 refine xX 13 Xg.D h fun x1 h=>?_
 refine iB 17 h (fun h=>?_) fun h=>?_
 obtain⟨h4,h⟩:=cS h
 refine gQ h4 ?_
 refine iB 24 h (fun h=>?_) fun h=>?_
 exact lb h
 exact lb h
 exact lb h
 exact lb h) h
theorem aRo(h:Yb cU cJ=some d4):AM Tryz.prog 23 [.d (AD.D cU),.d (dW cJ)] [] (.d (D.b d4)) []:=by
 unfold Yb at h;apply g0 (o:=d4);refine gN 9 Xg.D cU.states ?_;obtain⟨o2,h6,h⟩:=bS h;refine gl (aKy none h6) ?_;replace h:=AL h;rcases h with⟨o3,rfl,h⟩|⟨o4,rfl,h⟩
 exact lf h;exact lf h
def YQ(us:List Value)(s1:Int)(s21:List Int)(s22:Int)(w0:MP Int Int)(w5:AD)(s23:Int)(w11:List UInt8):St:=⟨sp 44 0 [sD 1 dW s1,(4,.row 0),bx 5,rx 11,sD 21 (D.l dU) s21,sI 22 s22,sI 23 s23],[(0,.map w0.clk (MP.dl dW dZ w0)),cL 5 AD.D w5,(11,.row 5 1 (w11.map E8)),(997,.vals [.row 0] us)],[]⟩
def YR(us:List Value)(s1:Int)(s21:List Int)(s22:Int)(w0:MP Int Int)(w5:AD)(o:(List UInt8)):Ex×St:=(.exit 0,⟨sp 44 0 [rx 11],[(0,.map w0.clk (MP.dl dW dZ w0)),(11,.row 5 1 (o.map E8)),(997,.vals [.row 0] us)],[]⟩)
theorem aK3(rd:Option Nat)(us:List Value)(h:YP cJ cN cK dF cU cM e9=some eA):Lq 24 rd 58 (YQ us cJ cN cK dF cU cM e9) ((YR us cJ cN cK dF cU) eA):=
 lL (fun s:Int×List UInt8=>YQ us cJ cN cK dF cU s.1 s.2) (YR us cJ cN cK dF cU) (cM,e9) (fun⟨cM,e9⟩ o h=>by
 unfold GB at h
 refine iB 24 h (fun h=>?_) fun h=>?_
 refine xX 25 dU h fun x1 h=>?_
 obtain⟨r2,h3,h⟩:=bS h
 refine gC 31 (aGj h3)<|gG 32 (.mg (dZ (BH 0 dF r2).1) (BH 0 dF r2).2) (GK (aE1 Tryz.underlying32) dZ 0 dF r2)<|gG 35 (.int (u8w ((BH 0 dF r2).1)).toNat) (K4 ((BH 0 dF r2).1))<|gQ (of_decide_eq_true rfl:(0:Int)<=8)<|gG 38 (.int (u8w (AA .shr .i64 ((BH 0 dF r2).1) 8)).toNat) (K4 (AA .shr .i64 ((BH 0 dF r2).1) 8))<|gQ (Ah E8 [u8w ((BH 0 dF r2).1),u8w (AA .shr .i64 ((BH 0 dF r2).1) 8)])<|gG 40 (.sl ((e9++[u8w ((BH 0 dF r2).1),u8w (AA .shr .i64 ((BH 0 dF r2).1) 8)]).map E8)) (Ah E8 [u8w ((BH 0 dF r2).1),u8w (AA .shr .i64 ((BH 0 dF r2).1) 8)]) ?_
 obtain⟨h4,h⟩:=cS h
 refine gQ (Ao E8 h4)<|gQ (Am E8 e9 [u8w ((BH 0 dF r2).1),u8w (AA .shr .i64 ((BH 0 dF r2).1) 8)]) ?_
 exact lB h [.live [1,4,5,11,21,22,23],.keep [0,5,40,997],.ren 40 11,.sort]
 exact lb h) h
theorem bAb(h:Yd cU cJ cK cN dF=some eB):AM Tryz.prog 24 [.d (AD.D cU),.d (dW cJ),dI cK,.d ((D.l dU) cN),.row 0] [(0,.map dF.clk (MP.dl dW dZ dF))] (.d (D.s eB.1)) [(0,.map eB.2.clk (MP.dl dW dZ eB.2))]:=by unfold Yd at h;refine XG.call (ks:=[4]) mixed fun us=>?_;apply g0 (o:=eB);refine gG 16 (.int (u8w cK).toNat) (K4 cK)<|gQ (of_decide_eq_true rfl:(0:Int)<=8)<|gG 19 (.int (u8w (AA .shr .i64 cK 8)).toNat) (K4 (AA .shr .i64 cK 8))<|gQ (Ah E8 [u8w cK,u8w (AA .shr .i64 cK 8)])<|gN 22 dU cN ?_;obtain⟨o3,h5,h⟩:=bS h;refine gL [.live [1,4,5,11,21,22,23],.keep [0,5,20,997],.ren 20 11,.sort] (aK3 none us h5)<|gG 43 (.str o3) (rfl:o3.map E8=o3.map E8) ?_;exact lX h (lv [10] [0,997])
theorem aJ6(rd:Option Nat)(h:XE cJ e9 eC cK cM d4 eE cN=some eF):Lq 25 rd 62667 ⟨sp 40 0 [rx 3,rx 4,sI 5 cJ,sD 6 D.s e9,sD 13 (D.l D.s) eC,sI 14 cK,sI 15 cM,sD 27 D.b d4],[(3,.map eE.clk (MP.dl D.s dZ eE)),(4,.buf true 3 1 (cN.map dZ))],[]⟩ (.normal,⟨sp 40 0 [rx 3,rx 4,sI 5 cJ,sD 6 D.s e9,sD 13 (D.l D.s) eC,sI 14 cK,sI 15 cM],[(3,.map eF.clk (MP.dl D.s dZ eF)),(4,.buf true 3 1 (cN.map dZ))],[]⟩):=by unfold XE at h;apply g0 (o:=eF);cases d4;replace h:=CL h;exact lp h;replace h:=CM h;refine gW 31 (.int (eE.es.length:Int))<|gW 10028 (.mp (Cb eE e9 (eE.es.length:Int)).clk (MP.dl D.s dZ (Cb eE e9 (eE.es.length:Int)))) ?_;obtain⟨h5,h⟩:=cS h;refine gQ (aTp D.s dZ eE h5)<|gQ (HY (bCm Tryz.underlying9) dZ eE e9 (eE.es.length:Int)) ?_;exact lp h
theorem aJ5(rd:Option Nat)(h:XD eC cJ cK eE cN=some eG):Lq 25 rd 1958 ⟨sp 40 0 [rx 3,rx 4,sD 13 (D.l D.s) eC,sI 14 cJ,sI 15 cK],[(3,.map eE.clk (MP.dl D.s dZ eE)),(4,.buf true 3 1 (cN.map dZ))],[]⟩ (.normal,⟨sp 40 0 [rx 3,rx 4,sD 13 (D.l D.s) eC,sI 14 cJ,sI 15 cK],[(3,.map eG.1.clk (MP.dl D.s dZ eG.1)),(4,.buf true 3 1 (eG.2.map dZ))],[]⟩):=by unfold XD at h;apply g0 (o:=eG);refine xX 18 D.s h fun x1 h=>?_;refine gG 23 (.mg (dZ (BH 0 eE x1).1) (BH 0 eE x1).2) (GK (bCm Tryz.underlying9) dZ 0 eE x1) ?_;obtain⟨o2,h6,h⟩:=bS h;refine gl (aJ6 rd h6)<|gG 36 (.mg (dZ (BH 0 o2 x1).1) (BH 0 o2 x1).2) (GK (bCm Tryz.underlying9) dZ 0 o2 x1)<|gW 10037 (.sl ((cN.set cK.toNat ((BH 0 o2 x1).1)).map dZ)) ?_;obtain⟨h7,h⟩:=cS h;refine gQ h7.1<|gQ (AF dZ h7.2) ?_;obtain⟨h8,h⟩:=cS h;refine gQ (Ay dZ h8)<|gQ (AS dZ cN cK ((BH 0 o2 x1).1)) ?_;exact lp h
def XH(s13:List (List UInt8))(s14 s15:Int)(w3:MP (List UInt8) Int)(w4:List Int):St:=⟨sp 40 0 [rx 3,rx 4,sD 13 (D.l D.s) s13,sI 14 s14,sI 15 s15],[(3,.map w3.clk (MP.dl D.s dZ w3)),(4,.buf true 3 1 (w4.map dZ))],[]⟩
def XI(s13:List (List UInt8))(s14:Int)(o:(List Int)):Ex×St:=(.exit 0,⟨sp 40 0 [rx 4],[(4,.buf true 3 1 (o.map dZ))],[]⟩)
theorem aJ8(rd:Option Nat)(h:XF eC cJ cK eE cN=some cZ):Lq 25 rd 122 (XH eC cJ cK eE cN) ((XI eC cJ) cZ):=
 lL (fun s:Int×MP (List UInt8) Int×List Int=>XH eC cJ s.1 s.2.1 s.2.2) (XI eC cJ) (cK,eE,cN) (fun⟨cK,eE,cN⟩ o h=>by
 unfold GA at h
 refine iB 16 h (fun h=>?_) fun h=>?_
 obtain⟨o3,h9,h⟩:=bS h
 refine gl (aJ5 rd h9) ?_
 exact lb h
 exact lb h) h
theorem aZu(h:Y4 eC=some cN):AM Tryz.prog 25 [.d ((D.l D.s) eC)] [] (.d ((D.l dZ) cN)) []:=by unfold Y4 at h;apply g0 (o:=cN);refine gN 11 D.s eC<|gW 12 (.sl ((List.replicate (eC.length:Int).toNat 0).map dZ))<|gW 14 (.int (eC.length:Int)) ?_;obtain⟨h1,h⟩:=cS h;refine gQ h1.1<|gQ (Int.le_refl (eC.length:Int))<|gQ (Int.le_refl (eC.length:Int))<|gQ (aDk dZ 0 h1.2)<|gQ (aDj dZ (eC.length:Int) 0)<|gQ (DK D.s eC) ?_;obtain⟨o4,h10,h⟩:=bS h;refine gL [.live [3,4,13,14,15],.keep [9,12],.ren 9 3,.ren 12 4,.sort] (aJ8 none h10) ?_;exact lF h [.frz 4]
def ZL(s0 s1:List Int)(s12 s13:Int):St:=⟨sp 26 0 [sD 0 (D.l dZ) s0,sD 1 (D.l dZ) s1,sI 12 s12,sI 13 s13],[],[]⟩
def ZM(s0 s1:List Int)(s12:Int)(o:Unit⊕Unit):Ex×St:=match o with
 | .inl o=>(.exit 0,⟨sp 26 0 [],[],[]⟩)
 | .inr o=>(.ret,⟨sp 26 0 [sD 4 D.b false],[],[]⟩)
theorem aLn(rd:Option Nat)(h:ZK cN cQ cJ cK=some dY):Lq 26 rd 58 (ZL cN cQ cJ cK) ((ZM cN cQ cJ) dY):=
 lL (fun s:Int=>ZL cN cQ cJ s) (ZM cN cQ cJ) cK (fun cK o h=>by
 unfold HK at h
 refine iB 14 h (fun h=>?_) fun h=>?_
 refine xX 18 dZ h fun x1 h=>?_
 refine xX 22 dZ h fun x2 h=>?_
 refine iB 24 h (fun h=>?_) fun h=>?_
 exact lb h
 exact lb h
 exact lb h) h
theorem bAo(h:Yl cN cQ=some d4):AM Tryz.prog 26 [.d ((D.l dZ) cN),.d ((D.l dZ) cQ)] [] (.d (D.b d4)) []:=by
 unfold Yl at h;apply g0 (o:=d4);refine gN 7 dZ cN<|gN 9 dZ cQ ?_;refine iB 10 h (fun h=>?_) fun h=>?_;exact lf h;refine gN 12 dZ cN ?_;obtain⟨o3,h6,h⟩:=bS h;refine gl (aLn none h6) ?_;replace h:=AL h;rcases h with⟨o4,rfl,h⟩|⟨o5,rfl,h⟩
 exact lf h;exact lf h
theorem aFu(rd:Option Nat)(h:UY cN cQ cJ dE cK cM d4 cU eH=some cZ):Lq 7 rd 32051 ⟨sp 87 0 [bx 3,sD 8 (D.l dW) cN,sD 9 (D.l dU) cQ,rx 10,sI 11 cJ,sD 30 (D.l dW) dE,sI 31 cK,sI 32 cM,sD 39 D.b d4],[cL 3 AD.D cU,(10,.buf true 3 1 (eH.map dZ))],[]⟩ (.normal,⟨sp 87 0 [bx 3,sD 8 (D.l dW) cN,sD 9 (D.l dU) cQ,rx 10,sD 30 (D.l dW) dE,sI 31 cK,sI 32 cM],[cL 3 AD.D cU,(10,.buf true 3 1 (cZ.map dZ))],[]⟩):=by unfold UY at h;apply g0 (o:=cZ);cases d4;replace h:=CL h;exact lp h;replace h:=CM h;refine gW 10042 (.sl ((eH.set cJ.toNat 1).map dZ)) ?_;obtain⟨h8,h⟩:=cS h;refine gQ h8.1<|gQ (AF dZ h8.2) ?_;obtain⟨h9,h⟩:=cS h;refine gQ (Ay dZ h9)<|gQ (AS dZ eH cJ 1) ?_;exact lp h
theorem aFt(rd:Option Nat)(h:SK cN cQ dE cJ cK cU eH=some cZ):Lq 7 rd 4006 ⟨sp 87 0 [bx 3,sD 8 (D.l dW) cN,sD 9 (D.l dU) cQ,rx 10,sD 30 (D.l dW) dE,sI 31 cJ,sI 32 cK],[cL 3 AD.D cU,(10,.buf true 3 1 (eH.map dZ))],[]⟩ (.normal,⟨sp 87 0 [bx 3,sD 8 (D.l dW) cN,sD 9 (D.l dU) cQ,rx 10,sD 30 (D.l dW) dE,sI 31 cJ,sI 32 cK],[cL 3 AD.D cU,(10,.buf true 3 1 (cZ.map dZ))],[]⟩):=by unfold SK at h;apply g0 (o:=cZ);refine xX 35 dW h fun x3 h=>?_;obtain⟨r4,h6,h⟩:=bS h;refine gC 39 (aRo h6) ?_;obtain⟨o5,h10,h⟩:=bS h;refine gl (aFu rd h10) ?_;exact lp h
def Ua(s8 s9 s30:List Int)(s31:Int)(w3:AD)(s32:Int)(w10:List Int):St:=⟨sp 87 0 [bx 3,sD 8 (D.l dW) s8,sD 9 (D.l dU) s9,rx 10,sD 30 (D.l dW) s30,sI 31 s31,sI 32 s32],[cL 3 AD.D w3,(10,.buf true 3 1 (w10.map dZ))],[]⟩
def Ub(s8 s9 s30:List Int)(s31:Int)(w3:AD)(o:(List Int)):Ex×St:=(.exit 0,⟨sp 87 0 [bx 3,sD 8 (D.l dW) s8,sD 9 (D.l dU) s9,rx 10],[cL 3 AD.D w3,(10,.buf true 3 1 (o.map dZ))],[]⟩)
theorem aFw(rd:Option Nat)(h:UZ cN cQ dE cJ cU cK eH=some cZ):Lq 7 rd 250 (Ua cN cQ dE cJ cU cK eH) ((Ub cN cQ dE cJ cU) cZ):=
 lL (fun s:Int×List Int=>Ua cN cQ dE cJ cU s.1 s.2) (Ub cN cQ dE cJ cU) (cK,eH) (fun⟨cK,eH⟩ o h=>by
 unfold Ft at h
 refine iB 33 h (fun h=>?_) fun h=>?_
 obtain⟨o6,h11,h⟩:=bS h
 refine gl (aFt rd h11) ?_
 exact lb h
 exact lb h) h
def Uf(s8 s9:List Int)(s10 s45:List Int)(s46:Int)(w3:AD)(s47:Int)(w13:MP Int Int):St:=⟨sp 87 0 [bx 3,sD 8 (D.l dW) s8,sD 9 (D.l dU) s9,sD 10 (D.l dZ) s10,rx 13,sD 45 (D.l dW) s45,sI 46 s46,sI 47 s47],[cL 3 AD.D w3,(13,.map w13.clk (MP.dl dW dZ w13))],[]⟩
def Ug(s8 s9:List Int)(s10 s45:List Int)(s46:Int)(w3:AD)(o:(MP Int Int)):Ex×St:=(.exit 4,⟨sp 87 0 [bx 3,sD 8 (D.l dW) s8,sD 9 (D.l dU) s9,sD 10 (D.l dZ) s10,rx 13],[cL 3 AD.D w3,(13,.map o.clk (MP.dl dW dZ o))],[]⟩)
theorem aF1(rd:Option Nat)(h:Ue cN cQ dE eH cJ cU cK dF=some eI):Lq 7 rd 8074 (Uf cN cQ dE eH cJ cU cK dF) ((Ug cN cQ dE eH cJ cU) eI):=
 lL (fun s:Int×MP Int Int=>Uf cN cQ dE eH cJ cU s.1 s.2) (Ug cN cQ dE eH cJ cU) (cK,dF) (fun⟨cK,dF⟩ o h=>by
 unfold Gv at h
 refine iB 48 h (fun h=>?_) fun h=>?_
 refine xX 50 dW h fun x20 h=>?_
 refine xX 56 dZ h fun x21 h=>?_
 refine gQ (HY (aE1 Tryz.underlying32) dZ dF x20 x21)<|gW 10052 (.mp (Cb dF x20 x21).clk (MP.dl dW dZ (Cb dF x20 x21))) ?_
 exact lb h
 exact lb h) h
def Ui(s8 s9:List Int)(s10 s59:List Int)(s60:Int)(w3:AD)(s61:Int)(w13:MP Int Int)(w16:List (List UInt8)):St:=⟨sp 87 0 [bx 3,sD 8 (D.l dW) s8,sD 9 (D.l dU) s9,sD 10 (D.l dZ) s10,rx 13,rx 16,sD 59 (D.l dW) s59,sI 60 s60,sI 61 s61],[cL 3 AD.D w3,(13,.map w13.clk (MP.dl dW dZ w13)),(16,.row 9 1 (w16.map D.s))],[]⟩
def Uj(s8 s9:List Int)(s10 s59:List Int)(s60:Int)(w3:AD)(o:(List (List UInt8))):Ex×St:=(.exit 6,⟨sp 87 0 [bx 3,sD 8 (D.l dW) s8,sD 9 (D.l dU) s9,sD 10 (D.l dZ) s10,rx 16],[cL 3 AD.D w3,(16,.row 9 1 (o.map D.s))],[]⟩)
theorem aF3(rd:Option Nat)(h:Uh cN cQ dE eH cJ cU cK dF eC=some eK):Lq 7 rd 32314 (Ui cN cQ dE eH cJ cU cK dF eC) ((Uj cN cQ dE eH cJ cU) eK):=
 lL (fun s:Int×MP Int Int×List (List UInt8)=>Ui cN cQ dE eH cJ cU s.1 s.2.1 s.2.2) (Uj cN cQ dE eH cJ cU) (cK,dF,eC) (fun⟨cK,dF,eC⟩ o h=>by
 unfold Fv at h
 refine iB 62 h (fun h=>?_) fun h=>?_
 refine xX 64 dW h fun x26 h=>?_
 refine xX 71 dZ h fun x27 h=>?_
 obtain⟨r28,h46,h⟩:=bS h
 refine gG 75 (.cx false [(0,13)] [] (.d (D.s r28.1)) [(0,.map r28.2.clk (MP.dl dW dZ r28.2))]) (bAb h46)<|gQ (Ah D.s [r28.1])<|gG 77 (.sl ((eC++[r28.1]).map D.s)) (Ah D.s [r28.1]) ?_
 obtain⟨h47,h⟩:=cS h
 refine gQ (Ao D.s h47)<|gQ (Am D.s eC [r28.1]) ?_
 exact lB h [.live [3,8,9,10,13,16,59,60,61],.keep [3,13,77],.ren 77 16,.sort]
 exact lb h) h
def Uc(s8 s9:List Int)(w3:AD)(s10:List Int):St:=⟨sp 87 0 [bx 3,sD 8 (D.l dW) s8,sD 9 (D.l dU) s9,sD 10 (D.l dZ) s10],[cL 3 AD.D w3],[]⟩
def Ud(s8 s9:List Int)(w3:AD)(o:(List Int)):Ex×St:=(.ret,⟨sp 87 0 [sD 6 (D.l dW) s8,sD 7 (D.l dZ) o],[],[]⟩)
theorem aFz(rd:Option Nat)(h:Nz cN cQ cU dE=some cZ):Lq 7 rd 126 (Uc cN cQ cU dE) ((Ud cN cQ cU) cZ):=
 lL (fun s:List Int=>Uc cN cQ cU s) (Ud cN cQ cU) dE (fun dE o h=>by
 unfold Fu at h
 refine gN 46 dW cN<|gW 60 (.int (cN.length:Int)) ?_
 obtain⟨o22,h37,h⟩:=bS h
 refine gL [.live [3,8,9,10,13,45,46,47],.keep [3,44],.ren 44 13,.sort] (aF1 rd h37)<|gQ (DK dW cN) ?_
 obtain⟨o29,h48,h⟩:=bS h
 refine gL [.live [3,8,9,10,13,16,59,60,61],.keep [3,13],.nil 16 16 9 1,.sort] (aF3 rd h48) ?_
 obtain⟨r30,h49,h⟩:=bS h
 refine gC 80 (aZu h49) ?_
 obtain⟨r31,h50,h⟩:=bS h
 refine gQ (bAo h50) ?_
 cases r31
 replace h:=CL h
 refine gW 83 (.ret (.d (D.b false))) ?_
 exact lb h
 replace h:=CM h
 refine gW 83 (.ret (.d (D.b true))) ?_
 exact lb h) h
theorem aU5(h:X6 cU cR cJ=some eL):AM Tryz.prog 7 [.d (AD.D cU),.d ((D.l X2.D) cR),.d (dW cJ)] [] (.tup [.d ((D.l dW) eL.1),.d ((D.l dZ) eL.2)]) []:=by unfold X6 at h;apply g0 (o:=eL);obtain⟨r1,h1,h⟩:=bS h;refine gC 23 (bB1 h1)<|gW 28 (.int (r1.length:Int))<|gW 29 (.sl ((List.replicate (r1.length:Int).toNat 0).map dZ))<|gW 31 (.int (r1.length:Int)) ?_;obtain⟨r2,h2,h⟩:=bS h;refine gC 26 (aQx h2)<|gQ (DK dW r1) ?_;obtain⟨h3,h⟩:=cS h;refine gQ h3.1<|gQ (Int.le_refl (r1.length:Int))<|gQ (Int.le_refl (r1.length:Int))<|gQ (aDk dZ 0 h3.2)<|gQ (aDj dZ (r1.length:Int) 0)<|gQ (DK dW r1) ?_;obtain⟨o7,h12,h⟩:=bS h;refine gL [.live [3,8,9,10,30,31,32],.keep [3,29],.ren 29 10,.sort] (aFw none h12) ?_;obtain⟨o32,h52,h⟩:=bS h;refine gL [.frz 10,.look 10,.live [3,8,9,10],.keep [3]] (aFz none h52) ?_;exact lf h
theorem aKz(rd:Option Nat)(h:YL cN d4=some eM):Lq 28 rd 13 ⟨sp 25 0 [sD 0 (D.l dZ) cN,sD 7 D.b d4],[],[]⟩ (.normal,⟨sp 25 0 [sD 0 (D.l dZ) cN],[],[]⟩):=by unfold YL at h;apply g0 (o:=eM);cases d4;replace h:=CL h;exact lp h;replace h:=CM h;cases h
def YN(s0:List Int)(s3 s4:Int):St:=⟨sp 25 0 [sD 0 (D.l dZ) s0,sI 3 s3,sI 4 s4],[],[]⟩
def YO(s0:List Int)(o:Int):Ex×St:=(.exit 0,⟨sp 25 0 [sI 3 o],[],[]⟩)
theorem aK1(rd:Option Nat)(h:YM cN cJ cK=some cM):Lq 28 rd 122 (YN cN cJ cK) ((YO cN) cM):=
 lL (fun s:Int×Int=>YN cN s.1 s.2) (YO cN) (cJ,cK) (fun⟨cJ,cK⟩ o h=>by
 unfold HH at h
 refine gN 14 dZ cN ?_
 refine iB 15 h (fun h=>?_) fun h=>?_
 refine xX 21 dZ h fun x3 h=>?_
 refine gG 23 (.int (GO cJ x3)) (rfl:GO cJ x3=GO cJ x3) ?_
 exact lb h
 exact lb h) h
theorem aZ8(h:Yc cN=some cJ):AM Tryz.prog 28 [.d ((D.l dZ) cN)] [] (dI cJ) []:=by unfold Yc at h;apply g0 (o:=cJ);refine gN 6 dZ cN ?_;obtain⟨o1,h2,h⟩:=bS h;refine gl (aKz none h2)<|xX 10 dZ h fun x2 h=>?_;obtain⟨o4,h6,h⟩:=bS h;refine gl (aK1 none h6) ?_;exact lf h
theorem aV3(h:Zu cU cR=some cJ):AM Tryz.prog 10 [.d (AD.D cU),.d ((D.l X2.D) cR)] [] (dI cJ) []:=by unfold Zu at h;apply g0 (o:=cJ);obtain⟨h1,h⟩:=cS h;refine gQ h1 ?_;obtain⟨r1,h2,h⟩:=bS h;refine gC 14 (aU5 h2) ?_;obtain⟨r2,h3,h⟩:=bS h;refine gC 18 (aZ8 h3) ?_;exact lf h
def aAc(us:List Value)(s2 s3:Int)(w0:List Int):St:=⟨sp 28 0 [rx 0,sI 2 s2,sI 3 s3],[rW 0 49 1 dU w0,(997,.vals [.row 0] us)],[]⟩
def aAd(us:List Value)(o:(List Int)):Ex×St:=(.exit 0,⟨sp 28 0 [],[rW 0 49 1 dU o,(997,.vals [.row 0] us)],[]⟩)
theorem aMh(rd:Option Nat)(us:List Value)(h:aMf cJ cK cN=some cZ):Lq 31 rd 6 (aAc us cJ cK cN) ((aAd us) cZ):=
 lL (fun s:Int×Int×List Int=>aAc us s.1 s.2.1 s.2.2) (aAd us) (cJ,cK,cN) (fun⟨cJ,cK,cN⟩ o h=>by
 unfold O0 at h
 refine iB 9 h (fun h=>?_) fun h=>?_
 obtain⟨h2,h⟩:=cS h
 refine gQ h2.1<|gQ (AF dU h2.2) ?_
 obtain⟨x1,h3,h⟩:=xS h
 refine gG 21 (.el (dU x1)) (AH dU h3)<|gW 10026 (.sl ((cN.set cJ.toNat x1).map dU)) ?_
 obtain⟨h4,h⟩:=cS h
 refine gQ h4.1<|gQ (AF dU h4.2) ?_
 obtain⟨x2,h5,h⟩:=xS h
 refine gG 25 (.el (dU x2)) (AH dU h5)<|gW 10027 (.sl (((cN.set cJ.toNat x1).set cK.toNat x2).map dU)) ?_
 obtain⟨h6,h⟩:=cS h
 refine gQ h6.1<|gQ (AF dU h6.2) ?_
 obtain⟨h7,h⟩:=cS h
 refine gQ (Ay dU h7)<|gQ (AS dU cN cJ x1) ?_
 obtain⟨h8,h⟩:=cS h
 refine gQ h8.1<|gQ (AF dU h8.2) ?_
 obtain⟨h9,h⟩:=cS h
 refine gQ (Ay dU h9)<|gQ (AS dU (cN.set cJ.toNat x1) cK x2) ?_
 exact lb h
 exact lb h) h
theorem bAx(h:Yv cN=some cQ):AM Tryz.prog 31 [.row 0] [rW 0 49 1 dU cN] (.tup []) [rW 0 49 1 dU cQ]:=by unfold Yv at h;refine XG.call (ks:=[0]) mixed fun us=>?_;apply g0 (o:=cQ);refine gN 5 dU cN ?_;obtain⟨o3,h10,h⟩:=bS h;refine gl (aMh none us h10) ?_;exact lX h (lv [] [0,997])
theorem QK(rd:Option Nat)(h:Sd cN cJ cK cM cQ cT cW d4 cU eN eO eQ eR eS=some eT):Lq 12 rd 234134735 ⟨sp 122 0 [bx 4,sD 10 (D.l dU) cN,bx 11,rx 12,rx 13,sI 14 cJ,sI 15 cK,bx 16,sD 18 dU cM,bx 19,sD 56 (D.l dU) cQ,sI 57 cT,sI 58 cW,sD 87 D.b d4],[cL 4 AD.D cU,cL 11 X3.D eN,(12,.row 73 2 (eO.map X3.D)),(13,.map eQ.clk (MP.dl X3.D Xe.D eQ)),cL 16 X3.D eR,cL 19 X3.D eS],[]⟩ (.normal,⟨sp 122 0 [bx 4,sD 10 (D.l dU) cN,bx 11,rx 12,rx 13,sI 14 cJ,sI 15 cK,bx 16,sD 56 (D.l dU) cQ,sI 57 cT,sI 58 cW],[cL 4 AD.D cU,cL 11 X3.D eN,(12,.row 73 2 (eT.1.map X3.D)),(13,.map eT.2.clk (MP.dl X3.D Xe.D eT.2)),cL 16 X3.D eR],[]⟩):=by unfold Sd at h;apply g0 (o:=eT);cases d4;replace h:=CL h;exact lp h;replace h:=CM h;refine gQ (HY B1 Xe.D eQ eS (Xe.mk eR cM))<|gQ (Ah X3.D [eS])<|gG 96 (.sl ((eO++[eS]).map X3.D)) (Ah X3.D [eS])<|gW 10088 (.mp (Cb eQ eS (Xe.mk eR cM)).clk (MP.dl X3.D Xe.D (Cb eQ eS (Xe.mk eR cM)))) ?_;obtain⟨h13,h⟩:=cS h;refine gQ (Ao X3.D h13)<|gQ (Am X3.D eO [eS]) ?_;exact lP h [.live [4,10,11,12,13,14,15,16,56,57,58],.keep [4,11,13,16,96],.ren 96 12,.sort]
theorem aHa(rd:Option Nat)(h:VQ cN cJ cK cQ cM cT cU eN eO eQ eR=some eT):Lq 12 rd 7316710 ⟨sp 122 0 [bx 4,sD 10 (D.l dU) cN,bx 11,rx 12,rx 13,sI 14 cJ,sI 15 cK,bx 16,sD 56 (D.l dU) cQ,sI 57 cM,sI 58 cT],[cL 4 AD.D cU,cL 11 X3.D eN,(12,.row 73 2 (eO.map X3.D)),(13,.map eQ.clk (MP.dl X3.D Xe.D eQ)),cL 16 X3.D eR],[]⟩ (.normal,⟨sp 122 0 [bx 4,sD 10 (D.l dU) cN,bx 11,rx 12,rx 13,sI 14 cJ,sI 15 cK,bx 16,sD 56 (D.l dU) cQ,sI 57 cM,sI 58 cT],[cL 4 AD.D cU,cL 11 X3.D eN,(12,.row 73 2 (eT.1.map X3.D)),(13,.map eT.2.clk (MP.dl X3.D Xe.D eT.2)),cL 16 X3.D eR],[]⟩):=by unfold VQ at h;apply g0 (o:=eT);refine xX 60 dU h fun x5 h=>?_;obtain⟨r6,h9,h⟩:=bS h;refine gC 66 (aGj h9) ?_;obtain⟨r7,h10,h⟩:=bS h;refine gC 71 (aGj h10)<|gG 76 (.mg (Xe.D (BH (Xe.mk (X3.mk 0 0) 0) eQ (X3.mk r6 r7)).1) (BH (Xe.mk (X3.mk 0 0) 0) eQ (X3.mk r6 r7)).2) (GK B1 Xe.D (Xe.mk (X3.mk 0 0) 0) eQ (X3.mk r6 r7)) ?_;refine iB 81 h (fun h=>?_) fun h=>?_;obtain⟨o8,h14,h⟩:=bS h;refine gl (QK rd h14) ?_;exact lp h;obtain⟨o9,h15,h⟩:=bS h;refine gl (QK rd h15) ?_;exact lp h
def VU(s10:List Int)(s14 s15:Int)(s56:List Int)(s57:Int)(w4:AD)(w11 w16:X3)(s58:Int)(w12:List X3)(w13:MP X3 Xe):St:=⟨sp 122 0 [bx 4,sD 10 (D.l dU) s10,bx 11,rx 12,rx 13,sI 14 s14,sI 15 s15,bx 16,sD 56 (D.l dU) s56,sI 57 s57,sI 58 s58],[cL 4 AD.D w4,cL 11 X3.D w11,(12,.row 73 2 (w12.map X3.D)),(13,.map w13.clk (MP.dl X3.D Xe.D w13)),cL 16 X3.D w16],[]⟩
def VV(s10:List Int)(s14 s15:Int)(s56:List Int)(s57:Int)(w4:AD)(w11 w16:X3)(o:(List X3×MP X3 Xe)):Ex×St:=(.exit 2,⟨sp 122 0 [bx 4,sD 10 (D.l dU) s10,bx 11,rx 12,rx 13,sI 14 s14,sI 15 s15],[cL 4 AD.D w4,cL 11 X3.D w11,(12,.row 73 2 (o.1.map X3.D)),(13,.map o.2.clk (MP.dl X3.D Xe.D o.2))],[]⟩)
theorem aHg(rd:Option Nat)(h:aHe cN cJ cK cQ cM cU eN eR cT eO eQ=some eT):Lq 12 rd 457294 (VU cN cJ cK cQ cM cU eN eR cT eO eQ) ((VV cN cJ cK cQ cM cU eN eR) eT):=
 lL (fun s:Int×List X3×MP X3 Xe=>VU cN cJ cK cQ cM cU eN eR s.1 s.2.1 s.2.2) (VV cN cJ cK cQ cM cU eN eR) (cT,eO,eQ) (fun⟨cT,eO,eQ⟩ o h=>by
 unfold LD at h
 refine iB 59 h (fun h=>?_) fun h=>?_
 obtain⟨o10,h16,h⟩:=bS h
 refine gl (aHa rd h16) ?_
 exact lb h
 exact lb h) h
def VR(s10:List Int)(s14:Int)(w4:AD)(w11:X3)(s15:Int)(w12:List X3)(w13:MP X3 Xe):St:=⟨sp 122 0 [bx 4,sD 10 (D.l dU) s10,bx 11,rx 12,rx 13,sI 14 s14,sI 15 s15],[cL 4 AD.D w4,cL 11 X3.D w11,(12,.row 73 2 (w12.map X3.D)),(13,.map w13.clk (MP.dl X3.D Xe.D w13))],[]⟩
def VT(s10:List Int)(s14:Int)(w4:AD)(w11:X3)(o:(Int×List X3×MP X3 Xe)):Ex×St:=(.exit 0,⟨sp 122 0 [bx 11,rx 12,rx 13,sI 14 o.1],[cL 11 X3.D w11,(12,.row 73 2 (o.2.1.map X3.D)),(13,.map o.2.2.clk (MP.dl X3.D Xe.D o.2.2))],[]⟩)
theorem aHd(rd:Option Nat)(h:aHb cN cJ cU eN cK eO eQ=some eU):Lq 12 rd 1786 (VR cN cJ cU eN cK eO eQ) ((VT cN cJ cU eN) eU):=
 lL (fun s:Int×List X3×MP X3 Xe=>VR cN cJ cU eN s.1 s.2.1 s.2.2) (VT cN cJ cU eN) (cK,eO,eQ) (fun⟨cK,eO,eQ⟩ o h=>by
 unfold LC at h
 refine gN 38 X3.D eO ?_
 refine iB 39 h (fun h=>?_) fun h=>?_
 refine xX 44 X3.D h fun x2 h=>?_
 obtain⟨r3,h4,h⟩:=bS h
 refine gC 49 (aRo h4) ?_
 obtain⟨r4,h5,h⟩:=bS h
 refine gC 53 (aRo h5) ?_
 refine iB 54 h (fun h=>?_) fun h=>?_
 exact lb h
 refine gN 57 dU cN ?_
 obtain⟨o11,h17,h⟩:=bS h
 refine gl (aHg rd h17) ?_
 exact lb h
 exact lb h) h
def VW(w11:X3)(w13:MP X3 Xe)(w22:List Int)(w23:X3):St:=⟨sp 122 0 [bx 11,rx 13,rx 22,bx 23],[cL 11 X3.D w11,(13,.map w13.clk (MP.dl X3.D Xe.D w13)),rW 22 49 1 dU w22,cL 23 X3.D w23],[]⟩
def VX(w11:X3)(w13:MP X3 Xe)(o:(List Int)):Ex×St:=(.exit 4,⟨sp 122 0 [rx 22],[rW 22 49 1 dU o],[]⟩)
theorem aHj(rd:Option Nat)(h:aHh eN eQ cN eR=some cZ):Lq 12 rd 14330 (VW eN eQ cN eR) ((VX eN eQ) cZ):=
 lL (fun s:List Int×X3=>VW eN eQ s.1 s.2) (VX eN eQ) (cN,eR) (fun⟨cN,eR⟩ o h=>by
 unfold OO at h
 refine iB 106 h (fun h=>?_) fun h=>?_
 refine gG 114 (.mg (Xe.D (BH (Xe.mk (X3.mk 0 0) 0) eQ eR).1) (BH (Xe.mk (X3.mk 0 0) 0) eQ eR).2) (GK B1 Xe.D (Xe.mk (X3.mk 0 0) 0) eQ eR)<|gQ (Ah dU [((BH (Xe.mk (X3.mk 0 0) 0) eQ eR).1).set])<|gG 117 (.rwl ((cN++[((BH (Xe.mk (X3.mk 0 0) 0) eQ eR).1).set]).map dU)) (Ah dU [((BH (Xe.mk (X3.mk 0 0) 0) eQ eR).1).set])<|gW 109 (.mg (Xe.D (BH (Xe.mk (X3.mk 0 0) 0) eQ eR).1) (BH (Xe.mk (X3.mk 0 0) 0) eQ eR).2) ?_
 obtain⟨h22,h⟩:=cS h
 refine gQ (Ao dU h22)<|gQ (Am dU cN [((BH (Xe.mk (X3.mk 0 0) 0) eQ eR).1).set])<|gQ (GK B1 Xe.D (Xe.mk (X3.mk 0 0) 0) eQ eR) ?_
 exact lB h [.live [11,13,22,23],.keep [11,13,23,117],.ren 117 22,.sort]
 exact lb h) h
theorem aYw(h:Xd cU cR cJ cK=some eV):AM Tryz.prog 12 [.d (AD.D cU),.d ((D.l X2.D) cR),.d (dW cJ),.d (dW cK)] [] (.tup [.d ((D.l dU) eV.1),.d (D.b eV.2)]) []:=by unfold Xd at h;apply g0 (o:=eV);refine gW 10032 (.mp (Cb (Dk:MP X3 Xe) (X3.mk cJ cK) (Xe.mk (X3.mk 0 0) 0)).clk (MP.dl X3.D Xe.D (Cb (Dk:MP X3 Xe) (X3.mk cJ cK) (Xe.mk (X3.mk 0 0) 0)))) ?_;obtain⟨r1,h1,h⟩:=bS h;refine gC 26 (aQx h1)<|gQ (Ah X3.D [X3.mk cJ cK])<|gQ (HY B1 Xe.D (Dk:MP X3 Xe) (X3.mk cJ cK) (Xe.mk (X3.mk 0 0) 0)) ?_;obtain⟨o12,h18,h⟩:=bS h;refine gL [.live [4,10,11,12,13,14,15],.keep [4,11,31,32],.ren 31 12,.ren 32 13,.sort] (aHd none h18) ?_;refine iB 99 h (fun h=>?_) fun h=>?_;exact lf h;refine xX 102 X3.D h fun x13 h=>?_;obtain⟨o14,h23,h⟩:=bS h;refine gL [.live [11,13,22,23],.keep [11,13,23],.nilw 22 22 49 1,.sort] (aHj none h23) ?_;obtain⟨r15,h24,h⟩:=bS h;refine gG 120 (.cx false [(0,22)] [] (.tup []) [rW 0 49 1 dU r15]) (bAx h24) ?_;exact lF h [.frz 22]
theorem aV4(h:Zv cU cR cJ cK=some d4):AM Tryz.prog 13 [.d (AD.D cU),.d ((D.l X2.D) cR),.d (dW cJ),.d (dW cK)] [] (.d (D.b d4)) []:=by unfold Zv at h;apply g0 (o:=d4);obtain⟨r1,h1,h⟩:=bS h;refine gC 16 (aYw h1) ?_;exact lf h
theorem aNg(h:Zq=some d4):AM Tryz.prog 6 [] [] (.d (D.b d4)) []:=by unfold Zq at h;apply g0 (o:=d4);refine gQ (Ah Xg.D ([Xg.mk ([115]:List UInt8) false true,Xg.mk ([116]:List UInt8) false true])) ?_;obtain⟨r1,h1,h⟩:=bS h;refine gC 7 (aV3 h1) ?_;refine iB 9 h (fun h=>?_) fun h=>?_;obtain⟨r2,h3,h⟩:=bS h;refine gQ (aV4 h3) ?_;cases r2;replace h:=CL h;refine gW 11 (.ret (.d (D.b false))) ?_;exact lf h;replace h:=CM h;refine gW 11 (.ret (.d (D.b true))) ?_;obtain⟨r3,h5,h⟩:=bS h;refine gC 15 (aV4 h5) ?_;exact lf h;exact lf h
def ZT(s0:List X0)(w3:X0)(s5:Int):St:=⟨sp 48 0 [sD 0 (D.l X0.D) s0,bx 3,sI 5 s5],[cL 3 X0.D w3],[]⟩
def ZU(s0:List X0)(w3:X0)(o:Int):Ex×St:=(.exit 0,⟨sp 48 0 [sD 0 (D.l X0.D) s0,bx 3,sI 5 o],[cL 3 X0.D w3],[]⟩)
theorem aL5(rd:Option Nat)(h:aRw eW eX cJ=some cK):Lq 67 rd 28 (ZT eW eX cJ) ((ZU eW eX) cK):=
 lL (fun s:Int=>ZT eW eX s) (ZU eW eX) cJ (fun cJ o h=>by
 unfold I6 at h
 refine iB 11 h (fun h=>?_) fun h=>?_
 refine xX 16 X0.D h fun x1 h=>?_
 obtain⟨r2,h3,h⟩:=bS h
 refine gQ (aSh h3) ?_
 cases r2
 replace h:=CL h
 refine gW 18 (.ret (.d (D.b false))) ?_
 exact lb h
 replace h:=CM h
 refine gW 18 (.ret (.d (D.b true))) ?_
 exact lb h
 exact lb h) h
theorem TF(h:Yr eW eX=some eY):AM Tryz.prog 67 [.d ((D.l X0.D) eW),.d (X0.D eX)] [] (.d ((D.l X0.D) eY)) []:=by unfold Yr at h;apply g0 (o:=eY);refine gN 8 X0.D eW ?_;obtain⟨o3,h5,h⟩:=bS h;refine gl (aL5 none h5) ?_;refine iB 24 h (fun h=>?_) fun h=>?_;refine xX 28 X0.D h fun x4 h=>?_;refine iB 32 h (fun h=>?_) fun h=>?_;exact lf h;refine gQ (Ah X0.D ([]:List X0))<|gW 37 (.sl ((sub eW 0 o3).map X0.D))<|gW 38 (.sl ((([]:List X0)++(sub eW 0 o3)).map X0.D))<|gW 42 (.sl (((([]:List X0)++(sub eW 0 o3))++[eX]).map X0.D))<|gW 46 (.sl ((sub eW o3 (eW.length:Int)).map X0.D))<|gW 47 (.sl ((((([]:List X0)++(sub eW 0 o3))++[eX])++(sub eW o3 (eW.length:Int))).map X0.D)) ?_;obtain⟨h9,h⟩:=cS h;refine gQ (FU X0.D h9)<|gQ (Ah X0.D (sub eW 0 o3)) ?_;obtain⟨h10,h⟩:=cS h;refine gQ (Ao X0.D h10)<|gQ (Am X0.D ([]:List X0) (sub eW 0 o3))<|gQ (Ah X0.D [eX])<|gQ (Ah X0.D [eX]) ?_;obtain⟨h11,h⟩:=cS h;refine gQ (Ao X0.D h11)<|gQ (Am X0.D (([]:List X0)++(sub eW 0 o3)) [eX]) ?_;obtain⟨h12,h⟩:=cS h;refine gQ (FT X0.D h12)<|gQ (Ah X0.D (sub eW o3 (eW.length:Int))) ?_;obtain⟨h13,h⟩:=cS h;refine gQ (Ao X0.D h13)<|gQ (Am X0.D ((([]:List X0)++(sub eW 0 o3))++[eX]) (sub eW o3 (eW.length:Int))) ?_;exact lf h;refine gQ (Ah X0.D ([]:List X0))<|gW 37 (.sl ((sub eW 0 o3).map X0.D))<|gW 38 (.sl ((([]:List X0)++(sub eW 0 o3)).map X0.D))<|gW 42 (.sl (((([]:List X0)++(sub eW 0 o3))++[eX]).map X0.D))<|gW 46 (.sl ((sub eW o3 (eW.length:Int)).map X0.D))<|gW 47 (.sl ((((([]:List X0)++(sub eW 0 o3))++[eX])++(sub eW o3 (eW.length:Int))).map X0.D)) ?_;obtain⟨h14,h⟩:=cS h;refine gQ (FU X0.D h14)<|gQ (Ah X0.D (sub eW 0 o3)) ?_;obtain⟨h15,h⟩:=cS h;refine gQ (Ao X0.D h15)<|gQ (Am X0.D ([]:List X0) (sub eW 0 o3))<|gQ (Ah X0.D [eX])<|gQ (Ah X0.D [eX]) ?_;obtain⟨h16,h⟩:=cS h;refine gQ (Ao X0.D h16)<|gQ (Am X0.D (([]:List X0)++(sub eW 0 o3)) [eX]) ?_;obtain⟨h17,h⟩:=cS h;refine gQ (FT X0.D h17)<|gQ (Ah X0.D (sub eW o3 (eW.length:Int))) ?_;obtain⟨h18,h⟩:=cS h;refine gQ (Ao X0.D h18)<|gQ (Am X0.D ((([]:List X0)++(sub eW 0 o3))++[eX]) (sub eW o3 (eW.length:Int))) ?_;exact lf h
theorem aI6(rd:Option Nat)(h:WY cJ d4 cU=some eZ):Lq 66 rd 29 ⟨sp 56 0 [sI 1 cJ,bx 2,(5,.nil),sD 10 D.b d4],[cL 2 AD.D cU],[]⟩ (.normal,⟨sp 56 0 [sI 1 cJ,bx 2,rx 5],[cL 2 AD.D cU,(5,.row 57 4 (eZ.map X0.D))],[]⟩):=by unfold WY at h;apply g0 (o:=eZ);cases d4;replace h:=CL h;exact lP h [.live [1,2,5],.keep [2],.nil 5 5 57 4,.sort];replace h:=CM h;refine gQ (Ah X0.D ([X0.mk 3 0 ([]:List UInt8) false,X0.mk 3 0 ([]:List UInt8) true])) ?_;exact lP h [.live [1,2,5],.keep [2,13],.ren 13 5,.sort]
theorem QT(rd:Option Nat)(h:WZ cJ eW cK cM d4 cU f0=some eZ):Lq 66 rd 500883 ⟨sp 56 0 [sI 1 cJ,bx 2,sD 5 (D.l X0.D) eW,sI 6 cK,sI 7 cM,bx 8,sD 50 D.b d4],[cL 2 AD.D cU,cL 8 B0.D f0],[]⟩ (.normal,⟨sp 56 0 [sI 1 cJ,bx 2,sD 5 (D.l X0.D) eZ,sI 6 cK,sI 7 cM],[cL 2 AD.D cU],[]⟩):=by unfold WZ at h;apply g0 (o:=eZ);cases d4;replace h:=CL h;exact lp h;replace h:=CM h;obtain⟨r12,h20,h⟩:=bS h;refine gC 54 (TF h20) ?_;exact lp h
theorem aI8(rd:Option Nat)(h:aI7 cJ eW cK cM cU=some eZ):Lq 66 rd 62610 ⟨sp 56 0 [sI 1 cJ,bx 2,sD 5 (D.l X0.D) eW,sI 6 cK,sI 7 cM],[cL 2 AD.D cU],[]⟩ (.normal,⟨sp 56 0 [sI 1 cJ,bx 2,sD 5 (D.l X0.D) eZ,sI 6 cK,sI 7 cM],[cL 2 AD.D cU],[]⟩):=by unfold aI7 at h;apply g0 (o:=eZ);refine xX 35 X5.D h fun x10 h=>?_;refine xX 39 B0.D h fun x11 h=>?_;refine iB 44 h (fun h=>?_) fun h=>?_;obtain⟨o13,h21,h⟩:=bS h;refine gl (QT rd h21) ?_;exact lp h;obtain⟨o14,h22,h⟩:=bS h;refine gl (QT rd h22) ?_;exact lp h
def Wc(s1 s6:Int)(w2:AD)(s5:List X0)(s7:Int):St:=⟨sp 56 0 [sI 1 s1,bx 2,sD 5 (D.l X0.D) s5,sI 6 s6,sI 7 s7],[cL 2 AD.D w2],[]⟩
def Wd(s1 s6:Int)(w2:AD)(o:(List X0)):Ex×St:=(.exit 2,⟨sp 56 0 [sI 1 s1,bx 2,sD 5 (D.l X0.D) o,sI 6 s6],[cL 2 AD.D w2],[]⟩)
theorem aJb(rd:Option Nat)(h:aJa cJ cK cU eW cM=some eZ):Lq 66 rd 7826 (Wc cJ cK cU eW cM) ((Wd cJ cK cU) eZ):=
 lL (fun s:List X0×Int=>Wc cJ cK cU s.1 s.2) (Wd cJ cK cU) (eW,cM) (fun⟨eW,cM⟩ o h=>by
 unfold Io at h
 refine xX 25 X5.D h fun x17 h=>?_
 refine gN 28 B0.D x17.args ?_
 refine iB 29 h (fun h=>?_) fun h=>?_
 obtain⟨o18,h28,h⟩:=bS h
 refine gl (aI8 rd h28) ?_
 exact lb h
 exact lb h) h
def Wa(s1:Int)(w2:AD)(s5:List X0)(s6:Int):St:=⟨sp 56 0 [sI 1 s1,bx 2,sD 5 (D.l X0.D) s5,sI 6 s6],[cL 2 AD.D w2],[]⟩
def Wb(s1:Int)(w2:AD)(o:(List X0)):Ex×St:=(.exit 0,⟨sp 56 0 [sD 5 (D.l X0.D) o],[],[]⟩)
end Go.Ac
