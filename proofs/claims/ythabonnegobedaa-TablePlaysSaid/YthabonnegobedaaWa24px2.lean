/- Own work, printed: the functions compute these. -/
import Derived.Test.YthabonnegobedaaWa24px1
set_option linter.unusedVariables false
set_option linter.unusedSimpArgs false
namespace Go.Ac
open Go.Proofs
variable {cJ cK cM cN cO:Int}
variable {cP cZ:List Int}
variable {cQ:(List Int)}
variable {cR:Bool}
variable {cT:(Int×List Int)⊕Bool}
variable {cU:(List Int)⊕(Bool×List Int)}
variable {cV:Bool×List Int}
variable {cW:(Int×List Int)}
variable {cX:Int×List Int}
variable {cY:Int×Bool×List Int}
variable {d2:MP Int AB}
variable {d3:MP (List UInt8) Int}
variable {d4:List Int×Int×Int×MP Int AB×MP (List UInt8) Int}
variable {d5:AB×Bool×Int×Int×AB×MP Int AB×MP (List UInt8) Int}
variable {d6:List Xf}
variable {d7:Xb}
variable {d8:(Int×Int×MP Int AB×MP (List UInt8) Int)⊕Unit}
variable {d9:Unit⊕Unit}
def ML(us:List Value)(s1 s2:Int)(s7 s8:Int)(o:(List Int)):Ex×St:=(.exit 6,⟨sp 133 0 [rx 0,sI 1 s1,sI 2 s2,sI 7 s7,sI 8 s8],[rW 0 3 1 dZ o,(997,.vals [.row 0] us)],[]⟩)
theorem Q1(rd:Option Nat)(us:List Value)(h:Ix cJ cK cM cN cO cP=some cQ):Lq 64 rd 477690 (MK us cJ cK cM cN cO cP) ((ML us cJ cK cM cN) cQ):=
 lL (fun s:Int×List Int=>MK us cJ cK cM cN s.1 s.2) (ML us cJ cK cM cN) (cO,cP) (fun⟨cO,cP⟩ o h=>by
 unfold DI at h
 refine iB 103 h (fun h=>?_) fun h=>?_
 obtain⟨h40,h⟩:=cS h
 refine gQ h40.1<|gQ (AD dZ h40.2) ?_
 obtain⟨x14,h41,h⟩:=xS h
 refine gG 109 (.el (dZ x14)) (AF dZ h41) ?_
 obtain⟨h42,h⟩:=cS h
 refine gQ h42.1<|gQ (AD dZ h42.2) ?_
 obtain⟨x15,h43,h⟩:=xS h
 refine gG 114 (.el (dZ x15)) (AF dZ h43) ?_
 obtain⟨r16,h44,h⟩:=bS h
 refine gC 115 (Cj h44) ?_
 refine iB 116 h (fun h=>?_) fun h=>?_
 exact lb h
 obtain⟨h46,h⟩:=cS h
 refine gQ h46.1<|gQ (AD dZ h46.2) ?_
 obtain⟨x17,h47,h⟩:=xS h
 refine gG 126 (.el (dZ x17)) (AF dZ h47)<|gW 10131 (.sl ((cP.set cO.toNat x17).map dZ)) ?_
 obtain⟨h48,h⟩:=cS h
 refine gQ h48.1<|gQ (AD dZ h48.2) ?_
 obtain⟨x18,h49,h⟩:=xS h
 refine gG 130 (.el (dZ x18)) (AF dZ h49)<|gW 10132 (.sl (((cP.set cO.toNat x17).set (AA .sub .i64 cO 1).toNat x18).map dZ)) ?_
 obtain⟨h50,h⟩:=cS h
 refine gQ h50.1<|gQ (AD dZ h50.2) ?_
 obtain⟨h51,h⟩:=cS h
 refine gQ (Ar dZ h51)<|gQ (AP dZ cP cO x17) ?_
 obtain⟨h52,h⟩:=cS h
 refine gQ h52.1<|gQ (AD dZ h52.2) ?_
 obtain⟨h53,h⟩:=cS h
 refine gQ (Ar dZ h53)<|gQ (AP dZ (cP.set cO.toNat x17) (AA .sub .i64 cO 1) x18) ?_
 exact lb h
 exact lb h) h
theorem Qx(rd:Option Nat)(us:List Value)(h:Iu cJ cK cM cN cR cP=some cQ):Lq 64 rd 59711 ⟨sp 133 0 [rx 0,sI 1 cJ,sI 2 cK,sI 7 cM,sI 8 cN,sD 98 D.b cR],[rW 0 3 1 dZ cP,(997,.vals [.row 0] us)],[]⟩ (.normal,⟨sp 133 0 [rx 0,sI 1 cJ,sI 2 cK,sI 7 cM,sI 8 cN],[rW 0 3 1 dZ cQ,(997,.vals [.row 0] us)],[]⟩):=by unfold Iu at h;apply g0 (o:=cQ);cases cR;replace h:=CX h;exact lp h;replace h:=CY h;obtain⟨o19,h54,h⟩:=bS h;refine gl (Q1 rd us h54) ?_;exact lp h
theorem Qv(rd:Option Nat)(us:List Value)(h:LE cJ cK cM cN cP=some cT):Lq 64 rd 466 ⟨sp 133 0 [rx 0,sI 1 cJ,sI 2 cK,sI 7 cM,sI 8 cN],[rW 0 3 1 dZ cP,(997,.vals [.row 0] us)],[]⟩ (match (generalizing:=false) cT with
 | .inl cT=>(.normal,⟨sp 133 0 [rx 0,sI 1 cJ,sI 2 cK,sI 7 cT.1,sI 8 cN],[rW 0 3 1 dZ cT.2,(997,.vals [.row 0] us)],[]⟩)
 | .inr cT=>(.ret,⟨sp 133 0 [sD 6 D.b cT],[rW 0 3 1 dZ cP,(997,.vals [.row 0] us)],[]⟩)):=by
 unfold LE at h
 apply g0 (o:=cT)
 obtain⟨o4,h9,h⟩:=bS h
 refine gl (Qz rd us h9) ?_
 refine iB 37 h (fun h=>?_) fun h=>?_
 exact lp h
 refine iB 41 h (fun h=>?_) fun h=>?_
 exact lp h
 obtain⟨h12,h⟩:=cS h
 refine gQ h12.1<|gQ (AD dZ h12.2) ?_
 obtain⟨x5,h13,h⟩:=xS h
 refine gG 51 (.el (dZ x5)) (AF dZ h13)<|gW 10056 (.sl ((cP.set o4.toNat x5).map dZ)) ?_
 obtain⟨h14,h⟩:=cS h
 refine gQ h14.1<|gQ (AD dZ h14.2) ?_
 obtain⟨x6,h15,h⟩:=xS h
 refine gG 55 (.el (dZ x6)) (AF dZ h15)<|gW 10057 (.sl (((cP.set o4.toNat x5).set (AA .sub .i64 o4 1).toNat x6).map dZ)) ?_
 obtain⟨h16,h⟩:=cS h
 refine gQ h16.1<|gQ (AD dZ h16.2) ?_
 obtain⟨h17,h⟩:=cS h
 refine gQ (Ar dZ h17)<|gQ (AP dZ cP o4 x5) ?_
 obtain⟨h18,h⟩:=cS h
 refine gQ h18.1<|gQ (AD dZ h18.2) ?_
 obtain⟨h19,h⟩:=cS h
 refine gQ (Ar dZ h19)<|gQ (AP dZ (cP.set o4.toNat x5) (AA .sub .i64 o4 1) x6) ?_
 obtain⟨o13,h37,h⟩:=bS h
 refine gl (Qw rd us h37) ?_
 obtain⟨o20,h55,h⟩:=bS h
 refine gl (Qx rd us h55) ?_
 exact lp h
def ME(us:List Value)(s1 s2:Int)(s7 s8:Int)(w0:List Int):St:=⟨sp 133 0 [rx 0,sI 1 s1,sI 2 s2,sI 7 s7,sI 8 s8],[rW 0 3 1 dZ w0,(997,.vals [.row 0] us)],[]⟩
def MF(us:List Value)(s1 s2:Int)(o:(List Int)⊕(Bool×List Int)):Ex×St:=match o with
 | .inl o=>(.exit 0,⟨sp 133 0 [],[rW 0 3 1 dZ o,(997,.vals [.row 0] us)],[]⟩)
 | .inr o=>(.ret,⟨sp 133 0 [sD 6 D.b o.1],[rW 0 3 1 dZ o.2,(997,.vals [.row 0] us)],[]⟩)
theorem Qy(rd:Option Nat)(us:List Value)(h:Hq cJ cK cM cN cP=some cU):Lq 64 rd 58 (ME us cJ cK cM cN cP) ((MF us cJ cK) cU):=
 lL (fun s:Int×Int×List Int=>ME us cJ cK s.1 s.2.1 s.2.2) (MF us cJ cK) (cM,cN,cP) (fun⟨cM,cN,cP⟩ o h=>by
 unfold DF at h
 refine iB 14 h (fun h=>?_) fun h=>?_
 obtain⟨o21,h56,h⟩:=bS h
 refine gl (Qv rd us h56) ?_
 replace h:=AV h
 rcases h with⟨o22,rfl,h⟩|⟨o23,rfl,h⟩
 exact lb h
 exact lb h
 exact lb h) h
theorem YX(h:X2 cJ cK cP=some cV):AO Try.prog 64 [.row 0,dI cJ,dI cK] [rW 0 3 1 dZ cP] (.d (D.b cV.1)) [rW 0 3 1 dZ cV.2]:=by
 unfold X2 at h;refine XG.call (ks:=[0]) mixed fun us=>?_;apply g0 (o:=cV);obtain⟨o24,h57,h⟩:=bS h;refine gl (Qy none us h57) ?_;replace h:=AV h;rcases h with⟨o25,rfl,h⟩|⟨o26,rfl,h⟩
 exact lX h (lv [6] [0,997]);exact lX h (lv [6] [0,997])
def NF(us:List Value)(s1 s10:Int)(w0:List Int)(s9:Int):St:=⟨sp 84 0 [rx 0,sI 1 s1,sI 9 s9,sI 10 s10],[rW 0 3 1 dZ w0,(997,.vals [.row 0] us)],[]⟩
def NG(us:List Value)(s1 s10:Int)(w0:List Int)(o:Int):Ex×St:=(.exit 2,⟨sp 84 0 [rx 0,sI 1 s1,sI 9 o,sI 10 s10],[rW 0 3 1 dZ w0,(997,.vals [.row 0] us)],[]⟩)
theorem Rm(rd:Option Nat)(us:List Value)(h:I5 cJ cK cP cM=some cN):Lq 66 rd 960 (NF us cJ cK cP cM) ((NG us cJ cK cP) cN):=
 lL (fun s:Int=>NF us cJ cK cP s) (NG us cJ cK cP) cM (fun cM o h=>by
 unfold DM at h
 refine iB 32 h (fun h=>?_) fun h=>?_
 obtain⟨h10,h⟩:=cS h
 refine gQ h10.1<|gQ (AD dZ h10.2) ?_
 obtain⟨x3,h11,h⟩:=xS h
 refine gG 36 (.el (dZ x3)) (AF dZ h11) ?_
 obtain⟨h12,h⟩:=cS h
 refine gQ h12.1<|gQ (AD dZ h12.2) ?_
 obtain⟨x4,h13,h⟩:=xS h
 refine gG 40 (.el (dZ x4)) (AF dZ h13) ?_
 obtain⟨r5,h14,h⟩:=bS h
 refine gC 41 (Cj h14) ?_
 refine iB 43 h (fun h=>?_) fun h=>?_
 exact lb h
 exact lb h
 exact lb h) h
def NH(us:List Value)(s1 s9:Int)(w0:List Int)(s10:Int):St:=⟨sp 84 0 [rx 0,sI 1 s1,sI 9 s9,sI 10 s10],[rW 0 3 1 dZ w0,(997,.vals [.row 0] us)],[]⟩
def NI(us:List Value)(s1 s9:Int)(w0:List Int)(o:Int):Ex×St:=(.exit 4,⟨sp 84 0 [rx 0,sI 1 s1,sI 9 s9,sI 10 o],[rW 0 3 1 dZ w0,(997,.vals [.row 0] us)],[]⟩)
theorem Rn(rd:Option Nat)(us:List Value)(h:I6 cJ cK cP cM=some cN):Lq 66 rd 1924 (NH us cJ cK cP cM) ((NI us cJ cK cP) cN):=
 lL (fun s:Int=>NH us cJ cK cP s) (NI us cJ cK cP) cM (fun cM o h=>by
 unfold DN at h
 refine iB 49 h (fun h=>?_) fun h=>?_
 obtain⟨h18,h⟩:=cS h
 refine gQ h18.1<|gQ (AD dZ h18.2) ?_
 obtain⟨x7,h19,h⟩:=xS h
 refine gG 53 (.el (dZ x7)) (AF dZ h19) ?_
 obtain⟨h20,h⟩:=cS h
 refine gQ h20.1<|gQ (AD dZ h20.2) ?_
 obtain⟨x8,h21,h⟩:=xS h
 refine gG 57 (.el (dZ x8)) (AF dZ h21) ?_
 obtain⟨r9,h22,h⟩:=bS h
 refine gQ (Cj h22) ?_
 cases r9
 replace h:=CX h
 refine gW 58 (.ret (.d (D.b false))) ?_
 exact lb h
 replace h:=CY h
 refine gW 58 (.ret (.d (D.b true))) ?_
 exact lb h
 exact lb h) h
def ND(us:List Value)(s1 s9 s10:Int)(w0:List Int):St:=⟨sp 84 0 [rx 0,sI 1 s1,sI 9 s9,sI 10 s10],[rW 0 3 1 dZ w0,(997,.vals [.row 0] us)],[]⟩
def NE(us:List Value)(s1:Int)(o:(Int×List Int)):Ex×St:=(.exit 0,⟨sp 84 0 [sI 9 o.1],[rW 0 3 1 dZ o.2,(997,.vals [.row 0] us)],[]⟩)
theorem Rl(rd:Option Nat)(us:List Value)(h:I4 cJ cK cM cP=some cW):Lq 66 rd 60 (ND us cJ cK cM cP) ((NE us cJ) cW):=
 lL (fun s:Int×Int×List Int=>ND us cJ s.1 s.2.1 s.2.2) (NE us cJ) (cK,cM,cP) (fun⟨cK,cM,cP⟩ o h=>by
 unfold D7 at h
 obtain⟨o6,h16,h⟩:=bS h
 refine gl (Rm rd us h16) ?_
 obtain⟨o10,h24,h⟩:=bS h
 refine gl (Rn rd us h24) ?_
 refine iB 64 h (fun h=>?_) fun h=>?_
 exact lb h
 obtain⟨h26,h⟩:=cS h
 refine gQ h26.1<|gQ (AD dZ h26.2) ?_
 obtain⟨x11,h27,h⟩:=xS h
 refine gG 72 (.el (dZ x11)) (AF dZ h27)<|gW 10077 (.sl ((cP.set o6.toNat x11).map dZ)) ?_
 obtain⟨h28,h⟩:=cS h
 refine gQ h28.1<|gQ (AD dZ h28.2) ?_
 obtain⟨x12,h29,h⟩:=xS h
 refine gG 76 (.el (dZ x12)) (AF dZ h29)<|gW 10078 (.sl (((cP.set o6.toNat x11).set o10.toNat x12).map dZ)) ?_
 obtain⟨h30,h⟩:=cS h
 refine gQ h30.1<|gQ (AD dZ h30.2) ?_
 obtain⟨h31,h⟩:=cS h
 refine gQ (Ar dZ h31)<|gQ (AP dZ cP o6 x11) ?_
 obtain⟨h32,h⟩:=cS h
 refine gQ h32.1<|gQ (AD dZ h32.2) ?_
 obtain⟨h33,h⟩:=cS h
 refine gQ (Ar dZ h33)<|gQ (AP dZ (cP.set o6.toNat x11) o10 x12) ?_
 exact lb h) h
theorem Uw(h:Xa cJ cK cM cP=some cX):AO Try.prog 66 [.row 0,dI cJ,dI cK,dI cM] [rW 0 3 1 dZ cP] (dI cX.1) [rW 0 3 1 dZ cX.2]:=by unfold Xa at h;refine XG.call (ks:=[0]) mixed fun us=>?_;apply g0 (o:=cX);obtain⟨h1,h⟩:=cS h;refine gQ h1.1<|gQ (AD dZ h1.2) ?_;obtain⟨x1,h2,h⟩:=xS h;refine gG 18 (.el (dZ x1)) (AF dZ h2)<|gW 10023 (.sl ((cP.set cJ.toNat x1).map dZ)) ?_;obtain⟨h3,h⟩:=cS h;refine gQ h3.1<|gQ (AD dZ h3.2) ?_;obtain⟨x2,h4,h⟩:=xS h;refine gG 22 (.el (dZ x2)) (AF dZ h4)<|gW 10024 (.sl (((cP.set cJ.toNat x1).set cM.toNat x2).map dZ)) ?_;obtain⟨h5,h⟩:=cS h;refine gQ h5.1<|gQ (AD dZ h5.2) ?_;obtain⟨h6,h⟩:=cS h;refine gQ (Ar dZ h6)<|gQ (AP dZ cP cJ x1) ?_;obtain⟨h7,h⟩:=cS h;refine gQ h7.1<|gQ (AD dZ h7.2) ?_;obtain⟨h8,h⟩:=cS h;refine gQ (Ar dZ h8)<|gQ (AP dZ (cP.set cJ.toNat x1) cM x2) ?_;obtain⟨o13,h34,h⟩:=bS h;refine gl (Rl none us h34) ?_;exact lX h (lv [8] [0,997])
def MM(us:List Value)(s1 s11:Int)(w0:List Int)(s10:Int):St:=⟨sp 168 0 [rx 0,sI 1 s1,sI 10 s10,sI 11 s11],[rW 0 3 1 dZ w0,(997,.vals [.row 0] us)],[]⟩
def MN(us:List Value)(s1 s11:Int)(w0:List Int)(o:Int):Ex×St:=(.exit 0,⟨sp 168 0 [rx 0,sI 1 s1,sI 10 o,sI 11 s11],[rW 0 3 1 dZ w0,(997,.vals [.row 0] us)],[]⟩)
theorem Q2(rd:Option Nat)(us:List Value)(h:Hr cJ cK cP cM=some cN):Lq 67 rd 60 (MM us cJ cK cP cM) ((MN us cJ cK cP) cN):=
 lL (fun s:Int=>MM us cJ cK cP s) (MN us cJ cK cP) cM (fun cM o h=>by
 unfold DJ at h
 refine iB 33 h (fun h=>?_) fun h=>?_
 obtain⟨h10,h⟩:=cS h
 refine gQ h10.1<|gQ (AD dZ h10.2) ?_
 obtain⟨x3,h11,h⟩:=xS h
 refine gG 37 (.el (dZ x3)) (AF dZ h11) ?_
 obtain⟨h12,h⟩:=cS h
 refine gQ h12.1<|gQ (AD dZ h12.2) ?_
 obtain⟨x4,h13,h⟩:=xS h
 refine gG 41 (.el (dZ x4)) (AF dZ h13) ?_
 obtain⟨r5,h14,h⟩:=bS h
 refine gQ (Cj h14) ?_
 cases r5
 replace h:=CX h
 refine gW 42 (.ret (.d (D.b false))) ?_
 exact lb h
 replace h:=CY h
 refine gW 42 (.ret (.d (D.b true))) ?_
 exact lb h
 exact lb h) h
def MO(us:List Value)(s1 s10:Int)(w0:List Int)(s11:Int):St:=⟨sp 168 0 [rx 0,sI 1 s1,sI 10 s10,sI 11 s11],[rW 0 3 1 dZ w0,(997,.vals [.row 0] us)],[]⟩
def MQ(us:List Value)(s1 s10:Int)(w0:List Int)(o:Int):Ex×St:=(.exit 2,⟨sp 168 0 [rx 0,sI 1 s1,sI 10 s10,sI 11 o],[rW 0 3 1 dZ w0,(997,.vals [.row 0] us)],[]⟩)
theorem Q3(rd:Option Nat)(us:List Value)(h:Hs cJ cK cP cM=some cN):Lq 67 rd 124 (MO us cJ cK cP cM) ((MQ us cJ cK cP) cN):=
 lL (fun s:Int=>MO us cJ cK cP s) (MQ us cJ cK cP) cM (fun cM o h=>by
 unfold DK at h
 refine iB 49 h (fun h=>?_) fun h=>?_
 obtain⟨h18,h⟩:=cS h
 refine gQ h18.1<|gQ (AD dZ h18.2) ?_
 obtain⟨x7,h19,h⟩:=xS h
 refine gG 53 (.el (dZ x7)) (AF dZ h19) ?_
 obtain⟨h20,h⟩:=cS h
 refine gQ h20.1<|gQ (AD dZ h20.2) ?_
 obtain⟨x8,h21,h⟩:=xS h
 refine gG 57 (.el (dZ x8)) (AF dZ h21) ?_
 obtain⟨r9,h22,h⟩:=bS h
 refine gC 58 (Cj h22) ?_
 refine iB 60 h (fun h=>?_) fun h=>?_
 exact lb h
 exact lb h
 exact lb h) h
def MU(us:List Value)(s1 s11:Int)(w0:List Int)(s10:Int):St:=⟨sp 168 0 [rx 0,sI 1 s1,sI 10 s10,sI 11 s11],[rW 0 3 1 dZ w0,(997,.vals [.row 0] us)],[]⟩
def MV(us:List Value)(s1 s11:Int)(w0:List Int)(o:Int):Ex×St:=(.exit 6,⟨sp 168 0 [rx 0,sI 1 s1,sI 10 o,sI 11 s11],[rW 0 3 1 dZ w0,(997,.vals [.row 0] us)],[]⟩)
theorem Q6(rd:Option Nat)(us:List Value)(h:MT cJ cK cP cM=some cN):Lq 67 rd 65472 (MU us cJ cK cP cM) ((MV us cJ cK cP) cN):=
 lL (fun s:Int=>MU us cJ cK cP s) (MV us cJ cK cP) cM (fun cM o h=>by
 unfold Gj at h
 refine iB 102 h (fun h=>?_) fun h=>?_
 obtain⟨h43,h⟩:=cS h
 refine gQ h43.1<|gQ (AD dZ h43.2) ?_
 obtain⟨x15,h44,h⟩:=xS h
 refine gG 106 (.el (dZ x15)) (AF dZ h44) ?_
 obtain⟨h45,h⟩:=cS h
 refine gQ h45.1<|gQ (AD dZ h45.2) ?_
 obtain⟨x16,h46,h⟩:=xS h
 refine gG 110 (.el (dZ x16)) (AF dZ h46) ?_
 obtain⟨r17,h47,h⟩:=bS h
 refine gQ (Cj h47) ?_
 cases r17
 replace h:=CX h
 refine gW 111 (.ret (.d (D.b false))) ?_
 exact lb h
 replace h:=CY h
 refine gW 111 (.ret (.d (D.b true))) ?_
 exact lb h
 exact lb h) h
def MX(us:List Value)(s1 s10:Int)(w0:List Int)(s11:Int):St:=⟨sp 168 0 [rx 0,sI 1 s1,sI 10 s10,sI 11 s11],[rW 0 3 1 dZ w0,(997,.vals [.row 0] us)],[]⟩
def MY(us:List Value)(s1 s10:Int)(w0:List Int)(o:Int):Ex×St:=(.exit 8,⟨sp 168 0 [rx 0,sI 1 s1,sI 10 s10,sI 11 o],[rW 0 3 1 dZ w0,(997,.vals [.row 0] us)],[]⟩)
theorem Q7(rd:Option Nat)(us:List Value)(h:MW cJ cK cP cM=some cN):Lq 67 rd 130948 (MX us cJ cK cP cM) ((MY us cJ cK cP) cN):=
 lL (fun s:Int=>MX us cJ cK cP s) (MY us cJ cK cP) cM (fun cM o h=>by
 unfold Gk at h
 refine iB 118 h (fun h=>?_) fun h=>?_
 obtain⟨h51,h⟩:=cS h
 refine gQ h51.1<|gQ (AD dZ h51.2) ?_
 obtain⟨x19,h52,h⟩:=xS h
 refine gG 122 (.el (dZ x19)) (AF dZ h52) ?_
 obtain⟨h53,h⟩:=cS h
 refine gQ h53.1<|gQ (AD dZ h53.2) ?_
 obtain⟨x20,h54,h⟩:=xS h
 refine gG 126 (.el (dZ x20)) (AF dZ h54) ?_
 obtain⟨r21,h55,h⟩:=bS h
 refine gC 127 (Cj h55) ?_
 refine iB 129 h (fun h=>?_) fun h=>?_
 exact lb h
 exact lb h
 exact lb h) h
def MR(us:List Value)(s1 s10 s11:Int)(w0:List Int):St:=⟨sp 168 0 [rx 0,sI 1 s1,sI 10 s10,sI 11 s11],[rW 0 3 1 dZ w0,(997,.vals [.row 0] us)],[]⟩
def MS(us:List Value)(s1:Int)(o:(Int×List Int)):Ex×St:=(.exit 4,⟨sp 168 0 [rx 0,sI 1 s1,sI 11 o.1],[rW 0 3 1 dZ o.2,(997,.vals [.row 0] us)],[]⟩)
theorem Q5(rd:Option Nat)(us:List Value)(h:Iy cJ cK cM cP=some cW):Lq 67 rd 4092 (MR us cJ cK cM cP) ((MS us cJ) cW):=
 lL (fun s:Int×Int×List Int=>MR us cJ s.1 s.2.1 s.2.2) (MS us cJ) (cK,cM,cP) (fun⟨cK,cM,cP⟩ o h=>by
 unfold D5 at h
 obtain⟨o18,h49,h⟩:=bS h
 refine gl (Q6 rd us h49) ?_
 obtain⟨o22,h57,h⟩:=bS h
 refine gl (Q7 rd us h57) ?_
 refine iB 134 h (fun h=>?_) fun h=>?_
 exact lb h
 obtain⟨h59,h⟩:=cS h
 refine gQ h59.1<|gQ (AD dZ h59.2) ?_
 obtain⟨x23,h60,h⟩:=xS h
 refine gG 142 (.el (dZ x23)) (AF dZ h60)<|gW 10147 (.sl ((cP.set o18.toNat x23).map dZ)) ?_
 obtain⟨h61,h⟩:=cS h
 refine gQ h61.1<|gQ (AD dZ h61.2) ?_
 obtain⟨x24,h62,h⟩:=xS h
 refine gG 146 (.el (dZ x24)) (AF dZ h62)<|gW 10148 (.sl (((cP.set o18.toNat x23).set o22.toNat x24).map dZ)) ?_
 obtain⟨h63,h⟩:=cS h
 refine gQ h63.1<|gQ (AD dZ h63.2) ?_
 obtain⟨h64,h⟩:=cS h
 refine gQ (Ar dZ h64)<|gQ (AP dZ cP o18 x23) ?_
 obtain⟨h65,h⟩:=cS h
 refine gQ h65.1<|gQ (AD dZ h65.2) ?_
 obtain⟨h66,h⟩:=cS h
 refine gQ (Ar dZ h66)<|gQ (AP dZ (cP.set o18.toNat x23) o22 x24) ?_
 exact lb h) h
theorem LF(h:X3 cJ cK cM cP=some cY):AO Try.prog 67 [.row 0,dI cJ,dI cK,dI cM] [rW 0 3 1 dZ cP] (.tup [dI cY.1,.d (D.b cY.2.1)]) [rW 0 3 1 dZ cY.2.2]:=by unfold X3 at h;refine XG.call (ks:=[0]) mixed fun us=>?_;apply g0 (o:=cY);obtain⟨h1,h⟩:=cS h;refine gQ h1.1<|gQ (AD dZ h1.2) ?_;obtain⟨x1,h2,h⟩:=xS h;refine gG 19 (.el (dZ x1)) (AF dZ h2)<|gW 10024 (.sl ((cP.set cJ.toNat x1).map dZ)) ?_;obtain⟨h3,h⟩:=cS h;refine gQ h3.1<|gQ (AD dZ h3.2) ?_;obtain⟨x2,h4,h⟩:=xS h;refine gG 23 (.el (dZ x2)) (AF dZ h4)<|gW 10025 (.sl (((cP.set cJ.toNat x1).set cM.toNat x2).map dZ)) ?_;obtain⟨h5,h⟩:=cS h;refine gQ h5.1<|gQ (AD dZ h5.2) ?_;obtain⟨h6,h⟩:=cS h;refine gQ (Ar dZ h6)<|gQ (AP dZ cP cJ x1) ?_;obtain⟨h7,h⟩:=cS h;refine gQ h7.1<|gQ (AD dZ h7.2) ?_;obtain⟨h8,h⟩:=cS h;refine gQ (Ar dZ h8)<|gQ (AP dZ (cP.set cJ.toNat x1) cM x2) ?_;obtain⟨o6,h16,h⟩:=bS h;refine gl (Q2 none us h16) ?_;obtain⟨o10,h24,h⟩:=bS h;refine gl (Q3 none us h24) ?_;refine iB 65 h (fun h=>?_) fun h=>?_;obtain⟨h26,h⟩:=cS h;refine gQ h26.1<|gQ (AD dZ h26.2) ?_;obtain⟨x11,h27,h⟩:=xS h;refine gG 73 (.el (dZ x11)) (AF dZ h27)<|gW 10078 (.sl ((((cP.set cJ.toNat x1).set cM.toNat x2).set o10.toNat x11).map dZ)) ?_;obtain⟨h28,h⟩:=cS h;refine gQ h28.1<|gQ (AD dZ h28.2) ?_;obtain⟨x12,h29,h⟩:=xS h;refine gG 77 (.el (dZ x12)) (AF dZ h29)<|gW 10079 (.sl (((((cP.set cJ.toNat x1).set cM.toNat x2).set o10.toNat x11).set cJ.toNat x12).map dZ)) ?_;obtain⟨h30,h⟩:=cS h;refine gQ h30.1<|gQ (AD dZ h30.2) ?_;obtain⟨h31,h⟩:=cS h;refine gQ (Ar dZ h31)<|gQ (AP dZ ((cP.set cJ.toNat x1).set cM.toNat x2) o10 x11) ?_;obtain⟨h32,h⟩:=cS h;refine gQ h32.1<|gQ (AD dZ h32.2) ?_;obtain⟨h33,h⟩:=cS h;refine gQ (Ar dZ h33)<|gQ (AP dZ (((cP.set cJ.toNat x1).set cM.toNat x2).set o10.toNat x11) cJ x12) ?_;exact lX h (lv [8,9] [0,997]);obtain⟨h34,h⟩:=cS h;refine gQ h34.1<|gQ (AD dZ h34.2) ?_;obtain⟨x13,h35,h⟩:=xS h;refine gG 88 (.el (dZ x13)) (AF dZ h35)<|gW 10093 (.sl ((((cP.set cJ.toNat x1).set cM.toNat x2).set o6.toNat x13).map dZ)) ?_;obtain⟨h36,h⟩:=cS h;refine gQ h36.1<|gQ (AD dZ h36.2) ?_;obtain⟨x14,h37,h⟩:=xS h;refine gG 92 (.el (dZ x14)) (AF dZ h37)<|gW 10094 (.sl (((((cP.set cJ.toNat x1).set cM.toNat x2).set o6.toNat x13).set o10.toNat x14).map dZ)) ?_;obtain⟨h38,h⟩:=cS h;refine gQ h38.1<|gQ (AD dZ h38.2) ?_;obtain⟨h39,h⟩:=cS h;refine gQ (Ar dZ h39)<|gQ (AP dZ ((cP.set cJ.toNat x1).set cM.toNat x2) o6 x13) ?_;obtain⟨h40,h⟩:=cS h;refine gQ h40.1<|gQ (AD dZ h40.2) ?_;obtain⟨h41,h⟩:=cS h;refine gQ (Ar dZ h41)<|gQ (AP dZ (((cP.set cJ.toNat x1).set cM.toNat x2).set o6.toNat x13) o10 x14) ?_;obtain⟨o25,h67,h⟩:=bS h;refine gl (Q5 none us h67) ?_;obtain⟨h68,h⟩:=cS h;refine gQ h68.1<|gQ (AD dZ h68.2) ?_;obtain⟨x26,h69,h⟩:=xS h;refine gG 160 (.el (dZ x26)) (AF dZ h69)<|gW 10165 (.sl ((o25.2.set o25.1.toNat x26).map dZ)) ?_;obtain⟨h70,h⟩:=cS h;refine gQ h70.1<|gQ (AD dZ h70.2) ?_;obtain⟨x27,h71,h⟩:=xS h;refine gG 164 (.el (dZ x27)) (AF dZ h71)<|gW 10166 (.sl (((o25.2.set o25.1.toNat x26).set cJ.toNat x27).map dZ)) ?_;obtain⟨h72,h⟩:=cS h;refine gQ h72.1<|gQ (AD dZ h72.2) ?_;obtain⟨h73,h⟩:=cS h;refine gQ (Ar dZ h73)<|gQ (AP dZ o25.2 o25.1 x26) ?_;obtain⟨h74,h⟩:=cS h;refine gQ h74.1<|gQ (AD dZ h74.2) ?_;obtain⟨h75,h⟩:=cS h;refine gQ (Ar dZ h75)<|gQ (AP dZ (o25.2.set o25.1.toNat x26) cJ x27) ?_;exact lX h (lv [8,9] [0,997])
theorem RZ(rd:Option Nat)(self:Int->Int->Int->(List Int)->Option (List Int))(hs:∀(a1 a2 a3:Int) (w0 r:List Int),self a1 a2 a3 w0=some r->AO Try.prog 45 [.row 0,dI a1,dI a2,dI a3] [rW 0 3 1 dZ w0] (.tup []) [rW 0 3 1 dZ r])(us:List Value){s1 s2 s3:Int}{s8 s9:Bool}{s10:Int}{s35:Bool}{w0:List Int}{o:(Int×List Int)}(h:I0 self s1 s2 s3 s8 s9 s10 s35 w0=some o):Lq 45 rd 1821 ⟨sp 134 0 [rx 0,sI 1 s1,sI 2 s2,sI 3 s3,sD 8 D.b s8,sD 9 D.b s9,sI 10 s10,sD 35 D.b s35],[rW 0 3 1 dZ w0,(997,.vals [.row 0] us)],[]⟩ (.normal,⟨sp 134 0 [rx 0,sI 1 s1,sI 2 s2,sI 3 o.1,sD 8 D.b s8,sD 9 D.b s9,sI 10 s10],[rW 0 3 1 dZ o.2,(997,.vals [.row 0] us)],[]⟩):=by unfold I0 at h;apply g0 (o:=o);cases s35;replace h:=CX h;exact lp h;replace h:=CY h;obtain⟨r3,h6,h⟩:=bS h;refine gG 39 (.cx false [(0,0)] [] (.tup []) [rW 0 3 1 dZ r3]) (ZC h6) ?_;exact lp h
theorem Ra(rd:Option Nat)(self:Int->Int->Int->(List Int)->Option (List Int))(hs:∀(a1 a2 a3:Int) (w0 r:List Int),self a1 a2 a3 w0=some r->AO Try.prog 45 [.row 0,dI a1,dI a2,dI a3] [rW 0 3 1 dZ w0] (.tup []) [rW 0 3 1 dZ r])(us:List Value){s1 s2 s3:Int}{s8 s9:Bool}{s10 s11 s12:Int}{s50:Bool}{w0:List Int}{o:(Int×Int×List Int)}(h:I1 self s1 s2 s3 s8 s9 s10 s11 s12 s50 w0=some o):Lq 45 rd 7293 ⟨sp 134 0 [rx 0,sI 1 s1,sI 2 s2,sI 3 s3,sD 8 D.b s8,sD 9 D.b s9,sI 10 s10,sI 11 s11,sI 12 s12,sD 50 D.b s50],[rW 0 3 1 dZ w0,(997,.vals [.row 0] us)],[]⟩ (.normal,⟨sp 134 0 [rx 0,sI 1 s1,sI 2 s2,sI 3 s3,sD 8 D.b s8,sD 9 D.b s9,sI 10 s10,sI 11 o.1,sI 12 o.2.1],[rW 0 3 1 dZ o.2.2,(997,.vals [.row 0] us)],[]⟩):=by unfold I1 at h;apply g0 (o:=o);cases s50;replace h:=CX h;exact lp h;replace h:=CY h;obtain⟨r6,h10,h⟩:=bS h;refine gG 54 (.cx false [(0,0)] [] (.tup []) [rW 0 3 1 dZ r6]) (ZS h10) ?_;exact lp h
theorem Gw(rd:Option Nat)(self:Int->Int->Int->(List Int)->Option (List Int))(hs:∀(a1 a2 a3:Int) (w0 r:List Int),self a1 a2 a3 w0=some r->AO Try.prog 45 [.row 0,dI a1,dI a2,dI a3] [rW 0 3 1 dZ w0] (.tup []) [rW 0 3 1 dZ r])(us:List Value){s1 s2 s3:Int}{s8 s9:Bool}{s10 s11:Int}{s68:Bool}{w0:List Int}{o:(List Int)⊕(List Int)}(h:Fz self s1 s2 s3 s8 s9 s10 s11 s68 w0=some o):Lq 45 rd 14589 ⟨sp 134 0 [rx 0,sI 1 s1,sI 2 s2,sI 3 s3,sD 8 D.b s8,sD 9 D.b s9,sI 10 s10,sI 11 s11,sD 68 D.b s68],[rW 0 3 1 dZ w0,(997,.vals [.row 0] us)],[]⟩ (match (generalizing:=false) o with
 | .inl o=>(.normal,⟨sp 134 0 [rx 0,sI 1 s1,sI 2 s2,sI 3 s3,sD 8 D.b s8,sD 9 D.b s9,sI 10 s10,sI 11 s11],[rW 0 3 1 dZ o,(997,.vals [.row 0] us)],[]⟩)
 | .inr o=>(.ret,⟨sp 134 0 [],[rW 0 3 1 dZ o,(997,.vals [.row 0] us)],[]⟩)):=by
 unfold Fz at h
 apply g0 (o:=o)
 cases s68
 replace h:=CX h
 exact lp h
 replace h:=CY h
 obtain⟨r8,h15,h⟩:=bS h
 refine gQ (YX h15) ?_
 rcases r8 with⟨r8_1,r8_2⟩
 cases r8_1
 replace h:=CX h
 refine gW 72 (.cx false [(0,0)] [] (.d (D.b false)) [rW 0 3 1 dZ r8_2]) ?_
 exact lp h
 replace h:=CY h
 refine gW 72 (.cx false [(0,0)] [] (.d (D.b true)) [rW 0 3 1 dZ r8_2]) ?_
 exact lp h
theorem Cv(rd:Option Nat)(self:Int->Int->Int->(List Int)->Option (List Int))(hs:∀(a1 a2 a3:Int) (w0 r:List Int),self a1 a2 a3 w0=some r->AO Try.prog 45 [.row 0,dI a1,dI a2,dI a3] [rW 0 3 1 dZ w0] (.tup []) [rW 0 3 1 dZ r])(us:List Value){s1 s2 s3:Int}{s9:Bool}{s14 s16:Int}{s17 s18:Int}{s113:Bool}{w0:List Int}{o:(Int×Int×Bool×List Int)}(h:DL self s1 s2 s3 s9 s14 s16 s17 s18 s113 w0=some o):Lq 45 rd 466943 ⟨sp 134 0 [rx 0,sI 1 s1,sI 2 s2,sI 3 s3,sD 9 D.b s9,sI 14 s14,sI 16 s16,sI 17 s17,sI 18 s18,sD 113 D.b s113],[rW 0 3 1 dZ w0,(997,.vals [.row 0] us)],[]⟩ (.normal,⟨sp 134 0 [rx 0,sI 1 o.1,sI 2 o.2.1,sI 3 s3,sD 8 D.b o.2.2.1,sD 9 D.b s9],[rW 0 3 1 dZ o.2.2.2,(997,.vals [.row 0] us)],[]⟩):=by unfold DL at h;apply g0 (o:=o);cases s113;replace h:=CX h;obtain⟨r18,h29,h⟩:=bS h;refine gG 132 (.cx false [(0,0)] [] (.tup []) [rW 0 3 1 dZ r18]) (hs (AA .add .i64 s14 1) s2 s3 w0 r18 h29) ?_;exact lp h;replace h:=CY h;obtain⟨r17,h28,h⟩:=bS h;refine gG 121 (.cx false [(0,0)] [] (.tup []) [rW 0 3 1 dZ r17]) (hs s1 s14 s3 w0 r17 h28) ?_;exact lp h
theorem RY(rd:Option Nat)(self:Int->Int->Int->(List Int)->Option (List Int))(hs:∀(a1 a2 a3:Int) (w0 r:List Int),self a1 a2 a3 w0=some r->AO Try.prog 45 [.row 0,dI a1,dI a2,dI a3] [rW 0 3 1 dZ w0] (.tup []) [rW 0 3 1 dZ r])(us:List Value){s1 s2 s3:Int}{s8 s9:Bool}{w0:List Int}{o:(Int×Int×Int×Bool×Bool×List Int)⊕(List Int)}(h:Iz self s1 s2 s3 s8 s9 w0=some o):Lq 45 rd 28 ⟨sp 134 0 [rx 0,sI 1 s1,sI 2 s2,sI 3 s3,sD 8 D.b s8,sD 9 D.b s9],[rW 0 3 1 dZ w0,(997,.vals [.row 0] us)],[]⟩ (match (generalizing:=false) o with
 | .inl o=>(.normal,⟨sp 134 0 [rx 0,sI 1 o.1,sI 2 o.2.1,sI 3 o.2.2.1,sD 8 D.b o.2.2.2.1,sD 9 D.b o.2.2.2.2.1],[rW 0 3 1 dZ o.2.2.2.2.2,(997,.vals [.row 0] us)],[]⟩)
 | .inr o=>(.ret,⟨sp 134 0 [],[rW 0 3 1 dZ o,(997,.vals [.row 0] us)],[]⟩)):=by
 unfold Iz at h
 apply g0 (o:=o)
 refine iB 23 h (fun h=>?_) fun h=>?_
 obtain⟨r1,h2,h⟩:=bS h
 refine gG 27 (.cx false [(0,0)] [] (.tup []) [rW 0 3 1 dZ r1]) (ZB h2) ?_
 exact lp h
 refine iB 29 h (fun h=>?_) fun h=>?_
 obtain⟨r2,h4,h⟩:=bS h
 refine gG 33 (.cx false [(0,0)] [] (.tup []) [rW 0 3 1 dZ r2]) (ZF h4) ?_
 exact lp h
 obtain⟨o4,h7,h⟩:=bS h
 refine gl (RZ rd self hs us h7) ?_
 obtain⟨r5,h8,h⟩:=bS h
 refine gG 46 (.lend [0] (.tup [dI r5.1,dI r5.2])) (ZY h8) ?_
 obtain⟨o7,h11,h⟩:=bS h
 refine gl (Ra rd self hs us h11) ?_
 refine iB 62 h (fun h=>?_) fun h=>?_
 refine iB 65 h (fun h=>?_) fun h=>?_
 obtain⟨o9,h17,h⟩:=bS h
 refine gl (Gw rd self hs us h17) ?_
 replace h:=AV h
 rcases h with⟨o10,rfl,h⟩|⟨o11,rfl,h⟩
 refine iB 75 h (fun h=>?_) fun h=>?_
 obtain⟨h19,h⟩:=cS h
 refine gQ h19.1<|gQ (AD dZ h19.2) ?_
 obtain⟨x12,h20,h⟩:=xS h
 refine gG 80 (.el (dZ x12)) (AF dZ h20) ?_
 obtain⟨h21,h⟩:=cS h
 refine gQ h21.1<|gQ (AD dZ h21.2) ?_
 obtain⟨x13,h22,h⟩:=xS h
 refine gG 84 (.el (dZ x13)) (AF dZ h22) ?_
 obtain⟨r14,h23,h⟩:=bS h
 refine gC 85 (Cj h23) ?_
 refine iB 87 h (fun h=>?_) fun h=>?_
 obtain⟨r15,h25,h⟩:=bS h
 refine gG 92 (.cx false [(0,0)] [] (dI r15.1) [rW 0 3 1 dZ r15.2]) (Uw h25) ?_
 exact lp h
 obtain⟨r16,h26,h⟩:=bS h
 refine gG 99 (.cx false [(0,0)] [] (.tup [dI r16.1,.d (D.b r16.2.1)]) [rW 0 3 1 dZ r16.2.2]) (LF h26)<|gQ (of_decide_eq_true rfl:(8:Int)≠0) ?_
 obtain⟨o19,h30,h⟩:=bS h
 refine gl (Cv rd self hs us h30) ?_
 exact lp h
 obtain⟨r20,h31,h⟩:=bS h
 refine gG 99 (.cx false [(0,0)] [] (.tup [dI r20.1,.d (D.b r20.2.1)]) [rW 0 3 1 dZ r20.2.2]) (LF h31)<|gQ (of_decide_eq_true rfl:(8:Int)≠0) ?_
 obtain⟨o21,h32,h⟩:=bS h
 refine gl (Cv rd self hs us h32) ?_
 exact lp h
 exact lp h
 obtain⟨o22,h33,h⟩:=bS h
 refine gl (Gw rd self hs us h33) ?_
 replace h:=AV h
 rcases h with⟨o23,rfl,h⟩|⟨o24,rfl,h⟩
 refine iB 75 h (fun h=>?_) fun h=>?_
 obtain⟨h35,h⟩:=cS h
 refine gQ h35.1<|gQ (AD dZ h35.2) ?_
 obtain⟨x25,h36,h⟩:=xS h
 refine gG 80 (.el (dZ x25)) (AF dZ h36) ?_
 obtain⟨h37,h⟩:=cS h
 refine gQ h37.1<|gQ (AD dZ h37.2) ?_
 obtain⟨x26,h38,h⟩:=xS h
 refine gG 84 (.el (dZ x26)) (AF dZ h38) ?_
 obtain⟨r27,h39,h⟩:=bS h
 refine gC 85 (Cj h39) ?_
 refine iB 87 h (fun h=>?_) fun h=>?_
 obtain⟨r28,h41,h⟩:=bS h
 refine gG 92 (.cx false [(0,0)] [] (dI r28.1) [rW 0 3 1 dZ r28.2]) (Uw h41) ?_
 exact lp h
 obtain⟨r29,h42,h⟩:=bS h
 refine gG 99 (.cx false [(0,0)] [] (.tup [dI r29.1,.d (D.b r29.2.1)]) [rW 0 3 1 dZ r29.2.2]) (LF h42)<|gQ (of_decide_eq_true rfl:(8:Int)≠0) ?_
 obtain⟨o30,h43,h⟩:=bS h
 refine gl (Cv rd self hs us h43) ?_
 exact lp h
 obtain⟨r31,h44,h⟩:=bS h
 refine gG 99 (.cx false [(0,0)] [] (.tup [dI r31.1,.d (D.b r31.2.1)]) [rW 0 3 1 dZ r31.2.2]) (LF h44)<|gQ (of_decide_eq_true rfl:(8:Int)≠0) ?_
 obtain⟨o32,h45,h⟩:=bS h
 refine gl (Cv rd self hs us h45) ?_
 exact lp h
 exact lp h
 obtain⟨o33,h46,h⟩:=bS h
 refine gl (Gw rd self hs us h46) ?_
 replace h:=AV h
 rcases h with⟨o34,rfl,h⟩|⟨o35,rfl,h⟩
 refine iB 75 h (fun h=>?_) fun h=>?_
 obtain⟨h48,h⟩:=cS h
 refine gQ h48.1<|gQ (AD dZ h48.2) ?_
 obtain⟨x36,h49,h⟩:=xS h
 refine gG 80 (.el (dZ x36)) (AF dZ h49) ?_
 obtain⟨h50,h⟩:=cS h
 refine gQ h50.1<|gQ (AD dZ h50.2) ?_
 obtain⟨x37,h51,h⟩:=xS h
 refine gG 84 (.el (dZ x37)) (AF dZ h51) ?_
 obtain⟨r38,h52,h⟩:=bS h
 refine gC 85 (Cj h52) ?_
 refine iB 87 h (fun h=>?_) fun h=>?_
 obtain⟨r39,h54,h⟩:=bS h
 refine gG 92 (.cx false [(0,0)] [] (dI r39.1) [rW 0 3 1 dZ r39.2]) (Uw h54) ?_
 exact lp h
 obtain⟨r40,h55,h⟩:=bS h
 refine gG 99 (.cx false [(0,0)] [] (.tup [dI r40.1,.d (D.b r40.2.1)]) [rW 0 3 1 dZ r40.2.2]) (LF h55)<|gQ (of_decide_eq_true rfl:(8:Int)≠0) ?_
 obtain⟨o41,h56,h⟩:=bS h
 refine gl (Cv rd self hs us h56) ?_
 exact lp h
 obtain⟨r42,h57,h⟩:=bS h
 refine gG 99 (.cx false [(0,0)] [] (.tup [dI r42.1,.d (D.b r42.2.1)]) [rW 0 3 1 dZ r42.2.2]) (LF h57)<|gQ (of_decide_eq_true rfl:(8:Int)≠0) ?_
 obtain⟨o43,h58,h⟩:=bS h
 refine gl (Cv rd self hs us h58) ?_
 exact lp h
 exact lp h
def M3(us:List Value)(s1 s2 s3:Int)(s8 s9:Bool)(w0:List Int):St:=⟨sp 134 0 [rx 0,sI 1 s1,sI 2 s2,sI 3 s3,sD 8 D.b s8,sD 9 D.b s9],[rW 0 3 1 dZ w0,(997,.vals [.row 0] us)],[]⟩
def M4(us:List Value)(o:(List Int)):Ex×St:=(.ret,⟨sp 134 0 [],[rW 0 3 1 dZ o,(997,.vals [.row 0] us)],[]⟩)
theorem Re(rd:Option Nat)(self:Int->Int->Int->(List Int)->Option (List Int))(hs:∀(a1 a2 a3:Int) (w0 r:List Int),self a1 a2 a3 w0=some r->AO Try.prog 45 [.row 0,dI a1,dI a2,dI a3] [rW 0 3 1 dZ w0] (.tup []) [rW 0 3 1 dZ r])(us:List Value){s1 s2 s3:Int}{s8 s9:Bool}{w0:List Int}{t:(List Int)}(h:I2 self s1 s2 s3 s8 s9 w0=some t):Lq 45 rd 14 (M3 us s1 s2 s3 s8 s9 w0) ((M4 us) t):=
 lL (fun s:Int×Int×Int×Bool×Bool×List Int=>M3 us s.1 s.2.1 s.2.2.1 s.2.2.2.1 s.2.2.2.2.1 s.2.2.2.2.2) (M4 us) (s1,s2,s3,s8,s9,w0) (fun⟨s1,s2,s3,s8,s9,w0⟩ o h=>by
 unfold D6 at h
 obtain⟨o44,h59,h⟩:=bS h
 refine gl (RY rd self hs us h59) ?_
 replace h:=AV h
 rcases h with⟨o45,rfl,h⟩|⟨o46,rfl,h⟩
 exact lb h
 exact lb h) h
theorem Un(self:Int->Int->Int->(List Int)->Option (List Int))(hs:∀(a1 a2 a3:Int) (w0 r:List Int),self a1 a2 a3 w0=some r->AO Try.prog 45 [.row 0,dI a1,dI a2,dI a3] [rW 0 3 1 dZ w0] (.tup []) [rW 0 3 1 dZ r])(a1 a2 a3:Int)(w0 r:List Int)(h:Um self a1 a2 a3 w0=some r):AO Try.prog 45 [.row 0,dI a1,dI a2,dI a3] [rW 0 3 1 dZ w0] (.tup []) [rW 0 3 1 dZ r]:=by unfold Um at h;refine XG.call (ks:=[0]) mixed fun us=>?_;apply g0 (o:=r);obtain⟨o47,h60,h⟩:=bS h;refine gl (Re none self hs us h60) ?_;exact lX h (lv [] [0,997])
theorem M5:∀(n:Nat) (a1 a2 a3:Int) (w0 r:List Int),Uo n a1 a2 a3 w0=some r->AO Try.prog 45 [.row 0,dI a1,dI a2,dI a3] [rW 0 3 1 dZ w0] (.tup []) [rW 0 3 1 dZ r]
 |0,a1,a2,a3,w0,r,h=>by simp[Uo]at h
 |n+1,a1,a2,a3,w0,r,h=>Un _ (M5 n) a1 a2 a3 w0 r h
theorem YZ(h:X8 cJ cK cM cP=some cZ):AO Try.prog 45 [.row 0,dI cJ,dI cK,dI cM] [rW 0 3 1 dZ cP] (.tup []) [rW 0 3 1 dZ cZ]:=M5 100000 cJ cK cM cP cZ h
theorem aAa(h:Z1 cP=some cZ):AO Try.prog 35 [.row 0] [rW 0 3 1 dZ cP] (.tup []) [rW 0 3 1 dZ cZ]:=by unfold Z1 at h;refine XG.call (ks:=[0]) mixed fun us=>?_;apply g0 (o:=cZ);refine gN 4 dZ cP ?_;obtain⟨r1,h1,h⟩:=bS h;refine gC 9 (Vb h1) ?_;obtain⟨r2,h2,h⟩:=bS h;refine gG 10 (.cx false [(0,0)] [] (.tup []) [rW 0 3 1 dZ r2]) (YZ h2) ?_;exact lX h (lv [] [0,997])
theorem aAn(h:Zg cP=some cZ):AO Try.prog 35 [.row 0] [(0,.bag 3 1 (cP.map dZ))] (.tup []) [rW 0 3 1 dZ cZ]:=
 AO.bagE (R:=fun _=>.tup []) (X':=fun cZ=> [rW 0 3 1 dZ cZ]) (fun _ _ h=>aAa h) cZ h
def EA(clk:Nat)(es:List (Nat×Int×AB))(us:List Value)(w0_1 w0_2:Int)(w501:MP Int AB)(w502:MP (List UInt8) Int)(w3:List Int)(sn:List Nat):St:=⟨sp 23 0 [rx 3,bx 11],[(0,.cells ([.row 501,.row 502,dI w0_1,dI w0_2])),rW 3 3 1 dZ w3,(11,.mit 501 clk sn),(501,.map clk (dl dZ AB.D es)),(502,.map w502.clk (MP.dl D.s dZ w502)),(997,.vals [.box 0 0] us)],[]⟩
def EB(clk:Nat)(es:List (Nat×Int×AB))(us:List Value)(w0_1 w0_2:Int)(w501:MP Int AB)(w502:MP (List UInt8) Int)(o:List Int):Ex×St:=(.exit 0,⟨sp 23 0 [rx 3],[(0,.cells ([.row 501,.row 502,dI w0_1,dI w0_2])),(3,.bag 3 1 (o.map dZ)),(501,.map clk (dl dZ AB.D es)),(502,.map w502.clk (MP.dl D.s dZ w502)),(997,.vals [.box 0 0] us)],[]⟩)
def VD(clk:Nat)(es:List (Nat×Int×AB))(us:List Value)(w0_1 w0_2:Int)(w501:MP Int AB)(w502:MP (List UInt8) Int)(w3:List Int):St:=⟨sp 23 0 [rx 3],[(0,.cells ([.row 501,.row 502,dI w0_1,dI w0_2])),rW 3 3 1 dZ w3,(501,.map clk (dl dZ AB.D es)),(502,.map w502.clk (MP.dl D.s dZ w502)),(997,.vals [.box 0 0] us)],[]⟩
set_option maxRecDepth 100000 in
theorem OC(rd:Option Nat)(us:List Value)(clk:Nat)(es:List (Nat×Int×AB))(w0_1 w0_2:Int)(w501:MP Int AB)(w502:MP (List UInt8) Int)(k:Int)(v:AB)(w3:List Int)(sn:List Nat)(st:Nat)(hm:(st,k,v)∈es)(o:List Int)(h:E5 w0_1 w0_2 w501 w502 k v w3=some o):L3 Try.prog rd (Cb Try.prog 15) [0,1,0,1,1,1] ((⟨(EA clk es us w0_1 w0_2 w501 w502 w3 sn).E,BA (EA clk es us w0_1 w0_2 w501 w502 w3 sn).B 11 (.mit 501 clk (sn++[st])),[]⟩:St).put (some 12) (.tup [bo true,.d (dZ k),.d (AB.D v)])) fun zx zs=>zx=.normal/\Wk zs ((fun s:List Int=>EA clk es us w0_1 w0_2 w501 w502 s (sn++[st])) o):=by unfold E5 at h;obtain⟨h1,h⟩:=cS h;obtain rfl:=si h;exact Eu mixed [(14,.en (dZ k) (AB.D v)),(19,.rwl ((w3++[k]).map dZ))] [] [.live [3,11],.keep [0,11,19,501,502,997],.ren 19 3,.sort] (ai (P9 (fk:=dZ) (fv:=AB.D) (clk:=clk) (sn:=sn) hm) (ai (BI dZ [k]) (ai (BI dZ [k]) (ai (BF dZ h1) (ai (BE dZ w3 [k]) (ti)))))) (by kernel_rfl)
set_option maxRecDepth 100000 in
theorem OB(rd:Option Nat)(us:List Value)(clk:Nat)(es:List (Nat×Int×AB))(w0_1 w0_2:Int)(w501:MP Int AB)(w502:MP (List UInt8) Int)(w3:List Int)(sn:List Nat):L3 Try.prog rd (Cb Try.prog 15) [0,1,0,1,1,1] ((EA clk es us w0_1 w0_2 w501 w502 w3 sn).put (some 12) (.tup [bo false])) fun zx zs=>zx=(EB clk es us w0_1 w0_2 w501 w502 (HA w0_1 w0_2 w501 w502 w3)).1/\Wk zs (EB clk es us w0_1 w0_2 w501 w502 (HA w0_1 w0_2 w501 w502 w3)).2:=by refine L3.wk (e:=.exit 0) (s1:=VD clk es us w0_1 w0_2 w501 w502 w3) (Eu mixed [] [] [.live [3],.keep [0,3,501,502,997]] (ti) (by kernel_rfl)) ?_;exact(Wk.canB 3 (Ct _).symm (by kernel_rfl) rfl)
set_option maxRecDepth 100000 in
theorem SU(rd:Option Nat)(us:List Value)(clk:Nat)(es:List (Nat×Int×AB))(w0_1 w0_2:Int)(w501:MP Int AB)(w502:MP (List UInt8) Int)(w3:List Int)(hp:(es.map (·.2)).Perm (w501.es.map (·.2)))(o:List Int)(h:ST w0_1 w0_2 w501 w502 w3=some o):Dc Try.prog rd (Cb Try.prog 15) [0,1,0,1,1,1] (EA clk es us w0_1 w0_2 w501 w502 w3 []) ((EB clk es us w0_1 w0_2 w501 w502) o).1 ((EB clk es us w0_1 w0_2 w501 w502) o).2:=
 P7 (fk:=dZ) (fv:=AB.D) (step:=(fun(x:Int×AB) (s:List Int)=>E5 w0_1 w0_2 w501 w502 x.1 x.2 s)) (s0:=w3) 11 12 11 501 clk es (fun(sn:List Nat) (s:List Int)=>EA clk es us w0_1 w0_2 w501 w502 s sn) (EB clk es us w0_1 w0_2 w501 w502) (by kernel_rfl) (Pq (by rfl)) (fun _ _=>by kernel_rfl) (fun _ _=>by kernel_rfl) (fun _ _=>by kernel_rfl) hp
  (fun sn s k v st a hm h=>OC rd us clk es w0_1 w0_2 w501 w502 k v s sn st hm a h) (fun sn s hc=>hc▸OB rd us clk es w0_1 w0_2 w501 w502 s sn) h
theorem SS(rd:Option Nat)(us:List Value)(h:SR cJ cK d2 d3=some cQ):Lq 15 rd 30 ⟨sp 23 0 [bx 0,(3,.nil)],[(0,.cells ([.row 501,.row 502,dI cJ,dI cK])),(501,.map d2.clk (MP.dl dZ AB.D d2)),(502,.map d3.clk (MP.dl D.s dZ d3)),(997,.vals [.box 0 0] us)],[]⟩ (.normal,⟨sp 23 0 [rx 3],[(0,.cells ([.row 501,.row 502,dI cJ,dI cK])),(3,.bag 3 1 (cQ.map dZ)),(501,.map d2.clk (MP.dl dZ AB.D d2)),(502,.map d3.clk (MP.dl D.s dZ d3)),(997,.vals [.box 0 0] us)],[]⟩):=by unfold SR at h;obtain⟨o1,h2,h⟩:=bS h;obtain rfl:=si h;exact Arr.lp (Et mixed [] [⟨[0,1,0,1,1,1],[.live [3,11],.keep [0,11,501,502,997],.nilw 3 3 3 1,.sort],.exit 0,(EB d2.clk d2.es us cJ cK d2 d3 o1).2⟩] [.live [3],.keep [0,3,501,502,997]] (ai (SU rd us d2.clk d2.es cJ cK d2 d3 ([]:List Int) (List.Perm.refl _) o1 h2) (ti)) (by kernel_rfl))
theorem ZK(h:Xp cJ cK d2 d3=some d4):AO Try.prog 15 [.box 0 0] [(0,.cells ([.row 1,.row 2,dI cJ,dI cK])),(1,.map d2.clk (MP.dl dZ AB.D d2)),(2,.map d3.clk (MP.dl D.s dZ d3))] (.d ((D.l dZ) d4.1)) [(0,.cells ([.row 3,.row 4,dI d4.2.1,dI d4.2.2.1])),(3,.map d4.2.2.2.1.clk (MP.dl dZ AB.D d4.2.2.2.1)),(4,.map d4.2.2.2.2.clk (MP.dl D.s dZ d4.2.2.2.2))]:=by unfold Xp at h;refine XG.call (ks:=[0]) mixed fun us=>?_;apply g0 (o:=d4);obtain⟨o2,h3,h⟩:=bS h;refine gL [.live [0,3],.keep [0,1,2,997],.ren 1 501,.ren 2 502,.sort] (SS none us h3) ?_;obtain⟨r3,h4,h⟩:=bS h;refine gG 21 (.cx true [(0,3)] [] (.tup []) [rW 0 3 1 dZ r3]) (aAn h4) ?_;exact lX h [.frz 3,.look 2,.live [2],.keep [0,501,502,997],.ren 501 3,.ren 502 4,.sort]
theorem Wy(h:Yn cJ cK cM d2 d3=some d5):AO Try.prog 16 [.box 0 0,dI cJ] [(0,.cells ([.row 1,.row 2,dI cK,dI cM])),(1,.map d2.clk (MP.dl dZ AB.D d2)),(2,.map d3.clk (MP.dl D.s dZ d3))] (.tup [.d (AB.D d5.1),.d (D.b d5.2.1)]) [(0,.cells ([.row 4,.row 5,dI d5.2.2.1,dI d5.2.2.2.1])),cL 3 AB.D d5.2.2.2.2.1,(4,.map d5.2.2.2.2.2.1.clk (MP.dl dZ AB.D d5.2.2.2.2.2.1)),(5,.map d5.2.2.2.2.2.2.clk (MP.dl D.s dZ d5.2.2.2.2.2.2))]:=by unfold Yn at h;refine XG.call (ks:=[0]) mixed fun us=>?_;apply g0 (o:=d5);refine gG 17 (.mg (AB.D (BT (AB.mk ([]:List X0) ([]:List X4)) d2 cJ).1) (BT (AB.mk ([]:List X0) ([]:List X4)) d2 cJ).2) (Fi (WZ Try.underlying3) AB.D (AB.mk ([]:List X0) ([]:List X4)) d2 cJ) ?_;obtain⟨r1,h1,h⟩:=bS h;refine gC 24 (VW h1) ?_;exact lX h [.live [4,5],.keep [0,1,2,4,997],.ren 2 5,.ren 4 3,.ren 1 4,.sort]
def Nd(s1:List Xf)(s7:Int)(s10:List Int)(w6:Xb)(s11 w5_1 w5_2:Int)(w567:MP Int AB)(w974:MP (List UInt8) Int):St:=⟨sp 151 0 [sD 1 (D.l Xf.D) s1,bx 5,bx 6,sI 7 s7,sD 10 (D.l dZ) s10,sI 11 s11],[(5,.cells ([.row 567,.row 974,dI w5_1,dI w5_2])),cL 6 Xb.D w6,(567,.map w567.clk (MP.dl dZ AB.D w567)),(974,.map w974.clk (MP.dl D.s dZ w974))],[]⟩
def Nf(s1:List Xf)(s7:Int)(s10:List Int)(w6:Xb)(o:(Int×Int×MP Int AB×MP (List UInt8) Int)⊕Unit):Ex×St:=match o with
 | .inl o=>(.exit 2,⟨sp 151 0 [sD 1 (D.l Xf.D) s1,bx 5,bx 6,sI 7 s7],[(5,.cells ([.row 567,.row 974,dI o.1,dI o.2.1])),cL 6 Xb.D w6,(567,.map o.2.2.1.clk (MP.dl dZ AB.D o.2.2.1)),(974,.map o.2.2.2.clk (MP.dl D.s dZ o.2.2.2))],[]⟩)
 | .inr o=>(.ret,⟨sp 151 0 [sD 4 D.b false],[],[]⟩)
theorem R3(rd:Option Nat)(h:Nc d6 cJ cP d7 cK cM cN d2 d3=some d8):Lq 3 rd 1025274 (Nd d6 cJ cP d7 cK cM cN d2 d3) ((Nf d6 cJ cP d7) d8):=
 lL (fun s:Int×Int×Int×MP Int AB×MP (List UInt8) Int=>Nd d6 cJ cP d7 s.1 s.2.1 s.2.2.1 s.2.2.2.1 s.2.2.2.2) (Nf d6 cJ cP d7) (cK,cM,cN,d2,d3) (fun⟨cK,cM,cN,d2,d3⟩ o h=>by
 unfold E3 at h
 refine gN 76 dZ cP ?_
 refine iB 77 h (fun h=>?_) fun h=>?_
 refine xX 84 dZ h fun x13 h=>?_
 obtain⟨r14,h22,h⟩:=bS h
 refine gG 86 (.cx false [(0,5),(1,567),(2,974)] [(3,493),(4,500),(5,507)] (.tup [.d (AB.D r14.1),.d (D.b r14.2.1)]) [(0,.cells ([.row 4,.row 5,dI r14.2.2.1,dI r14.2.2.2.1])),cL 3 AB.D r14.2.2.2.2.1,(4,.map r14.2.2.2.2.2.1.clk (MP.dl dZ AB.D r14.2.2.2.2.2.1)),(5,.map r14.2.2.2.2.2.2.clk (MP.dl D.s dZ r14.2.2.2.2.2.2))]) (Wy h22)<|xX 91 dZ h fun x15 h=>?_
 refine xX 96 Xc.D h fun x16 h=>?_
 refine iB 100 h (fun h=>?_) fun h=>?_
 exact lb h
 refine iB 104 h (fun h=>?_) fun h=>?_
 exact lb h
 refine xX 110 Xc.D h fun x17 h=>?_
 obtain⟨r18,h28,h⟩:=bS h
 refine gC 114 (VI h28) ?_
 refine iB 117 h (fun h=>?_) fun h=>?_
 exact lb h
 refine xX 123 Xc.D h fun x19 h=>?_
 obtain⟨r20,h31,h⟩:=bS h
 refine gC 127 (Ww h31) ?_
 refine iB 129 h (fun h=>?_) fun h=>?_
 exact lb h
 exact lB h [.live [1,5,6,7,10,11],.keep [5,6,500,507],.ren 500 567,.ren 507 974,.sort]
 exact lb h) h
def Na(s1:List Xf)(s7 w5_1 w5_2:Int)(w6:Xb)(w935:MP Int AB)(w942:MP (List UInt8) Int):St:=⟨sp 151 0 [sD 1 (D.l Xf.D) s1,bx 5,bx 6,sI 7 s7],[(5,.cells ([.row 935,.row 942,dI w5_1,dI w5_2])),cL 6 Xb.D w6,(935,.map w935.clk (MP.dl dZ AB.D w935)),(942,.map w942.clk (MP.dl D.s dZ w942))],[]⟩
def Nb(s1:List Xf)(o:Unit⊕Unit):Ex×St:=match o with
 | .inl o=>(.exit 0,⟨sp 151 0 [],[],[]⟩)
 | .inr o=>(.ret,⟨sp 151 0 [sD 4 D.b false],[],[]⟩)
theorem R2(rd:Option Nat)(h:LJ d6 cJ cK cM d7 d2 d3=some d9):Lq 3 rd 250 (Na d6 cJ cK cM d7 d2 d3) ((Nb d6) d9):=
 lL (fun s:Int×Int×Int×Xb×MP Int AB×MP (List UInt8) Int=>Na d6 s.1 s.2.1 s.2.2.1 s.2.2.2.1 s.2.2.2.2.1 s.2.2.2.2.2) (Nb d6) (cJ,cK,cM,d7,d2,d3) (fun⟨cJ,cK,cM,d7,d2,d3⟩ o h=>by
 unfold E2 at h
 refine gN 26 Xf.D d6 ?_
 refine iB 27 h (fun h=>?_) fun h=>?_
 refine xX 35 Xf.D h fun x5 h=>?_
 obtain⟨r6,h8,h⟩:=bS h
 refine gG 37 (.cx false [(0,5),(1,935),(2,942)] [(3,444),(4,451),(5,458)] (.tup [.d (Xb.D r6.1),.d (D.b r6.2.1)]) [(0,.cells ([.row 4,.row 5,dI r6.2.2.1,dI r6.2.2.2.1])),cL 3 Xb.D r6.2.2.2.2.1,(4,.map r6.2.2.2.2.2.1.clk (MP.dl dZ AB.D r6.2.2.2.2.2.1)),(5,.map r6.2.2.2.2.2.2.clk (MP.dl D.s dZ r6.2.2.2.2.2.2))]) (aAf h8) ?_
 refine iB 43 h (fun h=>?_) fun h=>?_
 exact lb h
 refine gW 48 (.int (r6.1.l.length:Int)) ?_
 obtain⟨r7,h10,h⟩:=bS h
 refine gG 45 (.cx false [(0,5),(1,451),(2,458)] [(3,45),(4,452)] (dI r7.1) [(0,.cells ([.row 3,.row 4,dI r7.2.1,dI r7.2.2.1])),(3,.map r7.2.2.2.1.clk (MP.dl dZ AB.D r7.2.2.2.1)),(4,.map r7.2.2.2.2.clk (MP.dl D.s dZ r7.2.2.2.2))]) (W7 h10)<|gQ (Jr Xc.D r6.1.l) ?_
 refine iB 51 h (fun h=>?_) fun h=>?_
 exact lb h
 obtain⟨r8,h12,h⟩:=bS h
 refine gG 53 (.cx false [(0,5),(1,45),(2,452)] [(3,53),(4,460)] (dI r8.1) [(0,.cells ([.row 3,.row 4,dI r8.2.1,dI r8.2.2.1])),(3,.map r8.2.2.2.1.clk (MP.dl dZ AB.D r8.2.2.2.1)),(4,.map r8.2.2.2.2.clk (MP.dl D.s dZ r8.2.2.2.2))]) (aAm h12) ?_
 refine iB 58 h (fun h=>?_) fun h=>?_
 exact lb h
 obtain⟨r9,h14,h⟩:=bS h
 refine gG 60 (.cx false [(0,5),(1,53),(2,460)] [(3,60),(4,467)] (.d ((D.l AB.D) r9.1)) [(0,.cells ([.row 3,.row 4,dI r9.2.1,dI r9.2.2.1])),(3,.map r9.2.2.2.1.clk (MP.dl dZ AB.D r9.2.2.2.1)),(4,.map r9.2.2.2.2.clk (MP.dl D.s dZ r9.2.2.2.2))]) (ZJ h14) ?_
 obtain⟨r10,h15,h⟩:=bS h
 refine gC 62 (ZV h15) ?_
 obtain⟨r11,h16,h⟩:=bS h
 refine gC 63 (Zn h16) ?_
 refine iB 65 h (fun h=>?_) fun h=>?_
 exact lb h
 refine gW 72 (.int (r6.1.l.length:Int)) ?_
 obtain⟨r12,h18,h⟩:=bS h
 refine gG 67 (.cx false [(0,5),(1,60),(2,467)] [(3,67),(4,474)] (.d ((D.l dZ) r12.1)) [(0,.cells ([.row 3,.row 4,dI r12.2.1,dI r12.2.2.1])),(3,.map r12.2.2.2.1.clk (MP.dl dZ AB.D r12.2.2.2.1)),(4,.map r12.2.2.2.2.clk (MP.dl D.s dZ r12.2.2.2.2))]) (ZK h18)<|gN 69 dZ r12.1<|gQ (Jr Xc.D r6.1.l) ?_
 refine iB 73 h (fun h=>?_) fun h=>?_
 exact lb h
 obtain⟨o21,h33,h⟩:=bS h
 refine gL [.live [1,5,6,7,10,11],.keep [5,6,67,474],.ren 67 567,.ren 474 974,.sort] (R3 rd h33) ?_
 replace h:=AV h
 rcases h with⟨o22,rfl,h⟩|⟨o23,rfl,h⟩
 refine xX 134 Xf.D h fun x24 h=>?_
 obtain⟨r25,h35,h⟩:=bS h
 refine gG 137 (.cx false [(0,5),(1,567),(2,974)] [(3,544),(4,551),(5,558)] (.tup [.d (AB.D r25.1),.d (D.b r25.2.1)]) [(0,.cells ([.row 4,.row 5,dI r25.2.2.1,dI r25.2.2.2.1])),cL 3 AB.D r25.2.2.2.2.1,(4,.map r25.2.2.2.2.2.1.clk (MP.dl dZ AB.D r25.2.2.2.2.2.1)),(5,.map r25.2.2.2.2.2.2.clk (MP.dl D.s dZ r25.2.2.2.2.2.2))]) (Wy h35)<|xX 144 Xf.D h fun x26 h=>?_
 obtain⟨r27,h37,h⟩:=bS h
 refine gC 147 (Sl h37) ?_
 refine iB 149 h (fun h=>?_) fun h=>?_
 exact lb h
 exact lB h [.live [1,5,6,7],.keep [5,6,551,558],.ren 551 935,.ren 558 942,.sort]
 exact lb h
 exact lb h) h
theorem ZE(h:Xi cJ d6=some cR):AO Try.prog 3 [dI cJ,.d ((D.l Xf.D) d6)] [] (.d (D.b cR)) []:=by
 unfold Xi at h;apply g0 (o:=cR);obtain⟨r1,h1,h⟩:=bS h;refine gC 17 (ZL h1) ?_;refine iB 18 h (fun h=>?_) fun h=>?_;obtain⟨r2,h3,h⟩:=bS h;refine gC 19 (Wz h3) ?_;exact lf h;obtain⟨r3,h4,h⟩:=bS h;refine gG 21 (.cx false [] [(0,428),(1,435),(2,442)] (.box 0 0) [(0,.cells ([.row 1,.row 2,dI r3.1,dI r3.2.1])),(1,.map r3.2.2.1.clk (MP.dl dZ AB.D r3.2.2.1)),(2,.map r3.2.2.2.clk (MP.dl D.s dZ r3.2.2.2))]) (W4 h4) ?_;obtain⟨r4,h5,h⟩:=bS h;refine gC 23 (aAl h5) ?_;obtain⟨o28,h39,h⟩:=bS h;refine gL [.live [1,5,6,7],.keep [6,428,435,442],.ren 428 5,.ren 435 935,.ren 442 942,.sort] (R2 none h39) ?_;replace h:=AV h;rcases h with⟨o29,rfl,h⟩|⟨o30,rfl,h⟩
 obtain⟨r31,h40,h⟩:=bS h;refine gC 150 (Wz h40) ?_;exact lf h;exact lf h
end Go.Ac
