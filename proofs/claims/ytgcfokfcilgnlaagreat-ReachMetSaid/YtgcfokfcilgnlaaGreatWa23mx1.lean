/- Own work, printed: the functions compute these. -/
import Derived.Test.YtgcfokfcilgnlaaGreatSh23m
import Derived.Test.YtgcfokfcilgnlaaGreatProg
set_option linter.unusedVariables false
set_option linter.unusedSimpArgs false
namespace Go.Ac
open Go.Proofs
variable {a7:AD}
variable {a8 aA aN aR bD bE cD:Int}
variable {a9:Unit⊕Unit}
variable {aB:List (List UInt8)}
variable {aC aO:List UInt8}
variable {aD b8:Bool}
variable {aE:List Xe}
variable {aF:Unit⊕Int}
variable {aG:Unit⊕(Int×Int)}
variable {aH:Int×Int}
variable {aI aQ bR:X0}
variable {aJ:(List (List UInt8))⊕Unit}
variable {aK:X0×Int}
variable {aL:Int×Bool}
variable {aM:Int×Int×Int}
variable {aP:Unit⊕Bool}
variable {aS aX:X3}
variable {aT:Xd}
variable {aU:Int⊕Unit}
variable {aV:Fi}
variable {aW:BW}
variable {aY:List Bool}
variable {aZ cA:List Int}
variable {b6:(List Int)}
variable {b7:(List Bool×List Int)}
variable {b9:List X2}
variable {bA:List Xd}
variable {bB:List Yn}
variable {bC:List X3}
variable {bG:Unit}
variable {bH bI bM:List X0}
variable {bJ:(Int×Int)}
variable {bK:(List X0)}
variable {bL:Bool×List X0}
variable {bN:List X0×List X0}
variable {bO:List BW}
variable {bP bQ:List (List X0)}
variable {bU:X0×Bool}
variable {bV:X2}
variable {bW:Xr}
variable {bX:Unit⊕X0}
variable {bY bZ:List (Int×Bool)}
variable {c9:(List (Int×Bool))}
variable {cB:(Int×List Int)⊕(Unit⊕Unit)}
variable {cC:(List Int)⊕(List Int)}
variable {cE:(List Int×Int)}
variable {cF:(Int×Int×Int×Int)}
theorem mixed:Tryz.prog.follows .mixedOrders=true:=by kernel_rfl
theorem lB{β:Type}{ws:List (Nat×W)}{lw:List Lw}{Q:List Prop}{o v:β}{rd:Option Nat}{root:Code}{q:List Nat}{s:St}{E:β->Ex}{S:β->St}(h:some v=some o)(l:List Ws)(he:(cj Q True/\(E v=E v/\S v=S v))=Rt Tryz.prog rd root ws lw q l s (E v) (S v):=by kernel_rfl):Gl ws lw Q (fun o=>Arr Tryz.prog rd root q s (E o) (S o)) o:=lB_ mixed h l he
theorem lP{β:Type}{ws:List (Nat×W)}{lw:List Lw}{Q:List Prop}{o v:β}{rd:Option Nat}{root:Code}{q:List Nat}{s:St}{E:β->Ex}{S:β->St}(h:some v=some o)(l:List Ws)(he:(cj Q True/\(E v=E v/\S v=S v))=Rt Tryz.prog rd root ws lw q l s (E v) (S v):=by kernel_rfl):Gl ws lw Q (fun o=>Fg Tryz.prog rd root q s (E o) (S o)) o:=lP_ mixed h l he
theorem lb{β:Type}{ws:List (Nat×W)}{lw:List Lw}{Q:List Prop}{o v:β}{rd:Option Nat}{root:Code}{q:List Nat}{s:St}{E:β->Ex}{S:β->St}(h:some v=some o)(he:(cj Q True/\(E v=E v/\S v=S v))=Rt Tryz.prog rd root ws lw q (lvS (S v)) s (E v) (S v):=by kernel_rfl):Gl ws lw Q (fun o=>Arr Tryz.prog rd root q s (E o) (S o)) o:=lB_ mixed h _ he
theorem lp{β:Type}{ws:List (Nat×W)}{lw:List Lw}{Q:List Prop}{o v:β}{rd:Option Nat}{root:Code}{q:List Nat}{s:St}{E:β->Ex}{S:β->St}(h:some v=some o)(he:(cj Q True/\(E v=E v/\S v=S v))=Rt Tryz.prog rd root ws lw q (lvS (S v)) s (E v) (S v):=by kernel_rfl):Gl ws lw Q (fun o=>Fg Tryz.prog rd root q s (E o) (S o)) o:=lP_ mixed h _ he
theorem lF{β:Type}{ws:List (Nat×W)}{lw:List Lw}{Q:List Prop}{o v:β}{f:FuncId}{args:List A}{R:β->A}(h:some v=some o)(l:List Ws)(he:(cj Q True/\(R v=R v/\true=true))=aBw Tryz.prog f ws lw l args (R v):=by kernel_rfl):Gl ws lw Q (fun o=>AL Tryz.prog f args [] (R o) []) o:=lF_ mixed h l he
theorem lf{β:Type}{ws:List (Nat×W)}{lw:List Lw}{Q:List Prop}{o v:β}{f:FuncId}{args:List A}{R:β->A}(h:some v=some o)(he:(cj Q True/\(R v=R v/\true=true))=aBw Tryz.prog f ws lw [] args (R v):=by kernel_rfl):Gl ws lw Q (fun o=>AL Tryz.prog f args [] (R o) []) o:=lF_ mixed h [] he
abbrev Lq(n:Nat)(rd:Option Nat)(p:Nat)(s:St)(x:Ex×St):Prop:=Fg Tryz.prog rd (EP Tryz.prog n) (pth p) s x.1 x.2
theorem lI{β:Type}{ws:List (Nat×W)}{lw:List Lw}{Q:List Prop}{o v:β}{f:FuncId}{args:List A}{F0:Bx}(hF:Far F0){r:A}{F:β->Bx}(hc:∀f,∀p∈F f,∀m,p.2.has m=true->m∈AP (F f))(h:some v=some o)(l:List Ws)(he:(cj Q True/\(r=r/\F v=F v/\true=true))=aK5 Tryz.prog f ws lw l args F0 r (F v):=by kernel_rfl):Gl ws lw Q (fun o=>Lu Tryz.prog f args F0 r (F o)) o:=lI_ mixed hF hc h l he
theorem lX{β:Type}{ws:List (Nat×W)}{lw:List Lw}{Q:List Prop}{o v:β}{f:FuncId}{args:List A}{X:Bx}{ks:List Nat}{us:List Value}{R:β->A}{X1:β->Bx}(h:some v=some o)(l:List Ws)(he:(cj Q True/\(R v=R v/\X1 v++[(vx,.vals (JW args ks) us)]=X1 v++[(vx,.vals (JW args ks) us)]/\true=true))=aK6 Tryz.prog f ws lw l args X ks us (R v) (X1 v):=by kernel_rfl):Gl ws lw Q (fun o=>XG Tryz.prog f args X ks us (R o) (X1 o)) o:=lX_ h l he
def Ss(w1:AD)(s3:Int):St:=⟨sp 166 0 [bx 1,sI 3 s3],[cL 1 AD.D w1],[]⟩
def Su(w1:AD)(o:Unit⊕Unit):Ex×St:=match o with
 | .inl o=>(.exit 0,⟨sp 166 0 [bx 1],[cL 1 AD.D w1],[]⟩)
 | .inr o=>(.ret,⟨sp 166 0 [sI 2 0],[],[]⟩)
theorem aCy(rd:Option Nat)(h:aMu a7 a8=some a9):Lq 43 rd 58 (Ss a7 a8) ((Su a7) a9):=
 lL (fun s:Int=>Ss a7 s) (Su a7) a8 (fun a8 o h=>by
 unfold Hu at h
 refine gN 58 Xe.D a7.decls ?_
 refine iB 59 h (fun h=>?_) fun h=>?_
 refine xX 65 Xe.D h fun x1 h=>?_
 refine gN 68 dZ x1.types ?_
 refine iB 70 h (fun h=>?_) fun h=>?_
 exact lb h
 refine xX 74 Xe.D h fun x2 h=>?_
 refine gG 77 (.int (x2.name.length:Int)) (CU x2.name) ?_
 refine iB 79 h (fun h=>?_) fun h=>?_
 exact lb h
 exact lb h
 exact lb h) h
def Sx(s4:Int)(w1:AD)(s5:Int):St:=⟨sp 166 0 [bx 1,sI 4 s4,sI 5 s5],[cL 1 AD.D w1],[]⟩
def Sy(s4:Int)(w1:AD)(o:Unit⊕Unit):Ex×St:=match o with
 | .inl o=>(.exit 4,⟨sp 166 0 [bx 1,sI 4 s4],[cL 1 AD.D w1],[]⟩)
 | .inr o=>(.ret,⟨sp 166 0 [sI 2 0],[],[]⟩)
theorem aC0(rd:Option Nat)(h:aMw a8 a7 aA=some a9):Lq 43 rd 15654 (Sx a8 a7 aA) ((Sy a8 a7) a9):=
 lL (fun s:Int=>Sx a8 a7 s) (Sy a8 a7) aA (fun aA o h=>by
 unfold Hx at h
 refine xX 99 X3.D h fun x7 h=>?_
 refine gN 102 BW.D x7.args ?_
 refine iB 103 h (fun h=>?_) fun h=>?_
 refine xX 109 X3.D h fun x8 h=>?_
 refine xX 113 BW.D h fun x9 h=>?_
 refine gG 117 (.int (x9.value.str.length:Int)) (CU x9.value.str) ?_
 refine iB 118 h (fun h=>?_) fun h=>?_
 exact lb h
 exact lb h
 exact lb h) h
def Sv(w1:AD)(s4:Int):St:=⟨sp 166 0 [bx 1,sI 4 s4],[cL 1 AD.D w1],[]⟩
def Sw(w1:AD)(o:Unit⊕Unit):Ex×St:=match o with
 | .inl o=>(.exit 2,⟨sp 166 0 [bx 1],[cL 1 AD.D w1],[]⟩)
 | .inr o=>(.ret,⟨sp 166 0 [sI 2 0],[],[]⟩)
theorem aCz(rd:Option Nat)(h:aMv a7 a8=some a9):Lq 43 rd 122 (Sv a7 a8) ((Sw a7) a9):=
 lL (fun s:Int=>Sv a7 s) (Sw a7) a8 (fun a8 o h=>by
 unfold Hv at h
 refine gN 83 X3.D a7.symbols ?_
 refine iB 84 h (fun h=>?_) fun h=>?_
 refine xX 90 X3.D h fun x6 h=>?_
 refine gN 93 BW.D x6.args ?_
 refine iB 94 h (fun h=>?_) fun h=>?_
 exact lb h
 obtain⟨o10,h23,h⟩:=bS h
 refine gl (aC0 rd h23) ?_
 replace h:=AK h
 rcases h with⟨o11,rfl,h⟩|⟨o12,rfl,h⟩
 exact lb h
 exact lb h
 exact lb h) h
def Sz(w1:AD)(s6:Int):St:=⟨sp 166 0 [bx 1,sI 6 s6],[cL 1 AD.D w1],[]⟩
def S1(w1:AD)(o:Unit⊕Unit):Ex×St:=match o with
 | .inl o=>(.exit 6,⟨sp 166 0 [bx 1],[cL 1 AD.D w1],[]⟩)
 | .inr o=>(.ret,⟨sp 166 0 [sI 2 0],[],[]⟩)
theorem aC1(rd:Option Nat)(h:aMx a7 a8=some a9):Lq 43 rd 250 (Sz a7 a8) ((S1 a7) a9):=
 lL (fun s:Int=>Sz a7 s) (S1 a7) a8 (fun a8 o h=>by
 unfold Hy at h
 refine gN 122 Yg.D a7.frees ?_
 refine iB 123 h (fun h=>?_) fun h=>?_
 refine xX 129 Yg.D h fun x16 h=>?_
 refine gG 133 (.int (x16.init_.str.length:Int)) (CU x16.init_.str) ?_
 refine iB 134 h (fun h=>?_) fun h=>?_
 exact lb h
 exact lb h
 exact lb h) h
def S4(w1:AD)(s7:Int):St:=⟨sp 166 0 [bx 1,sI 7 s7],[cL 1 AD.D w1],[]⟩
def S5(w1:AD)(o:Unit⊕Unit):Ex×St:=match o with
 | .inl o=>(.exit 8,⟨sp 166 0 [bx 1],[cL 1 AD.D w1],[]⟩)
 | .inr o=>(.ret,⟨sp 166 0 [sI 2 0],[],[]⟩)
theorem aC2(rd:Option Nat)(h:aMy a7 a8=some a9):Lq 43 rd 506 (S4 a7 a8) ((S5 a7) a9):=
 lL (fun s:Int=>S4 a7 s) (S5 a7) a8 (fun a8 o h=>by
 unfold Hz at h
 refine gN 138 Ym.D a7.nodes ?_
 refine iB 139 h (fun h=>?_) fun h=>?_
 refine xX 145 Ym.D h fun x20 h=>?_
 refine gG 149 (.int (x20.value.str.length:Int)) (CU x20.value.str) ?_
 refine iB 150 h (fun h=>?_) fun h=>?_
 exact lb h
 exact lb h
 exact lb h) h
def S6(w1:AD)(s8:Int):St:=⟨sp 166 0 [bx 1,sI 8 s8],[cL 1 AD.D w1],[]⟩
def S7(w1:AD)(o:Unit⊕Unit):Ex×St:=match o with
 | .inl o=>(.exit 10,⟨sp 166 0 [],[],[]⟩)
 | .inr o=>(.ret,⟨sp 166 0 [sI 2 0],[],[]⟩)
theorem aC3(rd:Option Nat)(h:aMz a7 a8=some a9):Lq 43 rd 1018 (S6 a7 a8) ((S7 a7) a9):=
 lL (fun s:Int=>S6 a7 s) (S7 a7) a8 (fun a8 o h=>by
 unfold H0 at h
 refine gN 154 Xd.D a7.trans ?_
 refine iB 155 h (fun h=>?_) fun h=>?_
 refine xX 161 Xd.D h fun x24 h=>?_
 refine gN 164 Fi.D x24.sets ?_
 refine iB 165 h (fun h=>?_) fun h=>?_
 exact lb h
 exact lb h
 exact lb h) h
theorem aVd(h:Xa a7=some a8):AL Tryz.prog 43 [.d (AD.D a7)] [] (dI a8) []:=by
 unfold Xa at h;apply g0 (o:=a8);refine gN 11 Xe.D a7.decls ?_;refine iB 13 h (fun h=>?_) fun h=>?_;exact lf h;refine gN 16 Ye.D a7.quants ?_;refine iB 19 h (fun h=>?_) fun h=>?_;exact lf h;refine gN 22 Yg.D a7.frees ?_;refine iB 25 h (fun h=>?_) fun h=>?_;exact lf h;refine gN 28 Xc.D a7.states ?_;refine iB 31 h (fun h=>?_) fun h=>?_;exact lf h;refine gN 34 X3.D a7.symbols ?_;refine iB 37 h (fun h=>?_) fun h=>?_;exact lf h;refine gN 40 Xd.D a7.trans ?_;refine iB 43 h (fun h=>?_) fun h=>?_;exact lf h;refine gN 46 Ym.D a7.nodes ?_;refine iB 49 h (fun h=>?_) fun h=>?_;exact lf h;refine gG 52 (.int (a7.name.length:Int)) (CU a7.name) ?_;refine iB 54 h (fun h=>?_) fun h=>?_;exact lf h;obtain⟨o3,h14,h⟩:=bS h;refine gl (aCy none h14) ?_;replace h:=AK h;rcases h with⟨o4,rfl,h⟩|⟨o5,rfl,h⟩
 obtain⟨o13,h24,h⟩:=bS h;refine gl (aCz none h24) ?_;replace h:=AK h;rcases h with⟨o14,rfl,h⟩|⟨o15,rfl,h⟩
 obtain⟨o17,h28,h⟩:=bS h;refine gl (aC1 none h28) ?_;replace h:=AK h;rcases h with⟨o18,rfl,h⟩|⟨o19,rfl,h⟩
 obtain⟨o21,h32,h⟩:=bS h;refine gl (aC2 none h32) ?_;replace h:=AK h;rcases h with⟨o22,rfl,h⟩|⟨o23,rfl,h⟩
 obtain⟨o25,h36,h⟩:=bS h;refine gl (aC3 none h36) ?_;replace h:=AK h;rcases h with⟨o26,rfl,h⟩|⟨o27,rfl,h⟩
 exact lf h;exact lf h;exact lf h;exact lf h;exact lf h;exact lf h
theorem aUu(h:Qz=some aB):AL Tryz.prog 140 [] [] (.d ((D.l D.s) aB)) []:=by unfold Qz at h;apply g0 (o:=aB);refine gQ (Ap D.s ([([97,99,99,101,112,116]:List UInt8),([97,108,115,111]:List UInt8),([97,110,100]:List UInt8),([98,111,111,108]:List UInt8),([100,111]:List UInt8),([101,118,101,110,116]:List UInt8),([101,120,105,115,116,115]:List UInt8),([102,97,108,115,101]:List UInt8),([102,111,114,97,108,108]:List UInt8),([102,114,101,101]:List UInt8),([105,102]:List UInt8),([105,110,116]:List UInt8),([110,101,120,116]:List UInt8),([110,111,116]:List UInt8),([111,110]:List UInt8),([111,114]:List UInt8),([113,101,97]:List UInt8),([115,107,105,112]:List UInt8),([115,116,97,114,116]:List UInt8),([115,116,114,105,110,103]:List UInt8),([116,111]:List UInt8),([116,114,117,101]:List UInt8)])) ?_;exact lf h
def WL(s0:List UInt8)(s3:Int):St:=⟨sp 55 0 [sD 0 D.s s0,sI 3 s3],[],[]⟩
def WM(s0:List UInt8)(o:Unit⊕Unit):Ex×St:=match o with
 | .inl o=>(.exit 0,⟨sp 55 0 [],[],[]⟩)
 | .inr o=>(.ret,⟨sp 55 0 [sD 2 D.b false],[],[]⟩)
theorem aId(rd:Option Nat)(h:aN8 aC a8=some a9):Lq 141 rd 58 (WL aC a8) ((WM aC) a9):=
 lL (fun s:Int=>WL aC s) (WM aC) a8 (fun a8 o h=>by
 unfold Io at h
 refine gG 16 (.int (aC.length:Int)) (CU aC) ?_
 refine iB 17 h (fun h=>?_) fun h=>?_
 obtain⟨x1,h4,h⟩:=xS h
 refine gG 22 (.int x1.toNat) (Gz h4) ?_
 refine iB 25 h (fun h=>?_) fun h=>?_
 refine iB 29 h (fun h=>?_) fun h=>?_
 exact lb h
 refine iB 32 h (fun h=>?_) fun h=>?_
 refine iB 37 h (fun h=>?_) fun h=>?_
 exact lb h
 refine iB 43 h (fun h=>?_) fun h=>?_
 refine iB 46 h (fun h=>?_) fun h=>?_
 exact lb h
 refine iB 50 h (fun h=>?_) fun h=>?_
 exact lb h
 refine iB 54 h (fun h=>?_) fun h=>?_
 exact lb h
 exact lb h
 exact lb h
 refine iB 43 h (fun h=>?_) fun h=>?_
 refine iB 46 h (fun h=>?_) fun h=>?_
 exact lb h
 refine iB 50 h (fun h=>?_) fun h=>?_
 exact lb h
 refine iB 54 h (fun h=>?_) fun h=>?_
 exact lb h
 exact lb h
 exact lb h
 refine iB 32 h (fun h=>?_) fun h=>?_
 refine iB 37 h (fun h=>?_) fun h=>?_
 exact lb h
 refine iB 43 h (fun h=>?_) fun h=>?_
 refine iB 46 h (fun h=>?_) fun h=>?_
 exact lb h
 refine iB 50 h (fun h=>?_) fun h=>?_
 exact lb h
 refine iB 54 h (fun h=>?_) fun h=>?_
 exact lb h
 exact lb h
 exact lb h
 refine iB 43 h (fun h=>?_) fun h=>?_
 refine iB 46 h (fun h=>?_) fun h=>?_
 exact lb h
 refine iB 50 h (fun h=>?_) fun h=>?_
 exact lb h
 refine iB 54 h (fun h=>?_) fun h=>?_
 exact lb h
 exact lb h
 exact lb h
 exact lb h) h
theorem aWt(h:Yx aC=some aD):AL Tryz.prog 141 [.d (D.s aC)] [] (.d (D.b aD)) []:=by
 unfold Yx at h;apply g0 (o:=aD);refine gG 7 (.int (aC.length:Int)) (CU aC) ?_;refine iB 9 h (fun h=>?_) fun h=>?_;exact lf h;refine gG 11 (.int (aC.length:Int)) (CU aC) ?_;refine iB 13 h (fun h=>?_) fun h=>?_;exact lf h;obtain⟨o2,h27,h⟩:=bS h;refine gl (aId none h27) ?_;replace h:=AK h;rcases h with⟨o3,rfl,h⟩|⟨o4,rfl,h⟩
 exact lf h;exact lf h
def V0(s0:List UInt8)(s3:List (List UInt8))(s4:Int):St:=⟨sp 24 0 [sD 0 D.s s0,sD 3 (D.l D.s) s3,sI 4 s4],[],[]⟩
def V1(s0:List UInt8)(s3:List (List UInt8))(o:Unit⊕Unit):Ex×St:=match o with
 | .inl o=>(.exit 0,⟨sp 24 0 [sD 0 D.s s0],[],[]⟩)
 | .inr o=>(.ret,⟨sp 24 0 [sD 2 D.b false],[],[]⟩)
theorem aHw(rd:Option Nat)(h:aN4 aC aB a8=some a9):Lq 109 rd 58 (V0 aC aB a8) ((V1 aC aB) a9):=
 lL (fun s:Int=>V0 aC aB s) (V1 aC aB) a8 (fun a8 o h=>by
 unfold Ii at h
 refine gN 8 D.s aB ?_
 refine iB 9 h (fun h=>?_) fun h=>?_
 refine xX 14 D.s h fun x2 h=>?_
 refine iB 17 h (fun h=>?_) fun h=>?_
 exact lb h
 exact lb h
 exact lb h) h
theorem aHx(h:Yl aC=some aD):AL Tryz.prog 109 [.d (D.s aC)] [] (.d (D.b aD)) []:=by
 unfold Yl at h;apply g0 (o:=aD);obtain⟨r1,h1,h⟩:=bS h;refine gC 5 (aUu h1) ?_;obtain⟨o3,h5,h⟩:=bS h;refine gl (aHw none h5) ?_;replace h:=AK h;rcases h with⟨o4,rfl,h⟩|⟨o5,rfl,h⟩
 obtain⟨r6,h6,h⟩:=bS h;refine gQ (aWt h6) ?_;cases r6;replace h:=By h;refine gW 19 (.ret (.d (D.b false))) ?_;exact lf h;replace h:=Bz h;refine gW 19 (.ret (.d (D.b true))) ?_;exact lf h;exact lf h
def WY(s0:List Xe)(s1:List UInt8)(s5:Int):St:=⟨sp 20 0 [sD 0 (D.l Xe.D) s0,sD 1 D.s s1,sI 5 s5],[],[]⟩
def WZ(s0:List Xe)(s1:List UInt8)(o:Unit⊕Int):Ex×St:=match o with
 | .inl o=>(.exit 0,⟨sp 20 0 [],[],[]⟩)
 | .inr o=>(.ret,⟨sp 20 0 [sI 4 o],[],[]⟩)
theorem aIl(rd:Option Nat)(h:aOf aE aC a8=some aF):Lq 61 rd 26 (WY aE aC a8) ((WZ aE aC) aF):=
 lL (fun s:Int=>WY aE aC s) (WZ aE aC) a8 (fun a8 o h=>by
 unfold Kz at h
 refine gN 8 Xe.D aE ?_
 refine iB 9 h (fun h=>?_) fun h=>?_
 refine xX 14 Xe.D h fun x1 h=>?_
 refine iB 18 h (fun h=>?_) fun h=>?_
 exact lb h
 exact lb h
 exact lb h) h
theorem aW2(h:Z4 aE aC=some a8):AL Tryz.prog 61 [.d ((D.l Xe.D) aE),.d (D.s aC)] [] (dI a8) []:=by
 unfold Z4 at h;apply g0 (o:=a8);obtain⟨o2,h4,h⟩:=bS h;refine gl (aIl none h4) ?_;replace h:=AK h;rcases h with⟨o3,rfl,h⟩|⟨o4,rfl,h⟩
 exact lf h;exact lf h
def Uw(s0:List Xe)(s4 s5:Int):St:=⟨sp 72 0 [sD 0 (D.l Xe.D) s0,sI 4 s4,sI 5 s5],[],[]⟩
def Ux(s0:List Xe)(s4:Int)(o:Unit⊕Unit):Ex×St:=match o with
 | .inl o=>(.exit 2,⟨sp 72 0 [sD 0 (D.l Xe.D) s0,sI 4 s4],[],[]⟩)
 | .inr o=>(.ret,⟨sp 72 0 [sI 2 8,sI 3 s4],[],[]⟩)
theorem aFs(rd:Option Nat)(h:aFr aE a8 aA=some a9):Lq 77 rd 29854 (Uw aE a8 aA) ((Ux aE a8) a9):=
 lL (fun s:Int=>Uw aE a8 s) (Ux aE a8) aA (fun aA o h=>by
 unfold E3 at h
 refine xX 44 Xe.D h fun x6 h=>?_
 refine gN 47 dZ x6.types ?_
 refine iB 48 h (fun h=>?_) fun h=>?_
 refine xX 53 Xe.D h fun x7 h=>?_
 refine xX 57 dZ h fun x8 h=>?_
 refine iB 60 h (fun h=>?_) fun h=>?_
 exact lb h
 refine xX 63 Xe.D h fun x9 h=>?_
 refine xX 67 dZ h fun x10 h=>?_
 refine iB 70 h (fun h=>?_) fun h=>?_
 exact lb h
 exact lb h
 exact lb h) h
def Uu(s0:List Xe)(s4:Int):St:=⟨sp 72 0 [sD 0 (D.l Xe.D) s0,sI 4 s4],[],[]⟩
def Uv(s0:List Xe)(o:Unit⊕(Int×Int)):Ex×St:=match o with
 | .inl o=>(.exit 0,⟨sp 72 0 [],[],[]⟩)
 | .inr o=>(.ret,⟨sp 72 0 [sI 2 o.1,sI 3 o.2],[],[]⟩)
theorem aFq(rd:Option Nat)(h:aFp aE a8=some aG):Lq 77 rd 58 (Uu aE a8) ((Uv aE) aG):=
 lL (fun s:Int=>Uu aE s) (Uv aE) a8 (fun a8 o h=>by
 unfold E2 at h
 refine gN 11 Xe.D aE ?_
 refine iB 12 h (fun h=>?_) fun h=>?_
 refine xX 17 Xe.D h fun x1 h=>?_
 obtain⟨r2,h4,h⟩:=bS h
 refine gC 20 (aHx h4) ?_
 refine iB 21 h (fun h=>?_) fun h=>?_
 exact lb h
 refine xX 26 Xe.D h fun x3 h=>?_
 obtain⟨r4,h7,h⟩:=bS h
 refine gC 29 (aW2 h7) ?_
 refine iB 31 h (fun h=>?_) fun h=>?_
 exact lb h
 refine xX 35 Xe.D h fun x5 h=>?_
 refine gN 38 dZ x5.types ?_
 refine iB 39 h (fun h=>?_) fun h=>?_
 exact lb h
 obtain⟨o11,h19,h⟩:=bS h
 refine gl (aFs rd h19) ?_
 replace h:=AK h
 rcases h with⟨o12,rfl,h⟩|⟨o13,rfl,h⟩
 exact lb h
 exact lb h
 exact lb h) h
theorem aV0(h:Xz aE=some aH):AL Tryz.prog 77 [.d ((D.l Xe.D) aE)] [] (.tup [dI aH.1,dI aH.2]) []:=by
 unfold Xz at h;apply g0 (o:=aH);refine gN 7 Xe.D aE ?_;refine iB 8 h (fun h=>?_) fun h=>?_;exact lf h;obtain⟨o14,h20,h⟩:=bS h;refine gl (aFq none h20) ?_;replace h:=AK h;rcases h with⟨o15,rfl,h⟩|⟨o16,rfl,h⟩
 exact lf h;exact lf h
theorem aI4(h:Zn aI=some aD):AL Tryz.prog 62 [.d (X0.D aI)] [] (.d (D.b aD)) []:=by unfold Zn at h;apply g0 (o:=aD);refine iB 5 h (fun h=>?_) fun h=>?_;refine iB 9 h (fun h=>?_) fun h=>?_;exact lf h;exact lf h;refine iB 16 h (fun h=>?_) fun h=>?_;refine iB 20 h (fun h=>?_) fun h=>?_;refine iB 25 h (fun h=>?_) fun h=>?_;refine gG 28 (.int (aI.str.length:Int)) (CU aI.str) ?_;exact lf h;exact lf h;exact lf h;refine iB 34 h (fun h=>?_) fun h=>?_;refine iB 39 h (fun h=>?_) fun h=>?_;exact lf h;exact lf h;exact lf h
def Wa(s0:List (List UInt8))(s1 s5:Int):St:=⟨sp 20 0 [sD 0 (D.l D.s) s0,sI 1 s1,sI 5 s5],[],[]⟩
def Wb(s0:List (List UInt8))(s1:Int)(o:Unit⊕Unit):Ex×St:=match o with
 | .inl o=>(.exit 0,⟨sp 20 0 [],[],[]⟩)
 | .inr o=>(.ret,⟨sp 20 0 [sD 4 D.b true],[],[]⟩)
theorem aIm(rd:Option Nat)(h:aR9 aB a8 aA=some a9):Lq 110 rd 26 (Wa aB a8 aA) ((Wb aB a8) a9):=
 lL (fun s:Int=>Wa aB a8 s) (Wb aB a8) aA (fun aA o h=>by
 unfold It at h
 refine iB 8 h (fun h=>?_) fun h=>?_
 refine xX 13 D.s h fun x1 h=>?_
 refine xX 17 D.s h fun x2 h=>?_
 refine iB 19 h (fun h=>?_) fun h=>?_
 exact lb h
 exact lb h
 exact lb h) h
theorem aSa(h:Z5 aB a8=some aD):AL Tryz.prog 110 [.d ((D.l D.s) aB),dI a8] [] (.d (D.b aD)) []:=by
 unfold Z5 at h;apply g0 (o:=aD);obtain⟨o3,h5,h⟩:=bS h;refine gl (aIm none h5) ?_;replace h:=AK h;rcases h with⟨o4,rfl,h⟩|⟨o5,rfl,h⟩
 exact lf h;exact lf h
def Tb(w1:AD)(s4:Int)(w3:List (List UInt8)):St:=⟨sp 112 0 [bx 1,rx 3,sI 4 s4],[cL 1 AD.D w1,(3,.row 9 1 (w3.map D.s))],[]⟩
def Tc(w1:AD)(o:(List (List UInt8))⊕Unit):Ex×St:=match o with
 | .inl o=>(.exit 0,⟨sp 112 0 [bx 1,rx 3],[cL 1 AD.D w1,(3,.row 9 1 (o.map D.s))],[]⟩)
 | .inr o=>(.ret,⟨sp 112 0 [sD 2 D.b false],[],[]⟩)
theorem aDs(rd:Option Nat)(h:aRs a7 a8 aB=some aJ):Lq 78 rd 58 (Tb a7 a8 aB) ((Tc a7) aJ):=
 lL (fun s:Int×List (List UInt8)=>Tb a7 s.1 s.2) (Tc a7) (a8,aB) (fun⟨a8,aB⟩ o h=>by
 unfold IA at h
 refine gN 12 Ye.D a7.quants ?_
 refine iB 13 h (fun h=>?_) fun h=>?_
 refine xX 20 Ye.D h fun x4 h=>?_
 refine gQ (Ap D.s [x4.name])<|gG 24 (.sl ((aB++[x4.name]).map D.s)) (Ap D.s [x4.name]) ?_
 obtain⟨h10,h⟩:=cS h
 refine gQ (Av D.s h10)<|gQ (Au D.s aB [x4.name])<|xX 28 Ye.D h fun x5 h=>?_
 refine iB 32 h (fun h=>?_) fun h=>?_
 exact lb h
 refine xX 36 Ye.D h fun x6 h=>?_
 refine iB 40 h (fun h=>?_) fun h=>?_
 exact lb h
 exact lB h [.live [1,3,4],.keep [1,24],.ren 24 3,.sort]
 exact lb h) h
def Td(w1:AD)(s5:Int)(w3:List (List UInt8)):St:=⟨sp 112 0 [bx 1,rx 3,sI 5 s5],[cL 1 AD.D w1,(3,.row 9 1 (w3.map D.s))],[]⟩
def Te(w1:AD)(o:(List (List UInt8))⊕Unit):Ex×St:=match o with
 | .inl o=>(.exit 2,⟨sp 112 0 [bx 1,rx 3],[cL 1 AD.D w1,(3,.row 9 1 (o.map D.s))],[]⟩)
 | .inr o=>(.ret,⟨sp 112 0 [sD 2 D.b false],[],[]⟩)
theorem aDt(rd:Option Nat)(h:aRt a7 a8 aB=some aJ):Lq 78 rd 122 (Td a7 a8 aB) ((Te a7) aJ):=
 lL (fun s:Int×List (List UInt8)=>Td a7 s.1 s.2) (Te a7) (a8,aB) (fun⟨a8,aB⟩ o h=>by
 unfold IB at h
 refine gN 44 Yg.D a7.frees ?_
 refine iB 45 h (fun h=>?_) fun h=>?_
 refine xX 52 Yg.D h fun x10 h=>?_
 refine gQ (Ap D.s [x10.name])<|gG 56 (.sl ((aB++[x10.name]).map D.s)) (Ap D.s [x10.name]) ?_
 obtain⟨h18,h⟩:=cS h
 refine gQ (Av D.s h18)<|gQ (Au D.s aB [x10.name])<|xX 60 Yg.D h fun x11 h=>?_
 obtain⟨r12,h20,h⟩:=bS h
 refine gC 63 (aI4 h20) ?_
 refine iB 64 h (fun h=>?_) fun h=>?_
 exact lb h
 exact lB h [.live [1,3,5],.keep [1,56],.ren 56 3,.sort]
 exact lb h) h
def Tf(w1:AD)(w3:List (List UInt8))(s6:Int):St:=⟨sp 112 0 [bx 1,rx 3,sI 6 s6],[cL 1 AD.D w1,(3,.row 9 1 (w3.map D.s))],[]⟩
def Tg(w1:AD)(w3:List (List UInt8))(o:Unit⊕Unit):Ex×St:=match o with
 | .inl o=>(.exit 4,⟨sp 112 0 [bx 1],[cL 1 AD.D w1],[]⟩)
 | .inr o=>(.ret,⟨sp 112 0 [sD 2 D.b false],[],[]⟩)
theorem aDu(rd:Option Nat)(h:aRu a7 aB a8=some a9):Lq 78 rd 250 (Tf a7 aB a8) ((Tg a7 aB) a9):=
 lL (fun s:Int=>Tf a7 aB s) (Tg a7 aB) a8 (fun a8 o h=>by
 unfold IC at h
 refine gN 67 D.s aB ?_
 refine iB 68 h (fun h=>?_) fun h=>?_
 refine xX 73 D.s h fun x16 h=>?_
 obtain⟨r17,h25,h⟩:=bS h
 refine gC 75 (aHx h25) ?_
 refine iB 77 h (fun h=>?_) fun h=>?_
 exact lb h
 obtain⟨r18,h27,h⟩:=bS h
 refine gQ (aSa h27) ?_
 cases r18
 replace h:=By h
 refine gW 80 (.ret (.d (D.b false))) ?_
 exact lb h
 replace h:=Bz h
 refine gW 80 (.ret (.d (D.b true))) ?_
 exact lb h
 exact lb h) h
def Th(w1:AD)(s8:Int)(w7:List (List UInt8)):St:=⟨sp 112 0 [bx 1,rx 7,sI 8 s8],[cL 1 AD.D w1,(7,.row 9 1 (w7.map D.s))],[]⟩
def Ti(w1:AD)(o:Unit⊕Unit):Ex×St:=match o with
 | .inl o=>(.exit 6,⟨sp 112 0 [bx 1],[cL 1 AD.D w1],[]⟩)
 | .inr o=>(.ret,⟨sp 112 0 [sD 2 D.b false],[],[]⟩)
theorem aDv(rd:Option Nat)(h:aRv a7 a8 aB=some a9):Lq 78 rd 1018 (Th a7 a8 aB) ((Ti a7) a9):=
 lL (fun s:Int×List (List UInt8)=>Th a7 s.1 s.2) (Ti a7) (a8,aB) (fun⟨a8,aB⟩ o h=>by
 unfold ID at h
 refine gN 85 Xc.D a7.states ?_
 refine iB 86 h (fun h=>?_) fun h=>?_
 refine xX 93 Xc.D h fun x26 h=>?_
 refine gQ (Ap D.s [x26.name])<|gG 97 (.sl ((aB++[x26.name]).map D.s)) (Ap D.s [x26.name]) ?_
 obtain⟨h40,h⟩:=cS h
 refine gQ (Av D.s h40)<|gQ (Au D.s aB [x26.name])<|xX 100 D.s h fun x27 h=>?_
 obtain⟨r28,h42,h⟩:=bS h
 refine gC 102 (aHx h42) ?_
 refine iB 104 h (fun h=>?_) fun h=>?_
 exact lb h
 obtain⟨r29,h44,h⟩:=bS h
 refine gQ (aSa h44) ?_
 cases r29
 replace h:=By h
 refine gW 107 (.ret (.d (D.b false))) ?_
 exact lB h [.live [1,7,8],.keep [1,97],.ren 97 7,.sort]
 replace h:=Bz h
 refine gW 107 (.ret (.d (D.b true))) ?_
 exact lb h
 exact lb h) h
theorem aVg(h:Xi a7=some aD):AL Tryz.prog 78 [.d (AD.D a7)] [] (.d (D.b aD)) []:=by
 unfold Xi at h;apply g0 (o:=aD);obtain⟨o7,h15,h⟩:=bS h;refine gL [.live [1,3,4],.keep [1],.nil 3 3 9 1,.sort] (aDs none h15) ?_;replace h:=AK h;rcases h with⟨o8,rfl,h⟩|⟨o9,rfl,h⟩
 obtain⟨o13,h22,h⟩:=bS h;refine gl (aDt none h22) ?_;replace h:=AK h;rcases h with⟨o14,rfl,h⟩|⟨o15,rfl,h⟩
 obtain⟨o19,h29,h⟩:=bS h;refine gl (aDu none h29) ?_;replace h:=AK h;rcases h with⟨o20,rfl,h⟩|⟨o21,rfl,h⟩
 obtain⟨o30,h46,h⟩:=bS h;refine gL [.live [1,7,8],.keep [1],.nil 7 7 9 1,.sort] (aDv none h46) ?_;replace h:=AK h;rcases h with⟨o31,rfl,h⟩|⟨o32,rfl,h⟩
 obtain⟨r33,h47,h⟩:=bS h;refine gC 111 (aHx h47) ?_;exact lf h;exact lf h;exact lf h;exact lf h;exact lf h
theorem K2(h:Zm aD=some aK):AL Tryz.prog 185 [.d (D.b aD)] [] (.tup [.d (X0.D aK.1),dI aK.2]) []:=by unfold Zm at h;apply g0 (o:=aK);exact lf h
theorem aUh(h:Qm a8 aA=some aL):AL Tryz.prog 189 [dI a8,dI aA] [] (.tup [dI aL.1,.d (D.b aL.2)]) []:=by unfold Qm at h;apply g0 (o:=aL);refine iB 8 h (fun h=>?_) fun h=>?_;refine iB 14 h (fun h=>?_) fun h=>?_;exact lf h;refine iB 17 h (fun h=>?_) fun h=>?_;refine iB 23 h (fun h=>?_) fun h=>?_;exact lf h;exact lf h;exact lf h;refine iB 17 h (fun h=>?_) fun h=>?_;refine iB 23 h (fun h=>?_) fun h=>?_;exact lf h;exact lf h;exact lf h
theorem aJa(h:Zx a8 aD=some aK):AL Tryz.prog 190 [dI a8,.d (D.b aD)] [] (.tup [.d (X0.D aK.1),dI aK.2]) []:=by unfold Zx at h;apply g0 (o:=aK);refine iB 7 h (fun h=>?_) fun h=>?_;exact lf h;exact lf h
theorem aI9(h:Zt a8 aA=some aL):AL Tryz.prog 191 [dI a8,dI aA] [] (.tup [dI aL.1,.d (D.b aL.2)]) []:=by unfold Zt at h;apply g0 (o:=aL);refine iB 8 h (fun h=>?_) fun h=>?_;refine iB 14 h (fun h=>?_) fun h=>?_;exact lf h;refine iB 17 h (fun h=>?_) fun h=>?_;refine iB 23 h (fun h=>?_) fun h=>?_;exact lf h;exact lf h;exact lf h;refine iB 17 h (fun h=>?_) fun h=>?_;refine iB 23 h (fun h=>?_) fun h=>?_;exact lf h;exact lf h;exact lf h
theorem aUi(h:Qn a8 aA=some aL):AL Tryz.prog 192 [dI a8,dI aA] [] (.tup [dI aL.1,.d (D.b aL.2)]) []:=by
 unfold Qn at h;apply g0 (o:=aL);refine iB 8 h (fun h=>?_) fun h=>?_;exact lf h;refine iB 11 h (fun h=>?_) fun h=>?_;exact lf h;refine iB 13 h (fun h=>?_) fun h=>?_;obtain⟨r1,h4,h⟩:=bS h;refine gC 15 (aI9 h4) ?_;exact lf h;refine iB 19 h (fun h=>?_) fun h=>?_;obtain⟨r2,h6,h⟩:=bS h;refine gC 21 (aI9 h6) ?_;exact lf h;rcases iS h with⟨h7,h⟩|⟨h7,h⟩
 refine gT 26 h7 ?_;rcases iS h with⟨h8,h⟩|⟨h8,h⟩
 refine gT 30 h8 ?_;obtain⟨h9,h⟩:=cS h;refine gQ h9 ?_;refine iB 36 h (fun h=>?_) fun h=>?_;exact lf h;refine gT 39 h7 ?_;rcases iS h with⟨h11,h⟩|⟨h11,h⟩
 refine gT 43 h11 ?_;obtain⟨h12,h⟩:=cS h;refine gQ h12 ?_;refine iB 50 h (fun h=>?_) fun h=>?_;exact lf h;rcases iS h with⟨h14,h⟩|⟨h14,h⟩
 refine gT 53 h14<|gT 57 h8 ?_;obtain⟨h15,h⟩:=cS h;refine gQ h15 ?_;refine iB 64 h (fun h=>?_) fun h=>?_;exact lf h;refine gT 67 h14<|gT 71 h11 ?_;obtain⟨h17,h⟩:=cS h;refine gQ h17 ?_;refine iB 77 h (fun h=>?_) fun h=>?_;exact lf h;exact lf h;refine gF 53 h14<|gF 67 h14 ?_;exact lf h;refine gF 43 h11 ?_;rcases iS h with⟨h19,h⟩|⟨h19,h⟩
 refine gT 53 h19<|gT 57 h8 ?_;obtain⟨h20,h⟩:=cS h;refine gQ h20 ?_;refine iB 64 h (fun h=>?_) fun h=>?_;exact lf h;refine gT 67 h19<|gF 71 h11 ?_;exact lf h;refine gF 53 h19<|gF 67 h19 ?_;exact lf h;refine gF 30 h8<|gT 39 h7 ?_;rcases iS h with⟨h22,h⟩|⟨h22,h⟩
 refine gT 43 h22 ?_;obtain⟨h23,h⟩:=cS h;refine gQ h23 ?_;refine iB 50 h (fun h=>?_) fun h=>?_;exact lf h;rcases iS h with⟨h25,h⟩|⟨h25,h⟩
 refine gT 53 h25<|gF 57 h8<|gT 67 h25<|gT 71 h22 ?_;obtain⟨h26,h⟩:=cS h;refine gQ h26 ?_;refine iB 77 h (fun h=>?_) fun h=>?_;exact lf h;exact lf h;refine gF 53 h25<|gF 67 h25 ?_;exact lf h;refine gF 43 h22 ?_;rcases iS h with⟨h28,h⟩|⟨h28,h⟩
 refine gT 53 h28<|gF 57 h8<|gT 67 h28<|gF 71 h22 ?_;exact lf h;refine gF 53 h28<|gF 67 h28 ?_;exact lf h;refine gF 26 h7<|gF 39 h7 ?_;rcases iS h with⟨h29,h⟩|⟨h29,h⟩
 refine gT 53 h29 ?_;refine iB 57 h (fun h=>?_) fun h=>?_;obtain⟨h31,h⟩:=cS h;refine gQ h31 ?_;refine iB 64 h (fun h=>?_) fun h=>?_;exact lf h;refine gT 67 h29 ?_;refine iB 71 h (fun h=>?_) fun h=>?_;obtain⟨h34,h⟩:=cS h;refine gQ h34 ?_;refine iB 77 h (fun h=>?_) fun h=>?_;exact lf h;exact lf h;exact lf h;refine gT 67 h29 ?_;refine iB 71 h (fun h=>?_) fun h=>?_;obtain⟨h37,h⟩:=cS h;refine gQ h37 ?_;refine iB 77 h (fun h=>?_) fun h=>?_;exact lf h;exact lf h;exact lf h;refine gF 53 h29<|gF 67 h29 ?_;exact lf h
theorem aUj(h:Qo a8 aA=some aM):AL Tryz.prog 193 [dI a8,dI aA] [] (.tup [dI aM.1,dI aM.2.1,dI aM.2.2]) []:=by unfold Qo at h;apply g0 (o:=aM);refine iB 10 h (fun h=>?_) fun h=>?_;exact lf h;refine iB 12 h (fun h=>?_) fun h=>?_;obtain⟨r1,h3,h⟩:=bS h;refine gC 15 (aI9 h3) ?_;refine iB 19 h (fun h=>?_) fun h=>?_;exact lf h;exact lf h;obtain⟨h5,h⟩:=cS h;refine gQ h5 ?_;obtain⟨h6,h⟩:=cS h;refine gQ h6 ?_;exact lf h
theorem aSf(h:Zu a8 aA aN=some aK):AL Tryz.prog 186 [dI a8,dI aA,dI aN] [] (.tup [.d (X0.D aK.1),dI aK.2]) []:=by unfold Zu at h;apply g0 (o:=aK);refine iB 18 h (fun h=>?_) fun h=>?_;obtain⟨r1,h2,h⟩:=bS h;refine gC 22 (aUh h2) ?_;obtain⟨r2,h3,h⟩:=bS h;refine gC 27 (aJa h3) ?_;exact lf h;refine iB 31 h (fun h=>?_) fun h=>?_;obtain⟨r3,h5,h⟩:=bS h;refine gC 35 (aI9 h5) ?_;obtain⟨r4,h6,h⟩:=bS h;refine gC 40 (aJa h6) ?_;exact lf h;refine iB 44 h (fun h=>?_) fun h=>?_;obtain⟨r5,h8,h⟩:=bS h;refine gC 48 (aUi h8) ?_;obtain⟨r6,h9,h⟩:=bS h;refine gC 53 (aJa h9) ?_;exact lf h;obtain⟨r7,h10,h⟩:=bS h;refine gC 59 (aUj h10) ?_;refine iB 64 h (fun h=>?_) fun h=>?_;exact lf h;refine iB 67 h (fun h=>?_) fun h=>?_;exact lf h;obtain⟨r8,h13,h⟩:=bS h;refine gC 73 (aJa h13) ?_;exact lf h
def V4(s0 s1:List UInt8)(s5:Int):St:=⟨sp 37 0 [sD 0 D.s s0,sD 1 D.s s1,sI 5 s5],[],[]⟩
def V5(s0 s1:List UInt8)(o:Unit⊕Bool):Ex×St:=match o with
 | .inl o=>(.exit 0,⟨sp 37 0 [sD 0 D.s s0,sD 1 D.s s1],[],[]⟩)
 | .inr o=>(.ret,⟨sp 37 0 [sD 4 D.b o],[],[]⟩)
theorem aH1(rd:Option Nat)(h:aH0 aC aO a8=some aP):Lq 144 rd 26 (V4 aC aO a8) ((V5 aC aO) aP):=
 lL (fun s:Int=>V4 aC aO s) (V5 aC aO) a8 (fun a8 o h=>by
 unfold Gv at h
 refine gG 8 (.int (aC.length:Int)) (CU aC) ?_
 refine iB 10 h (fun h=>?_) fun h=>?_
 refine gG 13 (.int (aO.length:Int)) (CU aO) ?_
 refine iB 15 h (fun h=>?_) fun h=>?_
 obtain⟨x1,h3,h⟩:=xS h
 refine gG 20 (.int x1.toNat) (Gz h3) ?_
 obtain⟨x2,h4,h⟩:=xS h
 refine gG 23 (.int x2.toNat) (Gz h4) ?_
 refine iB 24 h (fun h=>?_) fun h=>?_
 obtain⟨x3,h6,h⟩:=xS h
 refine gG 27 (.int x3.toNat) (Gz h6) ?_
 obtain⟨x4,h7,h⟩:=xS h
 refine gG 30 (.int x4.toNat) (Gz h7) ?_
 exact lb h
 exact lb h
 exact lb h
 exact lb h) h
theorem aWm(h:Yp aC aO=some aD):AL Tryz.prog 144 [.d (D.s aC),.d (D.s aO)] [] (.d (D.b aD)) []:=by
 unfold Yp at h;apply g0 (o:=aD);obtain⟨o5,h8,h⟩:=bS h;refine gl (aH1 none h8) ?_;replace h:=AK h;rcases h with⟨o6,rfl,h⟩|⟨o7,rfl,h⟩
 refine gG 33 (.int (aC.length:Int)) (CU aC)<|gG 35 (.int (aO.length:Int)) (CU aO) ?_;exact lf h;exact lf h
theorem aOv(h:Zp aI aQ=some aD):AL Tryz.prog 116 [.d (X0.D aI),.d (X0.D aQ)] [] (.d (D.b aD)) []:=by unfold Zp at h;apply g0 (o:=aD);refine iB 9 h (fun h=>?_) fun h=>?_;exact lf h;refine iB 17 h (fun h=>?_) fun h=>?_;exact lf h;refine iB 25 h (fun h=>?_) fun h=>?_;obtain⟨r1,h4,h⟩:=bS h;refine gC 30 (aWm h4) ?_;exact lf h;refine iB 34 h (fun h=>?_) fun h=>?_;exact lf h;exact lf h
theorem aUa(h:Qd a8 aI aQ=some aK):AL Tryz.prog 179 [dI a8,.d (X0.D aI),.d (X0.D aQ)] [] (.tup [.d (X0.D aK.1),dI aK.2]) []:=by unfold Qd at h;apply g0 (o:=aK);refine iB 10 h (fun h=>?_) fun h=>?_;exact lf h;refine iB 13 h (fun h=>?_) fun h=>?_;exact lf h;refine iB 16 h (fun h=>?_) fun h=>?_;refine iB 19 h (fun h=>?_) fun h=>?_;exact lf h;obtain⟨r1,h5,h⟩:=bS h;refine gC 24 (K2 h5) ?_;exact lf h;refine iB 28 h (fun h=>?_) fun h=>?_;refine iB 31 h (fun h=>?_) fun h=>?_;exact lf h;obtain⟨r2,h8,h⟩:=bS h;refine gC 35 (aSf h8) ?_;exact lf h;refine iB 42 h (fun h=>?_) fun h=>?_;exact lf h;refine iB 45 h (fun h=>?_) fun h=>?_;obtain⟨r3,h11,h⟩:=bS h;refine gC 49 (K2 h11) ?_;exact lf h;refine iB 53 h (fun h=>?_) fun h=>?_;obtain⟨r4,h13,h⟩:=bS h;refine gC 57 (K2 h13) ?_;exact lf h;refine iB 62 h (fun h=>?_) fun h=>?_;refine iB 64 h (fun h=>?_) fun h=>?_;refine iB 67 h (fun h=>?_) fun h=>?_;obtain⟨r5,h17,h⟩:=bS h;refine gC 71 (K2 h17) ?_;exact lf h;obtain⟨r6,h18,h⟩:=bS h;refine gC 71 (K2 h18) ?_;exact lf h;refine iB 75 h (fun h=>?_) fun h=>?_;refine iB 78 h (fun h=>?_) fun h=>?_;obtain⟨r7,h21,h⟩:=bS h;refine gC 82 (K2 h21) ?_;exact lf h;obtain⟨r8,h22,h⟩:=bS h;refine gC 82 (K2 h22) ?_;exact lf h;exact lf h;refine iB 87 h (fun h=>?_) fun h=>?_;obtain⟨r9,h24,h⟩:=bS h;refine gC 90 (aOv h24) ?_;obtain⟨r10,h25,h⟩:=bS h;refine gC 91 (K2 h25) ?_;exact lf h;refine iB 95 h (fun h=>?_) fun h=>?_;obtain⟨r11,h27,h⟩:=bS h;refine gC 98 (aOv h27) ?_;obtain⟨r12,h28,h⟩:=bS h;refine gC 100 (K2 h28) ?_;exact lf h;refine iB 106 h (fun h=>?_) fun h=>?_;refine iB 110 h (fun h=>?_) fun h=>?_;refine iB 113 h (fun h=>?_) fun h=>?_;obtain⟨r13,h32,h⟩:=bS h;refine gC 119 (aSf h32) ?_;exact lf h;refine iB 125 h (fun h=>?_) fun h=>?_;refine iB 128 h (fun h=>?_) fun h=>?_;refine gG 131 (.int (aI.str.length:Int)) (CU aI.str)<|gG 134 (.int (aQ.str.length:Int)) (CU aQ.str) ?_;refine iB 136 h (fun h=>?_) fun h=>?_;exact lf h;refine gW 142 (.str (aI.str++aQ.str)) ?_;obtain⟨h36,h⟩:=cS h;refine gQ (Jn h36) ?_;exact lf h;exact lf h;exact lf h;refine iB 125 h (fun h=>?_) fun h=>?_;refine iB 128 h (fun h=>?_) fun h=>?_;refine gG 131 (.int (aI.str.length:Int)) (CU aI.str)<|gG 134 (.int (aQ.str.length:Int)) (CU aQ.str) ?_;refine iB 136 h (fun h=>?_) fun h=>?_;exact lf h;refine gW 142 (.str (aI.str++aQ.str)) ?_;obtain⟨h40,h⟩:=cS h;refine gQ (Jn h40) ?_;exact lf h;exact lf h;exact lf h;refine iB 125 h (fun h=>?_) fun h=>?_;refine iB 128 h (fun h=>?_) fun h=>?_;refine gG 131 (.int (aI.str.length:Int)) (CU aI.str)<|gG 134 (.int (aQ.str.length:Int)) (CU aQ.str) ?_;refine iB 136 h (fun h=>?_) fun h=>?_;exact lf h;refine gW 142 (.str (aI.str++aQ.str)) ?_;obtain⟨h44,h⟩:=cS h;refine gQ (Jn h44) ?_;exact lf h;exact lf h;exact lf h
theorem aSh(h:Zy a8 aA aN=some aR):AL Tryz.prog 165 [dI a8,dI aA,dI aN] [] (dI aR) []:=by unfold Zy at h;apply g0 (o:=aR);refine iB 11 h (fun h=>?_) fun h=>?_;exact lf h;refine iB 15 h (fun h=>?_) fun h=>?_;exact lf h;obtain⟨r1,h3,h⟩:=bS h;refine gC 22 (aUa h3) ?_;refine iB 26 h (fun h=>?_) fun h=>?_;exact lf h;refine iB 28 h (fun h=>?_) fun h=>?_;exact lf h;exact lf h
theorem aOa(self:AD->Int->Option (Int×Int×Int))(hs:∀(a0:AD) (a1:Int) (r:Int×Int×Int),self a0 a1=some r->AL Tryz.prog 142 [.d (AD.D a0),dI a1] [] (.tup [dI r.1,dI r.2.1,dI r.2.2]) [])(a0:AD)(a1:Int)(r:Int×Int×Int)(h:aN9 self a0 a1=some r):AL Tryz.prog 142 [.d (AD.D a0),dI a1] [] (.tup [dI r.1,dI r.2.1,dI r.2.2]) []:=by unfold aN9 at h;apply g0 (o:=r);refine iB 17 h (fun h=>?_) fun h=>?_;exact lf h;refine gN 21 Ym.D a0.nodes ?_;refine iB 23 h (fun h=>?_) fun h=>?_;exact lf h;refine xX 27 Ym.D h fun x1 h=>?_;refine iB 32 h (fun h=>?_) fun h=>?_;refine iB 36 h (fun h=>?_) fun h=>?_;exact lf h;refine iB 41 h (fun h=>?_) fun h=>?_;exact lf h;obtain⟨r2,h7,h⟩:=bS h;refine gC 44 (aI4 h7) ?_;refine iB 46 h (fun h=>?_) fun h=>?_;exact lf h;exact lf h;refine iB 54 h (fun h=>?_) fun h=>?_;exact lf h;refine iB 57 h (fun h=>?_) fun h=>?_;refine iB 61 h (fun h=>?_) fun h=>?_;exact lf h;refine gN 66 Ye.D a0.quants ?_;refine iB 69 h (fun h=>?_) fun h=>?_;exact lf h;refine iB 73 h (fun h=>?_) fun h=>?_;exact lf h;refine xX 78 Ye.D h fun x3 h=>?_;exact lf h;refine iB 84 h (fun h=>?_) fun h=>?_;refine iB 88 h (fun h=>?_) fun h=>?_;exact lf h;refine gN 93 Yg.D a0.frees ?_;refine iB 96 h (fun h=>?_) fun h=>?_;exact lf h;refine iB 100 h (fun h=>?_) fun h=>?_;exact lf h;refine xX 105 Yg.D h fun x4 h=>?_;exact lf h;refine iB 113 h (fun h=>?_) fun h=>?_;exact lf h;refine iB 117 h (fun h=>?_) fun h=>?_;exact lf h;obtain⟨r5,h22,h⟩:=bS h;refine gG 122 (.ret (.tup [dI r5.1,dI r5.2.1,dI r5.2.2])) (hs a0 (AA .sub .i64 a1 1) r5 h22) ?_;refine iB 128 h (fun h=>?_) fun h=>?_;refine iB 131 h (fun h=>?_) fun h=>?_;exact lf h;refine iB 138 h (fun h=>?_) fun h=>?_;exact lf h;refine iB 142 h (fun h=>?_) fun h=>?_;exact lf h;obtain⟨r6,h27,h⟩:=bS h;refine gC 147 (aSh h27) ?_;exact lf h;refine iB 153 h (fun h=>?_) fun h=>?_;exact lf h;refine iB 160 h (fun h=>?_) fun h=>?_;exact lf h;refine iB 166 h (fun h=>?_) fun h=>?_;exact lf h;obtain⟨r7,h31,h⟩:=bS h;refine gG 171 (.ret (.tup [dI r7.1,dI r7.2.1,dI r7.2.2])) (hs a0 (AA .sub .i64 r5.2.2 1) r7 h31)<|gW 182 (.int (aTw r5.2.1 r7.2.1)) ?_;obtain⟨r8,h32,h⟩:=bS h;refine gC 179 (aSh h32)<|gQ (rfl:aTw r5.2.1 r7.2.1=aTw r5.2.1 r7.2.1) ?_;exact lf h
theorem WN:∀(n:Nat) (a0:AD) (a1:Int) (r:Int×Int×Int),aLa n a0 a1=some r->AL Tryz.prog 142 [.d (AD.D a0),dI a1] [] (.tup [dI r.1,dI r.2.1,dI r.2.2]) []
 |0,a0,a1,r,h=>by simp[aLa]at h
 |n+1,a0,a1,r,h=>aOa _ (WN n) a0 a1 r h
theorem aWu(h:Yy a7 a8=some aM):AL Tryz.prog 142 [.d (AD.D a7),dI a8] [] (.tup [dI aM.1,dI aM.2.1,dI aM.2.2]) []:=WN 100000 a7 a8 aM h
theorem aRb(h:Q7 a7 a8 aA=some aH):AL Tryz.prog 111 [.d (AD.D a7),dI a8,dI aA] [] (.tup [dI aH.1,dI aH.2]) []:=by unfold Q7 at h;apply g0 (o:=aH);obtain⟨r1,h1,h⟩:=bS h;refine gC 14 (aWu h1) ?_;refine iB 20 h (fun h=>?_) fun h=>?_;exact lf h;refine iB 24 h (fun h=>?_) fun h=>?_;exact lf h;exact lf h
def WJ(s1:Int)(w2:X3)(s5:Int):St:=⟨sp 30 0 [sI 1 s1,bx 2,sI 5 s5],[cL 2 X3.D w2],[]⟩
def WK(s1:Int)(w2:X3)(o:Unit⊕Unit):Ex×St:=match o with
 | .inl o=>(.exit 0,⟨sp 30 0 [],[],[]⟩)
 | .inr o=>(.ret,⟨sp 30 0 [sD 4 D.b true],[],[]⟩)
theorem aIa(rd:Option Nat)(h:aN7 a8 aS aA=some a9):Lq 115 rd 26 (WJ a8 aS aA) ((WK a8 aS) a9):=
 lL (fun s:Int=>WJ a8 aS s) (WK a8 aS) aA (fun aA o h=>by
 unfold In at h
 refine gN 9 BW.D aS.args ?_
 refine iB 10 h (fun h=>?_) fun h=>?_
 refine xX 16 BW.D h fun x1 h=>?_
 refine iB 20 h (fun h=>?_) fun h=>?_
 refine xX 24 BW.D h fun x2 h=>?_
 refine iB 29 h (fun h=>?_) fun h=>?_
 exact lb h
 exact lb h
 exact lb h
 exact lb h) h
theorem aR6(h:Yv aS a8=some aD):AL Tryz.prog 115 [.d (X3.D aS),dI a8] [] (.d (D.b aD)) []:=by
 unfold Yv at h;apply g0 (o:=aD);obtain⟨o3,h6,h⟩:=bS h;refine gl (aIa none h6) ?_;replace h:=AK h;rcases h with⟨o4,rfl,h⟩|⟨o5,rfl,h⟩
 exact lf h;exact lf h
def Wm(s3:Int)(w4:AD)(w5:X3)(s9:Int):St:=⟨sp 34 0 [sI 3 s3,bx 4,bx 5,sI 9 s9],[cL 4 AD.D w4,cL 5 X3.D w5],[]⟩
def Wn(s3:Int)(w4:AD)(w5:X3)(o:Unit⊕Unit):Ex×St:=match o with
 | .inl o=>(.exit 0,⟨sp 34 0 [],[],[]⟩)
 | .inr o=>(.ret,⟨sp 34 0 [sD 8 D.b false],[],[]⟩)
theorem aIr(rd:Option Nat)(h:aOj a8 a7 aS aA=some a9):Lq 112 rd 26 (Wm a8 a7 aS aA) ((Wn a8 a7 aS) a9):=
 lL (fun s:Int=>Wm a8 a7 aS s) (Wn a8 a7 aS) aA (fun aA o h=>by
 unfold Iw at h
 refine iB 13 h (fun h=>?_) fun h=>?_
 refine xX 19 Ym.D h fun x1 h=>?_
 refine iB 23 h (fun h=>?_) fun h=>?_
 refine xX 28 Ym.D h fun x2 h=>?_
 obtain⟨r3,h5,h⟩:=bS h
 refine gC 31 (aR6 h5) ?_
 refine iB 33 h (fun h=>?_) fun h=>?_
 exact lb h
 exact lb h
 exact lb h
 exact lb h) h
theorem aXa(h:Za a7 aS a8 aA=some aD):AL Tryz.prog 112 [.d (AD.D a7),.d (X3.D aS),dI a8,dI aA] [] (.d (D.b aD)) []:=by
 unfold Za at h;apply g0 (o:=aD);obtain⟨o4,h7,h⟩:=bS h;refine gl (aIr none h7) ?_;replace h:=AK h;rcases h with⟨o5,rfl,h⟩|⟨o6,rfl,h⟩
 exact lf h;exact lf h
theorem aFt(rd:Option Nat)(h:Uy a8 aA aD a7 aT=some aU):Lq 79 rd 61 ⟨sp 153 0 [sI 2 a8,bx 3,bx 4,sI 8 aA,sD 56 D.b aD],[cL 3 AD.D a7,cL 4 Xd.D aT],[]⟩ (match (generalizing:=false) aU with
 | .inl aU=>(.normal,⟨sp 153 0 [sI 2 a8,bx 3,bx 4,sI 8 aU],[cL 3 AD.D a7,cL 4 Xd.D aT],[]⟩)
 | .inr aU=>(.ret,⟨sp 153 0 [sI 6 0,sD 7 D.b false],[],[]⟩)):=by
 unfold Uy at h
 apply g0 (o:=aU)
 cases aD
 replace h:=By h
 exact lp h
 replace h:=Bz h
 obtain⟨r1,h8,h⟩:=bS h
 refine gC 62 (aRb h8) ?_
 refine iB 67 h (fun h=>?_) fun h=>?_
 exact lp h
 refine iB 70 h (fun h=>?_) fun h=>?_
 exact lp h
 exact lp h
def VB(s2 s11:Int)(w3:AD)(w4:Xd)(w12:Fi)(s15:Int):St:=⟨sp 153 0 [sI 2 s2,bx 3,bx 4,sI 11 s11,bx 12,sI 15 s15],[cL 3 AD.D w3,cL 4 Xd.D w4,cL 12 Fi.D w12],[]⟩
def VC(s2 s11:Int)(w3:AD)(w4:Xd)(w12:Fi)(o:Unit⊕Unit):Ex×St:=match o with
 | .inl o=>(.exit 2,⟨sp 153 0 [sI 2 s2,bx 3,bx 4,sI 11 s11,bx 12],[cL 3 AD.D w3,cL 4 Xd.D w4,cL 12 Fi.D w12],[]⟩)
 | .inr o=>(.ret,⟨sp 153 0 [sI 6 0,sD 7 D.b false],[],[]⟩)
theorem aFv(rd:Option Nat)(h:aNp a8 aA a7 aT aV aN=some a9):Lq 79 rd 256314 (VB a8 aA a7 aT aV aN) ((VC a8 aA a7 aT aV) a9):=
 lL (fun s:Int=>VB a8 aA a7 aT aV s) (VC a8 aA a7 aT aV) aN (fun aN o h=>by
 unfold IS at h
 refine iB 127 h (fun h=>?_) fun h=>?_
 refine xX 133 Fi.D h fun x8 h=>?_
 refine iB 138 h (fun h=>?_) fun h=>?_
 exact lb h
 exact lb h
 exact lb h) h
def Uz(s2:Int)(w3:AD)(w4:Xd)(s8 s11:Int):St:=⟨sp 153 0 [sI 2 s2,bx 3,bx 4,sI 8 s8,sI 11 s11],[cL 3 AD.D w3,cL 4 Xd.D w4],[]⟩
def VA(s2:Int)(w3:AD)(w4:Xd)(o:Int⊕Unit):Ex×St:=match o with
 | .inl o=>(.exit 0,⟨sp 153 0 [sI 2 s2,bx 3,bx 4,sI 8 o],[cL 3 AD.D w3,cL 4 Xd.D w4],[]⟩)
 | .inr o=>(.ret,⟨sp 153 0 [sI 6 0,sD 7 D.b false],[],[]⟩)
theorem aFu(rd:Option Nat)(h:aNo a8 a7 aT aA aN=some aU):Lq 79 rd 250 (Uz a8 a7 aT aA aN) ((VA a8 a7 aT) aU):=
 lL (fun s:Int×Int=>Uz a8 a7 aT s.1 s.2) (VA a8 a7 aT) (aA,aN) (fun⟨aA,aN⟩ o h=>by
 unfold IR at h
 refine gN 77 Fi.D aT.sets ?_
 refine iB 78 h (fun h=>?_) fun h=>?_
 refine xX 84 Fi.D h fun x5 h=>?_
 obtain⟨r6,h14,h⟩:=bS h
 refine gC 91 (aRb h14) ?_
 refine iB 97 h (fun h=>?_) fun h=>?_
 exact lb h
 refine gN 102 Yg.D a7.frees ?_
 refine iB 105 h (fun h=>?_) fun h=>?_
 exact lb h
 refine iB 109 h (fun h=>?_) fun h=>?_
 exact lb h
 refine iB 113 h (fun h=>?_) fun h=>?_
 exact lb h
 refine xX 119 Yg.D h fun x7 h=>?_
 refine iB 124 h (fun h=>?_) fun h=>?_
 exact lb h
 obtain⟨o9,h24,h⟩:=bS h
 refine gl (aFv rd h24) ?_
 replace h:=AK h
 rcases h with⟨o10,rfl,h⟩|⟨o11,rfl,h⟩
 exact lb h
 exact lb h
 exact lb h) h
theorem aV1(h:Y0 a7 aT a8=some aL):AL Tryz.prog 79 [.d (AD.D a7),.d (Xd.D aT),dI a8] [] (.tup [dI aL.1,.d (D.b aL.2)]) []:=by
 unfold Y0 at h;apply g0 (o:=aL);refine iB 19 h (fun h=>?_) fun h=>?_;exact lf h;refine gN 24 Xc.D a7.states ?_;refine iB 27 h (fun h=>?_) fun h=>?_;exact lf h;refine iB 32 h (fun h=>?_) fun h=>?_;exact lf h;refine gN 37 Xc.D a7.states ?_;refine iB 40 h (fun h=>?_) fun h=>?_;exact lf h;refine iB 45 h (fun h=>?_) fun h=>?_;exact lf h;refine gN 50 X3.D a7.symbols ?_;refine iB 52 h (fun h=>?_) fun h=>?_;exact lf h;obtain⟨o2,h11,h⟩:=bS h;refine gl (aFt none h11) ?_;replace h:=AK h;rcases h with⟨o3,rfl,h⟩|⟨o4,rfl,h⟩
 obtain⟨o12,h25,h⟩:=bS h;refine gl (aFu none h25) ?_;replace h:=AK h;rcases h with⟨o13,rfl,h⟩|⟨o14,rfl,h⟩
 refine xX 148 X3.D h fun x15 h=>?_;obtain⟨r16,h27,h⟩:=bS h;refine gC 152 (aXa h27) ?_;exact lf h;exact lf h;exact lf h
theorem aUc(h:Qe a7 aW a8=some aD):AL Tryz.prog 143 [.d (AD.D a7),.d (BW.D aW),dI a8] [] (.d (D.b aD)) []:=by unfold Qe at h;apply g0 (o:=aD);refine iB 11 h (fun h=>?_) fun h=>?_;refine iB 15 h (fun h=>?_) fun h=>?_;obtain⟨r1,h3,h⟩:=bS h;refine gQ (aI4 h3) ?_;cases r1;replace h:=By h;refine gW 18 (.ret (.d (D.b false))) ?_;exact lf h;replace h:=Bz h;refine gW 18 (.ret (.d (D.b true))) ?_;exact lf h;exact lf h;refine iB 30 h (fun h=>?_) fun h=>?_;exact lf h;refine iB 33 h (fun h=>?_) fun h=>?_;refine iB 37 h (fun h=>?_) fun h=>?_;refine gN 42 Ye.D a7.quants ?_;refine iB 45 h (fun h=>?_) fun h=>?_;refine xX 50 Ye.D h fun x2 h=>?_;exact lf h;exact lf h;exact lf h;refine iB 58 h (fun h=>?_) fun h=>?_;refine iB 62 h (fun h=>?_) fun h=>?_;refine gN 67 Yg.D a7.frees ?_;refine iB 70 h (fun h=>?_) fun h=>?_;refine xX 75 Yg.D h fun x3 h=>?_;exact lf h;exact lf h;exact lf h;refine iB 85 h (fun h=>?_) fun h=>?_;exact lf h;exact lf h
def Wc(w2:AD)(w3:X3)(s5:Int):St:=⟨sp 56 0 [bx 2,bx 3,sI 5 s5],[cL 2 AD.D w2,cL 3 X3.D w3],[]⟩
def Wd(w2:AD)(w3:X3)(o:Unit⊕Unit):Ex×St:=match o with
 | .inl o=>(.exit 0,⟨sp 56 0 [],[],[]⟩)
 | .inr o=>(.ret,⟨sp 56 0 [sD 4 D.b false],[],[]⟩)
theorem aIn(rd:Option Nat)(h:aSb a7 aS a8=some a9):Lq 113 rd 58 (Wc a7 aS a8) ((Wd a7 aS) a9):=
 lL (fun s:Int=>Wc a7 aS s) (Wd a7 aS) a8 (fun a8 o h=>by
 unfold Iu at h
 refine gN 34 BW.D aS.args ?_
 refine iB 35 h (fun h=>?_) fun h=>?_
 refine xX 42 BW.D h fun x2 h=>?_
 refine xX 48 Xe.D h fun x3 h=>?_
 refine xX 52 dZ h fun x4 h=>?_
 obtain⟨r5,h9,h⟩:=bS h
 refine gC 54 (aUc h9) ?_
 refine iB 55 h (fun h=>?_) fun h=>?_
 exact lb h
 exact lb h
 exact lb h) h
theorem aW4(h:Z6 a7 aS=some aD):AL Tryz.prog 113 [.d (AD.D a7),.d (X3.D aS)] [] (.d (D.b aD)) []:=by
 unfold Z6 at h;apply g0 (o:=aD);refine iB 9 h (fun h=>?_) fun h=>?_;exact lf h;refine gN 14 Xe.D a7.decls ?_;refine iB 17 h (fun h=>?_) fun h=>?_;exact lf h;refine gN 20 BW.D aS.args<|xX 25 Xe.D h fun x1 h=>?_;refine gN 28 dZ x1.types ?_;refine iB 30 h (fun h=>?_) fun h=>?_;exact lf h;obtain⟨o6,h11,h⟩:=bS h;refine gl (aIn none h11) ?_;replace h:=AK h;rcases h with⟨o7,rfl,h⟩|⟨o8,rfl,h⟩
 exact lf h;exact lf h
def Wz(w2 w3:X3)(s5:Int):St:=⟨sp 38 0 [bx 2,bx 3,sI 5 s5],[cL 2 X3.D w2,cL 3 X3.D w3],[]⟩
def W0(w2 w3:X3)(o:Unit⊕Unit):Ex×St:=match o with
 | .inl o=>(.exit 0,⟨sp 38 0 [],[],[]⟩)
 | .inr o=>(.ret,⟨sp 38 0 [sD 4 D.b false],[],[]⟩)
theorem aIy(rd:Option Nat)(h:aSc aS aX a8=some a9):Lq 114 rd 58 (Wz aS aX a8) ((W0 aS aX) a9):=
 lL (fun s:Int=>Wz aS aX s) (W0 aS aX) a8 (fun a8 o h=>by
 unfold I2 at h
 refine gN 23 BW.D aS.args ?_
 refine iB 24 h (fun h=>?_) fun h=>?_
 refine xX 30 BW.D h fun x1 h=>?_
 refine xX 35 BW.D h fun x2 h=>?_
 refine iB 37 h (fun h=>?_) fun h=>?_
 exact lb h
 exact lb h
 exact lb h) h
theorem aXg(h:Zg aS aX=some aD):AL Tryz.prog 114 [.d (X3.D aS),.d (X3.D aX)] [] (.d (D.b aD)) []:=by
 unfold Zg at h;apply g0 (o:=aD);refine iB 11 h (fun h=>?_) fun h=>?_;exact lf h;refine gN 14 BW.D aS.args<|gN 17 BW.D aX.args ?_;refine iB 19 h (fun h=>?_) fun h=>?_;exact lf h;obtain⟨o3,h7,h⟩:=bS h;refine gl (aIy none h7) ?_;replace h:=AK h;rcases h with⟨o4,rfl,h⟩|⟨o5,rfl,h⟩
 exact lf h;exact lf h
theorem aCn(rd:Option Nat)(h:Sb a8 aA aD a7 aY aZ=some b6):Lq 80 rd 15653 ⟨sp 118 0 [bx 1,rx 3,rx 4,sI 5 a8,sI 6 aA,sD 34 D.b aD],[cL 1 AD.D a7,(3,.buf true 4 1 (aY.map D.b)),(4,.row 3 1 (aZ.map dZ))],[]⟩ (.normal,⟨sp 118 0 [bx 1,rx 3,rx 4,sI 5 a8,sI 6 aA],[cL 1 AD.D a7,(3,.buf true 4 1 (aY.map D.b)),(4,.row 3 1 (b6.map dZ))],[]⟩):=by unfold Sb at h;apply g0 (o:=b6);cases aD;replace h:=By h;exact lp h;replace h:=Bz h;refine gQ (Ap dZ [aA])<|gG 38 (.sl ((aZ++[aA]).map dZ)) (Ap dZ [aA]) ?_;obtain⟨h17,h⟩:=cS h;refine gQ (Av dZ h17)<|gQ (Au dZ aZ [aA]) ?_;exact lP h [.live [1,3,4,5,6],.keep [1,3,38],.ren 38 4,.sort]
theorem aCm(rd:Option Nat)(h:aCl a8 a7 aY aZ=some b7):Lq 80 rd 978 ⟨sp 118 0 [bx 1,rx 3,rx 4,sI 5 a8],[cL 1 AD.D a7,(3,.buf true 4 1 (aY.map D.b)),(4,.row 3 1 (aZ.map dZ))],[]⟩ (.normal,⟨sp 118 0 [bx 1,rx 3,rx 4,sI 5 a8],[cL 1 AD.D a7,(3,.buf true 4 1 (b7.1.map D.b)),(4,.row 3 1 (b7.2.map dZ))],[]⟩):=by unfold aCl at h;apply g0 (o:=b7);refine xX 27 Xd.D h fun x5 h=>?_;refine gW 10041 (.sl ((aY.set x5.symbol.toNat true).map D.b)) ?_;obtain⟨h14,h⟩:=cS h;refine gQ h14.1<|gQ (AF D.b h14.2) ?_;obtain⟨x6,h15,h⟩:=xS h;refine gG 33 (.el (D.b x6)) (AH D.b h15) ?_;obtain⟨o7,h18,h⟩:=bS h;refine gl (aCn rd h18) ?_;obtain⟨h19,h⟩:=cS h;refine gQ h19.1<|gQ (AF D.b h19.2) ?_;obtain⟨h20,h⟩:=cS h;refine gQ (A9 D.b h20)<|gQ (AT D.b aY x5.symbol true) ?_;exact lp h
def Se(w1:AD)(s5:Int)(w3:List Bool)(w4:List Int):St:=⟨sp 118 0 [bx 1,rx 3,rx 4,sI 5 s5],[cL 1 AD.D w1,(3,.buf true 4 1 (w3.map D.b)),(4,.row 3 1 (w4.map dZ))],[]⟩
def Sf(w1:AD)(o:(List Int)):Ex×St:=(.exit 0,⟨sp 118 0 [bx 1,rx 4],[cL 1 AD.D w1,(4,.row 3 1 (o.map dZ))],[]⟩)
theorem aCo(rd:Option Nat)(h:aRm a7 a8 aY aZ=some b6):Lq 80 rd 122 (Se a7 a8 aY aZ) ((Sf a7) b6):=
 lL (fun s:Int×List Bool×List Int=>Se a7 s.1 s.2.1 s.2.2) (Sf a7) (a8,aY,aZ) (fun⟨a8,aY,aZ⟩ o h=>by
 unfold Hn at h
 refine gN 20 Xd.D a7.trans ?_
 refine iB 21 h (fun h=>?_) fun h=>?_
 obtain⟨o8,h21,h⟩:=bS h
 refine gl (aCm rd h21) ?_
 exact lb h
 exact lb h) h
def Sg(w1:AD)(w4:List Int)(s7:Int):St:=⟨sp 118 0 [bx 1,rx 4,sI 7 s7],[cL 1 AD.D w1,(4,.row 3 1 (w4.map dZ))],[]⟩
def Sh(w1:AD)(w4:List Int)(o:Unit⊕Unit):Ex×St:=match o with
 | .inl o=>(.exit 2,⟨sp 118 0 [bx 1],[cL 1 AD.D w1],[]⟩)
 | .inr o=>(.ret,⟨sp 118 0 [sD 2 D.b false],[],[]⟩)
theorem aCp(rd:Option Nat)(h:aRn a7 aZ a8=some a9):Lq 80 rd 250 (Sg a7 aZ a8) ((Sh a7 aZ) a9):=
 lL (fun s:Int=>Sg a7 aZ s) (Sh a7 aZ) a8 (fun a8 o h=>by
 unfold Ho at h
 refine gN 44 dZ aZ ?_
 refine iB 45 h (fun h=>?_) fun h=>?_
 refine gW 54 (.int (a7.symbols.length:Int))<|gW 56 (.int (aZ.length:Int))<|xX 50 dZ h fun x10 h=>?_
 refine gQ (Ee X3.D a7.symbols)<|gQ (Ee dZ aZ) ?_
 refine iB 60 h (fun h=>?_) fun h=>?_
 exact lb h
 exact lb h
 exact lb h) h
def Sk(s8:Int)(w1:AD)(s9:Int):St:=⟨sp 118 0 [bx 1,sI 8 s8,sI 9 s9],[cL 1 AD.D w1],[]⟩
def Sl(s8:Int)(w1:AD)(o:Unit⊕Unit):Ex×St:=match o with
 | .inl o=>(.exit 6,⟨sp 118 0 [bx 1,sI 8 s8],[cL 1 AD.D w1],[]⟩)
 | .inr o=>(.ret,⟨sp 118 0 [sD 2 D.b false],[],[]⟩)
theorem aCr(rd:Option Nat)(h:aMr a8 a7 aA=some a9):Lq 80 rd 64806 (Sk a8 a7 aA) ((Sl a8 a7) a9):=
 lL (fun s:Int=>Sk a8 a7 s) (Sl a8 a7) aA (fun aA o h=>by
 unfold Hr at h
 refine iB 78 h (fun h=>?_) fun h=>?_
 refine xX 84 X3.D h fun x16 h=>?_
 refine xX 89 X3.D h fun x17 h=>?_
 obtain⟨r18,h34,h⟩:=bS h
 refine gQ (aXg h34) ?_
 cases r18
 replace h:=By h
 refine gW 91 (.ret (.d (D.b false))) ?_
 exact lb h
 replace h:=Bz h
 refine gW 91 (.ret (.d (D.b true))) ?_
 exact lb h
 exact lb h) h
def Si(w1:AD)(s8:Int):St:=⟨sp 118 0 [bx 1,sI 8 s8],[cL 1 AD.D w1],[]⟩
def Sj(w1:AD)(o:Unit⊕Unit):Ex×St:=match o with
 | .inl o=>(.exit 4,⟨sp 118 0 [bx 1],[cL 1 AD.D w1],[]⟩)
 | .inr o=>(.ret,⟨sp 118 0 [sD 2 D.b false],[],[]⟩)
theorem aCq(rd:Option Nat)(h:aRo a7 a8=some a9):Lq 80 rd 506 (Si a7 a8) ((Sj a7) a9):=
 lL (fun s:Int=>Si a7 s) (Sj a7) a8 (fun a8 o h=>by
 unfold Hq at h
 refine gN 64 X3.D a7.symbols ?_
 refine iB 65 h (fun h=>?_) fun h=>?_
 refine xX 72 X3.D h fun x14 h=>?_
 obtain⟨r15,h29,h⟩:=bS h
 refine gC 74 (aW4 h29) ?_
 refine iB 75 h (fun h=>?_) fun h=>?_
 exact lb h
 obtain⟨o19,h36,h⟩:=bS h
 refine gl (aCr rd h36) ?_
 replace h:=AK h
 rcases h with⟨o20,rfl,h⟩|⟨o21,rfl,h⟩
 exact lb h
 exact lb h
 exact lb h) h
def Ok(s10:Int)(w1:AD)(s11:Bool)(s12:Int):St:=⟨sp 118 0 [bx 1,sI 10 s10,sD 11 D.b s11,sI 12 s12],[cL 1 AD.D w1],[]⟩
def Ol(s10:Int)(w1:AD)(o:Bool):Ex×St:=(.exit 10,⟨sp 118 0 [bx 1,sI 10 s10,sD 11 D.b o],[cL 1 AD.D w1],[]⟩)
theorem Sd(rd:Option Nat)(h:Sc a8 a7 aD aA=some b8):Lq 80 rd 260682 (Ok a8 a7 aD aA) ((Ol a8 a7) b8):=
 lL (fun s:Bool×Int=>Ok a8 a7 s.1 s.2) (Ol a8 a7) (aD,aA) (fun⟨aD,aA⟩ o h=>by
 unfold FE at h
 refine gN 102 X3.D a7.symbols ?_
 refine iB 103 h (fun h=>?_) fun h=>?_
 refine iB 107 h (fun h=>?_) fun h=>?_
 exact lb h
 refine xX 111 X3.D h fun x25 h=>?_
 obtain⟨r26,h42,h⟩:=bS h
 refine gC 114 (aR6 h42) ?_
 exact lb h
 exact lb h) h
def Sm(w1:AD)(s10:Int):St:=⟨sp 118 0 [bx 1,sI 10 s10],[cL 1 AD.D w1],[]⟩
def Sn(w1:AD)(o:Unit⊕Unit):Ex×St:=match o with
 | .inl o=>(.exit 8,⟨sp 118 0 [],[],[]⟩)
 | .inr o=>(.ret,⟨sp 118 0 [sD 2 D.b false],[],[]⟩)
theorem aCs(rd:Option Nat)(h:aRp a7 a8=some a9):Lq 80 rd 1018 (Sm a7 a8) ((Sn a7) a9):=
 lL (fun s:Int=>Sm a7 s) (Sn a7) a8 (fun a8 o h=>by
 unfold Hs at h
 refine gN 95 Ye.D a7.quants ?_
 refine iB 96 h (fun h=>?_) fun h=>?_
 obtain⟨o27,h43,h⟩:=bS h
 refine gl (Sd rd h43) ?_
 refine iB 117 h (fun h=>?_) fun h=>?_
 exact lb h
 exact lb h
 exact lb h) h
theorem aVa(h:X7 a7=some aD):AL Tryz.prog 80 [.d (AD.D a7)] [] (.d (D.b aD)) []:=by
 unfold X7 at h;apply g0 (o:=aD);refine gN 15 X3.D a7.symbols<|gW 16 (.sl ((List.replicate (a7.symbols.length:Int).toNat false).map D.b)) ?_;obtain⟨h1,h⟩:=cS h;refine gQ h1.1<|gQ (Int.le_refl (a7.symbols.length:Int))<|gQ (Int.le_refl (a7.symbols.length:Int))<|gQ (aS2 D.b false h1.2)<|gQ (aS1 D.b (a7.symbols.length:Int) false) ?_;obtain⟨o9,h22,h⟩:=bS h;refine gL [.live [1,3,4,5],.keep [1,16],.ren 16 3,.nil 4 4 3 1,.sort] (aCo none h22) ?_;obtain⟨o11,h26,h⟩:=bS h;refine gl (aCp none h26) ?_;replace h:=AK h;rcases h with⟨o12,rfl,h⟩|⟨o13,rfl,h⟩
 obtain⟨o22,h37,h⟩:=bS h;refine gl (aCq none h37) ?_;replace h:=AK h;rcases h with⟨o23,rfl,h⟩|⟨o24,rfl,h⟩
 obtain⟨o28,h45,h⟩:=bS h;refine gl (aCs none h45) ?_;replace h:=AK h;rcases h with⟨o29,rfl,h⟩|⟨o30,rfl,h⟩
 exact lf h;exact lf h;exact lf h;exact lf h
def V6(w1:AD)(s5 s6:Int):St:=⟨sp 101 0 [bx 1,sI 5 s5,sI 6 s6],[cL 1 AD.D w1],[]⟩
def V7(w1:AD)(o:Int⊕Unit):Ex×St:=match o with
 | .inl o=>(.exit 0,⟨sp 101 0 [bx 1,sI 5 o],[cL 1 AD.D w1],[]⟩)
 | .inr o=>(.ret,⟨sp 101 0 [sD 2 D.b false],[],[]⟩)
theorem aH2(rd:Option Nat)(h:aR5 a7 a8 aA=some aU):Lq 44 rd 250 (V6 a7 a8 aA) ((V7 a7) aU):=
 lL (fun s:Int×Int=>V6 a7 s.1 s.2) (V7 a7) (a8,aA) (fun⟨a8,aA⟩ o h=>by
 unfold Ik at h
 refine gN 74 Xd.D a7.trans ?_
 refine iB 75 h (fun h=>?_) fun h=>?_
 refine xX 83 Xd.D h fun x3 h=>?_
 obtain⟨r4,h15,h⟩:=bS h
 refine gC 86 (aV1 h15) ?_
 refine iB 90 h (fun h=>?_) fun h=>?_
 exact lb h
 exact lb h
 exact lb h) h
theorem aWo(h:Yq a7=some aD):AL Tryz.prog 44 [.d (AD.D a7)] [] (.d (D.b aD)) []:=by
 unfold Yq at h;apply g0 (o:=aD);obtain⟨r1,h1,h⟩:=bS h;refine gC 12 (aV0 h1) ?_;refine iB 17 h (fun h=>?_) fun h=>?_;exact lf h;refine gN 20 Ye.D a7.quants ?_;refine iB 23 h (fun h=>?_) fun h=>?_;exact lf h;refine gN 26 Yg.D a7.frees ?_;refine iB 29 h (fun h=>?_) fun h=>?_;exact lf h;refine gN 32 Xc.D a7.states ?_;refine iB 35 h (fun h=>?_) fun h=>?_;exact lf h;refine gN 38 X3.D a7.symbols ?_;refine iB 41 h (fun h=>?_) fun h=>?_;exact lf h;refine gN 44 Ym.D a7.nodes ?_;refine iB 47 h (fun h=>?_) fun h=>?_;exact lf h;refine gN 50 Xd.D a7.trans ?_;refine iB 53 h (fun h=>?_) fun h=>?_;exact lf h;refine iB 58 h (fun h=>?_) fun h=>?_;exact lf h;refine gN 63 Xc.D a7.states ?_;refine iB 66 h (fun h=>?_) fun h=>?_;exact lf h;obtain⟨r2,h11,h⟩:=bS h;refine gC 68 (aVg h11) ?_;refine iB 70 h (fun h=>?_) fun h=>?_;exact lf h;obtain⟨o5,h17,h⟩:=bS h;refine gl (aH2 none h17) ?_;replace h:=AK h;rcases h with⟨o6,rfl,h⟩|⟨o7,rfl,h⟩
 refine gN 95 Ym.D a7.nodes ?_;refine iB 97 h (fun h=>?_) fun h=>?_;obtain⟨r8,h19,h⟩:=bS h;refine gC 99 (aVa h19) ?_;exact lf h;exact lf h;exact lf h
def Wo(w1:AD)(s3:Int):St:=⟨sp 27 0 [bx 1,sI 3 s3],[cL 1 AD.D w1],[]⟩
def Wp(w1:AD)(o:Unit⊕Unit):Ex×St:=match o with
 | .inl o=>(.exit 0,⟨sp 27 0 [],[],[]⟩)
 | .inr o=>(.ret,⟨sp 27 0 [sD 2 D.b false],[],[]⟩)
theorem aIs(rd:Option Nat)(h:aOk a7 a8=some a9):Lq 14 rd 58 (Wo a7 a8) ((Wp a7) a9):=
 lL (fun s:Int=>Wo a7 s) (Wp a7) a8 (fun a8 o h=>by
 unfold Ix at h
 refine gN 15 Xe.D a7.decls ?_
 refine iB 16 h (fun h=>?_) fun h=>?_
 refine xX 22 Xe.D h fun x3 h=>?_
 refine gN 25 dZ x3.types ?_
 refine iB 26 h (fun h=>?_) fun h=>?_
 exact lb h
 exact lb h
 exact lb h) h
theorem aXb(h:Zb a7=some aD):AL Tryz.prog 14 [.d (AD.D a7)] [] (.d (D.b aD)) []:=by
 unfold Zb at h;apply g0 (o:=aD);obtain⟨r1,h1,h⟩:=bS h;refine gC 5 (aVd h1) ?_;refine iB 7 h (fun h=>?_) fun h=>?_;exact lf h;obtain⟨r2,h3,h⟩:=bS h;refine gC 9 (aWo h3) ?_;refine iB 11 h (fun h=>?_) fun h=>?_;exact lf h;obtain⟨o4,h8,h⟩:=bS h;refine gl (aIs none h8) ?_;replace h:=AK h;rcases h with⟨o5,rfl,h⟩|⟨o6,rfl,h⟩
 exact lf h;exact lf h
def WO(w1:AD)(s3:Int):St:=⟨sp 40 0 [bx 1,sI 3 s3],[cL 1 AD.D w1],[]⟩
def WP(w1:AD)(o:Unit⊕Unit):Ex×St:=match o with
 | .inl o=>(.exit 0,⟨sp 40 0 [],[],[]⟩)
 | .inr o=>(.ret,⟨sp 40 0 [sD 2 D.b false],[],[]⟩)
theorem aIe(rd:Option Nat)(h:aOb a7 a8=some a9):Lq 26 rd 58 (WO a7 a8) ((WP a7) a9):=
 lL (fun s:Int=>WO a7 s) (WP a7) a8 (fun a8 o h=>by
 unfold Ip at h
 refine gN 29 Xd.D a7.trans ?_
 refine iB 30 h (fun h=>?_) fun h=>?_
 refine xX 36 Xd.D h fun x1 h=>?_
 refine iB 39 h (fun h=>?_) fun h=>?_
 exact lb h
 exact lb h
 exact lb h) h
theorem aWw(h:Yz a7=some aD):AL Tryz.prog 26 [.d (AD.D a7)] [] (.d (D.b aD)) []:=by
 unfold Yz at h;apply g0 (o:=aD);refine gN 6 Yg.D a7.frees ?_;refine iB 8 h (fun h=>?_) fun h=>?_;exact lf h;refine gN 11 Ye.D a7.quants ?_;refine iB 14 h (fun h=>?_) fun h=>?_;exact lf h;refine gN 17 Xc.D a7.states ?_;refine iB 20 h (fun h=>?_) fun h=>?_;exact lf h;refine gN 23 X3.D a7.symbols ?_;refine iB 25 h (fun h=>?_) fun h=>?_;exact lf h;obtain⟨o2,h8,h⟩:=bS h;refine gl (aIe none h8) ?_;replace h:=AK h;rcases h with⟨o3,rfl,h⟩|⟨o4,rfl,h⟩
 exact lf h;exact lf h
def Wq(s0:List X2)(s3:Int):St:=⟨sp 51 0 [sD 0 (D.l X2.D) s0,sI 3 s3],[],[]⟩
def Wr(s0:List X2)(o:Unit⊕Unit):Ex×St:=match o with
 | .inl o=>(.exit 0,⟨sp 51 0 [],[],[]⟩)
 | .inr o=>(.ret,⟨sp 51 0 [sD 2 D.b false],[],[]⟩)
theorem aIt(rd:Option Nat)(h:aOl b9 a8=some a9):Lq 59 rd 26 (Wq b9 a8) ((Wr b9) a9):=
 lL (fun s:Int=>Wq b9 s) (Wr b9) a8 (fun a8 o h=>by
 unfold Iy at h
 refine gN 6 X2.D b9 ?_
 refine iB 7 h (fun h=>?_) fun h=>?_
 refine xX 12 X2.D h fun x1 h=>?_
 refine iB 16 h (fun h=>?_) fun h=>?_
 exact lb h
 refine xX 19 X2.D h fun x2 h=>?_
 refine iB 24 h (fun h=>?_) fun h=>?_
 exact lb h
 refine xX 27 X2.D h fun x3 h=>?_
 obtain⟨r4,h7,h⟩:=bS h
 refine gC 30 (aI4 h7) ?_
 refine iB 33 h (fun h=>?_) fun h=>?_
 exact lb h
 refine iB 36 h (fun h=>?_) fun h=>?_
 refine xX 39 X2.D h fun x5 h=>?_
 refine xX 45 X2.D h fun x6 h=>?_
 refine iB 50 h (fun h=>?_) fun h=>?_
 exact lb h
 exact lb h
 exact lb h
 exact lb h) h
theorem aXc(h:Zc b9=some aD):AL Tryz.prog 59 [.d ((D.l X2.D) b9)] [] (.d (D.b aD)) []:=by
 unfold Zc at h;apply g0 (o:=aD);obtain⟨o7,h13,h⟩:=bS h;refine gl (aIt none h13) ?_;replace h:=AK h;rcases h with⟨o8,rfl,h⟩|⟨o9,rfl,h⟩
 exact lf h;exact lf h
theorem aUe(h:Qf a7 b9=some aD):AL Tryz.prog 27 [.d (AD.D a7),.d ((D.l X2.D) b9)] [] (.d (D.b aD)) []:=by unfold Qf at h;apply g0 (o:=aD);refine gN 6 X2.D b9 ?_;refine iB 7 h (fun h=>?_) fun h=>?_;exact lf h;refine gN 9 X2.D b9 ?_;refine iB 11 h (fun h=>?_) fun h=>?_;refine gN 14 Ye.D a7.quants ?_;refine iB 17 h (fun h=>?_) fun h=>?_;refine xX 19 X2.D h fun x1 h=>?_;refine iB 24 h (fun h=>?_) fun h=>?_;refine xX 26 X2.D h fun x2 h=>?_;refine xX 32 Ye.D h fun x3 h=>?_;refine iB 37 h (fun h=>?_) fun h=>?_;obtain⟨r4,h9,h⟩:=bS h;refine gC 39 (aXc h9) ?_;exact lf h;exact lf h;exact lf h;exact lf h;exact lf h
theorem aUk(h:Qp a7 b9=some aD):AL Tryz.prog 8 [.d (AD.D a7),.d ((D.l X2.D) b9)] [] (.d (D.b aD)) []:=by unfold Qp at h;apply g0 (o:=aD);obtain⟨r1,h1,h⟩:=bS h;refine gC 6 (aXb h1) ?_;refine iB 8 h (fun h=>?_) fun h=>?_;exact lf h;obtain⟨r2,h3,h⟩:=bS h;refine gC 10 (aWw h3) ?_;refine iB 13 h (fun h=>?_) fun h=>?_;exact lf h;obtain⟨r3,h5,h⟩:=bS h;refine gC 16 (aUe h5) ?_;refine iB 19 h (fun h=>?_) fun h=>?_;exact lf h;refine gN 21 X2.D b9<|gN 24 Ye.D a7.quants ?_;refine iB 26 h (fun h=>?_) fun h=>?_;exact lf h;refine gN 28 X2.D b9 ?_;refine iB 30 h (fun h=>?_) fun h=>?_;exact lf h;refine xX 32 X2.D h fun x4 h=>?_;refine gG 36 (.int (x4.value.str.length:Int)) (CU x4.value.str) ?_;exact lf h
def WE(s0:List Int)(s1 s7 s8:Int):St:=⟨sp 19 0 [sD 0 (D.l dZ) s0,sI 1 s1,sI 7 s7,sI 8 s8],[],[]⟩
def WF(s0:List Int)(s1 s7:Int)(o:Unit⊕Int):Ex×St:=match o with
 | .inl o=>(.exit 0,⟨sp 19 0 [],[],[]⟩)
 | .inr o=>(.ret,⟨sp 19 0 [sI 4 o],[],[]⟩)
theorem aH8(rd:Option Nat)(h:aH7 aZ a8 aA aN=some aF):Lq 117 rd 26 (WE aZ a8 aA aN) ((WF aZ a8 aA) aF):=
 lL (fun s:Int=>WE aZ a8 aA s) (WF aZ a8 aA) aN (fun aN o h=>by
 unfold Gw at h
 refine iB 9 h (fun h=>?_) fun h=>?_
 refine xX 14 dZ h fun x1 h=>?_
 refine iB 16 h (fun h=>?_) fun h=>?_
 exact lb h
 exact lb h
 exact lb h) h
theorem aWr(h:Yt aZ a8=some aA):AL Tryz.prog 117 [.d ((D.l dZ) aZ),dI a8] [] (dI aA) []:=by
 unfold Yt at h;apply g0 (o:=aA);refine gN 7 dZ aZ ?_;obtain⟨o2,h4,h⟩:=bS h;refine gl (aH8 none h4) ?_;replace h:=AK h;rcases h with⟨o3,rfl,h⟩|⟨o4,rfl,h⟩
 exact lf h;exact lf h
theorem aT9(h:Q8 aZ a8=some aD):AL Tryz.prog 83 [.d ((D.l dZ) aZ),dI a8] [] (.d (D.b aD)) []:=by unfold Q8 at h;apply g0 (o:=aD);obtain⟨r1,h1,h⟩:=bS h;refine gC 7 (aWr h1) ?_;exact lf h
theorem O7(rd:Option Nat)(h:UT a8 bA aA aN aD a7 aZ aT=some b6):Lq 47 rd 477491 ⟨sp 45 0 [bx 2,rx 5,sI 6 a8,bx 8,sD 18 (D.l Xd.D) bA,sI 19 aA,sI 20 aN,sD 37 D.b aD],[cL 2 AD.D a7,(5,.row 3 1 (aZ.map dZ)),cL 8 Xd.D aT],[]⟩ (.normal,⟨sp 45 0 [bx 2,rx 5,sI 6 a8,sD 18 (D.l Xd.D) bA,sI 19 aA,sI 20 aN],[cL 2 AD.D a7,(5,.row 3 1 (b6.map dZ))],[]⟩):=by unfold UT at h;apply g0 (o:=b6);cases aD;replace h:=By h;exact lp h;replace h:=Bz h;refine gQ (Ap dZ [aT.to])<|gG 42 (.sl ((aZ++[aT.to]).map dZ)) (Ap dZ [aT.to]) ?_;obtain⟨h8,h⟩:=cS h;refine gQ (Av dZ h8)<|gQ (Au dZ aZ [aT.to]) ?_;exact lP h [.live [2,5,6,18,19,20],.keep [2,42],.ren 42 5,.sort]
theorem aE0(rd:Option Nat)(h:aEz a8 bA aA aN a7 aZ=some b6):Lq 47 rd 59686 ⟨sp 45 0 [bx 2,rx 5,sI 6 a8,sD 18 (D.l Xd.D) bA,sI 19 aA,sI 20 aN],[cL 2 AD.D a7,(5,.row 3 1 (aZ.map dZ))],[]⟩ (.normal,⟨sp 45 0 [bx 2,rx 5,sI 6 a8,sD 18 (D.l Xd.D) bA,sI 19 aA,sI 20 aN],[cL 2 AD.D a7,(5,.row 3 1 (b6.map dZ))],[]⟩):=by unfold aEz at h;apply g0 (o:=b6);refine xX 22 Xd.D h fun x1 h=>?_;refine xX 28 dZ h fun x2 h=>?_;refine iB 31 h (fun h=>?_) fun h=>?_;obtain⟨r3,h6,h⟩:=bS h;refine gC 35 (aT9 h6) ?_;obtain⟨o4,h9,h⟩:=bS h;refine gl (O7 rd h9) ?_;exact lp h;obtain⟨o5,h10,h⟩:=bS h;refine gl (O7 rd h10) ?_;exact lp h
def UW(s6:Int)(s18:List Xd)(s19:Int)(w2:AD)(s20:Int)(w5:List Int):St:=⟨sp 45 0 [bx 2,rx 5,sI 6 s6,sD 18 (D.l Xd.D) s18,sI 19 s19,sI 20 s20],[cL 2 AD.D w2,(5,.row 3 1 (w5.map dZ))],[]⟩
def UX(s6:Int)(s18:List Xd)(s19:Int)(w2:AD)(o:(List Int)):Ex×St:=(.exit 2,⟨sp 45 0 [bx 2,rx 5,sI 6 s6],[cL 2 AD.D w2,(5,.row 3 1 (o.map dZ))],[]⟩)
theorem aE2(rd:Option Nat)(h:aNi a8 bA aA a7 aN aZ=some b6):Lq 47 rd 3730 (UW a8 bA aA a7 aN aZ) ((UX a8 bA aA a7) b6):=
 lL (fun s:Int×List Int=>UW a8 bA aA a7 s.1 s.2) (UX a8 bA aA a7) (aN,aZ) (fun⟨aN,aZ⟩ o h=>by
 unfold IM at h
 refine iB 21 h (fun h=>?_) fun h=>?_
 obtain⟨o6,h11,h⟩:=bS h
 refine gl (aE0 rd h11) ?_
 exact lb h
 exact lb h) h
def UU(w2:AD)(s6:Int)(w5:List Int):St:=⟨sp 45 0 [bx 2,rx 5,sI 6 s6],[cL 2 AD.D w2,(5,.row 3 1 (w5.map dZ))],[]⟩
def UV(w2:AD)(o:(List Int)):Ex×St:=(.exit 0,⟨sp 45 0 [rx 5],[(5,.row 3 1 (o.map dZ))],[]⟩)
theorem aE1(rd:Option Nat)(h:aNh a7 a8 aZ=some b6):Lq 47 rd 58 (UU a7 a8 aZ) ((UV a7) b6):=
 lL (fun s:Int×List Int=>UU a7 s.1 s.2) (UV a7) (a8,aZ) (fun⟨a8,aZ⟩ o h=>by
 unfold IL at h
 refine gN 13 dZ aZ ?_
 refine iB 14 h (fun h=>?_) fun h=>?_
 refine gN 19 Xd.D a7.trans ?_
 obtain⟨o7,h12,h⟩:=bS h
 refine gl (aE2 rd h12) ?_
 exact lb h
 exact lb h) h
theorem aVq(h:Xt a7 a8=some aZ):AL Tryz.prog 47 [.d (AD.D a7),dI a8] [] (.d ((D.l dZ) aZ)) []:=by unfold Xt at h;apply g0 (o:=aZ);refine gQ (Ap dZ [a8]) ?_;obtain⟨o8,h13,h⟩:=bS h;refine gL [.live [2,5,6],.keep [2,10],.ren 10 5,.sort] (aE1 none h13) ?_;exact lf h
theorem aUl(h:Qq a8 a7=some aD):AL Tryz.prog 49 [dI a8,.eptr (D.cells (AD.D a7))] [] (.d (D.b aD)) []:=by unfold Qq at h;apply g0 (o:=aD);refine xX 7 Xc.D h fun x1 h=>?_;refine iB 11 h (fun h=>?_) fun h=>?_;exact lf h;refine xX 15 Xc.D h fun x2 h=>?_;exact lf h
def W2(s0:List Int)(s1:AD)(s7 s8:Int):St:=⟨sp 19 0 [sD 0 (D.l dZ) s0,(1,.clo (.func 49) [] [.eptr (D.cells (AD.D s1))]),sI 7 s7,sI 8 s8],[],[]⟩
def W3(s0:List Int)(s1:AD)(s7:Int)(o:Unit⊕Int):Ex×St:=match o with
 | .inl o=>(.exit 0,⟨sp 19 0 [],[],[]⟩)
 | .inr o=>(.ret,⟨sp 19 0 [sI 4 o],[],[]⟩)
theorem aIz(rd:Option Nat)(h:aOo aZ a7 a8 aA=some aF):Lq 84 rd 26 (W2 aZ a7 a8 aA) ((W3 aZ a7 a8) aF):=
 lL (fun s:Int=>W2 aZ a7 a8 s) (W3 aZ a7 a8) aA (fun aA o h=>by
 unfold I3 at h
 refine iB 9 h (fun h=>?_) fun h=>?_
 refine xX 14 dZ h fun x1 h=>?_
 obtain⟨r2,h3,h⟩:=bS h
 refine gQ (aUl h3) ?_
 cases r2
 replace h:=By h
 refine gW 16 (.ret (.d (D.b false))) ?_
 exact lb h
 replace h:=Bz h
 refine gW 16 (.ret (.d (D.b true))) ?_
 exact lb h
 exact lb h) h
theorem aXh(h:Zh aZ a7=some a8):AL Tryz.prog 84 [.d ((D.l dZ) aZ),.clo (.func 49) [] [.eptr (D.cells (AD.D a7))]] [] (dI a8) []:=by
 unfold Zh at h;apply g0 (o:=a8);refine gN 7 dZ aZ ?_;obtain⟨o3,h5,h⟩:=bS h;refine gl (aIz none h5) ?_;replace h:=AK h;rcases h with⟨o4,rfl,h⟩|⟨o5,rfl,h⟩
 exact lf h;exact lf h
theorem aUm(h:Qr aZ a7=some aD):AL Tryz.prog 48 [.d ((D.l dZ) aZ),.clo (.func 49) [] [.eptr (D.cells (AD.D a7))]] [] (.d (D.b aD)) []:=by unfold Qr at h;apply g0 (o:=aD);obtain⟨r1,h1,h⟩:=bS h;refine gC 7 (aXh h1) ?_;exact lf h
theorem aUn(h:Qs a8 a7=some aD):AL Tryz.prog 50 [dI a8,.eptr (D.cells (AD.D a7))] [] (.d (D.b aD)) []:=by unfold Qs at h;apply g0 (o:=aD);refine xX 7 Xc.D h fun x1 h=>?_;exact lf h
def W4(s0:List Int)(s1:AD)(s7 s8:Int):St:=⟨sp 19 0 [sD 0 (D.l dZ) s0,(1,.clo (.func 50) [] [.eptr (D.cells (AD.D s1))]),sI 7 s7,sI 8 s8],[],[]⟩
def W5(s0:List Int)(s1:AD)(s7:Int)(o:Unit⊕Int):Ex×St:=match o with
 | .inl o=>(.exit 0,⟨sp 19 0 [],[],[]⟩)
 | .inr o=>(.ret,⟨sp 19 0 [sI 4 o],[],[]⟩)
theorem aI0(rd:Option Nat)(h:aOp aZ a7 a8 aA=some aF):Lq 84 rd 26 (W4 aZ a7 a8 aA) ((W5 aZ a7 a8) aF):=
 lL (fun s:Int=>W4 aZ a7 a8 s) (W5 aZ a7 a8) aA (fun aA o h=>by
 unfold I4 at h
 refine iB 9 h (fun h=>?_) fun h=>?_
 refine xX 14 dZ h fun x1 h=>?_
 obtain⟨r2,h3,h⟩:=bS h
 refine gQ (aUn h3) ?_
 cases r2
 replace h:=By h
 refine gW 16 (.ret (.d (D.b false))) ?_
 exact lb h
 replace h:=Bz h
 refine gW 16 (.ret (.d (D.b true))) ?_
 exact lb h
 exact lb h) h
theorem aXi(h:Zi aZ a7=some a8):AL Tryz.prog 84 [.d ((D.l dZ) aZ),.clo (.func 50) [] [.eptr (D.cells (AD.D a7))]] [] (dI a8) []:=by
 unfold Zi at h;apply g0 (o:=a8);refine gN 7 dZ aZ ?_;obtain⟨o3,h5,h⟩:=bS h;refine gl (aI0 none h5) ?_;replace h:=AK h;rcases h with⟨o4,rfl,h⟩|⟨o5,rfl,h⟩
 exact lf h;exact lf h
theorem aUo(h:Qt aZ a7=some aD):AL Tryz.prog 48 [.d ((D.l dZ) aZ),.clo (.func 50) [] [.eptr (D.cells (AD.D a7))]] [] (.d (D.b aD)) []:=by unfold Qt at h;apply g0 (o:=aD);obtain⟨r1,h1,h⟩:=bS h;refine gC 7 (aXi h1) ?_;exact lf h
theorem aOu(h:Zo a7 a8=some aA):AL Tryz.prog 18 [.d (AD.D a7),dI a8] [] (dI aA) []:=by unfold Zo at h;apply g0 (o:=aA);refine gW 2 .frz ?_;refine iB 8 h (fun h=>?_) fun h=>?_;exact lf h;refine gN 12 Xc.D a7.states ?_;refine iB 14 h (fun h=>?_) fun h=>?_;exact lf h;obtain⟨r1,h3,h⟩:=bS h;refine gC 17 (aVq h3) ?_;obtain⟨r2,h4,h⟩:=bS h;refine gC 21 (aUm h4) ?_;refine iB 18 h (fun h=>?_) fun h=>?_;exact lf h;obtain⟨r3,h6,h⟩:=bS h;refine gC 26 (aUo h6) ?_;refine iB 23 h (fun h=>?_) fun h=>?_;exact lf h;exact lf h
theorem aE7(rd:Option Nat)(h:aE6 a8 bB aA aN aD a7=some aR):Lq 19 rd 119607 ⟨sp 24 0 [bx 2,sI 5 a8,sD 8 (D.l Yn.D) bB,sI 9 aA,sI 10 aN,sD 20 D.b aD],[cL 2 AD.D a7],[]⟩ (.normal,⟨sp 24 0 [bx 2,sI 5 aR,sD 8 (D.l Yn.D) bB,sI 9 aA,sI 10 aN],[cL 2 AD.D a7],[]⟩):=by unfold aE6 at h;apply g0 (o:=aR);cases aD;replace h:=By h;exact lp h;replace h:=Bz h;exact lp h
theorem aE5(rd:Option Nat)(h:Ub a8 bB aA aN aR aD a7=some aU):Lq 19 rd 29901 ⟨sp 24 0 [bx 2,sI 5 a8,sD 8 (D.l Yn.D) bB,sI 9 aA,sI 10 aN,sI 17 aR,sD 18 D.b aD],[cL 2 AD.D a7],[]⟩ (match (generalizing:=false) aU with
 | .inl aU=>(.normal,⟨sp 24 0 [bx 2,sI 5 aU,sD 8 (D.l Yn.D) bB,sI 9 aA,sI 10 aN],[cL 2 AD.D a7],[]⟩)
 | .inr aU=>(.ret,⟨sp 24 0 [sI 4 1],[],[]⟩)):=by
 unfold Ub at h
 apply g0 (o:=aU)
 cases aD
 replace h:=By h
 obtain⟨o3,h6,h⟩:=bS h
 refine gl (aE7 rd h6) ?_
 exact lp h
 replace h:=Bz h
 exact lp h
theorem aE4(rd:Option Nat)(h:UZ a8 bB aA aN aR a7=some aU):Lq 19 rd 7475 ⟨sp 24 0 [bx 2,sI 5 a8,sD 8 (D.l Yn.D) bB,sI 9 aA,sI 10 aN,sI 17 aR],[cL 2 AD.D a7],[]⟩ (match (generalizing:=false) aU with
 | .inl aU=>(.normal,⟨sp 24 0 [bx 2,sI 5 aU,sD 8 (D.l Yn.D) bB,sI 9 aA,sI 10 aN],[cL 2 AD.D a7],[]⟩)
 | .inr aU=>(.ret,⟨sp 24 0 [sI 4 1],[],[]⟩)):=by
 unfold UZ at h
 apply g0 (o:=aU)
 obtain⟨o4,h7,h⟩:=bS h
 refine gl (aE5 rd h7) ?_
 replace h:=AK h
 rcases h with⟨o5,rfl,h⟩|⟨o6,rfl,h⟩
 exact lp h
 exact lp h
theorem aE3(rd:Option Nat)(h:UY a8 bB aA aN a7=some aU):Lq 19 rd 934 ⟨sp 24 0 [bx 2,sI 5 a8,sD 8 (D.l Yn.D) bB,sI 9 aA,sI 10 aN],[cL 2 AD.D a7],[]⟩ (match (generalizing:=false) aU with
 | .inl aU=>(.normal,⟨sp 24 0 [bx 2,sI 5 aU,sD 8 (D.l Yn.D) bB,sI 9 aA,sI 10 aN],[cL 2 AD.D a7],[]⟩)
 | .inr aU=>(.ret,⟨sp 24 0 [sI 4 1],[],[]⟩)):=by
 unfold UY at h
 apply g0 (o:=aU)
 refine xX 12 Yn.D h fun x1 h=>?_
 obtain⟨r2,h3,h⟩:=bS h
 refine gC 17 (aOu h3) ?_
 obtain⟨o7,h8,h⟩:=bS h
 refine gl (aE4 rd h8) ?_
 replace h:=AK h
 rcases h with⟨o8,rfl,h⟩|⟨o9,rfl,h⟩
 exact lp h
 exact lp h
def Uc(s8:List Yn)(s9:Int)(w2:AD)(s5 s10:Int):St:=⟨sp 24 0 [bx 2,sI 5 s5,sD 8 (D.l Yn.D) s8,sI 9 s9,sI 10 s10],[cL 2 AD.D w2],[]⟩
def Ud(s8:List Yn)(s9:Int)(w2:AD)(o:Int⊕Unit):Ex×St:=match o with
 | .inl o=>(.exit 0,⟨sp 24 0 [sI 5 o],[],[]⟩)
 | .inr o=>(.ret,⟨sp 24 0 [sI 4 1],[],[]⟩)
theorem aE8(rd:Option Nat)(h:aNj bB a8 a7 aA aN=some aU):Lq 19 rd 58 (Uc bB a8 a7 aA aN) ((Ud bB a8 a7) aU):=
 lL (fun s:Int×Int=>Uc bB a8 a7 s.1 s.2) (Ud bB a8 a7) (aA,aN) (fun⟨aA,aN⟩ o h=>by
 unfold Gq at h
 refine iB 11 h (fun h=>?_) fun h=>?_
 obtain⟨o10,h9,h⟩:=bS h
 refine gl (aE3 rd h9) ?_
 replace h:=AK h
 rcases h with⟨o11,rfl,h⟩|⟨o12,rfl,h⟩
 exact lb h
 exact lb h
 exact lb h) h
theorem aVs(h:Xu a7 bB=some a8):AL Tryz.prog 19 [.d (AD.D a7),.d ((D.l Yn.D) bB)] [] (dI a8) []:=by
 unfold Xu at h;apply g0 (o:=a8);refine gN 9 Yn.D bB ?_;obtain⟨o13,h10,h⟩:=bS h;refine gl (aE8 none h10) ?_;replace h:=AK h;rcases h with⟨o14,rfl,h⟩|⟨o15,rfl,h⟩
 exact lf h;exact lf h
theorem aHi(rd:Option Nat)(h:aHh a8 aA aN bC aR bD aD=some bE):Lq 91 rd 7475 ⟨sp 27 0 [sI 1 a8,sD 5 dU aA,sI 6 aN,sD 9 (D.l X3.D) bC,sI 10 aR,sI 11 bD,sD 19 D.b aD],[],[]⟩ (.normal,⟨sp 27 0 [sI 1 a8,sD 5 dU bE,sD 9 (D.l X3.D) bC,sI 10 aR,sI 11 bD],[],[]⟩):=by unfold aHh at h;apply g0 (o:=bE);cases aD;replace h:=By h;exact lp h;replace h:=Bz h;obtain⟨h4,h⟩:=cS h;refine gQ h4 ?_;exact lp h
theorem aHg(rd:Option Nat)(h:aHf a8 aA bC aN aR=some bD):Lq 91 rd 934 ⟨sp 27 0 [sI 1 a8,sD 5 dU aA,sD 9 (D.l X3.D) bC,sI 10 aN,sI 11 aR],[],[]⟩ (.normal,⟨sp 27 0 [sI 1 a8,sD 5 dU bD,sD 9 (D.l X3.D) bC,sI 10 aN,sI 11 aR],[],[]⟩):=by unfold aHf at h;apply g0 (o:=bD);refine xX 14 X3.D h fun x1 h=>?_;obtain⟨o2,h5,h⟩:=bS h;refine gl (aHi rd h5) ?_;exact lp h
def Vq(s1:Int)(s9:List X3)(s10 s5 s11:Int):St:=⟨sp 27 0 [sI 1 s1,sD 5 dU s5,sD 9 (D.l X3.D) s9,sI 10 s10,sI 11 s11],[],[]⟩
def Vr(s1:Int)(s9:List X3)(s10 o:Int):Ex×St:=(.exit 0,⟨sp 27 0 [sD 5 dU o],[],[]⟩)
theorem aHj(rd:Option Nat)(h:aNz a8 bC aA aN aR=some bD):Lq 91 rd 58 (Vq a8 bC aA aN aR) ((Vr a8 bC aA) bD):=
 lL (fun s:Int×Int=>Vq a8 bC aA s.1 s.2) (Vr a8 bC aA) (aN,aR) (fun⟨aN,aR⟩ o h=>by
 unfold Ig at h
 refine iB 12 h (fun h=>?_) fun h=>?_
 obtain⟨o3,h6,h⟩:=bS h
 refine gl (aHg rd h6) ?_
 exact lb h
 exact lb h) h
theorem aWh(h:Yh a7 a8=some aA):AL Tryz.prog 91 [.d (AD.D a7),dI a8] [] (.d (dU aA)) []:=by unfold Yh at h;apply g0 (o:=aA);refine gN 10 X3.D a7.symbols ?_;obtain⟨o4,h7,h⟩:=bS h;refine gl (aHj none h7) ?_;exact lf h
theorem aUv(h:U0=some bG):AL Tryz.prog 167 [.clo (.func 168) [] []] [] (.box 0 0) [(0,.cells ([.nil,.clo (.func 168) [] []]))]:=by unfold U0 at h;refine XG.call (ks:=[]) mixed fun us=>?_;apply g0 (o:=bG);exact lX h [.live [2],.keep [5,997],.ren 5 0,.sort]
theorem aRg(h:Qh aD=some aI):AL Tryz.prog 170 [.d (D.b aD)] [] (.d (X0.D aI)) []:=by unfold Qh at h;apply g0 (o:=aI);exact lf h
theorem aSj(h:Zz aI aQ=some aD):AL Tryz.prog 168 [.d (X0.D aI),.d (X0.D aQ)] [] (.d (D.b aD)) []:=by unfold Zz at h;apply g0 (o:=aD);refine iB 5 h (fun h=>?_) fun h=>?_;exact lf h;refine iB 16 h (fun h=>?_) fun h=>?_;exact lf h;refine iB 25 h (fun h=>?_) fun h=>?_;exact lf h;refine iB 37 h (fun h=>?_) fun h=>?_;exact lf h;exact lf h
theorem aRc(h:Q9 aI aQ bH=some a8):AL Tryz.prog 181 [.d (X0.D aI),.d (X0.D aQ),.eptr [.ptr ((D.cells ((D.l X0.D) bH))++[.v (.func (.func 168) #[] #[])])]] [] (dI a8) []:=by unfold Q9 at h;apply g0 (o:=a8);obtain⟨r1,h1,h⟩:=bS h;refine gQ (aSj h1) ?_;cases r1;replace h:=By h;refine gW 13 (.ret (.d (D.b false))) ?_;obtain⟨r2,h3,h⟩:=bS h;refine gQ (aSj h3) ?_;cases r2;replace h:=By h;refine gW 21 (.ret (.d (D.b false))) ?_;exact lf h;replace h:=Bz h;refine gW 21 (.ret (.d (D.b true))) ?_;exact lf h;replace h:=Bz h;refine gW 13 (.ret (.d (D.b true))) ?_;exact lf h
theorem aGm(rd:Option Nat)(h:VV bH bI a8 aA aN aR aD aI=some bJ):Lq 180 rd 1931 ⟨sp 49 0 [sD 0 (D.l X0.D) bH,(2,.clo (.func 181) [] [.eptr [.ptr ((D.cells ((D.l X0.D) bI))++[.v (.func (.func 168) #[] #[])])]]),bx 4,sI 8 a8,sI 9 aA,sI 10 aN,sI 11 aR,sD 31 D.b aD],[cL 4 X0.D aI],[]⟩ (.normal,⟨sp 49 0 [sD 0 (D.l X0.D) bH,(2,.clo (.func 181) [] [.eptr [.ptr ((D.cells ((D.l X0.D) bI))++[.v (.func (.func 168) #[] #[])])]]),bx 4,sI 8 a8,sI 9 bJ.1,sI 10 bJ.2],[cL 4 X0.D aI],[]⟩):=by unfold VV at h;apply g0 (o:=bJ);cases aD;replace h:=By h;exact lp h;replace h:=Bz h;exact lp h
theorem aGl(rd:Option Nat)(h:aGk bH bI a8 aA aN aI=some bJ):Lq 180 rd 241 ⟨sp 49 0 [sD 0 (D.l X0.D) bH,(2,.clo (.func 181) [] [.eptr [.ptr ((D.cells ((D.l X0.D) bI))++[.v (.func (.func 168) #[] #[])])]]),bx 4,sI 8 a8,sI 9 aA,sI 10 aN],[cL 4 X0.D aI],[]⟩ (.normal,⟨sp 49 0 [sD 0 (D.l X0.D) bH,(2,.clo (.func 181) [] [.eptr [.ptr ((D.cells ((D.l X0.D) bI))++[.v (.func (.func 168) #[] #[])])]]),bx 4,sI 8 a8,sI 9 bJ.1,sI 10 bJ.2],[cL 4 X0.D aI],[]⟩):=by unfold aGk at h;apply g0 (o:=bJ);refine gQ (of_decide_eq_true rfl:(0:Int)<=1)<|xX 27 X0.D h fun x1 h=>?_;obtain⟨r2,h3,h⟩:=bS h;refine gC 30 (aRc h3) ?_;obtain⟨o3,h5,h⟩:=bS h;refine gl (aGm rd h5) ?_;exact lp h
def VW(s0 s2:List X0)(s8:Int)(w4:X0)(s9 s10:Int):St:=⟨sp 49 0 [sD 0 (D.l X0.D) s0,(2,.clo (.func 181) [] [.eptr [.ptr ((D.cells ((D.l X0.D) s2))++[.v (.func (.func 168) #[] #[])])]]),bx 4,sI 8 s8,sI 9 s9,sI 10 s10],[cL 4 X0.D w4],[]⟩
def VX(s0 s2:List X0)(s8:Int)(w4:X0)(o:Int):Ex×St:=(.exit 0,⟨sp 49 0 [sD 0 (D.l X0.D) s0,(2,.clo (.func 181) [] [.eptr [.ptr ((D.cells ((D.l X0.D) s2))++[.v (.func (.func 168) #[] #[])])]]),bx 4,sI 8 s8,sI 9 o],[cL 4 X0.D w4],[]⟩)
theorem aGo(rd:Option Nat)(h:aGn bH bI a8 aI aA aN=some aR):Lq 180 rd 60 (VW bH bI a8 aI aA aN) ((VX bH bI a8 aI) aR):=
 lL (fun s:Int×Int=>VW bH bI a8 aI s.1 s.2) (VX bH bI a8 aI) (aA,aN) (fun⟨aA,aN⟩ o h=>by
 unfold Gu at h
 refine iB 17 h (fun h=>?_) fun h=>?_
 obtain⟨o4,h6,h⟩:=bS h
 refine gl (aGl rd h6) ?_
 exact lb h
 exact lb h) h
theorem aR3(h:Y6 bH aI bI=some aL):AL Tryz.prog 180 [.d ((D.l X0.D) bH),.d (X0.D aI),.clo (.func 181) [] [.eptr [.ptr ((D.cells ((D.l X0.D) bI))++[.v (.func (.func 168) #[] #[])])]]] [] (.tup [dI aL.1,.d (D.b aL.2)]) []:=by unfold Y6 at h;apply g0 (o:=aL);refine gN 13 X0.D bH ?_;obtain⟨o5,h7,h⟩:=bS h;refine gl (aGo none h7) ?_;refine iB 39 h (fun h=>?_) fun h=>?_;refine xX 43 X0.D h fun x6 h=>?_;obtain⟨r7,h10,h⟩:=bS h;refine gC 46 (aRc h10) ?_;exact lf h;exact lf h
theorem aU3(h:U8 a8 bH=some bI):AL Tryz.prog 182 [.nil,.d (D.i .i64 a8),.row 0] [(0,.row 62 4 (bH.map X0.D))] (.row 1) [rW 1 62 4 X0.D bI]:=
 aP0 (ρ:=⟨fun n=>if n=22 then 182 else if n=29 then 187 else 188,fun n=>if n=0 then 0 else if n=3 then 3 else if n=4 then 4 else if n=24 then 44 else 62,id⟩) (by_:=40) X0.D mixed rfl ⟨ "slices.Insert[[]proctor/api.Value,proctor/api.Value]",by decide,(Tryz.func182).trans (by kernel_rfl)⟩ Tryz.underlying3 Tryz.underlying4 Tryz.underlying44 (by kernel_rfl) (by decide) a8 bH bI h
theorem aI8(rd:Option Nat)(us:List Value)(h:aI7 a8 aD b8 aI=some bK):Lq 169 rd 61 ⟨sp 34 0 [bx 2,bx 3,sI 5 a8,sD 6 D.b aD,sD 20 D.b b8],[(0,.cells ([.nil,.clo (.func 168) [] []])),(2,.cells ([.box 0 0])),cL 3 X0.D aI,(997,.vals [.box 0 0] us)],[]⟩ (.normal,⟨sp 34 0 [sD 6 D.b aD],[(0,.cells ([.row 529,.clo (.func 168) [] []])),rW 529 62 4 X0.D bK,(997,.vals [.box 0 0] us)],[]⟩):=by unfold aI7 at h;apply g0 (o:=bK);cases b8;replace h:=By h;exact lP h [.live [6],.keep [0,997],.nilc 0 0 529 62 4,.sort];replace h:=Bz h;refine gQ (Ap X0.D [aI]) ?_;obtain⟨r2,h3,h⟩:=bS h;refine gG 29 (.cx true [(0,28)] [(1,29)] (.row 1) [rW 1 62 4 X0.D r2]) (aU3 h3) ?_;exact lP h [.live [6],.keep [0,29,997],.ren 29 529,.sort]
theorem aXn(h:Zs aI=some bL):AL Tryz.prog 169 [.box 0 0,.d (X0.D aI)] [(0,.cells ([.nil,.clo (.func 168) [] []]))] (.d (D.b bL.1)) [(0,.cells ([.row 1,.clo (.func 168) [] []])),rW 1 62 4 X0.D bL.2]:=by unfold Zs at h;refine XG.call (ks:=[0]) mixed fun us=>?_;apply g0 (o:=bL);obtain⟨r1,h1,h⟩:=bS h;refine gG 16 (.lend [0,2] (.tup [dI r1.1,.d (D.b r1.2)])) (aR3 h1) ?_;obtain⟨o3,h4,h⟩:=bS h;refine gl (aI8 none us h4) ?_;exact lX h [.live [4],.keep [0,529,997],.ren 529 1,.sort]
theorem aUw(h:U1 a8 bH bI=some bM):AL Tryz.prog 182 [.row 0,.d (D.i .i64 a8),.row 1] [rW 0 62 4 X0.D bH,(1,.row 62 4 (bI.map X0.D))] (.row 2) [rW 2 62 4 X0.D bM]:=
 aPz (ρ:=⟨fun n=>if n=22 then 182 else if n=29 then 187 else 188,fun n=>if n=0 then 0 else if n=3 then 3 else if n=4 then 4 else if n=24 then 44 else 62,id⟩) (by_:=40) X0.D mixed rfl ⟨ "slices.Insert[[]proctor/api.Value,proctor/api.Value]",by decide,(Tryz.func182).trans (by kernel_rfl)⟩ Tryz.underlying3 Tryz.underlying4 Tryz.underlying44 (by kernel_rfl) (by decide) (by decide)
  (fun args w=>run_callFunc_extern Tryz.func187 (by kernel_rfl) (by kernel_rfl) (by kernel_rfl) (e:=Go.Extern.SlicesOverlaps.overlaps #[44,44] #[4]) (by kernel_rfl) args w) a8 bH bI bM h
theorem aI6(rd:Option Nat)(us:List Value)(h:aI5 a8 aD b8 aI bH=some bK):Lq 169 rd 61 ⟨sp 34 0 [bx 2,bx 3,sI 5 a8,sD 6 D.b aD,sD 20 D.b b8],[(0,.cells ([.row 501,.clo (.func 168) [] []])),(2,.cells ([.box 0 0])),cL 3 X0.D aI,rW 501 62 4 X0.D bH,(997,.vals [.box 0 0] us)],[]⟩ (.normal,⟨sp 34 0 [sD 6 D.b aD],[(0,.cells ([.row 529,.clo (.func 168) [] []])),rW 529 62 4 X0.D bK,(997,.vals [.box 0 0] us)],[]⟩):=by unfold aI5 at h;apply g0 (o:=bK);cases b8;replace h:=By h;exact lP h [.live [6],.keep [0,501,997],.ren 501 529,.sort];replace h:=Bz h;refine gQ (Ap X0.D [aI]) ?_;obtain⟨r2,h3,h⟩:=bS h;refine gG 29 (.cx true [(0,501),(1,28)] [(2,29)] (.row 2) [rW 2 62 4 X0.D r2]) (aUw h3) ?_;exact lP h [.live [6],.keep [0,29,997],.ren 29 529,.sort]
theorem aSe(h:Zq aI bH=some bL):AL Tryz.prog 169 [.box 0 0,.d (X0.D aI)] [(0,.cells ([.row 1,.clo (.func 168) [] []])),rW 1 62 4 X0.D bH] (.d (D.b bL.1)) [(0,.cells ([.row 2,.clo (.func 168) [] []])),rW 2 62 4 X0.D bL.2]:=by unfold Zq at h;refine XG.call (ks:=[0]) mixed fun us=>?_;apply g0 (o:=bL);obtain⟨r1,h1,h⟩:=bS h;refine gG 16 (.lend [0,1,2] (.tup [dI r1.1,.d (D.b r1.2)])) (aR3 h1) ?_;obtain⟨o3,h4,h⟩:=bS h;refine gL [.live [2,3,5,6,20],.keep [0,1,2,3,997],.ren 1 501,.sort] (aI6 none us h4) ?_;exact lX h [.live [4],.keep [0,529,997],.ren 529 2,.sort]
theorem aU4(h:U9 bH=some bI):AL Tryz.prog 183 [.row 0] [rW 0 62 4 X0.D bH] (.row 1) [rW 0 62 4 X0.D bH,rW 1 62 4 X0.D bI]:=
 YL (ρ:=⟨fun _=>183,fun n=>if n=4 then 4 else if n=22 then 44 else 62,id⟩) (by_:=40) X0.D rfl rfl (aSq mixed ⟨ "slices.Clone[[]proctor/api.Value,proctor/api.Value]",by decide,(Tryz.func183).trans (by kernel_rfl)⟩ Tryz.underlying4 Tryz.underlying44 (by kernel_rfl) (by kernel_rfl) (by kernel_rfl) (by kernel_rfl)) (by kernel_rfl) (by decide) bH bI h
theorem aUf(h:Qi bH=some bN):AL Tryz.prog 171 [.box 0 0] [(0,.cells ([.row 1,.clo (.func 168) [] []])),rW 1 62 4 X0.D bH] (.row 2) [(0,.cells ([.row 3,.clo (.func 168) [] []])),rW 2 62 4 X0.D bN.1,rW 3 62 4 X0.D bN.2]:=by unfold Qi at h;refine XG.call (ks:=[0]) mixed fun us=>?_;apply g0 (o:=bN);obtain⟨r1,h1,h⟩:=bS h;refine gG 9 (.cx true [(0,1)] [(1,9)] (.row 1) [rW 0 62 4 X0.D bH,rW 1 62 4 X0.D r1]) (aU4 h1) ?_;exact lX h [.live [2],.keep [0,1,9,997],.ren 1 3,.ren 9 2,.sort]
theorem aEb(rd:Option Nat)(us:List Value)(h:T6 a8 aD a7=some bK):Lq 150 rd 29 ⟨sp 51 0 [sI 1 a8,bx 2,bx 5,sD 12 D.b aD],[cL 2 AD.D a7,(5,.cells ([.nil,.clo (.func 168) [] []])),(997,.vals [] us)],[]⟩ (.normal,⟨sp 51 0 [sI 1 a8,bx 2,bx 5],[cL 2 AD.D a7,(5,.cells ([.row 518,.clo (.func 168) [] []])),rW 518 62 4 X0.D bK,(997,.vals [] us)],[]⟩):=by unfold T6 at h;apply g0 (o:=bK);cases aD;replace h:=By h;exact lP h [.live [1,2,5],.keep [2,5,997],.nilc 5 0 518 62 4,.sort];replace h:=Bz h;obtain⟨r2,h3,h⟩:=bS h;refine gC 14 (aRg h3) ?_;obtain⟨r3,h4,h⟩:=bS h;refine gG 15 (.cx false [(0,5)] [(1,15)] (.d (D.b r3.1)) [(0,.cells ([.row 1,.clo (.func 168) [] []])),rW 1 62 4 X0.D r3.2]) (aXn h4) ?_;obtain⟨r4,h5,h⟩:=bS h;refine gC 17 (aRg h5) ?_;obtain⟨r5,h6,h⟩:=bS h;refine gG 18 (.cx false [(0,5),(1,15)] [(2,18)] (.d (D.b r5.1)) [(0,.cells ([.row 2,.clo (.func 168) [] []])),rW 2 62 4 X0.D r5.2]) (aSe h6) ?_;exact lP h [.live [1,2,5],.keep [2,5,18,997],.ren 18 518,.sort]
theorem Oz(rd:Option Nat)(us:List Value)(h:T7 a8 bC aA aN bO aR bD aD aW bH=some bK):Lq 150 rd 4010803 ⟨sp 51 0 [sI 1 a8,bx 5,bx 9,sD 20 (D.l X3.D) bC,sI 21 aA,sI 22 aN,sD 27 (D.l BW.D) bO,sI 28 aR,sI 29 bD,sD 42 D.b aD],[(5,.cells ([.row 518,.clo (.func 168) [] []])),cL 9 BW.D aW,rW 518 62 4 X0.D bH,(997,.vals [] us)],[]⟩ (.normal,⟨sp 51 0 [sI 1 a8,bx 5,sD 20 (D.l X3.D) bC,sI 21 aA,sI 22 aN,sD 27 (D.l BW.D) bO,sI 28 aR,sI 29 bD],[(5,.cells ([.row 546,.clo (.func 168) [] []])),rW 546 62 4 X0.D bK,(997,.vals [] us)],[]⟩):=by unfold T7 at h;apply g0 (o:=bK);cases aD;replace h:=By h;exact lP h [.live [1,5,20,21,22,27,28,29],.keep [5,518,997],.ren 518 546,.sort];replace h:=Bz h;obtain⟨r9,h14,h⟩:=bS h;refine gG 46 (.cx false [(0,5),(1,518)] [(2,46)] (.d (D.b r9.1)) [(0,.cells ([.row 2,.clo (.func 168) [] []])),rW 2 62 4 X0.D r9.2]) (aSe h14) ?_;exact lP h [.live [1,5,20,21,22,27,28,29],.keep [5,46,997],.ren 46 546,.sort]
theorem aEd(rd:Option Nat)(us:List Value)(h:aEc a8 bC aA aN bO aR bD bH=some bK):Lq 150 rd 501350 ⟨sp 51 0 [sI 1 a8,bx 5,sD 20 (D.l X3.D) bC,sI 21 aA,sI 22 aN,sD 27 (D.l BW.D) bO,sI 28 aR,sI 29 bD],[(5,.cells ([.row 518,.clo (.func 168) [] []])),rW 518 62 4 X0.D bH,(997,.vals [] us)],[]⟩ (.normal,⟨sp 51 0 [sI 1 a8,bx 5,sD 20 (D.l X3.D) bC,sI 21 aA,sI 22 aN,sD 27 (D.l BW.D) bO,sI 28 aR,sI 29 bD],[(5,.cells ([.row 546,.clo (.func 168) [] []])),rW 546 62 4 X0.D bK,(997,.vals [] us)],[]⟩):=by unfold aEc at h;apply g0 (o:=bK);refine xX 31 BW.D h fun x8 h=>?_;refine iB 36 h (fun h=>?_) fun h=>?_;obtain⟨o10,h15,h⟩:=bS h;refine gl (Oz rd us h15) ?_;exact lp h;obtain⟨o11,h16,h⟩:=bS h;refine gl (Oz rd us h16) ?_;exact lp h
def UA(us:List Value)(s1:Int)(s20:List X3)(s21 s22:Int)(s27:List BW)(s28 s29:Int)(w518:List X0):St:=⟨sp 51 0 [sI 1 s1,bx 5,sD 20 (D.l X3.D) s20,sI 21 s21,sI 22 s22,sD 27 (D.l BW.D) s27,sI 28 s28,sI 29 s29],[(5,.cells ([.row 518,.clo (.func 168) [] []])),rW 518 62 4 X0.D w518,(997,.vals [] us)],[]⟩
def UB(us:List Value)(s1:Int)(s20:List X3)(s21 s22:Int)(s27:List BW)(s28:Int)(o:(List X0)):Ex×St:=(.exit 2,⟨sp 51 0 [sI 1 s1,bx 5,sD 20 (D.l X3.D) s20,sI 21 s21,sI 22 s22],[(5,.cells ([.row 518,.clo (.func 168) [] []])),rW 518 62 4 X0.D o,(997,.vals [] us)],[]⟩)
theorem aEg(rd:Option Nat)(us:List Value)(h:aEf a8 bC aA aN bO aR bD bH=some bK):Lq 150 rd 31334 (UA us a8 bC aA aN bO aR bD bH) ((UB us a8 bC aA aN bO aR) bK):=
 lL (fun s:Int×List X0=>UA us a8 bC aA aN bO aR s.1 s.2) (UB us a8 bC aA aN bO aR) (bD,bH) (fun⟨bD,bH⟩ o h=>by
 unfold IH at h
 refine iB 30 h (fun h=>?_) fun h=>?_
 obtain⟨o12,h17,h⟩:=bS h
 refine gl (aEd rd us h17) ?_
 exact lB h [.live [1,5,20,21,22,27,28,29],.keep [5,546,997],.ren 546 518,.sort]
 exact lb h) h
def T8(us:List Value)(s1:Int)(s20:List X3)(s21 s22:Int)(w518:List X0):St:=⟨sp 51 0 [sI 1 s1,bx 5,sD 20 (D.l X3.D) s20,sI 21 s21,sI 22 s22],[(5,.cells ([.row 518,.clo (.func 168) [] []])),rW 518 62 4 X0.D w518,(997,.vals [] us)],[]⟩
def T9(us:List Value)(s1:Int)(s20:List X3)(s21:Int)(o:(List X0)):Ex×St:=(.exit 0,⟨sp 51 0 [bx 5],[(5,.cells ([.row 518,.clo (.func 168) [] []])),rW 518 62 4 X0.D o,(997,.vals [] us)],[]⟩)
theorem aEe(rd:Option Nat)(us:List Value)(h:aNb a8 bC aA aN bH=some bK):Lq 150 rd 122 (T8 us a8 bC aA aN bH) ((T9 us a8 bC aA) bK):=
 lL (fun s:Int×List X0=>T8 us a8 bC aA s.1 s.2) (T9 us a8 bC aA) (aN,bH) (fun⟨aN,bH⟩ o h=>by
 unfold IG at h
 refine iB 23 h (fun h=>?_) fun h=>?_
 refine xX 24 X3.D h fun x7 h=>?_
 refine gN 28 BW.D x7.args ?_
 obtain⟨o13,h18,h⟩:=bS h
 refine gl (aEg rd us h18) ?_
 exact lb h
 exact lb h) h
theorem aVk(h:Xm a7 a8=some bH):AL Tryz.prog 150 [.d (AD.D a7),dI a8] [] (.row 0) [rW 0 62 4 X0.D bH]:=by unfold Xm at h;refine XG.call (ks:=[]) mixed fun us=>?_;apply g0 (o:=bH);refine gW 10 (.cx false [] [(0,417)] (.box 0 0) [(0,.cells ([.nil,.clo (.func 168) [] []]))])<|gW 21 (.int (a7.symbols.length:Int)) ?_;obtain⟨r1,h1,h⟩:=bS h;refine gQ (aUv h1) ?_;obtain⟨o6,h7,h⟩:=bS h;refine gL [.live [1,2,5,12],.keep [2,417,997],.ren 417 5,.sort] (aEb none us h7)<|gQ (Ee X3.D a7.symbols) ?_;obtain⟨o14,h19,h⟩:=bS h;refine gl (aEe none us h19) ?_;obtain⟨r15,h20,h⟩:=bS h;refine gG 50 (.cx false [(0,5),(1,518)] [(2,50),(3,457)] (.row 2) [(0,.cells ([.row 3,.clo (.func 168) [] []])),rW 2 62 4 X0.D r15.1,rW 3 62 4 X0.D r15.2]) (aUf h20) ?_;exact lX h [.live [4],.keep [50,997],.ren 50 0,.sort]
def Wt(s0:List X0)(s7:Int)(w3:X0)(s8:Int):St:=⟨sp 19 0 [sD 0 (D.l X0.D) s0,bx 3,sI 7 s7,sI 8 s8],[cL 3 X0.D w3],[]⟩
def Wu(s0:List X0)(s7:Int)(w3:X0)(o:Unit⊕Int):Ex×St:=match o with
 | .inl o=>(.exit 0,⟨sp 19 0 [],[],[]⟩)
 | .inr o=>(.ret,⟨sp 19 0 [sI 4 o],[],[]⟩)
theorem aIv(rd:Option Nat)(h:aIu bH a8 aI aA=some aF):Lq 172 rd 26 (Wt bH a8 aI aA) ((Wu bH a8 aI) aF):=
 lL (fun s:Int=>Wt bH a8 aI s) (Wu bH a8 aI) aA (fun aA o h=>by
 unfold Iz at h
 refine iB 9 h (fun h=>?_) fun h=>?_
 refine xX 14 X0.D h fun x1 h=>?_
 refine iB 16 h (fun h=>?_) fun h=>?_
 exact lb h
 exact lb h
 exact lb h) h
theorem aXd(h:Zd bH aI=some a8):AL Tryz.prog 172 [.d ((D.l X0.D) bH),.d (X0.D aI)] [] (dI a8) []:=by
 unfold Zd at h;apply g0 (o:=a8);refine gN 7 X0.D bH ?_;obtain⟨o2,h4,h⟩:=bS h;refine gl (aIv none h4) ?_;replace h:=AK h;rcases h with⟨o3,rfl,h⟩|⟨o4,rfl,h⟩
 exact lf h;exact lf h
theorem aRd(h:Qa bH aI=some aD):AL Tryz.prog 151 [.d ((D.l X0.D) bH),.d (X0.D aI)] [] (.d (D.b aD)) []:=by unfold Qa at h;apply g0 (o:=aD);obtain⟨r1,h1,h⟩:=bS h;refine gC 7 (aXd h1) ?_;exact lf h
theorem aUx(h:U2 a8=some bH):AL Tryz.prog 173 [.nil,.d (D.i .i64 a8)] [] (.row 0) [rW 0 62 4 X0.D bH]:=
 aJx (ρ:=⟨fun _=>173,fun a8=>if a8=0 then 0 else if a8=3 then 3 else if a8=4 then 4 else if a8=9 then 9 else if a8=20 then 20 else if a8=22 then 44 else 62,id⟩) (by_:=40) X0.D rfl rfl (aXv mixed ⟨ "slices.Grow[[]proctor/api.Value,proctor/api.Value]",by decide,(Tryz.func173).trans (by kernel_rfl)⟩ Tryz.underlying0 Tryz.underlying3 Tryz.underlying4 Tryz.underlying9 Tryz.underlying20 Tryz.underlying44 (by kernel_rfl) (by kernel_rfl) (by kernel_rfl) (by kernel_rfl) (by kernel_rfl) (by kernel_rfl) (by kernel_rfl) (by kernel_rfl) (by kernel_rfl) (by kernel_rfl) (by kernel_rfl) (by kernel_rfl)) (by kernel_rfl) (by decide) a8 bH h
theorem aDx(rd:Option Nat)(h:Tk bP a8 bQ aA aN aD=some bG):Lq 153 rd 14951 ⟨sp 36 0 [sD 0 (D.l (D.l X0.D)) bP,sI 3 a8,sD 9 (D.l (D.l X0.D)) bQ,sI 10 aA,sI 11 aN,sD 20 D.b aD],[],[]⟩ (.normal,⟨sp 36 0 [sD 0 (D.l (D.l X0.D)) bP,sI 3 a8,sD 9 (D.l (D.l X0.D)) bQ,sI 10 aA,sI 11 aN],[],[]⟩):=by unfold Tk at h;apply g0 (o:=bG);cases aD;replace h:=By h;exact lp h;replace h:=Bz h;cases h
theorem aDw(rd:Option Nat)(h:Tj bP a8 bQ aA aN=some aR):Lq 153 rd 934 ⟨sp 36 0 [sD 0 (D.l (D.l X0.D)) bP,sI 3 a8,sD 9 (D.l (D.l X0.D)) bQ,sI 10 aA,sI 11 aN],[],[]⟩ (.normal,⟨sp 36 0 [sD 0 (D.l (D.l X0.D)) bP,sI 3 aR,sD 9 (D.l (D.l X0.D)) bQ,sI 10 aA,sI 11 aN],[],[]⟩):=by unfold Tj at h;apply g0 (o:=aR);refine xX 13 (D.l X0.D) h fun x1 h=>?_;refine gN 17 X0.D x1 ?_;obtain⟨o2,h4,h⟩:=bS h;refine gl (aDx rd h4) ?_;exact lp h
def Tm(s0 s9:List (List X0))(s10 s3 s11:Int):St:=⟨sp 36 0 [sD 0 (D.l (D.l X0.D)) s0,sI 3 s3,sD 9 (D.l (D.l X0.D)) s9,sI 10 s10,sI 11 s11],[],[]⟩
def Tn(s0 s9:List (List X0))(s10 o:Int):Ex×St:=(.exit 0,⟨sp 36 0 [sD 0 (D.l (D.l X0.D)) s0,sI 3 o],[],[]⟩)
theorem aDy(rd:Option Nat)(h:Tl bP bQ a8 aA aN=some aR):Lq 153 rd 58 (Tm bP bQ a8 aA aN) ((Tn bP bQ a8) aR):=
 lL (fun s:Int×Int=>Tm bP bQ a8 s.1 s.2) (Tn bP bQ a8) (aA,aN) (fun⟨aA,aN⟩ o h=>by
 unfold Gf at h
 refine iB 12 h (fun h=>?_) fun h=>?_
 obtain⟨o3,h5,h⟩:=bS h
 refine gl (aDw rd h5) ?_
 exact lb h
 exact lb h) h
def Tp(s25:List (List X0))(s26 s27:Int)(w6:List X0):St:=⟨sp 36 0 [rx 6,sD 25 (D.l (D.l X0.D)) s25,sI 26 s26,sI 27 s27],[rW 6 62 4 X0.D w6],[]⟩
def Tq(s25:List (List X0))(s26:Int)(o:(List X0)):Ex×St:=(.exit 2,⟨sp 36 0 [rx 6],[rW 6 62 4 X0.D o],[]⟩)
theorem aDz(rd:Option Nat)(h:To bP a8 aA bH=some bK):Lq 153 rd 250 (Tp bP a8 aA bH) ((Tq bP a8) bK):=
 lL (fun s:Int×List X0=>Tp bP a8 s.1 s.2) (Tq bP a8) (aA,bH) (fun⟨aA,bH⟩ o h=>by
 unfold Gg at h
 refine iB 28 h (fun h=>?_) fun h=>?_
 refine xX 29 (D.l X0.D) h fun x6 h=>?_
 refine gG 33 (.rwl ((bH++x6).map X0.D)) (Ap X0.D x6) ?_
 obtain⟨h10,h⟩:=cS h
 refine gQ (Av X0.D h10)<|gQ (Au X0.D bH x6) ?_
 exact lB h [.live [6,25,26,27],.keep [33],.ren 33 6,.sort]
 exact lb h) h
theorem aVh(h:Xj bP=some bH):AL Tryz.prog 153 [.d ((D.l (D.l X0.D)) bP)] [] (.d ((D.l X0.D) bH)) []:=by unfold Xj at h;apply g0 (o:=bH);refine gN 10 (D.l X0.D) bP<|gW 26 (.int (bP.length:Int)) ?_;obtain⟨o4,h6,h⟩:=bS h;refine gl (aDy none h6) ?_;obtain⟨r5,h7,h⟩:=bS h;refine gG 24 (.cx true [] [(0,24)] (.row 0) [rW 0 62 4 X0.D r5]) (aUx h7)<|gQ (Ee (D.l X0.D) bP) ?_;obtain⟨o7,h11,h⟩:=bS h;refine gL [.live [6,25,26,27],.keep [24],.ren 24 6,.sort] (aDz none h11) ?_;exact lF h [.frz 6]
theorem aGc(rd:Option Nat)(h:aGb a8 bH aD aI aQ=some bR):Lq 152 rd 965 ⟨sp 30 0 [sI 0 a8,sD 1 (D.l X0.D) bH,bx 4,bx 6,sD 20 D.b aD],[cL 4 X0.D aI,cL 6 X0.D aQ],[]⟩ (.normal,⟨sp 30 0 [sI 0 a8,sD 1 (D.l X0.D) bH,bx 4,bx 6],[cL 4 X0.D aI,cL 6 X0.D bR],[]⟩):=by unfold aGb at h;apply g0 (o:=bR);cases aD;replace h:=By h;refine gW 27 (.str (aQ.str++([97]:List UInt8))) ?_;obtain⟨h6,h⟩:=cS h;refine gQ (Jn h6) ?_;exact lp h;replace h:=Bz h;exact lp h
theorem aGa(rd:Option Nat)(h:VP a8 bH aI aQ=some bR):Lq 152 rd 241 ⟨sp 30 0 [sI 0 a8,sD 1 (D.l X0.D) bH,bx 4,bx 6],[cL 4 X0.D aI,cL 6 X0.D aQ],[]⟩ (.normal,⟨sp 30 0 [sI 0 a8,sD 1 (D.l X0.D) bH,bx 4,bx 6],[cL 4 X0.D aI,cL 6 X0.D bR],[]⟩):=by unfold VP at h;apply g0 (o:=bR);obtain⟨o2,h7,h⟩:=bS h;refine gl (aGc rd h7) ?_;exact lp h
def VQ(s0:Int)(s1:List X0)(w4 w6:X0):St:=⟨sp 30 0 [sI 0 s0,sD 1 (D.l X0.D) s1,bx 4,bx 6],[cL 4 X0.D w4,cL 6 X0.D w6],[]⟩
def VR(s0:Int)(s1:List X0)(w4 o:X0):Ex×St:=(.exit 0,⟨sp 30 0 [bx 4,bx 6],[cL 4 X0.D w4,cL 6 X0.D o],[]⟩)
theorem PE(rd:Option Nat)(h:QV a8 bH aI aQ=some bR):Lq 152 rd 60 (VQ a8 bH aI aQ) ((VR a8 bH aI) bR):=
 lL (fun s:X0=>VQ a8 bH aI s) (VR a8 bH aI) aQ (fun aQ o h=>by
 unfold IY at h
 obtain⟨r1,h3,h⟩:=bS h
 refine gQ (aRd h3) ?_
 cases r1
 replace h:=By h
 refine gW 18 (.ret (.d (D.b false))) ?_
 exact lb h
 replace h:=Bz h
 refine gW 18 (.ret (.d (D.b true))) ?_
 obtain⟨o3,h8,h⟩:=bS h
 refine gl (aGa rd h8) ?_
 exact lb h) h
theorem aV6(h:Y4 a8 bH=some bU):AL Tryz.prog 152 [dI a8,.d ((D.l X0.D) bH)] [] (.tup [.d (X0.D bU.1),.d (D.b bU.2)]) []:=by unfold Y4 at h;apply g0 (o:=bU);refine iB 9 h (fun h=>?_) fun h=>?_;refine iB 12 h (fun h=>?_) fun h=>?_;exact lf h;obtain⟨o4,h9,h⟩:=bS h;refine gl (PE none h9) ?_;exact lf h;obtain⟨o5,h10,h⟩:=bS h;refine gl (PE none h10) ?_;exact lf h
theorem PC(rd:Option Nat)(h:VI bH a8 b9 aA aN aD bI bV=some bK):Lq 130 rd 15667 ⟨sp 67 0 [sD 1 (D.l X0.D) bH,sI 5 a8,rx 6,bx 8,sD 28 (D.l X2.D) b9,sI 29 aA,sI 30 aN,sD 45 D.b aD],[rW 6 62 4 X0.D bI,cL 8 X2.D bV],[]⟩ (.normal,⟨sp 67 0 [sD 1 (D.l X0.D) bH,sI 5 a8,rx 6,sD 28 (D.l X2.D) b9,sI 29 aA,sI 30 aN],[rW 6 62 4 X0.D bK],[]⟩):=by unfold VI at h;apply g0 (o:=bK);cases aD;replace h:=By h;exact lp h;replace h:=Bz h;refine gQ (Ap X0.D [bV.value])<|gG 50 (.rwl ((bI++[bV.value]).map X0.D)) (Ap X0.D [bV.value]) ?_;obtain⟨h9,h⟩:=cS h;refine gQ (Av X0.D h9)<|gQ (Au X0.D bI [bV.value]) ?_;exact lP h [.live [1,5,6,28,29,30],.keep [50],.ren 50 6,.sort]
theorem aF1(rd:Option Nat)(h:aF0 bH a8 b9 aA aN bI=some bK):Lq 130 rd 1958 ⟨sp 67 0 [sD 1 (D.l X0.D) bH,sI 5 a8,rx 6,sD 28 (D.l X2.D) b9,sI 29 aA,sI 30 aN],[rW 6 62 4 X0.D bI],[]⟩ (.normal,⟨sp 67 0 [sD 1 (D.l X0.D) bH,sI 5 a8,rx 6,sD 28 (D.l X2.D) b9,sI 29 aA,sI 30 aN],[rW 6 62 4 X0.D bK],[]⟩):=by unfold aF0 at h;apply g0 (o:=bK);refine xX 32 X2.D h fun x4 h=>?_;refine iB 39 h (fun h=>?_) fun h=>?_;obtain⟨r5,h7,h⟩:=bS h;refine gG 43 (.lend [6] (.d (D.b r5))) (aRd h7) ?_;obtain⟨o6,h10,h⟩:=bS h;refine gl (PC rd h10) ?_;exact lp h;obtain⟨o7,h11,h⟩:=bS h;refine gl (PC rd h11) ?_;exact lp h
def VJ(s1:List X0)(s5:Int)(s28:List X2)(s29 s30:Int)(w6:List X0):St:=⟨sp 67 0 [sD 1 (D.l X0.D) s1,sI 5 s5,rx 6,sD 28 (D.l X2.D) s28,sI 29 s29,sI 30 s30],[rW 6 62 4 X0.D w6],[]⟩
def VK(s1:List X0)(s5:Int)(s28:List X2)(s29:Int)(o:(List X0)):Ex×St:=(.exit 0,⟨sp 67 0 [sD 1 (D.l X0.D) s1,sI 5 s5,rx 6],[rW 6 62 4 X0.D o],[]⟩)
theorem aF4(rd:Option Nat)(h:aF3 bH a8 b9 aA aN bI=some bK):Lq 130 rd 122 (VJ bH a8 b9 aA aN bI) ((VK bH a8 b9 aA) bK):=
 lL (fun s:Int×List X0=>VJ bH a8 b9 aA s.1 s.2) (VK bH a8 b9 aA) (aN,bI) (fun⟨aN,bI⟩ o h=>by
 unfold IV at h
 refine iB 31 h (fun h=>?_) fun h=>?_
 obtain⟨o8,h12,h⟩:=bS h
 refine gl (aF1 rd h12) ?_
 exact lb h
 exact lb h) h
theorem aF2(rd:Option Nat)(h:QU aD bH aI=some bK):Lq 130 rd 251 ⟨sp 67 0 [rx 6,bx 9,sD 61 D.b aD],[(6,.row 62 4 (bH.map X0.D)),cL 9 X0.D aI],[]⟩ (.normal,⟨sp 67 0 [rx 6],[(6,.row 62 4 (bK.map X0.D))],[]⟩):=by unfold QU at h;apply g0 (o:=bK);cases aD;replace h:=By h;exact lp h;replace h:=Bz h;refine gQ (Ap X0.D [aI])<|gG 65 (.sl ((bH++[aI]).map X0.D)) (Ap X0.D [aI]) ?_;obtain⟨h17,h⟩:=cS h;refine gQ (Av X0.D h17)<|gQ (Au X0.D bH [aI]) ?_;exact lP h [.live [6],.keep [65],.ren 65 6,.sort]
theorem aV4(h:Y2 bW bH=some bI):AL Tryz.prog 130 [.d (Xr.D bW),.d ((D.l X0.D) bH)] [] (.d ((D.l X0.D) bI)) []:=by unfold Y2 at h;apply g0 (o:=bI);refine gW 29 (.int (bW.b.length:Int))<|gW 54 (.fzn 6)<|xX 16 Xe.D h fun x1 h=>?_;refine xX 21 dZ h fun x2 h=>?_;obtain⟨r3,h3,h⟩:=bS h;refine gG 26 (.cx false [] [(0,26)] (.row 0) [rW 0 62 4 X0.D r3]) (aVk h3)<|gQ (Ee X2.D bW.b) ?_;obtain⟨o9,h13,h⟩:=bS h;refine gL [.live [1,5,6,28,29,30],.keep [26],.ren 26 6,.sort] (aF4 none h13)<|gQ (Ap (D.l X0.D) [o9,bH]) ?_;obtain⟨r10,h14,h⟩:=bS h;refine gC 57 (aVh h14) ?_;obtain⟨r11,h15,h⟩:=bS h;refine gC 58 (aV6 h15) ?_;obtain⟨o12,h18,h⟩:=bS h;refine gl (aF2 none h18) ?_;exact lf h
def Wv(s1:Int)(s8:List X2)(s9:Int)(w4:X0)(s10:Int):St:=⟨sp 22 0 [sI 1 s1,bx 4,sD 8 (D.l X2.D) s8,sI 9 s9,sI 10 s10],[cL 4 X0.D w4],[]⟩
def Ww(s1:Int)(s8:List X2)(s9:Int)(w4:X0)(o:Unit⊕X0):Ex×St:=match o with
 | .inl o=>(.exit 0,⟨sp 22 0 [bx 4],[cL 4 X0.D w4],[]⟩)
 | .inr o=>(.ret,⟨sp 22 0 [bx 4,sD 5 D.b true],[cL 4 X0.D o],[]⟩)
theorem aIw(rd:Option Nat)(h:aOm a8 b9 aA aI aN=some bX):Lq 174 rd 26 (Wv a8 b9 aA aI aN) ((Ww a8 b9 aA aI) bX):=
 lL (fun s:Int=>Wv a8 b9 aA aI s) (Ww a8 b9 aA aI) aN (fun aN o h=>by
 unfold I0 at h
 refine iB 11 h (fun h=>?_) fun h=>?_
 refine xX 12 X2.D h fun x1 h=>?_
 refine iB 17 h (fun h=>?_) fun h=>?_
 exact lb h
 exact lb h
 exact lb h) h
theorem aXe(h:Ze b9 a8=some bU):AL Tryz.prog 174 [.d ((D.l X2.D) b9),dI a8] [] (.tup [.d (X0.D bU.1),.d (D.b bU.2)]) []:=by
 unfold Ze at h;apply g0 (o:=bU);refine gN 9 X2.D b9 ?_;obtain⟨o2,h4,h⟩:=bS h;refine gl (aIw none h4) ?_;replace h:=AK h;rcases h with⟨o3,rfl,h⟩|⟨o4,rfl,h⟩
 exact lf h;exact lf h
theorem aUp(h:Qu bW aW aI=some aD):AL Tryz.prog 154 [.d (Xr.D bW),.d (BW.D aW),.d (X0.D aI)] [] (.d (D.b aD)) []:=by unfold Qu at h;apply g0 (o:=aD);refine iB 11 h (fun h=>?_) fun h=>?_;exact lf h;refine iB 17 h (fun h=>?_) fun h=>?_;obtain⟨r1,h3,h⟩:=bS h;refine gC 24 (aXe h3) ?_;refine iB 28 h (fun h=>?_) fun h=>?_;exact lf h;exact lf h;exact lf h
theorem PG(rd:Option Nat)(h:Vj a8 aA bC aN aR aD bW aI=some bD):Lq 131 rd 15667 ⟨sp 42 0 [bx 2,bx 3,(5,.clo (.func 154) [] []),sD 6 dU a8,sI 7 aA,sD 11 (D.l X3.D) bC,sI 12 aN,sI 13 aR,sD 34 D.b aD],[cL 2 Xr.D bW,cL 3 X0.D aI],[]⟩ (.normal,⟨sp 42 0 [bx 2,bx 3,(5,.clo (.func 154) [] []),sD 6 dU bD,sD 11 (D.l X3.D) bC,sI 12 aN,sI 13 aR],[cL 2 Xr.D bW,cL 3 X0.D aI],[]⟩):=by unfold Vj at h;apply g0 (o:=bD);cases aD;replace h:=By h;exact lp h;replace h:=Bz h;obtain⟨h7,h⟩:=cS h;refine gQ h7 ?_;exact lp h
theorem aG6(rd:Option Nat)(h:aG5 a8 bC aA aN bW aI=some aR):Lq 131 rd 1958 ⟨sp 42 0 [bx 2,bx 3,(5,.clo (.func 154) [] []),sD 6 dU a8,sD 11 (D.l X3.D) bC,sI 12 aA,sI 13 aN],[cL 2 Xr.D bW,cL 3 X0.D aI],[]⟩ (.normal,⟨sp 42 0 [bx 2,bx 3,(5,.clo (.func 154) [] []),sD 6 dU aR,sD 11 (D.l X3.D) bC,sI 12 aA,sI 13 aN],[cL 2 Xr.D bW,cL 3 X0.D aI],[]⟩):=by unfold aG5 at h;apply g0 (o:=aR);refine xX 16 X3.D h fun x1 h=>?_;refine iB 23 h (fun h=>?_) fun h=>?_;refine xX 30 BW.D h fun x2 h=>?_;obtain⟨r3,h5,h⟩:=bS h;refine gC 33 (aUp h5) ?_;obtain⟨o4,h8,h⟩:=bS h;refine gl (PG rd h8) ?_;exact lp h;obtain⟨o5,h9,h⟩:=bS h;refine gl (PG rd h9) ?_;exact lp h
def Vk(s11:List X3)(s12:Int)(w2:Xr)(w3:X0)(s6 s13:Int):St:=⟨sp 42 0 [bx 2,bx 3,(5,.clo (.func 154) [] []),sD 6 dU s6,sD 11 (D.l X3.D) s11,sI 12 s12,sI 13 s13],[cL 2 Xr.D w2,cL 3 X0.D w3],[]⟩
def Vl(s11:List X3)(s12:Int)(w2:Xr)(w3:X0)(o:Int):Ex×St:=(.exit 0,⟨sp 42 0 [sD 6 dU o],[],[]⟩)
theorem aG7(rd:Option Nat)(h:aNw bC a8 bW aI aA aN=some aR):Lq 131 rd 122 (Vk bC a8 bW aI aA aN) ((Vl bC a8 bW aI) aR):=
 lL (fun s:Int×Int=>Vk bC a8 bW aI s.1 s.2) (Vl bC a8 bW aI) (aA,aN) (fun⟨aA,aN⟩ o h=>by
 unfold Ie at h
 refine iB 14 h (fun h=>?_) fun h=>?_
 obtain⟨o6,h10,h⟩:=bS h
 refine gl (aG6 rd h10) ?_
 exact lb h
 exact lb h) h
theorem aWe(h:Yc bW aI=some a8):AL Tryz.prog 131 [.d (Xr.D bW),.d (X0.D aI)] [] (.d (dU a8)) []:=by unfold Yc at h;apply g0 (o:=a8);refine gN 12 X3.D bW.q.symbols ?_;obtain⟨o7,h11,h⟩:=bS h;refine gl (aG7 none h11) ?_;exact lf h
def Gj(clk:Nat)(es:List (Nat×Int×Bool))(us:List Value)(s8:Int)(s12:List X0)(s13 s14:Int)(w0:List (Int×Bool))(w3:Xr)(w5:List (Int×Bool))(sn:List Nat):St:=⟨sp 33 0 [rx 0,bx 3,rx 5,sD 8 dU s8,sD 12 (D.l X0.D) s12,sI 13 s13,sI 14 s14,bx 22],[(0,.map clk (dl dU D.b es)),cL 3 Xr.D w3,(5,.mapS (ms dU D.b w5)),(22,.mit 0 clk sn),(997,.vals [] us)],[]⟩
def Gk(clk:Nat)(es:List (Nat×Int×Bool))(us:List Value)(s8:Int)(s12:List X0)(s13 s14:Int)(w0:List (Int×Bool))(w3:Xr)(o:(List (Int×Bool))):Ex×St:=(.exit 2,⟨sp 33 0 [rx 0,bx 3,rx 5,sD 12 (D.l X0.D) s12,sI 13 s13,sI 14 s14],[(0,.map clk (dl dU D.b es)),cL 3 Xr.D w3,(5,.mapS (ms dU D.b o)),(997,.vals [] us)],[]⟩)
def aNe(clk:Nat)(es:List (Nat×Int×Bool))(us:List Value)(s8:Int)(s12:List X0)(s13 s14:Int)(w0:List (Int×Bool))(w3:Xr)(w5:List (Int×Bool)):St:=⟨sp 33 0 [rx 0,bx 3,rx 5,sD 12 (D.l X0.D) s12,sI 13 s13,sI 14 s14],[(0,.map clk (dl dU D.b es)),cL 3 Xr.D w3,(5,.mapS (ms dU D.b w5)),(997,.vals [] us)],[]⟩
set_option maxRecDepth 100000 in
theorem UF(rd:Option Nat)(us:List Value)(clk:Nat)(es:List (Nat×Int×Bool))(s8:Int)(s12:List X0)(s13 s14:Int)(w0:List (Int×Bool))(w3:Xr)(k:Int)(v:Bool)(w5:List (Int×Bool))(sn:List Nat)(st:Nat)(hm:(st,k,v)∈es)(o:(List (Int×Bool)))(h:Gm s8 s12 s13 s14 w0 w3 k v w5=some o):NH Tryz.prog rd (EP Tryz.prog 92) [0,1,1,1,0,0,1,1,0,0,1,0,1,1] ((⟨(Gj clk es us s8 s12 s13 s14 w0 w3 w5 sn).E,Bu (Gj clk es us s8 s12 s13 s14 w0 w3 w5 sn).B 22 (.mit 0 clk (sn++[st])),[]⟩:St).put (some 23) (.tup [bo true,.d (dU k),.d (D.b v)])) fun zx zs=>zx=.normal/\Wk zs ((fun s:(List (Int×Bool))=>Gj clk es us s8 s12 s13 s14 w0 w3 s (sn++[st])) o):=by unfold Gm at h;obtain rfl:=si h;exact FY mixed [(25,.en (dU k) (D.b v)),(10027,.ms (ms dU D.b (GH (AA .and .u64 k s8) true w5)))] [] [.live [0,3,5,8,12,13,14,22],.keep [0,3,5,22,997]] (ai (OL (fk:=dU) (fv:=D.b) (clk:=clk) (sn:=sn) hm) (ai (OT (aLt Tryz.underlying56) D.b w5 (AA .and .u64 k s8) true) (ti))) (by kernel_rfl)
set_option maxRecDepth 100000 in
theorem UE(rd:Option Nat)(us:List Value)(clk:Nat)(es:List (Nat×Int×Bool))(s8:Int)(s12:List X0)(s13 s14:Int)(w0:List (Int×Bool))(w3:Xr)(w5:List (Int×Bool))(sn:List Nat):NH Tryz.prog rd (EP Tryz.prog 92) [0,1,1,1,0,0,1,1,0,0,1,0,1,1] ((Gj clk es us s8 s12 s13 s14 w0 w3 w5 sn).put (some 23) (.tup [bo false])) fun zx zs=>zx=(Gk clk es us s8 s12 s13 s14 w0 w3 (Kt s8 s12 s13 s14 w0 w3 w5)).1/\Wk zs (Gk clk es us s8 s12 s13 s14 w0 w3 (Kt s8 s12 s13 s14 w0 w3 w5)).2:=by refine NH.wk (e:=.exit 2) (s1:=aNe clk es us s8 s12 s13 s14 w0 w3 w5) (FY mixed [] [] [.live [0,3,5,12,13,14],.keep [0,3,5,997]] (ti) (by kernel_rfl)) ?_;exact(Wk.canS 5 (by kernel_rfl) rfl)
set_option maxRecDepth 100000 in
theorem aEk(rd:Option Nat)(us:List Value)(clk:Nat)(es:List (Nat×Int×Bool))(s8:Int)(s12:List X0)(s13 s14:Int)(w0:List (Int×Bool))(w3:Xr)(w5:List (Int×Bool))(hp:(es.map (·.2)).Perm w0)(o:(List (Int×Bool)))(h:aNd s8 s12 s13 s14 w0 w3 w5=some o):Fg Tryz.prog rd (EP Tryz.prog 92) [0,1,1,1,0,0,1,1,0,0,1,0,1,1] (Gj clk es us s8 s12 s13 s14 w0 w3 w5 []) ((Gk clk es us s8 s12 s13 s14 w0 w3) o).1 ((Gk clk es us s8 s12 s13 s14 w0 w3) o).2:=
 OH (fk:=dU) (fv:=D.b) (step:=(fun(x:Int×Bool) (s:(List (Int×Bool)))=>Gm s8 s12 s13 s14 w0 w3 x.1 x.2 s)) (s0:=w5) 22 23 22 0 clk es (fun(sn:List Nat) (s:(List (Int×Bool)))=>Gj clk es us s8 s12 s13 s14 w0 w3 s sn) (Gk clk es us s8 s12 s13 s14 w0 w3) (by kernel_rfl) (Pg (by rfl)) (fun _ _=>by kernel_rfl) (fun _ _=>by kernel_rfl) (fun _ _=>by kernel_rfl) hp
  (fun sn s k v st a hm h=>UF rd us clk es s8 s12 s13 s14 w0 w3 k v s sn st hm a h) (fun sn s hc=>hc▸UE rd us clk es s8 s12 s13 s14 w0 w3 s sn) h
theorem aEi(rd:Option Nat)(us:List Value)(h:aEh a8 bH aA aN bY bW bZ=some c9):Lq 92 rd 7475 ⟨sp 33 0 [rx 0,bx 3,rx 5,sD 8 dU a8,sD 12 (D.l X0.D) bH,sI 13 aA,sI 14 aN],[(0,.mapS (ms dU D.b bY)),cL 3 Xr.D bW,(5,.mapS (ms dU D.b bZ)),(997,.vals [] us)],[]⟩ (.normal,⟨sp 33 0 [rx 0,bx 3,rx 5,sD 12 (D.l X0.D) bH,sI 13 aA,sI 14 aN],[(0,.mapS (ms dU D.b bY)),cL 3 Xr.D bW,(5,.mapS (ms dU D.b c9)),(997,.vals [] us)],[]⟩):=by unfold aEh at h;obtain⟨o4,h5,h⟩:=bS h;obtain rfl:=si h;exact Arr.lp (Arr.exact (fk:=dU) (fv:=D.b) (S:=bY) 0 (by kernel_rfl) fun clk es hp=>Arr.setm (fk:=dU) (fv:=D.b) (S:=bY) (clk:=clk) (es:=es) 0 hp (by kernel_rfl) (by kernel_rfl) (GI mixed [] [⟨[0,1,1,1,0,0,1,1,0,0,1,0,1,1],[.live [0,3,5,8,12,13,14,22],.keep [0,3,5,22,997]],.exit 2,(Gk clk es us a8 bH aA aN bY bW o4).2⟩] [.live [0,3,5,12,13,14],.keep [0,3,5,997]] (ai (aEk rd us clk es a8 bH aA aN bY bW bZ hp o4 h5) (ti)) (by kernel_rfl)))
def UC(us:List Value)(s12:List X0)(s13:Int)(w0:List (Int×Bool))(w3:Xr)(s14:Int)(w5:List (Int×Bool)):St:=⟨sp 33 0 [rx 0,bx 3,rx 5,sD 12 (D.l X0.D) s12,sI 13 s13,sI 14 s14],[(0,.mapS (ms dU D.b w0)),cL 3 Xr.D w3,(5,.mapS (ms dU D.b w5)),(997,.vals [] us)],[]⟩
def UD(us:List Value)(s12:List X0)(s13:Int)(w0:List (Int×Bool))(w3:Xr)(o:(List (Int×Bool))):Ex×St:=(.exit 0,⟨sp 33 0 [rx 5],[(5,.mapS (ms dU D.b o)),(997,.vals [] us)],[]⟩)
theorem aEj(rd:Option Nat)(us:List Value)(h:aNc bH a8 bY bW aA bZ=some c9):Lq 92 rd 58 (UC us bH a8 bY bW aA bZ) ((UD us bH a8 bY bW) c9):=
 lL (fun s:Int×(List (Int×Bool))=>UC us bH a8 bY bW s.1 s.2) (UD us bH a8 bY bW) (aA,bZ) (fun⟨aA,bZ⟩ o h=>by
 unfold II at h
 refine iB 15 h (fun h=>?_) fun h=>?_
 refine xX 16 X0.D h fun x2 h=>?_
 obtain⟨r3,h4,h⟩:=bS h
 refine gC 20 (aWe h4) ?_
 obtain⟨o5,h6,h⟩:=bS h
 refine gl (aEi rd us h6) ?_
 exact lb h
 exact lb h) h
theorem aVl(h:Xn bW bY=some c9):AL Tryz.prog 92 [.row 0,.d (Xr.D bW)] [(0,.mapS (ms dU D.b bY))] (.row 1) [(1,.mapS (ms dU D.b c9))]:=by unfold Xn at h;refine XG.call (ks:=[]) mixed fun us=>?_;apply g0 (o:=c9);refine gW 10 .frz ?_;obtain⟨r1,h1,h⟩:=bS h;refine gC 12 (aV4 h1)<|gN 13 X0.D r1 ?_;obtain⟨o6,h7,h⟩:=bS h;refine gL [.live [0,3,5,12,13,14],.keep [0,3,10,997],.ren 10 5,.sort] (aEj none us h7) ?_;exact lX h [.live [4],.keep [5,997],.ren 5 1,.sort]
theorem aH3(rd:Option Nat)(h:V8 a8 aA aD=some bJ):Lq 107 rd 13 ⟨sp 25 0 [sD 0 dU a8,sI 2 aA,sD 4 D.b aD],[],[]⟩ (.normal,⟨sp 25 0 [sD 0 dU bJ.1,sI 2 bJ.2],[],[]⟩):=by unfold V8 at h;apply g0 (o:=bJ);cases aD;replace h:=By h;exact lp h;replace h:=Bz h;refine gQ (of_decide_eq_true rfl:(0:Int)<=32) ?_;exact lp h
theorem aH4(rd:Option Nat)(h:V9 a8 aA aD=some bJ):Lq 107 rd 29 ⟨sp 25 0 [sD 0 dU a8,sI 2 aA,sD 8 D.b aD],[],[]⟩ (.normal,⟨sp 25 0 [sD 0 dU bJ.1,sI 2 bJ.2],[],[]⟩):=by unfold V9 at h;apply g0 (o:=bJ);cases aD;replace h:=By h;exact lp h;replace h:=Bz h;refine gQ (of_decide_eq_true rfl:(0:Int)<=16) ?_;exact lp h
theorem aH5(rd:Option Nat)(h:WA a8 aA aD=some bJ):Lq 107 rd 61 ⟨sp 25 0 [sD 0 dU a8,sI 2 aA,sD 14 D.b aD],[],[]⟩ (.normal,⟨sp 25 0 [sD 0 dU bJ.1,sI 2 bJ.2],[],[]⟩):=by unfold WA at h;apply g0 (o:=bJ);cases aD;replace h:=By h;exact lp h;replace h:=Bz h;refine gQ (of_decide_eq_true rfl:(0:Int)<=8) ?_;exact lp h
theorem aWp(h:Yr a8=some aA):AL Tryz.prog 107 [.d (dU a8)] [] (dI aA) []:=by unfold Yr at h;apply g0 (o:=aA);obtain⟨o1,h2,h⟩:=bS h;refine gl (aH3 none h2) ?_;obtain⟨o2,h4,h⟩:=bS h;refine gl (aH4 none h4) ?_;obtain⟨o3,h6,h⟩:=bS h;refine gl (aH5 none h6)<|gG 21 (.int (u8w o3.1).toNat) (aL6 o3.1) ?_;obtain⟨x4,h7,h⟩:=xS h;refine gG 22 (.int x4.toNat) (Gz h7)<|gG 23 (.int x4.toNat) (Oa x4) ?_;exact lf h
theorem aMi(h:Qb a8=some aA):AL Tryz.prog 73 [.d (dU a8)] [] (dI aA) []:=by unfold Qb at h;apply g0 (o:=aA);obtain⟨r1,h1,h⟩:=bS h;refine gC 7 (aWp h1) ?_;exact lf h
theorem aRe(h:Qc a8=some aD):AL Tryz.prog 178 [.d (dU a8)] [] (.d (D.b aD)) []:=by unfold Qc at h;apply g0 (o:=aD);exact lf h
theorem E4(h:Y9 a8 aA=some aD):AL Tryz.prog 161 [.d (dU a8),.d (dU aA)] [] (.d (D.b aD)) []:=by unfold Y9 at h;apply g0 (o:=aD);obtain⟨r1,h1,h⟩:=bS h;refine gQ (aRe h1) ?_;cases r1;replace h:=By h;refine gW 6 (.ret (.d (D.b false))) ?_;exact lf h;replace h:=Bz h;refine gW 6 (.ret (.d (D.b true))) ?_;obtain⟨r2,h3,h⟩:=bS h;refine gC 9 (aRe h3) ?_;refine iB 12 h (fun h=>?_) fun h=>?_;exact lf h;exact lf h
def Ug(us:List Value)(s1 s2:Int)(s6 s7:Int)(w0:List Int):St:=⟨sp 49 0 [rx 0,sI 1 s1,sI 2 s2,sI 6 s6,sI 7 s7],[rW 0 56 1 dU w0,(997,.vals [.row 0] us)],[]⟩
def Uh(us:List Value)(s1 s2 s6:Int)(o:(List Int)):Ex×St:=(.exit 2,⟨sp 49 0 [rx 0,sI 1 s1,sI 2 s2,sI 6 s6],[rW 0 56 1 dU o,(997,.vals [.row 0] us)],[]⟩)
theorem aFa(rd:Option Nat)(us:List Value)(h:QR a8 aA aN aR aZ=some b6):Lq 155 rd 402 (Ug us a8 aA aN aR aZ) ((Uh us a8 aA aN) b6):=
 lL (fun s:Int×List Int=>Ug us a8 aA aN s.1 s.2) (Uh us a8 aA aN) (aR,aZ) (fun⟨aR,aZ⟩ o h=>by
 unfold E1 at h
 refine iB 19 h (fun h=>?_) fun h=>?_
 obtain⟨h3,h⟩:=cS h
 refine gQ h3.1<|gQ (AF dU h3.2) ?_
 obtain⟨x1,h4,h⟩:=xS h
 refine gG 23 (.el (dU x1)) (AH dU h4) ?_
 obtain⟨h5,h⟩:=cS h
 refine gQ h5.1<|gQ (AF dU h5.2) ?_
 obtain⟨x2,h6,h⟩:=xS h
 refine gG 28 (.el (dU x2)) (AH dU h6) ?_
 obtain⟨r3,h7,h⟩:=bS h
 refine gQ (E4 h7) ?_
 cases r3
 replace h:=By h
 refine gW 29 (.ret (.d (D.b false))) ?_
 exact lb h
 replace h:=Bz h
 refine gW 29 (.ret (.d (D.b true))) ?_
 obtain⟨h9,h⟩:=cS h
 refine gQ h9.1<|gQ (AF dU h9.2) ?_
 obtain⟨x4,h10,h⟩:=xS h
 refine gG 42 (.el (dU x4)) (AH dU h10)<|gW 10047 (.sl ((aZ.set aR.toNat x4).map dU)) ?_
 obtain⟨h11,h⟩:=cS h
 refine gQ h11.1<|gQ (AF dU h11.2) ?_
 obtain⟨x5,h12,h⟩:=xS h
 refine gG 46 (.el (dU x5)) (AH dU h12)<|gW 10048 (.sl (((aZ.set aR.toNat x4).set (AA .sub .i64 aR 1).toNat x5).map dU)) ?_
 obtain⟨h13,h⟩:=cS h
 refine gQ h13.1<|gQ (AF dU h13.2) ?_
 obtain⟨h14,h⟩:=cS h
 refine gQ (A9 dU h14)<|gQ (AT dU aZ aR x4) ?_
 obtain⟨h15,h⟩:=cS h
 refine gQ h15.1<|gQ (AF dU h15.2) ?_
 obtain⟨h16,h⟩:=cS h
 refine gQ (A9 dU h16)<|gQ (AT dU (aZ.set aR.toNat x4) (AA .sub .i64 aR 1) x5) ?_
 exact lb h
 exact lb h) h
def Ue(us:List Value)(s1 s2 s6:Int)(w0:List Int):St:=⟨sp 49 0 [rx 0,sI 1 s1,sI 2 s2,sI 6 s6],[rW 0 56 1 dU w0,(997,.vals [.row 0] us)],[]⟩
def Uf(us:List Value)(s1 s2:Int)(o:(List Int)):Ex×St:=(.exit 0,⟨sp 49 0 [],[rW 0 56 1 dU o,(997,.vals [.row 0] us)],[]⟩)
theorem aE9(rd:Option Nat)(us:List Value)(h:QQ a8 aA aN aZ=some b6):Lq 155 rd 6 (Ue us a8 aA aN aZ) ((Uf us a8 aA) b6):=
 lL (fun s:Int×List Int=>Ue us a8 aA s.1 s.2) (Uf us a8 aA) (aN,aZ) (fun⟨aN,aZ⟩ o h=>by
 unfold Gr at h
 refine iB 12 h (fun h=>?_) fun h=>?_
 obtain⟨o6,h17,h⟩:=bS h
 refine gl (aFa rd us h17) ?_
 exact lb h
 exact lb h) h
theorem aVt(h:Xv a8 aA aZ=some cA):AL Tryz.prog 155 [.row 0,dI a8,dI aA] [rW 0 56 1 dU aZ] (.tup []) [rW 0 56 1 dU cA]:=by unfold Xv at h;refine XG.call (ks:=[0]) mixed fun us=>?_;apply g0 (o:=cA);obtain⟨o7,h18,h⟩:=bS h;refine gl (aE9 none us h18) ?_;exact lX h (lv [] [0,997])
theorem O0(rd:Option Nat)(us:List Value)(h:Ku a8 aA aN aR aD aZ=some bD):Lq 175 rd 397 ⟨sp 76 0 [rx 0,sI 2 a8,sI 3 aA,sI 8 aN,sI 9 aR,sD 36 D.b aD],[rW 0 56 1 dU aZ,(997,.vals [.row 0] us)],[]⟩ (.normal,⟨sp 76 0 [rx 0,sI 2 a8,sI 3 aA,sI 8 aN,sI 9 bD],[rW 0 56 1 dU aZ,(997,.vals [.row 0] us)],[]⟩):=by unfold Ku at h;apply g0 (o:=bD);cases aD;replace h:=By h;exact lp h;replace h:=Bz h;exact lp h
theorem aEq(rd:Option Nat)(us:List Value)(h:Jw a8 aA aN aZ=some cB):Lq 175 rd 12 ⟨sp 76 0 [rx 0,sI 2 a8,sI 3 aA,sI 8 aN],[rW 0 56 1 dU aZ,(997,.vals [.row 0] us)],[]⟩ (match (generalizing:=false) cB with
 | .inl cB=>(.normal,⟨sp 76 0 [rx 0,sI 2 a8,sI 3 aA,sI 8 cB.1],[rW 0 56 1 dU cB.2,(997,.vals [.row 0] us)],[]⟩)
 | .inr cB=>match (generalizing:=false) cB with
 | .inl cB=>(.exit 0,⟨sp 76 0 [],[rW 0 56 1 dU aZ,(997,.vals [.row 0] us)],[]⟩)
 | .inr cB=>(.ret,⟨sp 76 0 [],[rW 0 56 1 dU aZ,(997,.vals [.row 0] us)],[]⟩)):=by
 unfold Jw at h
 apply g0 (o:=cB)
 refine iB 16 h (fun h=>?_) fun h=>?_
 exact lp h
 refine iB 21 h (fun h=>?_) fun h=>?_
 obtain⟨h3,h⟩:=cS h
 refine gQ h3.1<|gQ (AF dU h3.2) ?_
 obtain⟨x1,h4,h⟩:=xS h
 refine gG 27 (.el (dU x1)) (AH dU h4) ?_
 obtain⟨h5,h⟩:=cS h
 refine gQ h5.1<|gQ (AF dU h5.2) ?_
 obtain⟨x2,h6,h⟩:=xS h
 refine gG 34 (.el (dU x2)) (AH dU h6) ?_
 obtain⟨r3,h7,h⟩:=bS h
 refine gC 35 (E4 h7) ?_
 obtain⟨o4,h9,h⟩:=bS h
 refine gl (O0 rd us h9) ?_
 obtain⟨h10,h⟩:=cS h
 refine gQ h10.1<|gQ (AF dU h10.2) ?_
 obtain⟨x5,h11,h⟩:=xS h
 refine gG 44 (.el (dU x5)) (AH dU h11) ?_
 obtain⟨h12,h⟩:=cS h
 refine gQ h12.1<|gQ (AF dU h12.2) ?_
 obtain⟨x6,h13,h⟩:=xS h
 refine gG 50 (.el (dU x6)) (AH dU h13) ?_
 obtain⟨r7,h14,h⟩:=bS h
 refine gC 51 (E4 h14) ?_
 refine iB 52 h (fun h=>?_) fun h=>?_
 exact lp h
 obtain⟨h16,h⟩:=cS h
 refine gQ h16.1<|gQ (AF dU h16.2) ?_
 obtain⟨x8,h17,h⟩:=xS h
 refine gG 66 (.el (dU x8)) (AH dU h17)<|gW 10073 (.sl ((aZ.set (AA .add .i64 aA aN).toNat x8).map dU)) ?_
 obtain⟨h18,h⟩:=cS h
 refine gQ h18.1<|gQ (AF dU h18.2) ?_
 obtain⟨x9,h19,h⟩:=xS h
 refine gG 72 (.el (dU x9)) (AH dU h19)<|gW 10074 (.sl (((aZ.set (AA .add .i64 aA aN).toNat x8).set (AA .add .i64 aA o4).toNat x9).map dU)) ?_
 obtain⟨h20,h⟩:=cS h
 refine gQ h20.1<|gQ (AF dU h20.2) ?_
 obtain⟨h21,h⟩:=cS h
 refine gQ (A9 dU h21)<|gQ (AT dU aZ (AA .add .i64 aA aN) x8) ?_
 obtain⟨h22,h⟩:=cS h
 refine gQ h22.1<|gQ (AF dU h22.2) ?_
 obtain⟨h23,h⟩:=cS h
 refine gQ (A9 dU h23)<|gQ (AT dU (aZ.set (AA .add .i64 aA aN).toNat x8) (AA .add .i64 aA o4) x9) ?_
 exact lp h
 obtain⟨o10,h24,h⟩:=bS h
 refine gl (O0 rd us h24) ?_
 obtain⟨h25,h⟩:=cS h
 refine gQ h25.1<|gQ (AF dU h25.2) ?_
 obtain⟨x11,h26,h⟩:=xS h
 refine gG 44 (.el (dU x11)) (AH dU h26) ?_
 obtain⟨h27,h⟩:=cS h
 refine gQ h27.1<|gQ (AF dU h27.2) ?_
 obtain⟨x12,h28,h⟩:=xS h
 refine gG 50 (.el (dU x12)) (AH dU h28) ?_
 obtain⟨r13,h29,h⟩:=bS h
 refine gC 51 (E4 h29) ?_
 refine iB 52 h (fun h=>?_) fun h=>?_
 exact lp h
 obtain⟨h31,h⟩:=cS h
 refine gQ h31.1<|gQ (AF dU h31.2) ?_
 obtain⟨x14,h32,h⟩:=xS h
 refine gG 66 (.el (dU x14)) (AH dU h32)<|gW 10073 (.sl ((aZ.set (AA .add .i64 aA aN).toNat x14).map dU)) ?_
 obtain⟨h33,h⟩:=cS h
 refine gQ h33.1<|gQ (AF dU h33.2) ?_
 obtain⟨x15,h34,h⟩:=xS h
 refine gG 72 (.el (dU x15)) (AH dU h34)<|gW 10074 (.sl (((aZ.set (AA .add .i64 aA aN).toNat x14).set (AA .add .i64 aA o10).toNat x15).map dU)) ?_
 obtain⟨h35,h⟩:=cS h
 refine gQ h35.1<|gQ (AF dU h35.2) ?_
 obtain⟨h36,h⟩:=cS h
 refine gQ (A9 dU h36)<|gQ (AT dU aZ (AA .add .i64 aA aN) x14) ?_
 obtain⟨h37,h⟩:=cS h
 refine gQ h37.1<|gQ (AF dU h37.2) ?_
 obtain⟨h38,h⟩:=cS h
 refine gQ (A9 dU h38)<|gQ (AT dU (aZ.set (AA .add .i64 aA aN).toNat x14) (AA .add .i64 aA o10) x15) ?_
 exact lp h
def UK(us:List Value)(s2 s3 s8:Int)(w0:List Int):St:=⟨sp 76 0 [rx 0,sI 2 s2,sI 3 s3,sI 8 s8],[rW 0 56 1 dU w0,(997,.vals [.row 0] us)],[]⟩
def UL(us:List Value)(s2 s3:Int)(o:(List Int)⊕(List Int)):Ex×St:=match o with
 | .inl o=>(.exit 0,⟨sp 76 0 [],[rW 0 56 1 dU o,(997,.vals [.row 0] us)],[]⟩)
 | .inr o=>(.ret,⟨sp 76 0 [],[rW 0 56 1 dU o,(997,.vals [.row 0] us)],[]⟩)
theorem aEr(rd:Option Nat)(us:List Value)(h:QL a8 aA aN aZ=some cC):Lq 175 rd 6 (UK us a8 aA aN aZ) ((UL us a8 aA) cC):=
 lL (fun s:Int×List Int=>UK us a8 aA s.1 s.2) (UL us a8 aA) (aN,aZ) (fun⟨aN,aZ⟩ o h=>by
 unfold EZ at h
 obtain⟨o16,h39,h⟩:=bS h
 refine gl (aEq rd us h39) ?_
 replace h:=AK h
 rcases h with⟨o17,rfl,h⟩|⟨o18,rfl,h⟩
 exact lb h
 replace h:=AK h
 rcases h with⟨o19,rfl,h⟩|⟨o20,rfl,h⟩
 exact lb h
 exact lb h) h
theorem aR0(h:Xp a8 aA aN aZ=some cA):AL Tryz.prog 175 [.row 0,dI a8,dI aA,dI aN] [rW 0 56 1 dU aZ] (.tup []) [rW 0 56 1 dU cA]:=by
 unfold Xp at h;refine XG.call (ks:=[0]) mixed fun us=>?_;apply g0 (o:=cA);obtain⟨o21,h40,h⟩:=bS h;refine gl (aEr none us h40) ?_;replace h:=AK h;rcases h with⟨o22,rfl,h⟩|⟨o23,rfl,h⟩
 exact lX h (lv [] [0,997]);exact lX h (lv [] [0,997])
def Ui(us:List Value)(s6 s7:Int)(s8 s9:Int)(w0:List Int):St:=⟨sp 56 0 [rx 0,sI 6 s6,sI 7 s7,sI 8 s8,sI 9 s9],[rW 0 56 1 dU w0,(997,.vals [.row 0] us)],[]⟩
def Uj(us:List Value)(s6 s7 s8:Int)(o:(List Int)):Ex×St:=(.exit 0,⟨sp 56 0 [rx 0,sI 6 s6,sI 7 s7,sI 8 s8],[rW 0 56 1 dU o,(997,.vals [.row 0] us)],[]⟩)
theorem aFb(rd:Option Nat)(us:List Value)(h:QS a8 aA aN aR aZ=some b6):Lq 156 rd 122 (Ui us a8 aA aN aR aZ) ((Uj us a8 aA aN) b6):=
 lL (fun s:Int×List Int=>Ui us a8 aA aN s.1 s.2) (Uj us a8 aA aN) (aR,aZ) (fun⟨aR,aZ⟩ o h=>by
 unfold Gs at h
 refine iB 19 h (fun h=>?_) fun h=>?_
 obtain⟨r1,h2,h⟩:=bS h
 refine gG 26 (.cx false [(0,0)] [] (.tup []) [rW 0 56 1 dU r1]) (aR0 h2) ?_
 exact lb h
 exact lb h) h
def Uk(us:List Value)(s6 s7 s10:Int)(w0:List Int):St:=⟨sp 56 0 [rx 0,sI 6 s6,sI 7 s7,sI 10 s10],[rW 0 56 1 dU w0,(997,.vals [.row 0] us)],[]⟩
def Ul(us:List Value)(s6 s7:Int)(o:(List Int)):Ex×St:=(.exit 2,⟨sp 56 0 [],[rW 0 56 1 dU o,(997,.vals [.row 0] us)],[]⟩)
theorem aFc(rd:Option Nat)(us:List Value)(h:QT a8 aA aN aZ=some b6):Lq 156 rd 126 (Uk us a8 aA aN aZ) ((Ul us a8 aA) b6):=
 lL (fun s:Int×List Int=>Uk us a8 aA s.1 s.2) (Ul us a8 aA) (aN,aZ) (fun⟨aN,aZ⟩ o h=>by
 unfold Gt at h
 refine iB 30 h (fun h=>?_) fun h=>?_
 obtain⟨h5,h⟩:=cS h
 refine gQ h5.1<|gQ (AF dU h5.2) ?_
 obtain⟨x3,h6,h⟩:=xS h
 refine gG 44 (.el (dU x3)) (AH dU h6)<|gW 10049 (.sl ((aZ.set a8.toNat x3).map dU)) ?_
 obtain⟨h7,h⟩:=cS h
 refine gQ h7.1<|gQ (AF dU h7.2) ?_
 obtain⟨x4,h8,h⟩:=xS h
 refine gG 48 (.el (dU x4)) (AH dU h8)<|gW 10050 (.sl (((aZ.set a8.toNat x3).set (AA .add .i64 a8 aN).toNat x4).map dU)) ?_
 obtain⟨h9,h⟩:=cS h
 refine gQ h9.1<|gQ (AF dU h9.2) ?_
 obtain⟨h10,h⟩:=cS h
 refine gQ (A9 dU h10)<|gQ (AT dU aZ a8 x3) ?_
 obtain⟨h11,h⟩:=cS h
 refine gQ h11.1<|gQ (AF dU h11.2) ?_
 obtain⟨h12,h⟩:=cS h
 refine gQ (A9 dU h12)<|gQ (AT dU (aZ.set a8.toNat x3) (AA .add .i64 a8 aN) x4) ?_
 obtain⟨r5,h13,h⟩:=bS h
 refine gG 55 (.cx false [(0,0)] [] (.tup []) [rW 0 56 1 dU r5]) (aR0 h13) ?_
 exact lb h
 exact lb h) h
theorem aVu(h:Xw a8 aA aZ=some cA):AL Tryz.prog 156 [.row 0,dI a8,dI aA] [rW 0 56 1 dU aZ] (.tup []) [rW 0 56 1 dU cA]:=by unfold Xw at h;refine XG.call (ks:=[0]) mixed fun us=>?_;apply g0 (o:=cA);refine gQ (of_decide_eq_true rfl:(2:Int)≠0) ?_;obtain⟨o2,h3,h⟩:=bS h;refine gl (aFb none us h3) ?_;obtain⟨o6,h14,h⟩:=bS h;refine gl (aFc none us h14) ?_;exact lX h (lv [] [0,997])
theorem aRh(h:Qj a8=some aA):AL Tryz.prog 135 [dI a8] [] (.d (dU aA)) []:=by unfold Qj at h;apply g0 (o:=aA);obtain⟨r1,h1,h⟩:=bS h;refine gC 5 (aMi h1) ?_;obtain⟨h2,h⟩:=cS h;refine gQ h2 ?_;exact lf h
theorem aRi(h:Qk a8=some aH):AL Tryz.prog 136 [.box 0 0] [(0,.cells ([.d (dU a8)]))] (.d (dU aH.1)) [(0,.cells ([.d (dU aH.2)]))]:=by unfold Qk at h;refine XG.call (ks:=[0]) mixed fun us=>?_;apply g0 (o:=aH);refine gQ (of_decide_eq_true rfl:(0:Int)<=13)<|gQ (of_decide_eq_true rfl:(0:Int)<=7)<|gQ (of_decide_eq_true rfl:(0:Int)<=17) ?_;exact lX h (lv [2] [0,997])
theorem aEx(rd:Option Nat)(us:List Value)(h:Nc a8 aA aN aR bD aD aZ bE=some cD):Lq 157 rd 30501 ⟨sp 65 0 [rx 0,sI 1 a8,sI 6 aA,bx 7,sD 8 dU aN,sI 9 aR,sI 10 bD,sD 43 D.b aD],[rW 0 56 1 dU aZ,(7,.cells ([.d (dU bE)])),(997,.vals [.row 0] us)],[]⟩ (.normal,⟨sp 65 0 [rx 0,sI 1 a8,sI 6 aA,bx 7,sD 8 dU aN,sI 9 aR,sI 10 cD],[rW 0 56 1 dU aZ,(7,.cells ([.d (dU bE)])),(997,.vals [.row 0] us)],[]⟩):=by unfold Nc at h;apply g0 (o:=cD);cases aD;replace h:=By h;exact lp h;replace h:=Bz h;exact lp h
theorem aEw(rd:Option Nat)(us:List Value)(h:QO a8 aA aN aR aZ bD=some cE):Lq 157 rd 1906 ⟨sp 65 0 [rx 0,sI 1 a8,sI 6 aA,bx 7,sD 8 dU aN,sI 9 aR],[rW 0 56 1 dU aZ,(7,.cells ([.d (dU bD)])),(997,.vals [.row 0] us)],[]⟩ (.normal,⟨sp 65 0 [rx 0,sI 1 a8,sI 6 aA,bx 7,sD 8 dU aN,sI 9 aR],[rW 0 56 1 dU cE.1,(7,.cells ([.d (dU cE.2)])),(997,.vals [.row 0] us)],[]⟩):=by unfold QO at h;apply g0 (o:=cE);obtain⟨r2,h4,h⟩:=bS h;refine gG 36 (.cx false [(0,7)] [] (.d (dU r2.1)) [(0,.cells ([.d (dU r2.2)]))]) (aRi h4) ?_;obtain⟨o3,h6,h⟩:=bS h;refine gl (aEx rd us h6) ?_;obtain⟨h7,h⟩:=cS h;refine gQ h7.1<|gQ (AF dU h7.2) ?_;obtain⟨x4,h8,h⟩:=xS h;refine gG 58 (.el (dU x4)) (AH dU h8)<|gW 10063 (.sl ((aZ.set aR.toNat x4).map dU)) ?_;obtain⟨h9,h⟩:=cS h;refine gQ h9.1<|gQ (AF dU h9.2) ?_;obtain⟨x5,h10,h⟩:=xS h;refine gG 62 (.el (dU x5)) (AH dU h10)<|gW 10064 (.sl (((aZ.set aR.toNat x4).set (AA .add .i64 a8 o3).toNat x5).map dU)) ?_;obtain⟨h11,h⟩:=cS h;refine gQ h11.1<|gQ (AF dU h11.2) ?_;obtain⟨h12,h⟩:=cS h;refine gQ (A9 dU h12)<|gQ (AT dU aZ aR x4) ?_;obtain⟨h13,h⟩:=cS h;refine gQ h13.1<|gQ (AF dU h13.2) ?_;obtain⟨h14,h⟩:=cS h;refine gQ (A9 dU h14)<|gQ (AT dU (aZ.set aR.toNat x4) (AA .add .i64 a8 o3) x5) ?_;exact lp h
def UR(us:List Value)(s1 s6:Int)(s8 s9:Int)(w0:List Int)(w7:Int):St:=⟨sp 65 0 [rx 0,sI 1 s1,sI 6 s6,bx 7,sD 8 dU s8,sI 9 s9],[rW 0 56 1 dU w0,(7,.cells ([.d (dU w7)])),(997,.vals [.row 0] us)],[]⟩
def US(us:List Value)(s1 s6 s8:Int)(o:(List Int)):Ex×St:=(.exit 0,⟨sp 65 0 [],[rW 0 56 1 dU o,(997,.vals [.row 0] us)],[]⟩)
theorem aEy(rd:Option Nat)(us:List Value)(h:QP a8 aA aN aR aZ bD=some b6):Lq 157 rd 238 (UR us a8 aA aN aR aZ bD) ((US us a8 aA aN) b6):=
 lL (fun s:Int×List Int×Int=>UR us a8 aA aN s.1 s.2.1 s.2.2) (US us a8 aA aN) (aR,aZ,bD) (fun⟨aR,aZ,bD⟩ o h=>by
 unfold Gp at h
 refine gQ (of_decide_eq_true rfl:(4:Int)≠0) ?_
 refine iB 33 h (fun h=>?_) fun h=>?_
 obtain⟨o6,h15,h⟩:=bS h
 refine gl (aEw rd us h15) ?_
 exact lb h
 exact lb h) h
theorem aEv(rd:Option Nat)(us:List Value)(h:QN a8 aA aD aZ=some b6):Lq 157 rd 7 ⟨sp 65 0 [rx 0,sI 1 a8,sI 6 aA,sD 15 D.b aD],[rW 0 56 1 dU aZ,(997,.vals [.row 0] us)],[]⟩ (.normal,⟨sp 65 0 [],[rW 0 56 1 dU b6,(997,.vals [.row 0] us)],[]⟩):=by unfold QN at h;apply g0 (o:=b6);cases aD;replace h:=By h;exact lp h;replace h:=Bz h;obtain⟨r1,h2,h⟩:=bS h;refine gC 19 (aRh h2)<|gQ (of_decide_eq_true rfl:(4:Int)≠0) ?_;obtain⟨o7,h16,h⟩:=bS h;refine gl (aEy rd us h16) ?_;exact lp h
theorem aVp(h:Xs a8 aA aZ=some cA):AL Tryz.prog 157 [.row 0,dI a8,dI aA] [rW 0 56 1 dU aZ] (.tup []) [rW 0 56 1 dU cA]:=by unfold Xs at h;refine XG.call (ks:=[0]) mixed fun us=>?_;apply g0 (o:=cA);obtain⟨o8,h17,h⟩:=bS h;refine gl (aEv none us h17) ?_;exact lX h (lv [] [0,997])
theorem aOy(h:Zv aZ a8 aA aN=some aM):AL Tryz.prog 184 [.d ((D.l dU) aZ),dI a8,dI aA,.box 0 0] [(0,.cells ([dI aN]))] (.tup [dI aM.1,dI aM.2.1]) [(0,.cells ([dI aM.2.2]))]:=by unfold Zv at h;refine XG.call (ks:=[3]) mixed fun us=>?_;apply g0 (o:=aM);refine xX 12 dU h fun x1 h=>?_;refine xX 16 dU h fun x2 h=>?_;obtain⟨r3,h3,h⟩:=bS h;refine gQ (E4 h3) ?_;cases r3;replace h:=By h;refine gW 18 (.ret (.d (D.b false))) ?_;exact lX h (lv [8,9] [0,997]);replace h:=Bz h;refine gW 18 (.ret (.d (D.b true))) ?_;exact lX h (lv [8,9] [0,997])
theorem aRa(h:Q3 aZ a8 aA aN aR=some aH):AL Tryz.prog 177 [.d ((D.l dU) aZ),dI a8,dI aA,dI aN,.box 0 0] [(0,.cells ([dI aR]))] (dI aH.1) [(0,.cells ([dI aH.2]))]:=by unfold Q3 at h;refine XG.call (ks:=[4]) mixed fun us=>?_;apply g0 (o:=aH);obtain⟨r1,h1,h⟩:=bS h;refine gG 16 (.cx false [(0,0)] [] (.tup [dI r1.1,dI r1.2.1]) [(0,.cells ([dI r1.2.2]))]) (aOy h1) ?_;obtain⟨r2,h2,h⟩:=bS h;refine gG 24 (.cx false [(0,0)] [] (.tup [dI r2.1,dI r2.2.1]) [(0,.cells ([dI r2.2.2]))]) (aOy h2) ?_;obtain⟨r3,h3,h⟩:=bS h;refine gG 32 (.cx false [(0,0)] [] (.tup [dI r3.1,dI r3.2.1]) [(0,.cells ([dI r3.2.2]))]) (aOy h3) ?_;exact lX h (lv [10] [0,997])
theorem aOz(h:Zw aZ a8 aA=some aH):AL Tryz.prog 176 [.d ((D.l dU) aZ),dI a8,.box 0 0] [(0,.cells ([dI aA]))] (dI aH.1) [(0,.cells ([dI aH.2]))]:=by unfold Zw at h;refine XG.call (ks:=[2]) mixed fun us=>?_;apply g0 (o:=aH);obtain⟨r1,h1,h⟩:=bS h;refine gG 14 (.cx false [(0,0)] [] (dI r1.1) [(0,.cells ([dI r1.2]))]) (aRa h1) ?_;exact lX h (lv [6] [0,997])
theorem aIc(rd:Option Nat)(h:Nf aZ a8 aA aN aD aR=some cF):Lq 158 rd 4073 ⟨sp 57 0 [sD 0 (D.l dU) aZ,bx 9,sI 10 a8,sI 11 aA,sI 12 aN,sD 34 D.b aD],[(9,.cells ([dI aR]))],[]⟩ (.normal,⟨sp 57 0 [sD 0 (D.l dU) aZ,bx 9,sI 10 cF.1,sI 11 cF.2.1,sI 12 cF.2.2.1],[(9,.cells ([dI cF.2.2.2]))],[]⟩):=by unfold Nf at h;apply g0 (o:=cF);cases aD;replace h:=By h;exact lp h;replace h:=Bz h;obtain⟨r1,h3,h⟩:=bS h;refine gG 37 (.cx false [(0,9)] [] (dI r1.1) [(0,.cells ([dI r1.2]))]) (aOz h3) ?_;obtain⟨r2,h4,h⟩:=bS h;refine gG 40 (.cx false [(0,9)] [] (dI r2.1) [(0,.cells ([dI r2.2]))]) (aOz h4) ?_;obtain⟨r3,h5,h⟩:=bS h;refine gG 43 (.cx false [(0,9)] [] (dI r3.1) [(0,.cells ([dI r3.2]))]) (aOz h5) ?_;exact lp h
theorem aIb(rd:Option Nat)(h:QY aZ a8 aA aN aR aD bD=some bJ):Lq 158 rd 509 ⟨sp 57 0 [sD 0 (D.l dU) aZ,sI 8 a8,bx 9,sI 10 aA,sI 11 aN,sI 12 aR,sD 32 D.b aD],[(9,.cells ([dI bD]))],[]⟩ (.normal,⟨sp 57 0 [bx 9,sI 11 bJ.1],[(9,.cells ([dI bJ.2]))],[]⟩):=by unfold QY at h;apply g0 (o:=bJ);cases aD;replace h:=By h;exact lp h;replace h:=Bz h;obtain⟨o4,h6,h⟩:=bS h;refine gl (aIc rd h6) ?_;obtain⟨r5,h7,h⟩:=bS h;refine gG 48 (.cx false [(0,9)] [] (dI r5.1) [(0,.cells ([dI r5.2]))]) (aRa h7) ?_;exact lp h
theorem aWs(h:Yw aZ a8 aA=some aH):AL Tryz.prog 158 [.d ((D.l dU) aZ),dI a8,dI aA] [] (.tup [dI aH.1,dI aH.2]) []:=by unfold Yw at h;apply g0 (o:=aH);refine gQ (of_decide_eq_true rfl:(4:Int)≠0)<|gQ (of_decide_eq_true rfl:(4:Int)≠0)<|gQ (of_decide_eq_true rfl:(4:Int)≠0) ?_;obtain⟨o6,h8,h⟩:=bS h;refine gl (aIb none h8) ?_;refine iB 51 h (fun h=>?_) fun h=>?_;exact lf h;refine iB 54 h (fun h=>?_) fun h=>?_;exact lf h;exact lf h
def V2(us:List Value)(s6 s7:Int)(w0:List Int):St:=⟨sp 32 0 [rx 0,sI 6 s6,sI 7 s7],[rW 0 56 1 dU w0,(997,.vals [.row 0] us)],[]⟩
def V3(us:List Value)(o:(List Int)):Ex×St:=(.exit 0,⟨sp 32 0 [],[rW 0 56 1 dU o,(997,.vals [.row 0] us)],[]⟩)
theorem aHz(rd:Option Nat)(us:List Value)(h:QX a8 aA aZ=some b6):Lq 159 rd 14 (V2 us a8 aA aZ) ((V3 us) b6):=
 lL (fun s:Int×Int×List Int=>V2 us s.1 s.2.1 s.2.2) (V3 us) (a8,aA,aZ) (fun⟨a8,aA,aZ⟩ o h=>by
 unfold Ij at h
 refine iB 13 h (fun h=>?_) fun h=>?_
 obtain⟨h2,h⟩:=cS h
 refine gQ h2.1<|gQ (AF dU h2.2) ?_
 obtain⟨x1,h3,h⟩:=xS h
 refine gG 21 (.el (dU x1)) (AH dU h3)<|gW 10026 (.sl ((aZ.set a8.toNat x1).map dU)) ?_
 obtain⟨h4,h⟩:=cS h
 refine gQ h4.1<|gQ (AF dU h4.2) ?_
 obtain⟨x2,h5,h⟩:=xS h
 refine gG 25 (.el (dU x2)) (AH dU h5)<|gW 10027 (.sl (((aZ.set a8.toNat x1).set aA.toNat x2).map dU)) ?_
 obtain⟨h6,h⟩:=cS h
 refine gQ h6.1<|gQ (AF dU h6.2) ?_
 obtain⟨h7,h⟩:=cS h
 refine gQ (A9 dU h7)<|gQ (AT dU aZ a8 x1) ?_
 obtain⟨h8,h⟩:=cS h
 refine gQ h8.1<|gQ (AF dU h8.2) ?_
 obtain⟨h9,h⟩:=cS h
 refine gQ (A9 dU h9)<|gQ (AT dU (aZ.set a8.toNat x1) aA x2) ?_
 exact lb h
 exact lb h) h
theorem aWk(h:Yo a8 aA aZ=some cA):AL Tryz.prog 159 [.row 0,dI a8,dI aA] [rW 0 56 1 dU aZ] (.tup []) [rW 0 56 1 dU cA]:=by unfold Yo at h;refine XG.call (ks:=[0]) mixed fun us=>?_;apply g0 (o:=cA);obtain⟨o3,h10,h⟩:=bS h;refine gl (aHz none us h10) ?_;exact lX h (lv [] [0,997])
def SJ(us:List Value)(s1 s2 s8:Int)(w0:List Int)(s7:Int):St:=⟨sp 133 0 [rx 0,sI 1 s1,sI 2 s2,sI 7 s7,sI 8 s8],[rW 0 56 1 dU w0,(997,.vals [.row 0] us)],[]⟩
def SK(us:List Value)(s1 s2 s8:Int)(w0:List Int)(o:Int):Ex×St:=(.exit 2,⟨sp 133 0 [rx 0,sI 1 s1,sI 2 s2,sI 7 o,sI 8 s8],[rW 0 56 1 dU w0,(997,.vals [.row 0] us)],[]⟩)
theorem aCa(rd:Option Nat)(us:List Value)(h:QB a8 aA aN aZ aR=some bD):Lq 160 rd 3728 (SJ us a8 aA aN aZ aR) ((SK us a8 aA aN aZ) bD):=
 lL (fun s:Int=>SJ us a8 aA aN aZ s) (SK us a8 aA aN aZ) aR (fun aR o h=>by
 unfold GW at h
 refine iB 20 h (fun h=>?_) fun h=>?_
 obtain⟨h3,h⟩:=cS h
 refine gQ h3.1<|gQ (AF dU h3.2) ?_
 obtain⟨x1,h4,h⟩:=xS h
 refine gG 24 (.el (dU x1)) (AH dU h4) ?_
 obtain⟨h5,h⟩:=cS h
 refine gQ h5.1<|gQ (AF dU h5.2) ?_
 obtain⟨x2,h6,h⟩:=xS h
 refine gG 29 (.el (dU x2)) (AH dU h6) ?_
 obtain⟨r3,h7,h⟩:=bS h
 refine gC 30 (E4 h7) ?_
 refine iB 32 h (fun h=>?_) fun h=>?_
 exact lb h
 exact lb h
 exact lb h) h
def SL(us:List Value)(s1 s2:Int)(s7 s8 s9:Int)(w0:List Int):St:=⟨sp 133 0 [rx 0,sI 1 s1,sI 2 s2,sI 7 s7,sI 8 s8,sI 9 s9],[rW 0 56 1 dU w0,(997,.vals [.row 0] us)],[]⟩
def SM(us:List Value)(s1 s2:Int)(s7 s8:Int)(o:(List Int)):Ex×St:=(.exit 4,⟨sp 133 0 [rx 0,sI 1 s1,sI 2 s2,sI 7 s7,sI 8 s8],[rW 0 56 1 dU o,(997,.vals [.row 0] us)],[]⟩)
theorem aCb(rd:Option Nat)(us:List Value)(h:QC a8 aA aN aR bD aZ=some b6):Lq 160 rd 477674 (SL us a8 aA aN aR bD aZ) ((SM us a8 aA aN aR) b6):=
 lL (fun s:Int×List Int=>SL us a8 aA aN aR s.1 s.2) (SM us a8 aA aN aR) (bD,aZ) (fun⟨bD,aZ⟩ o h=>by
 unfold GX at h
 refine iB 65 h (fun h=>?_) fun h=>?_
 obtain⟨h22,h⟩:=cS h
 refine gQ h22.1<|gQ (AF dU h22.2) ?_
 obtain⟨x7,h23,h⟩:=xS h
 refine gG 71 (.el (dU x7)) (AH dU h23) ?_
 obtain⟨h24,h⟩:=cS h
 refine gQ h24.1<|gQ (AF dU h24.2) ?_
 obtain⟨x8,h25,h⟩:=xS h
 refine gG 76 (.el (dU x8)) (AH dU h25) ?_
 obtain⟨r9,h26,h⟩:=bS h
 refine gC 77 (E4 h26) ?_
 refine iB 78 h (fun h=>?_) fun h=>?_
 exact lb h
 obtain⟨h28,h⟩:=cS h
 refine gQ h28.1<|gQ (AF dU h28.2) ?_
 obtain⟨x10,h29,h⟩:=xS h
 refine gG 88 (.el (dU x10)) (AH dU h29)<|gW 10093 (.sl ((aZ.set bD.toNat x10).map dU)) ?_
 obtain⟨h30,h⟩:=cS h
 refine gQ h30.1<|gQ (AF dU h30.2) ?_
 obtain⟨x11,h31,h⟩:=xS h
 refine gG 92 (.el (dU x11)) (AH dU h31)<|gW 10094 (.sl (((aZ.set bD.toNat x10).set (AA .sub .i64 bD 1).toNat x11).map dU)) ?_
 obtain⟨h32,h⟩:=cS h
 refine gQ h32.1<|gQ (AF dU h32.2) ?_
 obtain⟨h33,h⟩:=cS h
 refine gQ (A9 dU h33)<|gQ (AT dU aZ bD x10) ?_
 obtain⟨h34,h⟩:=cS h
 refine gQ h34.1<|gQ (AF dU h34.2) ?_
 obtain⟨h35,h⟩:=cS h
 refine gQ (A9 dU h35)<|gQ (AT dU (aZ.set bD.toNat x10) (AA .sub .i64 bD 1) x11) ?_
 exact lb h
 exact lb h) h
theorem aB7(rd:Option Nat)(us:List Value)(h:NQ a8 aA aN aR aD aZ=some b6):Lq 160 rd 59709 ⟨sp 133 0 [rx 0,sI 1 a8,sI 2 aA,sI 7 aN,sI 8 aR,sD 61 D.b aD],[rW 0 56 1 dU aZ,(997,.vals [.row 0] us)],[]⟩ (.normal,⟨sp 133 0 [rx 0,sI 1 a8,sI 2 aA,sI 7 aN,sI 8 aR],[rW 0 56 1 dU b6,(997,.vals [.row 0] us)],[]⟩):=by unfold NQ at h;apply g0 (o:=b6);cases aD;replace h:=By h;exact lp h;replace h:=Bz h;obtain⟨o12,h36,h⟩:=bS h;refine gl (aCb rd us h36) ?_;exact lp h
def SN(us:List Value)(s1 s2:Int)(s7 s8 s10:Int)(w0:List Int):St:=⟨sp 133 0 [rx 0,sI 1 s1,sI 2 s2,sI 7 s7,sI 8 s8,sI 10 s10],[rW 0 56 1 dU w0,(997,.vals [.row 0] us)],[]⟩
def SO(us:List Value)(s1 s2:Int)(s7 s8:Int)(o:(List Int)):Ex×St:=(.exit 6,⟨sp 133 0 [rx 0,sI 1 s1,sI 2 s2,sI 7 s7,sI 8 s8],[rW 0 56 1 dU o,(997,.vals [.row 0] us)],[]⟩)
theorem aCc(rd:Option Nat)(us:List Value)(h:QD a8 aA aN aR bD aZ=some b6):Lq 160 rd 477690 (SN us a8 aA aN aR bD aZ) ((SO us a8 aA aN aR) b6):=
 lL (fun s:Int×List Int=>SN us a8 aA aN aR s.1 s.2) (SO us a8 aA aN aR) (bD,aZ) (fun⟨bD,aZ⟩ o h=>by
 unfold GY at h
 refine iB 103 h (fun h=>?_) fun h=>?_
 obtain⟨h40,h⟩:=cS h
 refine gQ h40.1<|gQ (AF dU h40.2) ?_
 obtain⟨x14,h41,h⟩:=xS h
 refine gG 109 (.el (dU x14)) (AH dU h41) ?_
 obtain⟨h42,h⟩:=cS h
 refine gQ h42.1<|gQ (AF dU h42.2) ?_
 obtain⟨x15,h43,h⟩:=xS h
 refine gG 114 (.el (dU x15)) (AH dU h43) ?_
 obtain⟨r16,h44,h⟩:=bS h
 refine gC 115 (E4 h44) ?_
 refine iB 116 h (fun h=>?_) fun h=>?_
 exact lb h
 obtain⟨h46,h⟩:=cS h
 refine gQ h46.1<|gQ (AF dU h46.2) ?_
 obtain⟨x17,h47,h⟩:=xS h
 refine gG 126 (.el (dU x17)) (AH dU h47)<|gW 10131 (.sl ((aZ.set bD.toNat x17).map dU)) ?_
 obtain⟨h48,h⟩:=cS h
 refine gQ h48.1<|gQ (AF dU h48.2) ?_
 obtain⟨x18,h49,h⟩:=xS h
 refine gG 130 (.el (dU x18)) (AH dU h49)<|gW 10132 (.sl (((aZ.set bD.toNat x17).set (AA .sub .i64 bD 1).toNat x18).map dU)) ?_
 obtain⟨h50,h⟩:=cS h
 refine gQ h50.1<|gQ (AF dU h50.2) ?_
 obtain⟨h51,h⟩:=cS h
 refine gQ (A9 dU h51)<|gQ (AT dU aZ bD x17) ?_
 obtain⟨h52,h⟩:=cS h
 refine gQ h52.1<|gQ (AF dU h52.2) ?_
 obtain⟨h53,h⟩:=cS h
 refine gQ (A9 dU h53)<|gQ (AT dU (aZ.set bD.toNat x17) (AA .sub .i64 bD 1) x18) ?_
 exact lb h
 exact lb h) h
theorem aB8(rd:Option Nat)(us:List Value)(h:NR a8 aA aN aR aD aZ=some b6):Lq 160 rd 59711 ⟨sp 133 0 [rx 0,sI 1 a8,sI 2 aA,sI 7 aN,sI 8 aR,sD 98 D.b aD],[rW 0 56 1 dU aZ,(997,.vals [.row 0] us)],[]⟩ (.normal,⟨sp 133 0 [rx 0,sI 1 a8,sI 2 aA,sI 7 aN,sI 8 aR],[rW 0 56 1 dU b6,(997,.vals [.row 0] us)],[]⟩):=by unfold NR at h;apply g0 (o:=b6);cases aD;replace h:=By h;exact lp h;replace h:=Bz h;obtain⟨o19,h54,h⟩:=bS h;refine gl (aCc rd us h54) ?_;exact lp h
end Go.Ac
