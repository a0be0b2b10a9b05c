/- Own work, printed: the functions compute these. -/
import Derived.Test.YtgcfokfcilgnlaaGreatSh23s
import Derived.Test.YtgcfokfcilgnlaaGreatProg
set_option linter.unusedVariables false
set_option linter.unusedSimpArgs false
namespace Go.Ac
open Go.Proofs
variable {a7:AD}
variable {a8 aA aN aR bC bD cD:Int}
variable {a9:Unit⊕Unit}
variable {aB:List (List UInt8)}
variable {aC aO:List UInt8}
variable {aD b8:Bool}
variable {aE:List Xf}
variable {aF:Unit⊕Int}
variable {aG:Unit⊕(Int×Int)}
variable {aH:Int×Int}
variable {aI aQ bQ:X0}
variable {aJ:(List (List UInt8))⊕Unit}
variable {aK:X0×Int}
variable {aL:Int×Bool}
variable {aM:Int×Int×Int}
variable {aP:Unit⊕Bool}
variable {aS aX:X5}
variable {aT:X6}
variable {aU:Int⊕Unit}
variable {aV:Es}
variable {aW:CN}
variable {aY:List Bool}
variable {aZ cA:List Int}
variable {b6:(List Int)}
variable {b7:(List Bool×List Int)}
variable {b9:List X6}
variable {bA:List X3}
variable {bB:List X5}
variable {bE:Unit}
variable {bG bH bL:List X0}
variable {bI:(Int×Int)}
variable {bJ:(List X0)}
variable {bK:Bool×List X0}
variable {bM:List X0×List X0}
variable {bN:List CN}
variable {bO bP:List (List X0)}
variable {bR:X0×Bool}
variable {bU:List X2}
variable {bV:X2}
variable {bW:Xx}
variable {bX:Unit⊕X0}
variable {bY bZ:List (Int×Bool)}
variable {c9:(List (Int×Bool))}
variable {cB:(Int×List Int)⊕(Unit⊕Unit)}
variable {cC:(List Int)⊕(List Int)}
variable {cE:(List Int×Int)}
variable {cF:(Int×Int×Int×Int)}
variable {cG:(Int×List Int)⊕Bool}
variable {cH:(List Int)⊕(Bool×List Int)}
variable {cI:Bool×List Int}
theorem mixed:Tryz.prog.follows .mixedOrders=true:=by kernel_rfl
theorem lB{β:Type}{ws:List (Nat×W)}{lw:List Lw}{Q:List Prop}{o v:β}{rd:Option Nat}{root:Code}{q:List Nat}{s:St}{E:β->Ex}{S:β->St}(h:some v=some o)(l:List Ws)(he:(cj Q True/\(E v=E v/\S v=S v))=TQ Tryz.prog rd root ws lw q l s (E v) (S v):=by kernel_rfl):Gl ws lw Q (fun o=>Arr Tryz.prog rd root q s (E o) (S o)) o:=lB_ mixed h l he
theorem lP{β:Type}{ws:List (Nat×W)}{lw:List Lw}{Q:List Prop}{o v:β}{rd:Option Nat}{root:Code}{q:List Nat}{s:St}{E:β->Ex}{S:β->St}(h:some v=some o)(l:List Ws)(he:(cj Q True/\(E v=E v/\S v=S v))=TQ Tryz.prog rd root ws lw q l s (E v) (S v):=by kernel_rfl):Gl ws lw Q (fun o=>F5 Tryz.prog rd root q s (E o) (S o)) o:=lP_ mixed h l he
theorem lb{β:Type}{ws:List (Nat×W)}{lw:List Lw}{Q:List Prop}{o v:β}{rd:Option Nat}{root:Code}{q:List Nat}{s:St}{E:β->Ex}{S:β->St}(h:some v=some o)(he:(cj Q True/\(E v=E v/\S v=S v))=TQ Tryz.prog rd root ws lw q (lvS (S v)) s (E v) (S v):=by kernel_rfl):Gl ws lw Q (fun o=>Arr Tryz.prog rd root q s (E o) (S o)) o:=lB_ mixed h _ he
theorem lp{β:Type}{ws:List (Nat×W)}{lw:List Lw}{Q:List Prop}{o v:β}{rd:Option Nat}{root:Code}{q:List Nat}{s:St}{E:β->Ex}{S:β->St}(h:some v=some o)(he:(cj Q True/\(E v=E v/\S v=S v))=TQ Tryz.prog rd root ws lw q (lvS (S v)) s (E v) (S v):=by kernel_rfl):Gl ws lw Q (fun o=>F5 Tryz.prog rd root q s (E o) (S o)) o:=lP_ mixed h _ he
theorem lF{β:Type}{ws:List (Nat×W)}{lw:List Lw}{Q:List Prop}{o v:β}{f:FuncId}{args:List A}{R:β->A}(h:some v=some o)(l:List Ws)(he:(cj Q True/\(R v=R v/\true=true))=aGe Tryz.prog f ws lw l args (R v):=by kernel_rfl):Gl ws lw Q (fun o=>AM Tryz.prog f args [] (R o) []) o:=lF_ mixed h l he
theorem lf{β:Type}{ws:List (Nat×W)}{lw:List Lw}{Q:List Prop}{o v:β}{f:FuncId}{args:List A}{R:β->A}(h:some v=some o)(he:(cj Q True/\(R v=R v/\true=true))=aGe Tryz.prog f ws lw [] args (R v):=by kernel_rfl):Gl ws lw Q (fun o=>AM Tryz.prog f args [] (R o) []) o:=lF_ mixed h [] he
abbrev Lq(n:Nat)(rd:Option Nat)(p:Nat)(s:St)(x:Ex×St):Prop:=F5 Tryz.prog rd (ER Tryz.prog n) (pth p) s x.1 x.2
theorem lI{β:Type}{ws:List (Nat×W)}{lw:List Lw}{Q:List Prop}{o v:β}{f:FuncId}{args:List A}{F0:Bx}(hF:Far F0){r:A}{F:β->Bx}(hc:∀f,∀p∈F f,∀m,p.2.has m=true->m∈AP (F f))(h:some v=some o)(l:List Ws)(he:(cj Q True/\(r=r/\F v=F v/\true=true))=aQh Tryz.prog f ws lw l args F0 r (F v):=by kernel_rfl):Gl ws lw Q (fun o=>Ml Tryz.prog f args F0 r (F o)) o:=lI_ mixed hF hc h l he
theorem lX{β:Type}{ws:List (Nat×W)}{lw:List Lw}{Q:List Prop}{o v:β}{f:FuncId}{args:List A}{X:Bx}{ks:List Nat}{us:List Value}{R:β->A}{X1:β->Bx}(h:some v=some o)(l:List Ws)(he:(cj Q True/\(R v=R v/\X1 v++[(vx,.vals (J2 args ks) us)]=X1 v++[(vx,.vals (J2 args ks) us)]/\true=true))=aQi Tryz.prog f ws lw l args X ks us (R v) (X1 v):=by kernel_rfl):Gl ws lw Q (fun o=>XG Tryz.prog f args X ks us (R o) (X1 o)) o:=lX_ h l he
def VN(w1:AD)(s3:Int):St:=⟨sp 166 0 [bx 1,sI 3 s3],[cL 1 AD.D w1],[]⟩
def VO(w1:AD)(o:Unit⊕Unit):Ex×St:=match o with
 | .inl o=>(.exit 0,⟨sp 166 0 [bx 1],[cL 1 AD.D w1],[]⟩)
 | .inr o=>(.ret,⟨sp 166 0 [sI 2 0],[],[]⟩)
theorem aHq(rd:Option Nat)(h:aSf a7 a8=some a9):Lq 43 rd 58 (VN a7 a8) ((VO a7) a9):=
 lL (fun s:Int=>VN a7 s) (VO a7) a8 (fun a8 o h=>by
 unfold IZ at h
 refine gN 58 Xf.D a7.decls ?_
 refine iB 59 h (fun h=>?_) fun h=>?_
 refine xX 65 Xf.D h fun x1 h=>?_
 refine gN 68 dZ x1.types ?_
 refine iB 70 h (fun h=>?_) fun h=>?_
 exact lb h
 refine xX 74 Xf.D h fun x2 h=>?_
 refine gG 77 (.int (x2.name.length:Int)) (CZ x2.name) ?_
 refine iB 79 h (fun h=>?_) fun h=>?_
 exact lb h
 exact lb h
 exact lb h) h
def VR(s4:Int)(w1:AD)(s5:Int):St:=⟨sp 166 0 [bx 1,sI 4 s4,sI 5 s5],[cL 1 AD.D w1],[]⟩
def VT(s4:Int)(w1:AD)(o:Unit⊕Unit):Ex×St:=match o with
 | .inl o=>(.exit 4,⟨sp 166 0 [bx 1,sI 4 s4],[cL 1 AD.D w1],[]⟩)
 | .inr o=>(.ret,⟨sp 166 0 [sI 2 0],[],[]⟩)
theorem aHs(rd:Option Nat)(h:aSh a8 a7 aA=some a9):Lq 43 rd 15654 (VR a8 a7 aA) ((VT a8 a7) a9):=
 lL (fun s:Int=>VR a8 a7 s) (VT a8 a7) aA (fun aA o h=>by
 unfold Ib at h
 refine xX 99 X5.D h fun x7 h=>?_
 refine gN 102 CN.D x7.args ?_
 refine iB 103 h (fun h=>?_) fun h=>?_
 refine xX 109 X5.D h fun x8 h=>?_
 refine xX 113 CN.D h fun x9 h=>?_
 refine gG 117 (.int (x9.value.str.length:Int)) (CZ x9.value.str) ?_
 refine iB 118 h (fun h=>?_) fun h=>?_
 exact lb h
 exact lb h
 exact lb h) h
def VP(w1:AD)(s4:Int):St:=⟨sp 166 0 [bx 1,sI 4 s4],[cL 1 AD.D w1],[]⟩
def VQ(w1:AD)(o:Unit⊕Unit):Ex×St:=match o with
 | .inl o=>(.exit 2,⟨sp 166 0 [bx 1],[cL 1 AD.D w1],[]⟩)
 | .inr o=>(.ret,⟨sp 166 0 [sI 2 0],[],[]⟩)
theorem aHr(rd:Option Nat)(h:aSg a7 a8=some a9):Lq 43 rd 122 (VP a7 a8) ((VQ a7) a9):=
 lL (fun s:Int=>VP a7 s) (VQ a7) a8 (fun a8 o h=>by
 unfold Ia at h
 refine gN 83 X5.D a7.symbols ?_
 refine iB 84 h (fun h=>?_) fun h=>?_
 refine xX 90 X5.D h fun x6 h=>?_
 refine gN 93 CN.D x6.args ?_
 refine iB 94 h (fun h=>?_) fun h=>?_
 exact lb h
 obtain⟨o10,h23,h⟩:=bS h
 refine gl (aHs rd h23) ?_
 replace h:=AJ h
 rcases h with⟨o11,rfl,h⟩|⟨o12,rfl,h⟩
 exact lb h
 exact lb h
 exact lb h) h
def VU(w1:AD)(s6:Int):St:=⟨sp 166 0 [bx 1,sI 6 s6],[cL 1 AD.D w1],[]⟩
def VV(w1:AD)(o:Unit⊕Unit):Ex×St:=match o with
 | .inl o=>(.exit 6,⟨sp 166 0 [bx 1],[cL 1 AD.D w1],[]⟩)
 | .inr o=>(.ret,⟨sp 166 0 [sI 2 0],[],[]⟩)
theorem aHt(rd:Option Nat)(h:aSi a7 a8=some a9):Lq 43 rd 250 (VU a7 a8) ((VV a7) a9):=
 lL (fun s:Int=>VU a7 s) (VV a7) a8 (fun a8 o h=>by
 unfold Ic at h
 refine gN 122 Yh.D a7.frees ?_
 refine iB 123 h (fun h=>?_) fun h=>?_
 refine xX 129 Yh.D h fun x16 h=>?_
 refine gG 133 (.int (x16.init_.str.length:Int)) (CZ x16.init_.str) ?_
 refine iB 134 h (fun h=>?_) fun h=>?_
 exact lb h
 exact lb h
 exact lb h) h
def VW(w1:AD)(s7:Int):St:=⟨sp 166 0 [bx 1,sI 7 s7],[cL 1 AD.D w1],[]⟩
def VX(w1:AD)(o:Unit⊕Unit):Ex×St:=match o with
 | .inl o=>(.exit 8,⟨sp 166 0 [bx 1],[cL 1 AD.D w1],[]⟩)
 | .inr o=>(.ret,⟨sp 166 0 [sI 2 0],[],[]⟩)
theorem aHu(rd:Option Nat)(h:aSj a7 a8=some a9):Lq 43 rd 506 (VW a7 a8) ((VX a7) a9):=
 lL (fun s:Int=>VW a7 s) (VX a7) a8 (fun a8 o h=>by
 unfold Id at h
 refine gN 138 Yp.D a7.nodes ?_
 refine iB 139 h (fun h=>?_) fun h=>?_
 refine xX 145 Yp.D h fun x20 h=>?_
 refine gG 149 (.int (x20.value.str.length:Int)) (CZ x20.value.str) ?_
 refine iB 150 h (fun h=>?_) fun h=>?_
 exact lb h
 exact lb h
 exact lb h) h
def VY(w1:AD)(s8:Int):St:=⟨sp 166 0 [bx 1,sI 8 s8],[cL 1 AD.D w1],[]⟩
def VZ(w1:AD)(o:Unit⊕Unit):Ex×St:=match o with
 | .inl o=>(.exit 10,⟨sp 166 0 [],[],[]⟩)
 | .inr o=>(.ret,⟨sp 166 0 [sI 2 0],[],[]⟩)
theorem aHv(rd:Option Nat)(h:aSk a7 a8=some a9):Lq 43 rd 1018 (VY a7 a8) ((VZ a7) a9):=
 lL (fun s:Int=>VY a7 s) (VZ a7) a8 (fun a8 o h=>by
 unfold Ie at h
 refine gN 154 X6.D a7.trans ?_
 refine iB 155 h (fun h=>?_) fun h=>?_
 refine xX 161 X6.D h fun x24 h=>?_
 refine gN 164 Es.D x24.sets ?_
 refine iB 165 h (fun h=>?_) fun h=>?_
 exact lb h
 exact lb h
 exact lb h) h
theorem bA8(h:Xe a7=some a8):AM Tryz.prog 43 [.d (AD.D a7)] [] (dI a8) []:=by
 unfold Xe at h;apply g0 (o:=a8);refine gN 11 Xf.D a7.decls ?_;refine iB 13 h (fun h=>?_) fun h=>?_;exact lf h;refine gN 16 Yg.D a7.quants ?_;refine iB 19 h (fun h=>?_) fun h=>?_;exact lf h;refine gN 22 Yh.D a7.frees ?_;refine iB 25 h (fun h=>?_) fun h=>?_;exact lf h;refine gN 28 Xc.D a7.states ?_;refine iB 31 h (fun h=>?_) fun h=>?_;exact lf h;refine gN 34 X5.D a7.symbols ?_;refine iB 37 h (fun h=>?_) fun h=>?_;exact lf h;refine gN 40 X6.D a7.trans ?_;refine iB 43 h (fun h=>?_) fun h=>?_;exact lf h;refine gN 46 Yp.D a7.nodes ?_;refine iB 49 h (fun h=>?_) fun h=>?_;exact lf h;refine gG 52 (.int (a7.name.length:Int)) (CZ a7.name) ?_;refine iB 54 h (fun h=>?_) fun h=>?_;exact lf h;obtain⟨o3,h14,h⟩:=bS h;refine gl (aHq none h14) ?_;replace h:=AJ h;rcases h with⟨o4,rfl,h⟩|⟨o5,rfl,h⟩
 obtain⟨o13,h24,h⟩:=bS h;refine gl (aHr none h24) ?_;replace h:=AJ h;rcases h with⟨o14,rfl,h⟩|⟨o15,rfl,h⟩
 obtain⟨o17,h28,h⟩:=bS h;refine gl (aHt none h28) ?_;replace h:=AJ h;rcases h with⟨o18,rfl,h⟩|⟨o19,rfl,h⟩
 obtain⟨o21,h32,h⟩:=bS h;refine gl (aHu none h32) ?_;replace h:=AJ h;rcases h with⟨o22,rfl,h⟩|⟨o23,rfl,h⟩
 obtain⟨o25,h36,h⟩:=bS h;refine gl (aHv none h36) ?_;replace h:=AJ h;rcases h with⟨o26,rfl,h⟩|⟨o27,rfl,h⟩
 exact lf h;exact lf h;exact lf h;exact lf h;exact lf h;exact lf h
theorem bAm(h:Uj=some aB):AM Tryz.prog 140 [] [] (.d ((D.l D.s) aB)) []:=by unfold Uj at h;apply g0 (o:=aB);refine gQ (Ag D.s ([([97,99,99,101,112,116]:List UInt8),([97,108,115,111]:List UInt8),([97,110,100]:List UInt8),([98,111,111,108]:List UInt8),([100,111]:List UInt8),([101,118,101,110,116]:List UInt8),([101,120,105,115,116,115]:List UInt8),([102,97,108,115,101]:List UInt8),([102,111,114,97,108,108]:List UInt8),([102,114,101,101]:List UInt8),([105,102]:List UInt8),([105,110,116]:List UInt8),([110,101,120,116]:List UInt8),([110,111,116]:List UInt8),([111,110]:List UInt8),([111,114]:List UInt8),([113,101,97]:List UInt8),([115,107,105,112]:List UInt8),([115,116,97,114,116]:List UInt8),([115,116,114,105,110,103]:List UInt8),([116,111]:List UInt8),([116,114,117,101]:List UInt8)])) ?_;exact lf h
def aA5(s0:List UInt8)(s3:Int):St:=⟨sp 55 0 [sD 0 D.s s0,sI 3 s3],[],[]⟩
def aA6(s0:List UInt8)(o:Unit⊕Unit):Ex×St:=match o with
 | .inl o=>(.exit 0,⟨sp 55 0 [],[],[]⟩)
 | .inr o=>(.ret,⟨sp 55 0 [sD 2 D.b false],[],[]⟩)
theorem aNn(rd:Option Nat)(h:aTu aC a8=some a9):Lq 141 rd 58 (aA5 aC a8) ((aA6 aC) a9):=
 lL (fun s:Int=>aA5 aC s) (aA6 aC) a8 (fun a8 o h=>by
 unfold JM at h
 refine gG 16 (.int (aC.length:Int)) (CZ aC) ?_
 refine iB 17 h (fun h=>?_) fun h=>?_
 obtain⟨x1,h4,h⟩:=xS h
 refine gG 22 (.int x1.toNat) (HS h4) ?_
 refine iB 25 h (fun h=>?_) fun h=>?_
 refine iB 29 h (fun h=>?_) fun h=>?_
 exact lb h
 refine iB 32 h (fun h=>?_) fun h=>?_
 refine iB 37 h (fun h=>?_) fun h=>?_
 exact lb h
 refine iB 43 h (fun h=>?_) fun h=>?_
 refine iB 46 h (fun h=>?_) fun h=>?_
 exact lb h
 refine iB 50 h (fun h=>?_) fun h=>?_
 exact lb h
 refine iB 54 h (fun h=>?_) fun h=>?_
 exact lb h
 exact lb h
 exact lb h
 refine iB 43 h (fun h=>?_) fun h=>?_
 refine iB 46 h (fun h=>?_) fun h=>?_
 exact lb h
 refine iB 50 h (fun h=>?_) fun h=>?_
 exact lb h
 refine iB 54 h (fun h=>?_) fun h=>?_
 exact lb h
 exact lb h
 exact lb h
 refine iB 32 h (fun h=>?_) fun h=>?_
 refine iB 37 h (fun h=>?_) fun h=>?_
 exact lb h
 refine iB 43 h (fun h=>?_) fun h=>?_
 refine iB 46 h (fun h=>?_) fun h=>?_
 exact lb h
 refine iB 50 h (fun h=>?_) fun h=>?_
 exact lb h
 refine iB 54 h (fun h=>?_) fun h=>?_
 exact lb h
 exact lb h
 exact lb h
 refine iB 43 h (fun h=>?_) fun h=>?_
 refine iB 46 h (fun h=>?_) fun h=>?_
 exact lb h
 refine iB 50 h (fun h=>?_) fun h=>?_
 exact lb h
 refine iB 54 h (fun h=>?_) fun h=>?_
 exact lb h
 exact lb h
 exact lb h
 exact lb h) h
theorem bCs(h:Za aC=some aD):AM Tryz.prog 141 [.d (D.s aC)] [] (.d (D.b aD)) []:=by
 unfold Za at h;apply g0 (o:=aD);refine gG 7 (.int (aC.length:Int)) (CZ aC) ?_;refine iB 9 h (fun h=>?_) fun h=>?_;exact lf h;refine gG 11 (.int (aC.length:Int)) (CZ aC) ?_;refine iB 13 h (fun h=>?_) fun h=>?_;exact lf h;obtain⟨o2,h27,h⟩:=bS h;refine gl (aNn none h27) ?_;replace h:=AJ h;rcases h with⟨o3,rfl,h⟩|⟨o4,rfl,h⟩
 exact lf h;exact lf h
def ZV(s0:List UInt8)(s3:List (List UInt8))(s4:Int):St:=⟨sp 24 0 [sD 0 D.s s0,sD 3 (D.l D.s) s3,sI 4 s4],[],[]⟩
def ZW(s0:List UInt8)(s3:List (List UInt8))(o:Unit⊕Unit):Ex×St:=match o with
 | .inl o=>(.exit 0,⟨sp 24 0 [sD 0 D.s s0],[],[]⟩)
 | .inr o=>(.ret,⟨sp 24 0 [sD 2 D.b false],[],[]⟩)
theorem aM0(rd:Option Nat)(h:aTn aC aB a8=some a9):Lq 109 rd 58 (ZV aC aB a8) ((ZW aC aB) a9):=
 lL (fun s:Int=>ZV aC aB s) (ZW aC aB) a8 (fun a8 o h=>by
 unfold JF at h
 refine gN 8 D.s aB ?_
 refine iB 9 h (fun h=>?_) fun h=>?_
 refine xX 14 D.s h fun x2 h=>?_
 refine iB 17 h (fun h=>?_) fun h=>?_
 exact lb h
 exact lb h
 exact lb h) h
theorem aM1(h:Yt aC=some aD):AM Tryz.prog 109 [.d (D.s aC)] [] (.d (D.b aD)) []:=by
 unfold Yt at h;apply g0 (o:=aD);obtain⟨r1,h1,h⟩:=bS h;refine gC 5 (bAm h1) ?_;obtain⟨o3,h5,h⟩:=bS h;refine gl (aM0 none h5) ?_;replace h:=AJ h;rcases h with⟨o4,rfl,h⟩|⟨o5,rfl,h⟩
 obtain⟨r6,h6,h⟩:=bS h;refine gQ (bCs h6) ?_;cases r6;replace h:=Bj h;refine gW 19 (.ret (.d (D.b false))) ?_;exact lf h;replace h:=Bl h;refine gW 19 (.ret (.d (D.b true))) ?_;exact lf h;exact lf h
def aAu(s0:List Xf)(s1:List UInt8)(s5:Int):St:=⟨sp 20 0 [sD 0 (D.l Xf.D) s0,sD 1 D.s s1,sI 5 s5],[],[]⟩
def aAv(s0:List Xf)(s1:List UInt8)(o:Unit⊕Int):Ex×St:=match o with
 | .inl o=>(.exit 0,⟨sp 20 0 [],[],[]⟩)
 | .inr o=>(.ret,⟨sp 20 0 [sI 4 o],[],[]⟩)
theorem aNe(rd:Option Nat)(h:aTr aE aC a8=some aF):Lq 61 rd 26 (aAu aE aC a8) ((aAv aE aC) aF):=
 lL (fun s:Int=>aAu aE aC s) (aAv aE aC) a8 (fun a8 o h=>by
 unfold Lj at h
 refine gN 8 Xf.D aE ?_
 refine iB 9 h (fun h=>?_) fun h=>?_
 refine xX 14 Xf.D h fun x1 h=>?_
 refine iB 18 h (fun h=>?_) fun h=>?_
 exact lb h
 exact lb h
 exact lb h) h
theorem aX4(h:Z3 aE aC=some a8):AM Tryz.prog 61 [.d ((D.l Xf.D) aE),.d (D.s aC)] [] (dI a8) []:=by
 unfold Z3 at h;apply g0 (o:=a8);obtain⟨o2,h4,h⟩:=bS h;refine gl (aNe none h4) ?_;replace h:=AJ h;rcases h with⟨o3,rfl,h⟩|⟨o4,rfl,h⟩
 exact lf h;exact lf h
def XZ(s0:List Xf)(s4 s5:Int):St:=⟨sp 72 0 [sD 0 (D.l Xf.D) s0,sI 4 s4,sI 5 s5],[],[]⟩
def YA(s0:List Xf)(s4:Int)(o:Unit⊕Unit):Ex×St:=match o with
 | .inl o=>(.exit 2,⟨sp 72 0 [sD 0 (D.l Xf.D) s0,sI 4 s4],[],[]⟩)
 | .inr o=>(.ret,⟨sp 72 0 [sI 2 8,sI 3 s4],[],[]⟩)
theorem aK4(rd:Option Nat)(h:aK3 aE a8 aA=some a9):Lq 77 rd 29854 (XZ aE a8 aA) ((YA aE a8) a9):=
 lL (fun s:Int=>XZ aE a8 s) (YA aE a8) aA (fun aA o h=>by
 unfold FC at h
 refine xX 44 Xf.D h fun x6 h=>?_
 refine gN 47 dZ x6.types ?_
 refine iB 48 h (fun h=>?_) fun h=>?_
 refine xX 53 Xf.D h fun x7 h=>?_
 refine xX 57 dZ h fun x8 h=>?_
 refine iB 60 h (fun h=>?_) fun h=>?_
 exact lb h
 refine xX 63 Xf.D h fun x9 h=>?_
 refine xX 67 dZ h fun x10 h=>?_
 refine iB 70 h (fun h=>?_) fun h=>?_
 exact lb h
 exact lb h
 exact lb h) h
def XX(s0:List Xf)(s4:Int):St:=⟨sp 72 0 [sD 0 (D.l Xf.D) s0,sI 4 s4],[],[]⟩
def XY(s0:List Xf)(o:Unit⊕(Int×Int)):Ex×St:=match o with
 | .inl o=>(.exit 0,⟨sp 72 0 [],[],[]⟩)
 | .inr o=>(.ret,⟨sp 72 0 [sI 2 o.1,sI 3 o.2],[],[]⟩)
theorem aK2(rd:Option Nat)(h:aK1 aE a8=some aG):Lq 77 rd 58 (XX aE a8) ((XY aE) aG):=
 lL (fun s:Int=>XX aE s) (XY aE) a8 (fun a8 o h=>by
 unfold FA at h
 refine gN 11 Xf.D aE ?_
 refine iB 12 h (fun h=>?_) fun h=>?_
 refine xX 17 Xf.D h fun x1 h=>?_
 obtain⟨r2,h4,h⟩:=bS h
 refine gC 20 (aM1 h4) ?_
 refine iB 21 h (fun h=>?_) fun h=>?_
 exact lb h
 refine xX 26 Xf.D h fun x3 h=>?_
 obtain⟨r4,h7,h⟩:=bS h
 refine gC 29 (aX4 h7) ?_
 refine iB 31 h (fun h=>?_) fun h=>?_
 exact lb h
 refine xX 35 Xf.D h fun x5 h=>?_
 refine gN 38 dZ x5.types ?_
 refine iB 39 h (fun h=>?_) fun h=>?_
 exact lb h
 obtain⟨o11,h19,h⟩:=bS h
 refine gl (aK4 rd h19) ?_
 replace h:=AJ h
 rcases h with⟨o12,rfl,h⟩|⟨o13,rfl,h⟩
 exact lb h
 exact lb h
 exact lb h) h
theorem bB1(h:Y5 aE=some aH):AM Tryz.prog 77 [.d ((D.l Xf.D) aE)] [] (.tup [dI aH.1,dI aH.2]) []:=by
 unfold Y5 at h;apply g0 (o:=aH);refine gN 7 Xf.D aE ?_;refine iB 8 h (fun h=>?_) fun h=>?_;exact lf h;obtain⟨o14,h20,h⟩:=bS h;refine gl (aK2 none h20) ?_;replace h:=AJ h;rcases h with⟨o15,rfl,h⟩|⟨o16,rfl,h⟩
 exact lf h;exact lf h
theorem SU(h:Z6 aI=some aD):AM Tryz.prog 62 [.d (X0.D aI)] [] (.d (D.b aD)) []:=by unfold Z6 at h;apply g0 (o:=aD);refine iB 5 h (fun h=>?_) fun h=>?_;refine iB 9 h (fun h=>?_) fun h=>?_;exact lf h;exact lf h;refine iB 16 h (fun h=>?_) fun h=>?_;refine iB 20 h (fun h=>?_) fun h=>?_;refine iB 25 h (fun h=>?_) fun h=>?_;refine gG 28 (.int (aI.str.length:Int)) (CZ aI.str) ?_;exact lf h;exact lf h;exact lf h;refine iB 34 h (fun h=>?_) fun h=>?_;refine iB 39 h (fun h=>?_) fun h=>?_;exact lf h;exact lf h;exact lf h
def aBj(s0:List (List UInt8))(s1 s5:Int):St:=⟨sp 20 0 [sD 0 (D.l D.s) s0,sI 1 s1,sI 5 s5],[],[]⟩
def aBk(s0:List (List UInt8))(s1:Int)(o:Unit⊕Unit):Ex×St:=match o with
 | .inl o=>(.exit 0,⟨sp 20 0 [],[],[]⟩)
 | .inr o=>(.ret,⟨sp 20 0 [sD 4 D.b true],[],[]⟩)
theorem aNw(rd:Option Nat)(h:aYb aB a8 aA=some a9):Lq 110 rd 26 (aBj aB a8 aA) ((aBk aB a8) a9):=
 lL (fun s:Int=>aBj aB a8 s) (aBk aB a8) aA (fun aA o h=>by
 unfold JS at h
 refine iB 8 h (fun h=>?_) fun h=>?_
 refine xX 13 D.s h fun x1 h=>?_
 refine xX 17 D.s h fun x2 h=>?_
 refine iB 19 h (fun h=>?_) fun h=>?_
 exact lb h
 exact lb h
 exact lb h) h
theorem aYc(h:Zh aB a8=some aD):AM Tryz.prog 110 [.d ((D.l D.s) aB),dI a8] [] (.d (D.b aD)) []:=by
 unfold Zh at h;apply g0 (o:=aD);obtain⟨o3,h5,h⟩:=bS h;refine gl (aNw none h5) ?_;replace h:=AJ h;rcases h with⟨o4,rfl,h⟩|⟨o5,rfl,h⟩
 exact lf h;exact lf h
def Vy(w1:AD)(s4:Int)(w3:List (List UInt8)):St:=⟨sp 112 0 [bx 1,rx 3,sI 4 s4],[cL 1 AD.D w1,(3,.row 9 1 (w3.map D.s))],[]⟩
def Vz(w1:AD)(o:(List (List UInt8))⊕Unit):Ex×St:=match o with
 | .inl o=>(.exit 0,⟨sp 112 0 [bx 1,rx 3],[cL 1 AD.D w1,(3,.row 9 1 (o.map D.s))],[]⟩)
 | .inr o=>(.ret,⟨sp 112 0 [sD 2 D.b false],[],[]⟩)
theorem aIl(rd:Option Nat)(h:aXg a7 a8 aB=some aJ):Lq 78 rd 58 (Vy a7 a8 aB) ((Vz a7) aJ):=
 lL (fun s:Int×List (List UInt8)=>Vy a7 s.1 s.2) (Vz a7) (a8,aB) (fun⟨a8,aB⟩ o h=>by
 unfold Ii at h
 refine gN 12 Yg.D a7.quants ?_
 refine iB 13 h (fun h=>?_) fun h=>?_
 refine xX 20 Yg.D h fun x4 h=>?_
 refine gQ (Ag D.s [x4.name])<|gG 24 (.sl ((aB++[x4.name]).map D.s)) (Ag D.s [x4.name]) ?_
 obtain⟨h10,h⟩:=cS h
 refine gQ (Ak D.s h10)<|gQ (Ai D.s aB [x4.name])<|xX 28 Yg.D h fun x5 h=>?_
 refine iB 32 h (fun h=>?_) fun h=>?_
 exact lb h
 refine xX 36 Yg.D h fun x6 h=>?_
 refine iB 40 h (fun h=>?_) fun h=>?_
 exact lb h
 exact lB h [.live [1,3,4],.keep [1,24],.ren 24 3,.sort]
 exact lb h) h
def V0(w1:AD)(s5:Int)(w3:List (List UInt8)):St:=⟨sp 112 0 [bx 1,rx 3,sI 5 s5],[cL 1 AD.D w1,(3,.row 9 1 (w3.map D.s))],[]⟩
def V1(w1:AD)(o:(List (List UInt8))⊕Unit):Ex×St:=match o with
 | .inl o=>(.exit 2,⟨sp 112 0 [bx 1,rx 3],[cL 1 AD.D w1,(3,.row 9 1 (o.map D.s))],[]⟩)
 | .inr o=>(.ret,⟨sp 112 0 [sD 2 D.b false],[],[]⟩)
theorem aIm(rd:Option Nat)(h:aXh a7 a8 aB=some aJ):Lq 78 rd 122 (V0 a7 a8 aB) ((V1 a7) aJ):=
 lL (fun s:Int×List (List UInt8)=>V0 a7 s.1 s.2) (V1 a7) (a8,aB) (fun⟨a8,aB⟩ o h=>by
 unfold Ij at h
 refine gN 44 Yh.D a7.frees ?_
 refine iB 45 h (fun h=>?_) fun h=>?_
 refine xX 52 Yh.D h fun x10 h=>?_
 refine gQ (Ag D.s [x10.name])<|gG 56 (.sl ((aB++[x10.name]).map D.s)) (Ag D.s [x10.name]) ?_
 obtain⟨h18,h⟩:=cS h
 refine gQ (Ak D.s h18)<|gQ (Ai D.s aB [x10.name])<|xX 60 Yh.D h fun x11 h=>?_
 obtain⟨r12,h20,h⟩:=bS h
 refine gC 63 (SU h20) ?_
 refine iB 64 h (fun h=>?_) fun h=>?_
 exact lb h
 exact lB h [.live [1,3,5],.keep [1,56],.ren 56 3,.sort]
 exact lb h) h
def V3(w1:AD)(w3:List (List UInt8))(s6:Int):St:=⟨sp 112 0 [bx 1,rx 3,sI 6 s6],[cL 1 AD.D w1,(3,.row 9 1 (w3.map D.s))],[]⟩
def V4(w1:AD)(w3:List (List UInt8))(o:Unit⊕Unit):Ex×St:=match o with
 | .inl o=>(.exit 4,⟨sp 112 0 [bx 1],[cL 1 AD.D w1],[]⟩)
 | .inr o=>(.ret,⟨sp 112 0 [sD 2 D.b false],[],[]⟩)
theorem aIn(rd:Option Nat)(h:aXi a7 aB a8=some a9):Lq 78 rd 250 (V3 a7 aB a8) ((V4 a7 aB) a9):=
 lL (fun s:Int=>V3 a7 aB s) (V4 a7 aB) a8 (fun a8 o h=>by
 unfold Ik at h
 refine gN 67 D.s aB ?_
 refine iB 68 h (fun h=>?_) fun h=>?_
 refine xX 73 D.s h fun x16 h=>?_
 obtain⟨r17,h25,h⟩:=bS h
 refine gC 75 (aM1 h25) ?_
 refine iB 77 h (fun h=>?_) fun h=>?_
 exact lb h
 obtain⟨r18,h27,h⟩:=bS h
 refine gQ (aYc h27) ?_
 cases r18
 replace h:=Bj h
 refine gW 80 (.ret (.d (D.b false))) ?_
 exact lb h
 replace h:=Bl h
 refine gW 80 (.ret (.d (D.b true))) ?_
 exact lb h
 exact lb h) h
def V5(w1:AD)(s8:Int)(w7:List (List UInt8)):St:=⟨sp 112 0 [bx 1,rx 7,sI 8 s8],[cL 1 AD.D w1,(7,.row 9 1 (w7.map D.s))],[]⟩
def V6(w1:AD)(o:Unit⊕Unit):Ex×St:=match o with
 | .inl o=>(.exit 6,⟨sp 112 0 [bx 1],[cL 1 AD.D w1],[]⟩)
 | .inr o=>(.ret,⟨sp 112 0 [sD 2 D.b false],[],[]⟩)
theorem aIo(rd:Option Nat)(h:aXj a7 a8 aB=some a9):Lq 78 rd 1018 (V5 a7 a8 aB) ((V6 a7) a9):=
 lL (fun s:Int×List (List UInt8)=>V5 a7 s.1 s.2) (V6 a7) (a8,aB) (fun⟨a8,aB⟩ o h=>by
 unfold Il at h
 refine gN 85 Xc.D a7.states ?_
 refine iB 86 h (fun h=>?_) fun h=>?_
 refine xX 93 Xc.D h fun x26 h=>?_
 refine gQ (Ag D.s [x26.name])<|gG 97 (.sl ((aB++[x26.name]).map D.s)) (Ag D.s [x26.name]) ?_
 obtain⟨h40,h⟩:=cS h
 refine gQ (Ak D.s h40)<|gQ (Ai D.s aB [x26.name])<|xX 100 D.s h fun x27 h=>?_
 obtain⟨r28,h42,h⟩:=bS h
 refine gC 102 (aM1 h42) ?_
 refine iB 104 h (fun h=>?_) fun h=>?_
 exact lb h
 obtain⟨r29,h44,h⟩:=bS h
 refine gQ (aYc h44) ?_
 cases r29
 replace h:=Bj h
 refine gW 107 (.ret (.d (D.b false))) ?_
 exact lB h [.live [1,7,8],.keep [1,97],.ren 97 7,.sort]
 replace h:=Bl h
 refine gW 107 (.ret (.d (D.b true))) ?_
 exact lb h
 exact lb h) h
theorem bBe(h:Xk a7=some aD):AM Tryz.prog 78 [.d (AD.D a7)] [] (.d (D.b aD)) []:=by
 unfold Xk at h;apply g0 (o:=aD);obtain⟨o7,h15,h⟩:=bS h;refine gL [.live [1,3,4],.keep [1],.nil 3 3 9 1,.sort] (aIl none h15) ?_;replace h:=AJ h;rcases h with⟨o8,rfl,h⟩|⟨o9,rfl,h⟩
 obtain⟨o13,h22,h⟩:=bS h;refine gl (aIm none h22) ?_;replace h:=AJ h;rcases h with⟨o14,rfl,h⟩|⟨o15,rfl,h⟩
 obtain⟨o19,h29,h⟩:=bS h;refine gl (aIn none h29) ?_;replace h:=AJ h;rcases h with⟨o20,rfl,h⟩|⟨o21,rfl,h⟩
 obtain⟨o30,h46,h⟩:=bS h;refine gL [.live [1,7,8],.keep [1],.nil 7 7 9 1,.sort] (aIo none h46) ?_;replace h:=AJ h;rcases h with⟨o31,rfl,h⟩|⟨o32,rfl,h⟩
 obtain⟨r33,h47,h⟩:=bS h;refine gC 111 (aM1 h47) ?_;exact lf h;exact lf h;exact lf h;exact lf h;exact lf h
theorem LR(h:Q4 aD=some aK):AM Tryz.prog 185 [.d (D.b aD)] [] (.tup [.d (X0.D aK.1),dI aK.2]) []:=by unfold Q4 at h;apply g0 (o:=aK);exact lf h
theorem aZv(h:Qu a8 aA=some aL):AM Tryz.prog 189 [dI a8,dI aA] [] (.tup [dI aL.1,.d (D.b aL.2)]) []:=by unfold Qu at h;apply g0 (o:=aL);refine iB 8 h (fun h=>?_) fun h=>?_;refine iB 14 h (fun h=>?_) fun h=>?_;exact lf h;refine iB 17 h (fun h=>?_) fun h=>?_;refine iB 23 h (fun h=>?_) fun h=>?_;exact lf h;exact lf h;exact lf h;refine iB 17 h (fun h=>?_) fun h=>?_;refine iB 23 h (fun h=>?_) fun h=>?_;exact lf h;exact lf h;exact lf h
theorem aGa(h:Qd a8 aD=some aK):AM Tryz.prog 190 [dI a8,.d (D.b aD)] [] (.tup [.d (X0.D aK.1),dI aK.2]) []:=by unfold Qd at h;apply g0 (o:=aK);refine iB 7 h (fun h=>?_) fun h=>?_;exact lf h;exact lf h
theorem aF9(h:Qa a8 aA=some aL):AM Tryz.prog 191 [dI a8,dI aA] [] (.tup [dI aL.1,.d (D.b aL.2)]) []:=by unfold Qa at h;apply g0 (o:=aL);refine iB 8 h (fun h=>?_) fun h=>?_;refine iB 14 h (fun h=>?_) fun h=>?_;exact lf h;refine iB 17 h (fun h=>?_) fun h=>?_;refine iB 23 h (fun h=>?_) fun h=>?_;exact lf h;exact lf h;exact lf h;refine iB 17 h (fun h=>?_) fun h=>?_;refine iB 23 h (fun h=>?_) fun h=>?_;exact lf h;exact lf h;exact lf h
theorem aZw(h:Qv a8 aA=some aL):AM Tryz.prog 192 [dI a8,dI aA] [] (.tup [dI aL.1,.d (D.b aL.2)]) []:=by
 unfold Qv at h;apply g0 (o:=aL);refine iB 8 h (fun h=>?_) fun h=>?_;exact lf h;refine iB 11 h (fun h=>?_) fun h=>?_;exact lf h;refine iB 13 h (fun h=>?_) fun h=>?_;obtain⟨r1,h4,h⟩:=bS h;refine gC 15 (aF9 h4) ?_;exact lf h;refine iB 19 h (fun h=>?_) fun h=>?_;obtain⟨r2,h6,h⟩:=bS h;refine gC 21 (aF9 h6) ?_;exact lf h;rcases iS h with⟨h7,h⟩|⟨h7,h⟩
 refine gT 26 h7 ?_;rcases iS h with⟨h8,h⟩|⟨h8,h⟩
 refine gT 30 h8 ?_;obtain⟨h9,h⟩:=cS h;refine gQ h9 ?_;refine iB 36 h (fun h=>?_) fun h=>?_;exact lf h;refine gT 39 h7 ?_;rcases iS h with⟨h11,h⟩|⟨h11,h⟩
 refine gT 43 h11 ?_;obtain⟨h12,h⟩:=cS h;refine gQ h12 ?_;refine iB 50 h (fun h=>?_) fun h=>?_;exact lf h;rcases iS h with⟨h14,h⟩|⟨h14,h⟩
 refine gT 53 h14<|gT 57 h8 ?_;obtain⟨h15,h⟩:=cS h;refine gQ h15 ?_;refine iB 64 h (fun h=>?_) fun h=>?_;exact lf h;refine gT 67 h14<|gT 71 h11 ?_;obtain⟨h17,h⟩:=cS h;refine gQ h17 ?_;refine iB 77 h (fun h=>?_) fun h=>?_;exact lf h;exact lf h;refine gF 53 h14<|gF 67 h14 ?_;exact lf h;refine gF 43 h11 ?_;rcases iS h with⟨h19,h⟩|⟨h19,h⟩
 refine gT 53 h19<|gT 57 h8 ?_;obtain⟨h20,h⟩:=cS h;refine gQ h20 ?_;refine iB 64 h (fun h=>?_) fun h=>?_;exact lf h;refine gT 67 h19<|gF 71 h11 ?_;exact lf h;refine gF 53 h19<|gF 67 h19 ?_;exact lf h;refine gF 30 h8<|gT 39 h7 ?_;rcases iS h with⟨h22,h⟩|⟨h22,h⟩
 refine gT 43 h22 ?_;obtain⟨h23,h⟩:=cS h;refine gQ h23 ?_;refine iB 50 h (fun h=>?_) fun h=>?_;exact lf h;rcases iS h with⟨h25,h⟩|⟨h25,h⟩
 refine gT 53 h25<|gF 57 h8<|gT 67 h25<|gT 71 h22 ?_;obtain⟨h26,h⟩:=cS h;refine gQ h26 ?_;refine iB 77 h (fun h=>?_) fun h=>?_;exact lf h;exact lf h;refine gF 53 h25<|gF 67 h25 ?_;exact lf h;refine gF 43 h22 ?_;rcases iS h with⟨h28,h⟩|⟨h28,h⟩
 refine gT 53 h28<|gF 57 h8<|gT 67 h28<|gF 71 h22 ?_;exact lf h;refine gF 53 h28<|gF 67 h28 ?_;exact lf h;refine gF 26 h7<|gF 39 h7 ?_;rcases iS h with⟨h29,h⟩|⟨h29,h⟩
 refine gT 53 h29 ?_;refine iB 57 h (fun h=>?_) fun h=>?_;obtain⟨h31,h⟩:=cS h;refine gQ h31 ?_;refine iB 64 h (fun h=>?_) fun h=>?_;exact lf h;refine gT 67 h29 ?_;refine iB 71 h (fun h=>?_) fun h=>?_;obtain⟨h34,h⟩:=cS h;refine gQ h34 ?_;refine iB 77 h (fun h=>?_) fun h=>?_;exact lf h;exact lf h;exact lf h;refine gT 67 h29 ?_;refine iB 71 h (fun h=>?_) fun h=>?_;obtain⟨h37,h⟩:=cS h;refine gQ h37 ?_;refine iB 77 h (fun h=>?_) fun h=>?_;exact lf h;exact lf h;exact lf h;refine gF 53 h29<|gF 67 h29 ?_;exact lf h
theorem aZx(h:Qw a8 aA=some aM):AM Tryz.prog 193 [dI a8,dI aA] [] (.tup [dI aM.1,dI aM.2.1,dI aM.2.2]) []:=by unfold Qw at h;apply g0 (o:=aM);refine iB 10 h (fun h=>?_) fun h=>?_;exact lf h;refine iB 12 h (fun h=>?_) fun h=>?_;obtain⟨r1,h3,h⟩:=bS h;refine gC 15 (aF9 h3) ?_;refine iB 19 h (fun h=>?_) fun h=>?_;exact lf h;exact lf h;obtain⟨h5,h⟩:=cS h;refine gQ h5 ?_;obtain⟨h6,h⟩:=cS h;refine gQ h6 ?_;exact lf h
theorem aWr(h:Qb a8 aA aN=some aK):AM Tryz.prog 186 [dI a8,dI aA,dI aN] [] (.tup [.d (X0.D aK.1),dI aK.2]) []:=by unfold Qb at h;apply g0 (o:=aK);refine iB 18 h (fun h=>?_) fun h=>?_;obtain⟨r1,h2,h⟩:=bS h;refine gC 22 (aZv h2) ?_;obtain⟨r2,h3,h⟩:=bS h;refine gC 27 (aGa h3) ?_;exact lf h;refine iB 31 h (fun h=>?_) fun h=>?_;obtain⟨r3,h5,h⟩:=bS h;refine gC 35 (aF9 h5) ?_;obtain⟨r4,h6,h⟩:=bS h;refine gC 40 (aGa h6) ?_;exact lf h;refine iB 44 h (fun h=>?_) fun h=>?_;obtain⟨r5,h8,h⟩:=bS h;refine gC 48 (aZw h8) ?_;obtain⟨r6,h9,h⟩:=bS h;refine gC 53 (aGa h9) ?_;exact lf h;obtain⟨r7,h10,h⟩:=bS h;refine gC 59 (aZx h10) ?_;refine iB 64 h (fun h=>?_) fun h=>?_;exact lf h;refine iB 67 h (fun h=>?_) fun h=>?_;exact lf h;obtain⟨r8,h13,h⟩:=bS h;refine gC 73 (aGa h13) ?_;exact lf h
def aAk(s0 s1:List UInt8)(s5:Int):St:=⟨sp 37 0 [sD 0 D.s s0,sD 1 D.s s1,sI 5 s5],[],[]⟩
def aAl(s0 s1:List UInt8)(o:Unit⊕Bool):Ex×St:=match o with
 | .inl o=>(.exit 0,⟨sp 37 0 [sD 0 D.s s0,sD 1 D.s s1],[],[]⟩)
 | .inr o=>(.ret,⟨sp 37 0 [sD 4 D.b o],[],[]⟩)
theorem aM8(rd:Option Nat)(h:aM7 aC aO a8=some aP):Lq 144 rd 26 (aAk aC aO a8) ((aAl aC aO) aP):=
 lL (fun s:Int=>aAk aC aO s) (aAl aC aO) a8 (fun a8 o h=>by
 unfold HL at h
 refine gG 8 (.int (aC.length:Int)) (CZ aC) ?_
 refine iB 10 h (fun h=>?_) fun h=>?_
 refine gG 13 (.int (aO.length:Int)) (CZ aO) ?_
 refine iB 15 h (fun h=>?_) fun h=>?_
 obtain⟨x1,h3,h⟩:=xS h
 refine gG 20 (.int x1.toNat) (HS h3) ?_
 obtain⟨x2,h4,h⟩:=xS h
 refine gG 23 (.int x2.toNat) (HS h4) ?_
 refine iB 24 h (fun h=>?_) fun h=>?_
 obtain⟨x3,h6,h⟩:=xS h
 refine gG 27 (.int x3.toNat) (HS h6) ?_
 obtain⟨x4,h7,h⟩:=xS h
 refine gG 30 (.int x4.toNat) (HS h7) ?_
 exact lb h
 exact lb h
 exact lb h
 exact lb h) h
theorem bCm(h:Yz aC aO=some aD):AM Tryz.prog 144 [.d (D.s aC),.d (D.s aO)] [] (.d (D.b aD)) []:=by
 unfold Yz at h;apply g0 (o:=aD);obtain⟨o5,h8,h⟩:=bS h;refine gl (aM8 none h8) ?_;replace h:=AJ h;rcases h with⟨o6,rfl,h⟩|⟨o7,rfl,h⟩
 refine gG 33 (.int (aC.length:Int)) (CZ aC)<|gG 35 (.int (aO.length:Int)) (CZ aO) ?_;exact lf h;exact lf h
theorem aF6(h:Q5 aI aQ=some aD):AM Tryz.prog 116 [.d (X0.D aI),.d (X0.D aQ)] [] (.d (D.b aD)) []:=by unfold Q5 at h;apply g0 (o:=aD);refine iB 9 h (fun h=>?_) fun h=>?_;exact lf h;refine iB 17 h (fun h=>?_) fun h=>?_;exact lf h;refine iB 25 h (fun h=>?_) fun h=>?_;obtain⟨r1,h4,h⟩:=bS h;refine gC 30 (bCm h4) ?_;exact lf h;refine iB 34 h (fun h=>?_) fun h=>?_;exact lf h;exact lf h
theorem Rx(h:Q7 a8 aI aQ=some aK):AM Tryz.prog 179 [dI a8,.d (X0.D aI),.d (X0.D aQ)] [] (.tup [.d (X0.D aK.1),dI aK.2]) []:=by unfold Q7 at h;apply g0 (o:=aK);refine iB 10 h (fun h=>?_) fun h=>?_;exact lf h;refine iB 13 h (fun h=>?_) fun h=>?_;exact lf h;refine iB 16 h (fun h=>?_) fun h=>?_;refine iB 19 h (fun h=>?_) fun h=>?_;exact lf h;obtain⟨r1,h5,h⟩:=bS h;refine gC 24 (LR h5) ?_;exact lf h;refine iB 28 h (fun h=>?_) fun h=>?_;refine iB 31 h (fun h=>?_) fun h=>?_;exact lf h;obtain⟨r2,h8,h⟩:=bS h;refine gC 35 (aWr h8) ?_;exact lf h;refine iB 42 h (fun h=>?_) fun h=>?_;exact lf h;refine iB 45 h (fun h=>?_) fun h=>?_;obtain⟨r3,h11,h⟩:=bS h;refine gC 49 (LR h11) ?_;exact lf h;refine iB 53 h (fun h=>?_) fun h=>?_;obtain⟨r4,h13,h⟩:=bS h;refine gC 57 (LR h13) ?_;exact lf h;refine iB 62 h (fun h=>?_) fun h=>?_;refine iB 64 h (fun h=>?_) fun h=>?_;refine iB 67 h (fun h=>?_) fun h=>?_;obtain⟨r5,h17,h⟩:=bS h;refine gC 71 (LR h17) ?_;exact lf h;obtain⟨r6,h18,h⟩:=bS h;refine gC 71 (LR h18) ?_;exact lf h;refine iB 75 h (fun h=>?_) fun h=>?_;refine iB 78 h (fun h=>?_) fun h=>?_;obtain⟨r7,h21,h⟩:=bS h;refine gC 82 (LR h21) ?_;exact lf h;obtain⟨r8,h22,h⟩:=bS h;refine gC 82 (LR h22) ?_;exact lf h;exact lf h;refine iB 87 h (fun h=>?_) fun h=>?_;obtain⟨r9,h24,h⟩:=bS h;refine gC 90 (aF6 h24) ?_;obtain⟨r10,h25,h⟩:=bS h;refine gC 91 (LR h25) ?_;exact lf h;refine iB 95 h (fun h=>?_) fun h=>?_;obtain⟨r11,h27,h⟩:=bS h;refine gC 98 (aF6 h27) ?_;obtain⟨r12,h28,h⟩:=bS h;refine gC 100 (LR h28) ?_;exact lf h;refine iB 106 h (fun h=>?_) fun h=>?_;refine iB 110 h (fun h=>?_) fun h=>?_;refine iB 113 h (fun h=>?_) fun h=>?_;obtain⟨r13,h32,h⟩:=bS h;refine gC 119 (aWr h32) ?_;exact lf h;refine iB 125 h (fun h=>?_) fun h=>?_;refine iB 128 h (fun h=>?_) fun h=>?_;refine gG 131 (.int (aI.str.length:Int)) (CZ aI.str)<|gG 134 (.int (aQ.str.length:Int)) (CZ aQ.str) ?_;refine iB 136 h (fun h=>?_) fun h=>?_;exact lf h;refine gW 142 (.str (aI.str++aQ.str)) ?_;obtain⟨h36,h⟩:=cS h;refine gQ (KK h36) ?_;exact lf h;exact lf h;exact lf h;refine iB 125 h (fun h=>?_) fun h=>?_;refine iB 128 h (fun h=>?_) fun h=>?_;refine gG 131 (.int (aI.str.length:Int)) (CZ aI.str)<|gG 134 (.int (aQ.str.length:Int)) (CZ aQ.str) ?_;refine iB 136 h (fun h=>?_) fun h=>?_;exact lf h;refine gW 142 (.str (aI.str++aQ.str)) ?_;obtain⟨h40,h⟩:=cS h;refine gQ (KK h40) ?_;exact lf h;exact lf h;exact lf h;refine iB 125 h (fun h=>?_) fun h=>?_;refine iB 128 h (fun h=>?_) fun h=>?_;refine gG 131 (.int (aI.str.length:Int)) (CZ aI.str)<|gG 134 (.int (aQ.str.length:Int)) (CZ aQ.str) ?_;refine iB 136 h (fun h=>?_) fun h=>?_;exact lf h;refine gW 142 (.str (aI.str++aQ.str)) ?_;obtain⟨h44,h⟩:=cS h;refine gQ (KK h44) ?_;exact lf h;exact lf h;exact lf h
theorem aWw(h:Qh a8 aA aN=some aR):AM Tryz.prog 165 [dI a8,dI aA,dI aN] [] (dI aR) []:=by unfold Qh at h;apply g0 (o:=aR);refine iB 11 h (fun h=>?_) fun h=>?_;exact lf h;refine iB 15 h (fun h=>?_) fun h=>?_;exact lf h;obtain⟨r1,h3,h⟩:=bS h;refine gC 22 (Rx h3) ?_;refine iB 26 h (fun h=>?_) fun h=>?_;exact lf h;refine iB 28 h (fun h=>?_) fun h=>?_;exact lf h;exact lf h
theorem aTo(self:AD->Int->Option (Int×Int×Int))(hs:∀(a0:AD) (a1:Int) (r:Int×Int×Int),self a0 a1=some r->AM Tryz.prog 142 [.d (AD.D a0),dI a1] [] (.tup [dI r.1,dI r.2.1,dI r.2.2]) [])(a0:AD)(a1:Int)(r:Int×Int×Int)(h:ZX self a0 a1=some r):AM Tryz.prog 142 [.d (AD.D a0),dI a1] [] (.tup [dI r.1,dI r.2.1,dI r.2.2]) []:=by unfold ZX at h;apply g0 (o:=r);refine iB 17 h (fun h=>?_) fun h=>?_;exact lf h;refine gN 21 Yp.D a0.nodes ?_;refine iB 23 h (fun h=>?_) fun h=>?_;exact lf h;refine xX 27 Yp.D h fun x1 h=>?_;refine iB 32 h (fun h=>?_) fun h=>?_;refine iB 36 h (fun h=>?_) fun h=>?_;exact lf h;refine iB 41 h (fun h=>?_) fun h=>?_;exact lf h;obtain⟨r2,h7,h⟩:=bS h;refine gC 44 (SU h7) ?_;refine iB 46 h (fun h=>?_) fun h=>?_;exact lf h;exact lf h;refine iB 54 h (fun h=>?_) fun h=>?_;exact lf h;refine iB 57 h (fun h=>?_) fun h=>?_;refine iB 61 h (fun h=>?_) fun h=>?_;exact lf h;refine gN 66 Yg.D a0.quants ?_;refine iB 69 h (fun h=>?_) fun h=>?_;exact lf h;refine iB 73 h (fun h=>?_) fun h=>?_;exact lf h;refine xX 78 Yg.D h fun x3 h=>?_;exact lf h;refine iB 84 h (fun h=>?_) fun h=>?_;refine iB 88 h (fun h=>?_) fun h=>?_;exact lf h;refine gN 93 Yh.D a0.frees ?_;refine iB 96 h (fun h=>?_) fun h=>?_;exact lf h;refine iB 100 h (fun h=>?_) fun h=>?_;exact lf h;refine xX 105 Yh.D h fun x4 h=>?_;exact lf h;refine iB 113 h (fun h=>?_) fun h=>?_;exact lf h;refine iB 117 h (fun h=>?_) fun h=>?_;exact lf h;obtain⟨r5,h22,h⟩:=bS h;refine gG 122 (.ret (.tup [dI r5.1,dI r5.2.1,dI r5.2.2])) (hs a0 (AA .sub .i64 a1 1) r5 h22) ?_;refine iB 128 h (fun h=>?_) fun h=>?_;refine iB 131 h (fun h=>?_) fun h=>?_;exact lf h;refine iB 138 h (fun h=>?_) fun h=>?_;exact lf h;refine iB 142 h (fun h=>?_) fun h=>?_;exact lf h;obtain⟨r6,h27,h⟩:=bS h;refine gC 147 (aWw h27) ?_;exact lf h;refine iB 153 h (fun h=>?_) fun h=>?_;exact lf h;refine iB 160 h (fun h=>?_) fun h=>?_;exact lf h;refine iB 166 h (fun h=>?_) fun h=>?_;exact lf h;obtain⟨r7,h31,h⟩:=bS h;refine gG 171 (.ret (.tup [dI r7.1,dI r7.2.1,dI r7.2.2])) (hs a0 (AA .sub .i64 r5.2.2 1) r7 h31)<|gW 182 (.int (aZk r5.2.1 r7.2.1)) ?_;obtain⟨r8,h32,h⟩:=bS h;refine gC 179 (aWw h32)<|gQ (rfl:aZk r5.2.1 r7.2.1=aZk r5.2.1 r7.2.1) ?_;exact lf h
theorem ZZ:∀(n:Nat) (a0:AD) (a1:Int) (r:Int×Int×Int),ZY n a0 a1=some r->AM Tryz.prog 142 [.d (AD.D a0),dI a1] [] (.tup [dI r.1,dI r.2.1,dI r.2.2]) []
 |0,a0,a1,r,h=>by simp[ZY]at h
 |n+1,a0,a1,r,h=>aTo _ (ZZ n) a0 a1 r h
theorem bCf(h:Yu a7 a8=some aM):AM Tryz.prog 142 [.d (AD.D a7),dI a8] [] (.tup [dI aM.1,dI aM.2.1,dI aM.2.2]) []:=ZZ 100000 a7 a8 aM h
theorem aWx(h:Qi a7 a8 aA=some aH):AM Tryz.prog 111 [.d (AD.D a7),dI a8,dI aA] [] (.tup [dI aH.1,dI aH.2]) []:=by unfold Qi at h;apply g0 (o:=aH);obtain⟨r1,h1,h⟩:=bS h;refine gC 14 (bCf h1) ?_;refine iB 20 h (fun h=>?_) fun h=>?_;exact lf h;refine iB 24 h (fun h=>?_) fun h=>?_;exact lf h;exact lf h
def aA1(s1:Int)(w2:X5)(s5:Int):St:=⟨sp 30 0 [sI 1 s1,bx 2,sI 5 s5],[cL 2 X5.D w2],[]⟩
def aA2(s1:Int)(w2:X5)(o:Unit⊕Unit):Ex×St:=match o with
 | .inl o=>(.exit 0,⟨sp 30 0 [],[],[]⟩)
 | .inr o=>(.ret,⟨sp 30 0 [sD 4 D.b true],[],[]⟩)
theorem aNj(rd:Option Nat)(h:aTs a8 aS aA=some a9):Lq 115 rd 26 (aA1 a8 aS aA) ((aA2 a8 aS) a9):=
 lL (fun s:Int=>aA1 a8 aS s) (aA2 a8 aS) aA (fun aA o h=>by
 unfold JK at h
 refine gN 9 CN.D aS.args ?_
 refine iB 10 h (fun h=>?_) fun h=>?_
 refine xX 16 CN.D h fun x1 h=>?_
 refine iB 20 h (fun h=>?_) fun h=>?_
 refine xX 24 CN.D h fun x2 h=>?_
 refine iB 29 h (fun h=>?_) fun h=>?_
 exact lb h
 exact lb h
 exact lb h
 exact lb h) h
theorem aX5(h:Z7 aS a8=some aD):AM Tryz.prog 115 [.d (X5.D aS),dI a8] [] (.d (D.b aD)) []:=by
 unfold Z7 at h;apply g0 (o:=aD);obtain⟨o3,h6,h⟩:=bS h;refine gl (aNj none h6) ?_;replace h:=AJ h;rcases h with⟨o4,rfl,h⟩|⟨o5,rfl,h⟩
 exact lf h;exact lf h
def aBv(s3:Int)(w4:AD)(w5:X5)(s9:Int):St:=⟨sp 34 0 [sI 3 s3,bx 4,bx 5,sI 9 s9],[cL 4 AD.D w4,cL 5 X5.D w5],[]⟩
def aBw(s3:Int)(w4:AD)(w5:X5)(o:Unit⊕Unit):Ex×St:=match o with
 | .inl o=>(.exit 0,⟨sp 34 0 [],[],[]⟩)
 | .inr o=>(.ret,⟨sp 34 0 [sD 8 D.b false],[],[]⟩)
theorem aN2(rd:Option Nat)(h:aT4 a8 a7 aS aA=some a9):Lq 112 rd 26 (aBv a8 a7 aS aA) ((aBw a8 a7 aS) a9):=
 lL (fun s:Int=>aBv a8 a7 aS s) (aBw a8 a7 aS) aA (fun aA o h=>by
 unfold JV at h
 refine iB 13 h (fun h=>?_) fun h=>?_
 refine xX 19 Yp.D h fun x1 h=>?_
 refine iB 23 h (fun h=>?_) fun h=>?_
 refine xX 28 Yp.D h fun x2 h=>?_
 obtain⟨r3,h5,h⟩:=bS h
 refine gC 31 (aX5 h5) ?_
 refine iB 33 h (fun h=>?_) fun h=>?_
 exact lb h
 exact lb h
 exact lb h
 exact lb h) h
theorem bC6(h:Zn a7 aS a8 aA=some aD):AM Tryz.prog 112 [.d (AD.D a7),.d (X5.D aS),dI a8,dI aA] [] (.d (D.b aD)) []:=by
 unfold Zn at h;apply g0 (o:=aD);obtain⟨o4,h7,h⟩:=bS h;refine gl (aN2 none h7) ?_;replace h:=AJ h;rcases h with⟨o5,rfl,h⟩|⟨o6,rfl,h⟩
 exact lf h;exact lf h
theorem aIz(rd:Option Nat)(h:SC a8 aA aD a7 aT=some aU):Lq 79 rd 61 ⟨sp 153 0 [sI 2 a8,bx 3,bx 4,sI 8 aA,sD 56 D.b aD],[cL 3 AD.D a7,cL 4 X6.D aT],[]⟩ (match (generalizing:=false) aU with
 | .inl aU=>(.normal,⟨sp 153 0 [sI 2 a8,bx 3,bx 4,sI 8 aU],[cL 3 AD.D a7,cL 4 X6.D aT],[]⟩)
 | .inr aU=>(.ret,⟨sp 153 0 [sI 6 0,sD 7 D.b false],[],[]⟩)):=by
 unfold SC at h
 apply g0 (o:=aU)
 cases aD
 replace h:=Bj h
 exact lp h
 replace h:=Bl h
 obtain⟨r1,h8,h⟩:=bS h
 refine gC 62 (aWx h8) ?_
 refine iB 67 h (fun h=>?_) fun h=>?_
 exact lp h
 refine iB 70 h (fun h=>?_) fun h=>?_
 exact lp h
 exact lp h
def WO(s2 s11:Int)(w3:AD)(w4:X6)(w12:Es)(s15:Int):St:=⟨sp 153 0 [sI 2 s2,bx 3,bx 4,sI 11 s11,bx 12,sI 15 s15],[cL 3 AD.D w3,cL 4 X6.D w4,cL 12 Es.D w12],[]⟩
def WP(s2 s11:Int)(w3:AD)(w4:X6)(w12:Es)(o:Unit⊕Unit):Ex×St:=match o with
 | .inl o=>(.exit 2,⟨sp 153 0 [sI 2 s2,bx 3,bx 4,sI 11 s11,bx 12],[cL 3 AD.D w3,cL 4 X6.D w4,cL 12 Es.D w12],[]⟩)
 | .inr o=>(.ret,⟨sp 153 0 [sI 6 0,sD 7 D.b false],[],[]⟩)
theorem aI2(rd:Option Nat)(h:aSp a8 aA a7 aT aV aN=some a9):Lq 79 rd 256314 (WO a8 aA a7 aT aV aN) ((WP a8 aA a7 aT aV) a9):=
 lL (fun s:Int=>WO a8 aA a7 aT aV s) (WP a8 aA a7 aT aV) aN (fun aN o h=>by
 unfold Io at h
 refine iB 127 h (fun h=>?_) fun h=>?_
 refine xX 133 Es.D h fun x8 h=>?_
 refine iB 138 h (fun h=>?_) fun h=>?_
 exact lb h
 exact lb h
 exact lb h) h
def WM(s2:Int)(w3:AD)(w4:X6)(s8 s11:Int):St:=⟨sp 153 0 [sI 2 s2,bx 3,bx 4,sI 8 s8,sI 11 s11],[cL 3 AD.D w3,cL 4 X6.D w4],[]⟩
def WN(s2:Int)(w3:AD)(w4:X6)(o:Int⊕Unit):Ex×St:=match o with
 | .inl o=>(.exit 0,⟨sp 153 0 [sI 2 s2,bx 3,bx 4,sI 8 o],[cL 3 AD.D w3,cL 4 X6.D w4],[]⟩)
 | .inr o=>(.ret,⟨sp 153 0 [sI 6 0,sD 7 D.b false],[],[]⟩)
theorem aI1(rd:Option Nat)(h:SD a8 a7 aT aA aN=some aU):Lq 79 rd 250 (WM a8 a7 aT aA aN) ((WN a8 a7 aT) aU):=
 lL (fun s:Int×Int=>WM a8 a7 aT s.1 s.2) (WN a8 a7 aT) (aA,aN) (fun⟨aA,aN⟩ o h=>by
 unfold EH at h
 refine gN 77 Es.D aT.sets ?_
 refine iB 78 h (fun h=>?_) fun h=>?_
 refine xX 84 Es.D h fun x5 h=>?_
 obtain⟨r6,h14,h⟩:=bS h
 refine gC 91 (aWx h14) ?_
 refine iB 97 h (fun h=>?_) fun h=>?_
 exact lb h
 refine gN 102 Yh.D a7.frees ?_
 refine iB 105 h (fun h=>?_) fun h=>?_
 exact lb h
 refine iB 109 h (fun h=>?_) fun h=>?_
 exact lb h
 refine iB 113 h (fun h=>?_) fun h=>?_
 exact lb h
 refine xX 119 Yh.D h fun x7 h=>?_
 refine iB 124 h (fun h=>?_) fun h=>?_
 exact lb h
 obtain⟨o9,h24,h⟩:=bS h
 refine gl (aI2 rd h24) ?_
 replace h:=AJ h
 rcases h with⟨o10,rfl,h⟩|⟨o11,rfl,h⟩
 exact lb h
 exact lb h
 exact lb h) h
theorem bBh(h:Xn a7 aT a8=some aL):AM Tryz.prog 79 [.d (AD.D a7),.d (X6.D aT),dI a8] [] (.tup [dI aL.1,.d (D.b aL.2)]) []:=by
 unfold Xn at h;apply g0 (o:=aL);refine iB 19 h (fun h=>?_) fun h=>?_;exact lf h;refine gN 24 Xc.D a7.states ?_;refine iB 27 h (fun h=>?_) fun h=>?_;exact lf h;refine iB 32 h (fun h=>?_) fun h=>?_;exact lf h;refine gN 37 Xc.D a7.states ?_;refine iB 40 h (fun h=>?_) fun h=>?_;exact lf h;refine iB 45 h (fun h=>?_) fun h=>?_;exact lf h;refine gN 50 X5.D a7.symbols ?_;refine iB 52 h (fun h=>?_) fun h=>?_;exact lf h;obtain⟨o2,h11,h⟩:=bS h;refine gl (aIz none h11) ?_;replace h:=AJ h;rcases h with⟨o3,rfl,h⟩|⟨o4,rfl,h⟩
 obtain⟨o12,h25,h⟩:=bS h;refine gl (aI1 none h25) ?_;replace h:=AJ h;rcases h with⟨o13,rfl,h⟩|⟨o14,rfl,h⟩
 refine xX 148 X5.D h fun x15 h=>?_;obtain⟨r16,h27,h⟩:=bS h;refine gC 152 (bC6 h27) ?_;exact lf h;exact lf h;exact lf h
theorem aZz(h:Qx a7 aW a8=some aD):AM Tryz.prog 143 [.d (AD.D a7),.d (CN.D aW),dI a8] [] (.d (D.b aD)) []:=by unfold Qx at h;apply g0 (o:=aD);refine iB 11 h (fun h=>?_) fun h=>?_;refine iB 15 h (fun h=>?_) fun h=>?_;obtain⟨r1,h3,h⟩:=bS h;refine gQ (SU h3) ?_;cases r1;replace h:=Bj h;refine gW 18 (.ret (.d (D.b false))) ?_;exact lf h;replace h:=Bl h;refine gW 18 (.ret (.d (D.b true))) ?_;exact lf h;exact lf h;refine iB 30 h (fun h=>?_) fun h=>?_;exact lf h;refine iB 33 h (fun h=>?_) fun h=>?_;refine iB 37 h (fun h=>?_) fun h=>?_;refine gN 42 Yg.D a7.quants ?_;refine iB 45 h (fun h=>?_) fun h=>?_;refine xX 50 Yg.D h fun x2 h=>?_;exact lf h;exact lf h;exact lf h;refine iB 58 h (fun h=>?_) fun h=>?_;refine iB 62 h (fun h=>?_) fun h=>?_;refine gN 67 Yh.D a7.frees ?_;refine iB 70 h (fun h=>?_) fun h=>?_;refine xX 75 Yh.D h fun x3 h=>?_;exact lf h;exact lf h;exact lf h;refine iB 85 h (fun h=>?_) fun h=>?_;exact lf h;exact lf h
def aBl(w2:AD)(w3:X5)(s5:Int):St:=⟨sp 56 0 [bx 2,bx 3,sI 5 s5],[cL 2 AD.D w2,cL 3 X5.D w3],[]⟩
def aBm(w2:AD)(w3:X5)(o:Unit⊕Unit):Ex×St:=match o with
 | .inl o=>(.exit 0,⟨sp 56 0 [],[],[]⟩)
 | .inr o=>(.ret,⟨sp 56 0 [sD 4 D.b false],[],[]⟩)
theorem aNx(rd:Option Nat)(h:aYd a7 aS a8=some a9):Lq 113 rd 58 (aBl a7 aS a8) ((aBm a7 aS) a9):=
 lL (fun s:Int=>aBl a7 aS s) (aBm a7 aS) a8 (fun a8 o h=>by
 unfold JT at h
 refine gN 34 CN.D aS.args ?_
 refine iB 35 h (fun h=>?_) fun h=>?_
 refine xX 42 CN.D h fun x2 h=>?_
 refine xX 48 Xf.D h fun x3 h=>?_
 refine xX 52 dZ h fun x4 h=>?_
 obtain⟨r5,h9,h⟩:=bS h
 refine gC 54 (aZz h9) ?_
 refine iB 55 h (fun h=>?_) fun h=>?_
 exact lb h
 exact lb h
 exact lb h) h
theorem bCy(h:Zi a7 aS=some aD):AM Tryz.prog 113 [.d (AD.D a7),.d (X5.D aS)] [] (.d (D.b aD)) []:=by
 unfold Zi at h;apply g0 (o:=aD);refine iB 9 h (fun h=>?_) fun h=>?_;exact lf h;refine gN 14 Xf.D a7.decls ?_;refine iB 17 h (fun h=>?_) fun h=>?_;exact lf h;refine gN 20 CN.D aS.args<|xX 25 Xf.D h fun x1 h=>?_;refine gN 28 dZ x1.types ?_;refine iB 30 h (fun h=>?_) fun h=>?_;exact lf h;obtain⟨o6,h11,h⟩:=bS h;refine gl (aNx none h11) ?_;replace h:=AJ h;rcases h with⟨o7,rfl,h⟩|⟨o8,rfl,h⟩
 exact lf h;exact lf h
def aCe(w2 w3:X5)(s5:Int):St:=⟨sp 38 0 [bx 2,bx 3,sI 5 s5],[cL 2 X5.D w2,cL 3 X5.D w3],[]⟩
def aCf(w2 w3:X5)(o:Unit⊕Unit):Ex×St:=match o with
 | .inl o=>(.exit 0,⟨sp 38 0 [],[],[]⟩)
 | .inr o=>(.ret,⟨sp 38 0 [sD 4 D.b false],[],[]⟩)
theorem aOd(rd:Option Nat)(h:aYg aS aX a8=some a9):Lq 114 rd 58 (aCe aS aX a8) ((aCf aS aX) a9):=
 lL (fun s:Int=>aCe aS aX s) (aCf aS aX) a8 (fun a8 o h=>by
 unfold Je at h
 refine gN 23 CN.D aS.args ?_
 refine iB 24 h (fun h=>?_) fun h=>?_
 refine xX 30 CN.D h fun x1 h=>?_
 refine xX 35 CN.D h fun x2 h=>?_
 refine iB 37 h (fun h=>?_) fun h=>?_
 exact lb h
 exact lb h
 exact lb h) h
theorem bDf(h:Zx aS aX=some aD):AM Tryz.prog 114 [.d (X5.D aS),.d (X5.D aX)] [] (.d (D.b aD)) []:=by
 unfold Zx at h;apply g0 (o:=aD);refine iB 11 h (fun h=>?_) fun h=>?_;exact lf h;refine gN 14 CN.D aS.args<|gN 17 CN.D aX.args ?_;refine iB 19 h (fun h=>?_) fun h=>?_;exact lf h;obtain⟨o3,h7,h⟩:=bS h;refine gl (aOd none h7) ?_;replace h:=AJ h;rcases h with⟨o4,rfl,h⟩|⟨o5,rfl,h⟩
 exact lf h;exact lf h
theorem aHf(rd:Option Nat)(h:Uw a8 aA aD a7 aY aZ=some b6):Lq 80 rd 15653 ⟨sp 118 0 [bx 1,rx 3,rx 4,sI 5 a8,sI 6 aA,sD 34 D.b aD],[cL 1 AD.D a7,(3,.buf true 4 1 (aY.map D.b)),(4,.row 3 1 (aZ.map dZ))],[]⟩ (.normal,⟨sp 118 0 [bx 1,rx 3,rx 4,sI 5 a8,sI 6 aA],[cL 1 AD.D a7,(3,.buf true 4 1 (aY.map D.b)),(4,.row 3 1 (b6.map dZ))],[]⟩):=by unfold Uw at h;apply g0 (o:=b6);cases aD;replace h:=Bj h;exact lp h;replace h:=Bl h;refine gQ (Ag dZ [aA])<|gG 38 (.sl ((aZ++[aA]).map dZ)) (Ag dZ [aA]) ?_;obtain⟨h17,h⟩:=cS h;refine gQ (Ak dZ h17)<|gQ (Ai dZ aZ [aA]) ?_;exact lP h [.live [1,3,4,5,6],.keep [1,3,38],.ren 38 4,.sort]
theorem aHe(rd:Option Nat)(h:aHd a8 a7 aY aZ=some b7):Lq 80 rd 978 ⟨sp 118 0 [bx 1,rx 3,rx 4,sI 5 a8],[cL 1 AD.D a7,(3,.buf true 4 1 (aY.map D.b)),(4,.row 3 1 (aZ.map dZ))],[]⟩ (.normal,⟨sp 118 0 [bx 1,rx 3,rx 4,sI 5 a8],[cL 1 AD.D a7,(3,.buf true 4 1 (b7.1.map D.b)),(4,.row 3 1 (b7.2.map dZ))],[]⟩):=by unfold aHd at h;apply g0 (o:=b7);refine xX 27 X6.D h fun x5 h=>?_;refine gW 10041 (.sl ((aY.set x5.symbol.toNat true).map D.b)) ?_;obtain⟨h14,h⟩:=cS h;refine gQ h14.1<|gQ (AI D.b h14.2) ?_;obtain⟨x6,h15,h⟩:=xS h;refine gG 33 (.el (D.b x6)) (AK D.b h15) ?_;obtain⟨o7,h18,h⟩:=bS h;refine gl (aHf rd h18) ?_;obtain⟨h19,h⟩:=cS h;refine gQ h19.1<|gQ (AI D.b h19.2) ?_;obtain⟨h20,h⟩:=cS h;refine gQ (A0 D.b h20)<|gQ (AV D.b aY x5.symbol true) ?_;exact lp h
def Uz(w1:AD)(s5:Int)(w3:List Bool)(w4:List Int):St:=⟨sp 118 0 [bx 1,rx 3,rx 4,sI 5 s5],[cL 1 AD.D w1,(3,.buf true 4 1 (w3.map D.b)),(4,.row 3 1 (w4.map dZ))],[]⟩
def VA(w1:AD)(o:(List Int)):Ex×St:=(.exit 0,⟨sp 118 0 [bx 1,rx 4],[cL 1 AD.D w1,(4,.row 3 1 (o.map dZ))],[]⟩)
theorem aHg(rd:Option Nat)(h:aXb a7 a8 aY aZ=some b6):Lq 80 rd 122 (Uz a7 a8 aY aZ) ((VA a7) b6):=
 lL (fun s:Int×List Bool×List Int=>Uz a7 s.1 s.2.1 s.2.2) (VA a7) (a8,aY,aZ) (fun⟨a8,aY,aZ⟩ o h=>by
 unfold IT at h
 refine gN 20 X6.D a7.trans ?_
 refine iB 21 h (fun h=>?_) fun h=>?_
 obtain⟨o8,h21,h⟩:=bS h
 refine gl (aHe rd h21) ?_
 exact lb h
 exact lb h) h
def VB(w1:AD)(w4:List Int)(s7:Int):St:=⟨sp 118 0 [bx 1,rx 4,sI 7 s7],[cL 1 AD.D w1,(4,.row 3 1 (w4.map dZ))],[]⟩
def VC(w1:AD)(w4:List Int)(o:Unit⊕Unit):Ex×St:=match o with
 | .inl o=>(.exit 2,⟨sp 118 0 [bx 1],[cL 1 AD.D w1],[]⟩)
 | .inr o=>(.ret,⟨sp 118 0 [sD 2 D.b false],[],[]⟩)
theorem aHh(rd:Option Nat)(h:aXc a7 aZ a8=some a9):Lq 80 rd 250 (VB a7 aZ a8) ((VC a7 aZ) a9):=
 lL (fun s:Int=>VB a7 aZ s) (VC a7 aZ) a8 (fun a8 o h=>by
 unfold IU at h
 refine gN 44 dZ aZ ?_
 refine iB 45 h (fun h=>?_) fun h=>?_
 refine gW 54 (.int (a7.symbols.length:Int))<|gW 56 (.int (aZ.length:Int))<|xX 50 dZ h fun x10 h=>?_
 refine gQ (EN X5.D a7.symbols)<|gQ (EN dZ aZ) ?_
 refine iB 60 h (fun h=>?_) fun h=>?_
 exact lb h
 exact lb h
 exact lb h) h
def VF(s8:Int)(w1:AD)(s9:Int):St:=⟨sp 118 0 [bx 1,sI 8 s8,sI 9 s9],[cL 1 AD.D w1],[]⟩
def VG(s8:Int)(w1:AD)(o:Unit⊕Unit):Ex×St:=match o with
 | .inl o=>(.exit 6,⟨sp 118 0 [bx 1,sI 8 s8],[cL 1 AD.D w1],[]⟩)
 | .inr o=>(.ret,⟨sp 118 0 [sD 2 D.b false],[],[]⟩)
theorem aHj(rd:Option Nat)(h:aSc a8 a7 aA=some a9):Lq 80 rd 64806 (VF a8 a7 aA) ((VG a8 a7) a9):=
 lL (fun s:Int=>VF a8 a7 s) (VG a8 a7) aA (fun aA o h=>by
 unfold IW at h
 refine iB 78 h (fun h=>?_) fun h=>?_
 refine xX 84 X5.D h fun x16 h=>?_
 refine xX 89 X5.D h fun x17 h=>?_
 obtain⟨r18,h34,h⟩:=bS h
 refine gQ (bDf h34) ?_
 cases r18
 replace h:=Bj h
 refine gW 91 (.ret (.d (D.b false))) ?_
 exact lb h
 replace h:=Bl h
 refine gW 91 (.ret (.d (D.b true))) ?_
 exact lb h
 exact lb h) h
def VD(w1:AD)(s8:Int):St:=⟨sp 118 0 [bx 1,sI 8 s8],[cL 1 AD.D w1],[]⟩
def VE(w1:AD)(o:Unit⊕Unit):Ex×St:=match o with
 | .inl o=>(.exit 4,⟨sp 118 0 [bx 1],[cL 1 AD.D w1],[]⟩)
 | .inr o=>(.ret,⟨sp 118 0 [sD 2 D.b false],[],[]⟩)
theorem aHi(rd:Option Nat)(h:aXd a7 a8=some a9):Lq 80 rd 506 (VD a7 a8) ((VE a7) a9):=
 lL (fun s:Int=>VD a7 s) (VE a7) a8 (fun a8 o h=>by
 unfold IV at h
 refine gN 64 X5.D a7.symbols ?_
 refine iB 65 h (fun h=>?_) fun h=>?_
 refine xX 72 X5.D h fun x14 h=>?_
 obtain⟨r15,h29,h⟩:=bS h
 refine gC 74 (bCy h29) ?_
 refine iB 75 h (fun h=>?_) fun h=>?_
 exact lb h
 obtain⟨o19,h36,h⟩:=bS h
 refine gl (aHj rd h36) ?_
 replace h:=AJ h
 rcases h with⟨o20,rfl,h⟩|⟨o21,rfl,h⟩
 exact lb h
 exact lb h
 exact lb h) h
def Pq(s10:Int)(w1:AD)(s11:Bool)(s12:Int):St:=⟨sp 118 0 [bx 1,sI 10 s10,sD 11 D.b s11,sI 12 s12],[cL 1 AD.D w1],[]⟩
def Pr(s10:Int)(w1:AD)(o:Bool):Ex×St:=(.exit 10,⟨sp 118 0 [bx 1,sI 10 s10,sD 11 D.b o],[cL 1 AD.D w1],[]⟩)
theorem Uy(rd:Option Nat)(h:Ux a8 a7 aD aA=some b8):Lq 80 rd 260682 (Pq a8 a7 aD aA) ((Pr a8 a7) b8):=
 lL (fun s:Bool×Int=>Pq a8 a7 s.1 s.2) (Pr a8 a7) (aD,aA) (fun⟨aD,aA⟩ o h=>by
 unfold FX at h
 refine gN 102 X5.D a7.symbols ?_
 refine iB 103 h (fun h=>?_) fun h=>?_
 refine iB 107 h (fun h=>?_) fun h=>?_
 exact lb h
 refine xX 111 X5.D h fun x25 h=>?_
 obtain⟨r26,h42,h⟩:=bS h
 refine gC 114 (aX5 h42) ?_
 exact lb h
 exact lb h) h
def VH(w1:AD)(s10:Int):St:=⟨sp 118 0 [bx 1,sI 10 s10],[cL 1 AD.D w1],[]⟩
def VI(w1:AD)(o:Unit⊕Unit):Ex×St:=match o with
 | .inl o=>(.exit 8,⟨sp 118 0 [],[],[]⟩)
 | .inr o=>(.ret,⟨sp 118 0 [sD 2 D.b false],[],[]⟩)
theorem aHk(rd:Option Nat)(h:aXe a7 a8=some a9):Lq 80 rd 1018 (VH a7 a8) ((VI a7) a9):=
 lL (fun s:Int=>VH a7 s) (VI a7) a8 (fun a8 o h=>by
 unfold IX at h
 refine gN 95 Yg.D a7.quants ?_
 refine iB 96 h (fun h=>?_) fun h=>?_
 obtain⟨o27,h43,h⟩:=bS h
 refine gl (Uy rd h43) ?_
 refine iB 117 h (fun h=>?_) fun h=>?_
 exact lb h
 exact lb h
 exact lb h) h
theorem bA5(h:Xb a7=some aD):AM Tryz.prog 80 [.d (AD.D a7)] [] (.d (D.b aD)) []:=by
 unfold Xb at h;apply g0 (o:=aD);refine gN 15 X5.D a7.symbols<|gW 16 (.sl ((List.replicate (a7.symbols.length:Int).toNat false).map D.b)) ?_;obtain⟨h1,h⟩:=cS h;refine gQ h1.1<|gQ (Int.le_refl (a7.symbols.length:Int))<|gQ (Int.le_refl (a7.symbols.length:Int))<|gQ (aQ5 D.b false h1.2)<|gQ (aQ4 D.b (a7.symbols.length:Int) false) ?_;obtain⟨o9,h22,h⟩:=bS h;refine gL [.live [1,3,4,5],.keep [1,16],.ren 16 3,.nil 4 4 3 1,.sort] (aHg none h22) ?_;obtain⟨o11,h26,h⟩:=bS h;refine gl (aHh none h26) ?_;replace h:=AJ h;rcases h with⟨o12,rfl,h⟩|⟨o13,rfl,h⟩
 obtain⟨o22,h37,h⟩:=bS h;refine gl (aHi none h37) ?_;replace h:=AJ h;rcases h with⟨o23,rfl,h⟩|⟨o24,rfl,h⟩
 obtain⟨o28,h45,h⟩:=bS h;refine gl (aHk none h45) ?_;replace h:=AJ h;rcases h with⟨o29,rfl,h⟩|⟨o30,rfl,h⟩
 exact lf h;exact lf h;exact lf h;exact lf h
def aAg(w1:AD)(s5 s6:Int):St:=⟨sp 101 0 [bx 1,sI 5 s5,sI 6 s6],[cL 1 AD.D w1],[]⟩
def aAh(w1:AD)(o:Int⊕Unit):Ex×St:=match o with
 | .inl o=>(.exit 0,⟨sp 101 0 [bx 1,sI 5 o],[cL 1 AD.D w1],[]⟩)
 | .inr o=>(.ret,⟨sp 101 0 [sD 2 D.b false],[],[]⟩)
theorem aM4(rd:Option Nat)(h:aX0 a7 a8 aA=some aU):Lq 44 rd 250 (aAg a7 a8 aA) ((aAh a7) aU):=
 lL (fun s:Int×Int=>aAg a7 s.1 s.2) (aAh a7) (a8,aA) (fun⟨a8,aA⟩ o h=>by
 unfold JH at h
 refine gN 74 X6.D a7.trans ?_
 refine iB 75 h (fun h=>?_) fun h=>?_
 refine xX 83 X6.D h fun x3 h=>?_
 obtain⟨r4,h15,h⟩:=bS h
 refine gC 86 (bBh h15) ?_
 refine iB 90 h (fun h=>?_) fun h=>?_
 exact lb h
 exact lb h
 exact lb h) h
theorem bCj(h:Yx a7=some aD):AM Tryz.prog 44 [.d (AD.D a7)] [] (.d (D.b aD)) []:=by
 unfold Yx at h;apply g0 (o:=aD);obtain⟨r1,h1,h⟩:=bS h;refine gC 12 (bB1 h1) ?_;refine iB 17 h (fun h=>?_) fun h=>?_;exact lf h;refine gN 20 Yg.D a7.quants ?_;refine iB 23 h (fun h=>?_) fun h=>?_;exact lf h;refine gN 26 Yh.D a7.frees ?_;refine iB 29 h (fun h=>?_) fun h=>?_;exact lf h;refine gN 32 Xc.D a7.states ?_;refine iB 35 h (fun h=>?_) fun h=>?_;exact lf h;refine gN 38 X5.D a7.symbols ?_;refine iB 41 h (fun h=>?_) fun h=>?_;exact lf h;refine gN 44 Yp.D a7.nodes ?_;refine iB 47 h (fun h=>?_) fun h=>?_;exact lf h;refine gN 50 X6.D a7.trans ?_;refine iB 53 h (fun h=>?_) fun h=>?_;exact lf h;refine iB 58 h (fun h=>?_) fun h=>?_;exact lf h;refine gN 63 Xc.D a7.states ?_;refine iB 66 h (fun h=>?_) fun h=>?_;exact lf h;obtain⟨r2,h11,h⟩:=bS h;refine gC 68 (bBe h11) ?_;refine iB 70 h (fun h=>?_) fun h=>?_;exact lf h;obtain⟨o5,h17,h⟩:=bS h;refine gl (aM4 none h17) ?_;replace h:=AJ h;rcases h with⟨o6,rfl,h⟩|⟨o7,rfl,h⟩
 refine gN 95 Yp.D a7.nodes ?_;refine iB 97 h (fun h=>?_) fun h=>?_;obtain⟨r8,h19,h⟩:=bS h;refine gC 99 (bA5 h19) ?_;exact lf h;exact lf h;exact lf h
def aBx(w1:AD)(s3:Int):St:=⟨sp 27 0 [bx 1,sI 3 s3],[cL 1 AD.D w1],[]⟩
def aBy(w1:AD)(o:Unit⊕Unit):Ex×St:=match o with
 | .inl o=>(.exit 0,⟨sp 27 0 [],[],[]⟩)
 | .inr o=>(.ret,⟨sp 27 0 [sD 2 D.b false],[],[]⟩)
theorem aN3(rd:Option Nat)(h:aT5 a7 a8=some a9):Lq 14 rd 58 (aBx a7 a8) ((aBy a7) a9):=
 lL (fun s:Int=>aBx a7 s) (aBy a7) a8 (fun a8 o h=>by
 unfold JW at h
 refine gN 15 Xf.D a7.decls ?_
 refine iB 16 h (fun h=>?_) fun h=>?_
 refine xX 22 Xf.D h fun x3 h=>?_
 refine gN 25 dZ x3.types ?_
 refine iB 26 h (fun h=>?_) fun h=>?_
 exact lb h
 exact lb h
 exact lb h) h
theorem bC7(h:Zo a7=some aD):AM Tryz.prog 14 [.d (AD.D a7)] [] (.d (D.b aD)) []:=by
 unfold Zo at h;apply g0 (o:=aD);obtain⟨r1,h1,h⟩:=bS h;refine gC 5 (bA8 h1) ?_;refine iB 7 h (fun h=>?_) fun h=>?_;exact lf h;obtain⟨r2,h3,h⟩:=bS h;refine gC 9 (bCj h3) ?_;refine iB 11 h (fun h=>?_) fun h=>?_;exact lf h;obtain⟨o4,h8,h⟩:=bS h;refine gl (aN3 none h8) ?_;replace h:=AJ h;rcases h with⟨o5,rfl,h⟩|⟨o6,rfl,h⟩
 exact lf h;exact lf h
def aBz(s0:List Int)(s1 s7 s8:Int):St:=⟨sp 19 0 [sD 0 (D.l dZ) s0,sI 1 s1,sI 7 s7,sI 8 s8],[],[]⟩
def aB0(s0:List Int)(s1 s7:Int)(o:Unit⊕Int):Ex×St:=match o with
 | .inl o=>(.exit 0,⟨sp 19 0 [],[],[]⟩)
 | .inr o=>(.ret,⟨sp 19 0 [sI 4 o],[],[]⟩)
theorem aN4(rd:Option Nat)(h:aT6 aZ a8 aA aN=some aF):Lq 117 rd 26 (aBz aZ a8 aA aN) ((aB0 aZ a8 aA) aF):=
 lL (fun s:Int=>aBz aZ a8 aA s) (aB0 aZ a8 aA) aN (fun aN o h=>by
 unfold JX at h
 refine iB 9 h (fun h=>?_) fun h=>?_
 refine xX 14 dZ h fun x1 h=>?_
 refine iB 16 h (fun h=>?_) fun h=>?_
 exact lb h
 exact lb h
 exact lb h) h
theorem bC8(h:Zp aZ a8=some aA):AM Tryz.prog 117 [.d ((D.l dZ) aZ),dI a8] [] (dI aA) []:=by
 unfold Zp at h;apply g0 (o:=aA);refine gN 7 dZ aZ ?_;obtain⟨o2,h4,h⟩:=bS h;refine gl (aN4 none h4) ?_;replace h:=AJ h;rcases h with⟨o3,rfl,h⟩|⟨o4,rfl,h⟩
 exact lf h;exact lf h
theorem bAa(h:U7 aZ a8=some aD):AM Tryz.prog 83 [.d ((D.l dZ) aZ),dI a8] [] (.d (D.b aD)) []:=by unfold U7 at h;apply g0 (o:=aD);obtain⟨r1,h1,h⟩:=bS h;refine gC 7 (bC8 h1) ?_;exact lf h
theorem QA(rd:Option Nat)(h:W7 a8 b9 aA aN aD a7 aZ aT=some b6):Lq 47 rd 477491 ⟨sp 45 0 [bx 2,rx 5,sI 6 a8,bx 8,sD 18 (D.l X6.D) b9,sI 19 aA,sI 20 aN,sD 37 D.b aD],[cL 2 AD.D a7,(5,.row 3 1 (aZ.map dZ)),cL 8 X6.D aT],[]⟩ (.normal,⟨sp 45 0 [bx 2,rx 5,sI 6 a8,sD 18 (D.l X6.D) b9,sI 19 aA,sI 20 aN],[cL 2 AD.D a7,(5,.row 3 1 (b6.map dZ))],[]⟩):=by unfold W7 at h;apply g0 (o:=b6);cases aD;replace h:=Bj h;exact lp h;replace h:=Bl h;refine gQ (Ag dZ [aT.to])<|gG 42 (.sl ((aZ++[aT.to]).map dZ)) (Ag dZ [aT.to]) ?_;obtain⟨h8,h⟩:=cS h;refine gQ (Ak dZ h8)<|gQ (Ai dZ aZ [aT.to]) ?_;exact lP h [.live [2,5,6,18,19,20],.keep [2,42],.ren 42 5,.sort]
theorem aKc(rd:Option Nat)(h:aKb a8 b9 aA aN a7 aZ=some b6):Lq 47 rd 59686 ⟨sp 45 0 [bx 2,rx 5,sI 6 a8,sD 18 (D.l X6.D) b9,sI 19 aA,sI 20 aN],[cL 2 AD.D a7,(5,.row 3 1 (aZ.map dZ))],[]⟩ (.normal,⟨sp 45 0 [bx 2,rx 5,sI 6 a8,sD 18 (D.l X6.D) b9,sI 19 aA,sI 20 aN],[cL 2 AD.D a7,(5,.row 3 1 (b6.map dZ))],[]⟩):=by unfold aKb at h;apply g0 (o:=b6);refine xX 22 X6.D h fun x1 h=>?_;refine xX 28 dZ h fun x2 h=>?_;refine iB 31 h (fun h=>?_) fun h=>?_;obtain⟨r3,h6,h⟩:=bS h;refine gC 35 (bAa h6) ?_;obtain⟨o4,h9,h⟩:=bS h;refine gl (QA rd h9) ?_;exact lp h;obtain⟨o5,h10,h⟩:=bS h;refine gl (QA rd h10) ?_;exact lp h
def XA(s6:Int)(s18:List X6)(s19:Int)(w2:AD)(s20:Int)(w5:List Int):St:=⟨sp 45 0 [bx 2,rx 5,sI 6 s6,sD 18 (D.l X6.D) s18,sI 19 s19,sI 20 s20],[cL 2 AD.D w2,(5,.row 3 1 (w5.map dZ))],[]⟩
def XB(s6:Int)(s18:List X6)(s19:Int)(w2:AD)(o:(List Int)):Ex×St:=(.exit 2,⟨sp 45 0 [bx 2,rx 5,sI 6 s6],[cL 2 AD.D w2,(5,.row 3 1 (o.map dZ))],[]⟩)
theorem aKe(rd:Option Nat)(h:aS3 a8 b9 aA a7 aN aZ=some b6):Lq 47 rd 3730 (XA a8 b9 aA a7 aN aZ) ((XB a8 b9 aA a7) b6):=
 lL (fun s:Int×List Int=>XA a8 b9 aA a7 s.1 s.2) (XB a8 b9 aA a7) (aN,aZ) (fun⟨aN,aZ⟩ o h=>by
 unfold Ix at h
 refine iB 21 h (fun h=>?_) fun h=>?_
 obtain⟨o6,h11,h⟩:=bS h
 refine gl (aKc rd h11) ?_
 exact lb h
 exact lb h) h
def W8(w2:AD)(s6:Int)(w5:List Int):St:=⟨sp 45 0 [bx 2,rx 5,sI 6 s6],[cL 2 AD.D w2,(5,.row 3 1 (w5.map dZ))],[]⟩
def W9(w2:AD)(o:(List Int)):Ex×St:=(.exit 0,⟨sp 45 0 [rx 5],[(5,.row 3 1 (o.map dZ))],[]⟩)
theorem aKd(rd:Option Nat)(h:aS2 a7 a8 aZ=some b6):Lq 47 rd 58 (W8 a7 a8 aZ) ((W9 a7) b6):=
 lL (fun s:Int×List Int=>W8 a7 s.1 s.2) (W9 a7) (a8,aZ) (fun⟨a8,aZ⟩ o h=>by
 unfold Iw at h
 refine gN 13 dZ aZ ?_
 refine iB 14 h (fun h=>?_) fun h=>?_
 refine gN 19 X6.D a7.trans ?_
 obtain⟨o7,h12,h⟩:=bS h
 refine gl (aKe rd h12) ?_
 exact lb h
 exact lb h) h
theorem bBs(h:Xz a7 a8=some aZ):AM Tryz.prog 47 [.d (AD.D a7),dI a8] [] (.d ((D.l dZ) aZ)) []:=by unfold Xz at h;apply g0 (o:=aZ);refine gQ (Ag dZ [a8]) ?_;obtain⟨o8,h13,h⟩:=bS h;refine gL [.live [2,5,6],.keep [2,10],.ren 10 5,.sort] (aKd none h13) ?_;exact lf h
theorem bAb(h:U8 a8 a7=some aD):AM Tryz.prog 49 [dI a8,.eptr (D.cells (AD.D a7))] [] (.d (D.b aD)) []:=by unfold U8 at h;apply g0 (o:=aD);refine xX 7 Xc.D h fun x1 h=>?_;refine iB 11 h (fun h=>?_) fun h=>?_;exact lf h;refine xX 15 Xc.D h fun x2 h=>?_;exact lf h
def aCg(s0:List Int)(s1:AD)(s7 s8:Int):St:=⟨sp 19 0 [sD 0 (D.l dZ) s0,(1,.clo (.func 49) [] [.eptr (D.cells (AD.D s1))]),sI 7 s7,sI 8 s8],[],[]⟩
def aCh(s0:List Int)(s1:AD)(s7:Int)(o:Unit⊕Int):Ex×St:=match o with
 | .inl o=>(.exit 0,⟨sp 19 0 [],[],[]⟩)
 | .inr o=>(.ret,⟨sp 19 0 [sI 4 o],[],[]⟩)
theorem aOe(rd:Option Nat)(h:aUc aZ a7 a8 aA=some aF):Lq 84 rd 26 (aCg aZ a7 a8 aA) ((aCh aZ a7 a8) aF):=
 lL (fun s:Int=>aCg aZ a7 a8 s) (aCh aZ a7 a8) aA (fun aA o h=>by
 unfold Jf at h
 refine iB 9 h (fun h=>?_) fun h=>?_
 refine xX 14 dZ h fun x1 h=>?_
 obtain⟨r2,h3,h⟩:=bS h
 refine gQ (bAb h3) ?_
 cases r2
 replace h:=Bj h
 refine gW 16 (.ret (.d (D.b false))) ?_
 exact lb h
 replace h:=Bl h
 refine gW 16 (.ret (.d (D.b true))) ?_
 exact lb h
 exact lb h) h
theorem bDg(h:Zy aZ a7=some a8):AM Tryz.prog 84 [.d ((D.l dZ) aZ),.clo (.func 49) [] [.eptr (D.cells (AD.D a7))]] [] (dI a8) []:=by
 unfold Zy at h;apply g0 (o:=a8);refine gN 7 dZ aZ ?_;obtain⟨o3,h5,h⟩:=bS h;refine gl (aOe none h5) ?_;replace h:=AJ h;rcases h with⟨o4,rfl,h⟩|⟨o5,rfl,h⟩
 exact lf h;exact lf h
theorem bAc(h:U9 aZ a7=some aD):AM Tryz.prog 48 [.d ((D.l dZ) aZ),.clo (.func 49) [] [.eptr (D.cells (AD.D a7))]] [] (.d (D.b aD)) []:=by unfold U9 at h;apply g0 (o:=aD);obtain⟨r1,h1,h⟩:=bS h;refine gC 7 (bDg h1) ?_;exact lf h
theorem bAd(h:Ua a8 a7=some aD):AM Tryz.prog 50 [dI a8,.eptr (D.cells (AD.D a7))] [] (.d (D.b aD)) []:=by unfold Ua at h;apply g0 (o:=aD);refine xX 7 Xc.D h fun x1 h=>?_;exact lf h
def aCi(s0:List Int)(s1:AD)(s7 s8:Int):St:=⟨sp 19 0 [sD 0 (D.l dZ) s0,(1,.clo (.func 50) [] [.eptr (D.cells (AD.D s1))]),sI 7 s7,sI 8 s8],[],[]⟩
def aCj(s0:List Int)(s1:AD)(s7:Int)(o:Unit⊕Int):Ex×St:=match o with
 | .inl o=>(.exit 0,⟨sp 19 0 [],[],[]⟩)
 | .inr o=>(.ret,⟨sp 19 0 [sI 4 o],[],[]⟩)
theorem aOf(rd:Option Nat)(h:aUd aZ a7 a8 aA=some aF):Lq 84 rd 26 (aCi aZ a7 a8 aA) ((aCj aZ a7 a8) aF):=
 lL (fun s:Int=>aCi aZ a7 a8 s) (aCj aZ a7 a8) aA (fun aA o h=>by
 unfold Jg at h
 refine iB 9 h (fun h=>?_) fun h=>?_
 refine xX 14 dZ h fun x1 h=>?_
 obtain⟨r2,h3,h⟩:=bS h
 refine gQ (bAd h3) ?_
 cases r2
 replace h:=Bj h
 refine gW 16 (.ret (.d (D.b false))) ?_
 exact lb h
 replace h:=Bl h
 refine gW 16 (.ret (.d (D.b true))) ?_
 exact lb h
 exact lb h) h
theorem bDh(h:Zz aZ a7=some a8):AM Tryz.prog 84 [.d ((D.l dZ) aZ),.clo (.func 50) [] [.eptr (D.cells (AD.D a7))]] [] (dI a8) []:=by
 unfold Zz at h;apply g0 (o:=a8);refine gN 7 dZ aZ ?_;obtain⟨o3,h5,h⟩:=bS h;refine gl (aOf none h5) ?_;replace h:=AJ h;rcases h with⟨o4,rfl,h⟩|⟨o5,rfl,h⟩
 exact lf h;exact lf h
theorem bAe(h:Ub aZ a7=some aD):AM Tryz.prog 48 [.d ((D.l dZ) aZ),.clo (.func 50) [] [.eptr (D.cells (AD.D a7))]] [] (.d (D.b aD)) []:=by unfold Ub at h;apply g0 (o:=aD);obtain⟨r1,h1,h⟩:=bS h;refine gC 7 (bDh h1) ?_;exact lf h
theorem aRz(h:Q8 a7 a8=some aA):AM Tryz.prog 18 [.d (AD.D a7),dI a8] [] (dI aA) []:=by unfold Q8 at h;apply g0 (o:=aA);refine gW 2 .frz ?_;refine iB 8 h (fun h=>?_) fun h=>?_;exact lf h;refine gN 12 Xc.D a7.states ?_;refine iB 14 h (fun h=>?_) fun h=>?_;exact lf h;obtain⟨r1,h3,h⟩:=bS h;refine gC 17 (bBs h3) ?_;obtain⟨r2,h4,h⟩:=bS h;refine gC 21 (bAc h4) ?_;refine iB 18 h (fun h=>?_) fun h=>?_;exact lf h;obtain⟨r3,h6,h⟩:=bS h;refine gC 26 (bAe h6) ?_;refine iB 23 h (fun h=>?_) fun h=>?_;exact lf h;exact lf h
theorem aJ2(rd:Option Nat)(h:aJ1 a8 bA aA aN aD a7=some aR):Lq 19 rd 119607 ⟨sp 24 0 [bx 2,sI 5 a8,sD 8 (D.l X3.D) bA,sI 9 aA,sI 10 aN,sD 20 D.b aD],[cL 2 AD.D a7],[]⟩ (.normal,⟨sp 24 0 [bx 2,sI 5 aR,sD 8 (D.l X3.D) bA,sI 9 aA,sI 10 aN],[cL 2 AD.D a7],[]⟩):=by unfold aJ1 at h;apply g0 (o:=aR);cases aD;replace h:=Bj h;exact lp h;replace h:=Bl h;exact lp h
theorem aJ0(rd:Option Nat)(h:Wy a8 bA aA aN aR aD a7=some aU):Lq 19 rd 29901 ⟨sp 24 0 [bx 2,sI 5 a8,sD 8 (D.l X3.D) bA,sI 9 aA,sI 10 aN,sI 17 aR,sD 18 D.b aD],[cL 2 AD.D a7],[]⟩ (match (generalizing:=false) aU with
 | .inl aU=>(.normal,⟨sp 24 0 [bx 2,sI 5 aU,sD 8 (D.l X3.D) bA,sI 9 aA,sI 10 aN],[cL 2 AD.D a7],[]⟩)
 | .inr aU=>(.ret,⟨sp 24 0 [sI 4 1],[],[]⟩)):=by
 unfold Wy at h
 apply g0 (o:=aU)
 cases aD
 replace h:=Bj h
 obtain⟨o3,h6,h⟩:=bS h
 refine gl (aJ2 rd h6) ?_
 exact lp h
 replace h:=Bl h
 exact lp h
theorem aJz(rd:Option Nat)(h:Wx a8 bA aA aN aR a7=some aU):Lq 19 rd 7475 ⟨sp 24 0 [bx 2,sI 5 a8,sD 8 (D.l X3.D) bA,sI 9 aA,sI 10 aN,sI 17 aR],[cL 2 AD.D a7],[]⟩ (match (generalizing:=false) aU with
 | .inl aU=>(.normal,⟨sp 24 0 [bx 2,sI 5 aU,sD 8 (D.l X3.D) bA,sI 9 aA,sI 10 aN],[cL 2 AD.D a7],[]⟩)
 | .inr aU=>(.ret,⟨sp 24 0 [sI 4 1],[],[]⟩)):=by
 unfold Wx at h
 apply g0 (o:=aU)
 obtain⟨o4,h7,h⟩:=bS h
 refine gl (aJ0 rd h7) ?_
 replace h:=AJ h
 rcases h with⟨o5,rfl,h⟩|⟨o6,rfl,h⟩
 exact lp h
 exact lp h
theorem aJy(rd:Option Nat)(h:Ww a8 bA aA aN a7=some aU):Lq 19 rd 934 ⟨sp 24 0 [bx 2,sI 5 a8,sD 8 (D.l X3.D) bA,sI 9 aA,sI 10 aN],[cL 2 AD.D a7],[]⟩ (match (generalizing:=false) aU with
 | .inl aU=>(.normal,⟨sp 24 0 [bx 2,sI 5 aU,sD 8 (D.l X3.D) bA,sI 9 aA,sI 10 aN],[cL 2 AD.D a7],[]⟩)
 | .inr aU=>(.ret,⟨sp 24 0 [sI 4 1],[],[]⟩)):=by
 unfold Ww at h
 apply g0 (o:=aU)
 refine xX 12 X3.D h fun x1 h=>?_
 obtain⟨r2,h3,h⟩:=bS h
 refine gC 17 (aRz h3) ?_
 obtain⟨o7,h8,h⟩:=bS h
 refine gl (aJz rd h8) ?_
 replace h:=AJ h
 rcases h with⟨o8,rfl,h⟩|⟨o9,rfl,h⟩
 exact lp h
 exact lp h
def Wz(s8:List X3)(s9:Int)(w2:AD)(s5 s10:Int):St:=⟨sp 24 0 [bx 2,sI 5 s5,sD 8 (D.l X3.D) s8,sI 9 s9,sI 10 s10],[cL 2 AD.D w2],[]⟩
def W0(s8:List X3)(s9:Int)(w2:AD)(o:Int⊕Unit):Ex×St:=match o with
 | .inl o=>(.exit 0,⟨sp 24 0 [sI 5 o],[],[]⟩)
 | .inr o=>(.ret,⟨sp 24 0 [sI 4 1],[],[]⟩)
theorem aJ3(rd:Option Nat)(h:aSy bA a8 a7 aA aN=some aU):Lq 19 rd 58 (Wz bA a8 a7 aA aN) ((W0 bA a8 a7) aU):=
 lL (fun s:Int×Int=>Wz bA a8 a7 s.1 s.2) (W0 bA a8 a7) (aA,aN) (fun⟨aA,aN⟩ o h=>by
 unfold HF at h
 refine iB 11 h (fun h=>?_) fun h=>?_
 obtain⟨o10,h9,h⟩:=bS h
 refine gl (aJy rd h9) ?_
 replace h:=AJ h
 rcases h with⟨o11,rfl,h⟩|⟨o12,rfl,h⟩
 exact lb h
 exact lb h
 exact lb h) h
theorem aXq(h:Xv a7 bA=some a8):AM Tryz.prog 19 [.d (AD.D a7),.d ((D.l X3.D) bA)] [] (dI a8) []:=by
 unfold Xv at h;apply g0 (o:=a8);refine gN 9 X3.D bA ?_;obtain⟨o13,h10,h⟩:=bS h;refine gl (aJ3 none h10) ?_;replace h:=AJ h;rcases h with⟨o14,rfl,h⟩|⟨o15,rfl,h⟩
 exact lf h;exact lf h
theorem aMt(rd:Option Nat)(h:aMs a8 aA aN bB aR bC aD=some bD):Lq 91 rd 7475 ⟨sp 27 0 [sI 1 a8,sD 5 dU aA,sI 6 aN,sD 9 (D.l X5.D) bB,sI 10 aR,sI 11 bC,sD 19 D.b aD],[],[]⟩ (.normal,⟨sp 27 0 [sI 1 a8,sD 5 dU bD,sD 9 (D.l X5.D) bB,sI 10 aR,sI 11 bC],[],[]⟩):=by unfold aMs at h;apply g0 (o:=bD);cases aD;replace h:=Bj h;exact lp h;replace h:=Bl h;obtain⟨h4,h⟩:=cS h;refine gQ h4 ?_;exact lp h
theorem aMr(rd:Option Nat)(h:aMq a8 aA bB aN aR=some bC):Lq 91 rd 934 ⟨sp 27 0 [sI 1 a8,sD 5 dU aA,sD 9 (D.l X5.D) bB,sI 10 aN,sI 11 aR],[],[]⟩ (.normal,⟨sp 27 0 [sI 1 a8,sD 5 dU bC,sD 9 (D.l X5.D) bB,sI 10 aN,sI 11 aR],[],[]⟩):=by unfold aMq at h;apply g0 (o:=bC);refine xX 14 X5.D h fun x1 h=>?_;obtain⟨o2,h5,h⟩:=bS h;refine gl (aMt rd h5) ?_;exact lp h
def ZR(s1:Int)(s9:List X5)(s10 s5 s11:Int):St:=⟨sp 27 0 [sI 1 s1,sD 5 dU s5,sD 9 (D.l X5.D) s9,sI 10 s10,sI 11 s11],[],[]⟩
def ZS(s1:Int)(s9:List X5)(s10 o:Int):Ex×St:=(.exit 0,⟨sp 27 0 [sD 5 dU o],[],[]⟩)
theorem aMu(rd:Option Nat)(h:aTk a8 bB aA aN aR=some bC):Lq 91 rd 58 (ZR a8 bB aA aN aR) ((ZS a8 bB aA) bC):=
 lL (fun s:Int×Int=>ZR a8 bB aA s.1 s.2) (ZS a8 bB aA) (aN,aR) (fun⟨aN,aR⟩ o h=>by
 unfold JE at h
 refine iB 12 h (fun h=>?_) fun h=>?_
 obtain⟨o3,h6,h⟩:=bS h
 refine gl (aMr rd h6) ?_
 exact lb h
 exact lb h) h
theorem bCd(h:Yr a7 a8=some aA):AM Tryz.prog 91 [.d (AD.D a7),dI a8] [] (.d (dU aA)) []:=by unfold Yr at h;apply g0 (o:=aA);refine gN 10 X5.D a7.symbols ?_;obtain⟨o4,h7,h⟩:=bS h;refine gl (aMu none h7) ?_;exact lf h
theorem bAn(h:Uk=some bE):AM Tryz.prog 167 [.clo (.func 168) [] []] [] (.box 0 0) [(0,.cells ([.nil,.clo (.func 168) [] []]))]:=by unfold Uk at h;refine XG.call (ks:=[]) mixed fun us=>?_;apply g0 (o:=bE);exact lX h [.live [2],.keep [5,997],.ren 5 0,.sort]
theorem aW7(h:U2 aD=some aI):AM Tryz.prog 170 [.d (D.b aD)] [] (.d (X0.D aI)) []:=by unfold U2 at h;apply g0 (o:=aI);exact lf h
theorem aWz(h:Ql aI aQ=some aD):AM Tryz.prog 168 [.d (X0.D aI),.d (X0.D aQ)] [] (.d (D.b aD)) []:=by unfold Ql at h;apply g0 (o:=aD);refine iB 5 h (fun h=>?_) fun h=>?_;exact lf h;refine iB 16 h (fun h=>?_) fun h=>?_;exact lf h;refine iB 25 h (fun h=>?_) fun h=>?_;exact lf h;refine iB 37 h (fun h=>?_) fun h=>?_;exact lf h;exact lf h
theorem aW2(h:Qo aI aQ bG=some a8):AM Tryz.prog 181 [.d (X0.D aI),.d (X0.D aQ),.eptr [.ptr ((D.cells ((D.l X0.D) bG))++[.v (.func (.func 168) #[] #[])])]] [] (dI a8) []:=by unfold Qo at h;apply g0 (o:=a8);obtain⟨r1,h1,h⟩:=bS h;refine gQ (aWz h1) ?_;cases r1;replace h:=Bj h;refine gW 13 (.ret (.d (D.b false))) ?_;obtain⟨r2,h3,h⟩:=bS h;refine gQ (aWz h3) ?_;cases r2;replace h:=Bj h;refine gW 21 (.ret (.d (D.b false))) ?_;exact lf h;replace h:=Bl h;refine gW 21 (.ret (.d (D.b true))) ?_;exact lf h;replace h:=Bl h;refine gW 13 (.ret (.d (D.b true))) ?_;exact lf h
theorem aLn(rd:Option Nat)(h:YM bG bH a8 aA aN aR aD aI=some bI):Lq 180 rd 1931 ⟨sp 49 0 [sD 0 (D.l X0.D) bG,(2,.clo (.func 181) [] [.eptr [.ptr ((D.cells ((D.l X0.D) bH))++[.v (.func (.func 168) #[] #[])])]]),bx 4,sI 8 a8,sI 9 aA,sI 10 aN,sI 11 aR,sD 31 D.b aD],[cL 4 X0.D aI],[]⟩ (.normal,⟨sp 49 0 [sD 0 (D.l X0.D) bG,(2,.clo (.func 181) [] [.eptr [.ptr ((D.cells ((D.l X0.D) bH))++[.v (.func (.func 168) #[] #[])])]]),bx 4,sI 8 a8,sI 9 bI.1,sI 10 bI.2],[cL 4 X0.D aI],[]⟩):=by unfold YM at h;apply g0 (o:=bI);cases aD;replace h:=Bj h;exact lp h;replace h:=Bl h;exact lp h
theorem aLm(rd:Option Nat)(h:aLl bG bH a8 aA aN aI=some bI):Lq 180 rd 241 ⟨sp 49 0 [sD 0 (D.l X0.D) bG,(2,.clo (.func 181) [] [.eptr [.ptr ((D.cells ((D.l X0.D) bH))++[.v (.func (.func 168) #[] #[])])]]),bx 4,sI 8 a8,sI 9 aA,sI 10 aN],[cL 4 X0.D aI],[]⟩ (.normal,⟨sp 49 0 [sD 0 (D.l X0.D) bG,(2,.clo (.func 181) [] [.eptr [.ptr ((D.cells ((D.l X0.D) bH))++[.v (.func (.func 168) #[] #[])])]]),bx 4,sI 8 a8,sI 9 bI.1,sI 10 bI.2],[cL 4 X0.D aI],[]⟩):=by unfold aLl at h;apply g0 (o:=bI);refine gQ (of_decide_eq_true rfl:(0:Int)<=1)<|xX 27 X0.D h fun x1 h=>?_;obtain⟨r2,h3,h⟩:=bS h;refine gC 30 (aW2 h3) ?_;obtain⟨o3,h5,h⟩:=bS h;refine gl (aLn rd h5) ?_;exact lp h
def YN(s0 s2:List X0)(s8:Int)(w4:X0)(s9 s10:Int):St:=⟨sp 49 0 [sD 0 (D.l X0.D) s0,(2,.clo (.func 181) [] [.eptr [.ptr ((D.cells ((D.l X0.D) s2))++[.v (.func (.func 168) #[] #[])])]]),bx 4,sI 8 s8,sI 9 s9,sI 10 s10],[cL 4 X0.D w4],[]⟩
def YO(s0 s2:List X0)(s8:Int)(w4:X0)(o:Int):Ex×St:=(.exit 0,⟨sp 49 0 [sD 0 (D.l X0.D) s0,(2,.clo (.func 181) [] [.eptr [.ptr ((D.cells ((D.l X0.D) s2))++[.v (.func (.func 168) #[] #[])])]]),bx 4,sI 8 s8,sI 9 o],[cL 4 X0.D w4],[]⟩)
theorem aLp(rd:Option Nat)(h:aLo bG bH a8 aI aA aN=some aR):Lq 180 rd 60 (YN bG bH a8 aI aA aN) ((YO bG bH a8 aI) aR):=
 lL (fun s:Int×Int=>YN bG bH a8 aI s.1 s.2) (YO bG bH a8 aI) (aA,aN) (fun⟨aA,aN⟩ o h=>by
 unfold HK at h
 refine iB 17 h (fun h=>?_) fun h=>?_
 obtain⟨o4,h6,h⟩:=bS h
 refine gl (aLm rd h6) ?_
 exact lb h
 exact lb h) h
theorem aXu(h:Yb bG aI bH=some aL):AM Tryz.prog 180 [.d ((D.l X0.D) bG),.d (X0.D aI),.clo (.func 181) [] [.eptr [.ptr ((D.cells ((D.l X0.D) bH))++[.v (.func (.func 168) #[] #[])])]]] [] (.tup [dI aL.1,.d (D.b aL.2)]) []:=by unfold Yb at h;apply g0 (o:=aL);refine gN 13 X0.D bG ?_;obtain⟨o5,h7,h⟩:=bS h;refine gl (aLp none h7) ?_;refine iB 39 h (fun h=>?_) fun h=>?_;refine xX 43 X0.D h fun x6 h=>?_;obtain⟨r7,h10,h⟩:=bS h;refine gC 46 (aW2 h10) ?_;exact lf h;exact lf h
theorem bAw(h:Ut a8 bG=some bH):AM Tryz.prog 182 [.nil,.d (D.i .i64 a8),.row 0] [(0,.row 62 4 (bG.map X0.D))] (.row 1) [rW 1 62 4 X0.D bH]:=
 aVh (ρ:=⟨fun n=>if n=22 then 182 else if n=29 then 187 else 188,fun n=>if n=0 then 0 else if n=3 then 3 else if n=4 then 4 else if n=24 then 44 else 62,id⟩) (by_:=40) X0.D mixed rfl ⟨ "slices.Insert[[]proctor/api.Value,proctor/api.Value]",by decide,(Tryz.func182).trans (by kernel_rfl)⟩ Tryz.underlying3 Tryz.underlying4 Tryz.underlying44 (by kernel_rfl) (by decide) a8 bG bH h
theorem aGc(rd:Option Nat)(us:List Value)(h:aGb a8 aD b8 aI=some bJ):Lq 169 rd 61 ⟨sp 34 0 [bx 2,bx 3,sI 5 a8,sD 6 D.b aD,sD 20 D.b b8],[(0,.cells ([.nil,.clo (.func 168) [] []])),(2,.cells ([.box 0 0])),cL 3 X0.D aI,(997,.vals [.box 0 0] us)],[]⟩ (.normal,⟨sp 34 0 [sD 6 D.b aD],[(0,.cells ([.row 529,.clo (.func 168) [] []])),rW 529 62 4 X0.D bJ,(997,.vals [.box 0 0] us)],[]⟩):=by unfold aGb at h;apply g0 (o:=bJ);cases b8;replace h:=Bj h;exact lP h [.live [6],.keep [0,997],.nilc 0 0 529 62 4,.sort];replace h:=Bl h;refine gQ (Ag X0.D [aI]) ?_;obtain⟨r2,h3,h⟩:=bS h;refine gG 29 (.cx true [(0,28)] [(1,29)] (.row 1) [rW 1 62 4 X0.D r2]) (bAw h3) ?_;exact lP h [.live [6],.keep [0,29,997],.ren 29 529,.sort]
theorem aZt(h:Qe aI=some bK):AM Tryz.prog 169 [.box 0 0,.d (X0.D aI)] [(0,.cells ([.nil,.clo (.func 168) [] []]))] (.d (D.b bK.1)) [(0,.cells ([.row 1,.clo (.func 168) [] []])),rW 1 62 4 X0.D bK.2]:=by unfold Qe at h;refine XG.call (ks:=[0]) mixed fun us=>?_;apply g0 (o:=bK);obtain⟨r1,h1,h⟩:=bS h;refine gG 16 (.lend [0,2] (.tup [dI r1.1,.d (D.b r1.2)])) (aXu h1) ?_;obtain⟨o3,h4,h⟩:=bS h;refine gl (aGc none us h4) ?_;exact lX h [.live [4],.keep [0,529,997],.ren 529 1,.sort]
theorem bAo(h:Ul a8 bG bH=some bL):AM Tryz.prog 182 [.row 0,.d (D.i .i64 a8),.row 1] [rW 0 62 4 X0.D bG,(1,.row 62 4 (bH.map X0.D))] (.row 2) [rW 2 62 4 X0.D bL]:=
 aVg (ρ:=⟨fun n=>if n=22 then 182 else if n=29 then 187 else 188,fun n=>if n=0 then 0 else if n=3 then 3 else if n=4 then 4 else if n=24 then 44 else 62,id⟩) (by_:=40) X0.D mixed rfl ⟨ "slices.Insert[[]proctor/api.Value,proctor/api.Value]",by decide,(Tryz.func182).trans (by kernel_rfl)⟩ Tryz.underlying3 Tryz.underlying4 Tryz.underlying44 (by kernel_rfl) (by decide) (by decide)
  (fun args w=>run_callFunc_extern Tryz.func187 (by kernel_rfl) (by kernel_rfl) (by kernel_rfl) (e:=Go.Extern.SlicesOverlaps.overlaps #[44,44] #[4]) (by kernel_rfl) args w) a8 bG bH bL h
theorem aF8(rd:Option Nat)(us:List Value)(h:aF7 a8 aD b8 aI bG=some bJ):Lq 169 rd 61 ⟨sp 34 0 [bx 2,bx 3,sI 5 a8,sD 6 D.b aD,sD 20 D.b b8],[(0,.cells ([.row 501,.clo (.func 168) [] []])),(2,.cells ([.box 0 0])),cL 3 X0.D aI,rW 501 62 4 X0.D bG,(997,.vals [.box 0 0] us)],[]⟩ (.normal,⟨sp 34 0 [sD 6 D.b aD],[(0,.cells ([.row 529,.clo (.func 168) [] []])),rW 529 62 4 X0.D bJ,(997,.vals [.box 0 0] us)],[]⟩):=by unfold aF7 at h;apply g0 (o:=bJ);cases b8;replace h:=Bj h;exact lP h [.live [6],.keep [0,501,997],.ren 501 529,.sort];replace h:=Bl h;refine gQ (Ag X0.D [aI]) ?_;obtain⟨r2,h3,h⟩:=bS h;refine gG 29 (.cx true [(0,501),(1,28)] [(2,29)] (.row 2) [rW 2 62 4 X0.D r2]) (bAo h3) ?_;exact lP h [.live [6],.keep [0,29,997],.ren 29 529,.sort]
theorem aWq(h:Q9 aI bG=some bK):AM Tryz.prog 169 [.box 0 0,.d (X0.D aI)] [(0,.cells ([.row 1,.clo (.func 168) [] []])),rW 1 62 4 X0.D bG] (.d (D.b bK.1)) [(0,.cells ([.row 2,.clo (.func 168) [] []])),rW 2 62 4 X0.D bK.2]:=by unfold Q9 at h;refine XG.call (ks:=[0]) mixed fun us=>?_;apply g0 (o:=bK);obtain⟨r1,h1,h⟩:=bS h;refine gG 16 (.lend [0,1,2] (.tup [dI r1.1,.d (D.b r1.2)])) (aXu h1) ?_;obtain⟨o3,h4,h⟩:=bS h;refine gL [.live [2,3,5,6,20],.keep [0,1,2,3,997],.ren 1 501,.sort] (aF8 none us h4) ?_;exact lX h [.live [4],.keep [0,529,997],.ren 529 2,.sort]
theorem bAx(h:Uu bG=some bH):AM Tryz.prog 183 [.row 0] [rW 0 62 4 X0.D bG] (.row 1) [rW 0 62 4 X0.D bG,rW 1 62 4 X0.D bH]:=
 aDi (ρ:=⟨fun _=>183,fun n=>if n=4 then 4 else if n=22 then 44 else 62,id⟩) (by_:=40) X0.D rfl rfl (aYn mixed ⟨ "slices.Clone[[]proctor/api.Value,proctor/api.Value]",by decide,(Tryz.func183).trans (by kernel_rfl)⟩ Tryz.underlying4 Tryz.underlying44 (by kernel_rfl) (by kernel_rfl) (by kernel_rfl) (by kernel_rfl)) (by kernel_rfl) (by decide) bG bH h
theorem aZ8(h:U3 bG=some bM):AM Tryz.prog 171 [.box 0 0] [(0,.cells ([.row 1,.clo (.func 168) [] []])),rW 1 62 4 X0.D bG] (.row 2) [(0,.cells ([.row 3,.clo (.func 168) [] []])),rW 2 62 4 X0.D bM.1,rW 3 62 4 X0.D bM.2]:=by unfold U3 at h;refine XG.call (ks:=[0]) mixed fun us=>?_;apply g0 (o:=bM);obtain⟨r1,h1,h⟩:=bS h;refine gG 9 (.cx true [(0,1)] [(1,9)] (.row 1) [rW 0 62 4 X0.D bG,rW 1 62 4 X0.D r1]) (bAx h1) ?_;exact lX h [.live [2],.keep [0,1,9,997],.ren 1 3,.ren 9 2,.sort]
theorem aI3(rd:Option Nat)(us:List Value)(h:WQ a8 aD a7=some bJ):Lq 150 rd 29 ⟨sp 51 0 [sI 1 a8,bx 2,bx 5,sD 12 D.b aD],[cL 2 AD.D a7,(5,.cells ([.nil,.clo (.func 168) [] []])),(997,.vals [] us)],[]⟩ (.normal,⟨sp 51 0 [sI 1 a8,bx 2,bx 5],[cL 2 AD.D a7,(5,.cells ([.row 518,.clo (.func 168) [] []])),rW 518 62 4 X0.D bJ,(997,.vals [] us)],[]⟩):=by unfold WQ at h;apply g0 (o:=bJ);cases aD;replace h:=Bj h;exact lP h [.live [1,2,5],.keep [2,5,997],.nilc 5 0 518 62 4,.sort];replace h:=Bl h;obtain⟨r2,h3,h⟩:=bS h;refine gC 14 (aW7 h3) ?_;obtain⟨r3,h4,h⟩:=bS h;refine gG 15 (.cx false [(0,5)] [(1,15)] (.d (D.b r3.1)) [(0,.cells ([.row 1,.clo (.func 168) [] []])),rW 1 62 4 X0.D r3.2]) (aZt h4) ?_;obtain⟨r4,h5,h⟩:=bS h;refine gC 17 (aW7 h5) ?_;obtain⟨r5,h6,h⟩:=bS h;refine gG 18 (.cx false [(0,5),(1,15)] [(2,18)] (.d (D.b r5.1)) [(0,.cells ([.row 2,.clo (.func 168) [] []])),rW 2 62 4 X0.D r5.2]) (aWq h6) ?_;exact lP h [.live [1,2,5],.keep [2,5,18,997],.ren 18 518,.sort]
theorem P0(rd:Option Nat)(us:List Value)(h:WR a8 bB aA aN bN aR bC aD aW bG=some bJ):Lq 150 rd 4010803 ⟨sp 51 0 [sI 1 a8,bx 5,bx 9,sD 20 (D.l X5.D) bB,sI 21 aA,sI 22 aN,sD 27 (D.l CN.D) bN,sI 28 aR,sI 29 bC,sD 42 D.b aD],[(5,.cells ([.row 518,.clo (.func 168) [] []])),cL 9 CN.D aW,rW 518 62 4 X0.D bG,(997,.vals [] us)],[]⟩ (.normal,⟨sp 51 0 [sI 1 a8,bx 5,sD 20 (D.l X5.D) bB,sI 21 aA,sI 22 aN,sD 27 (D.l CN.D) bN,sI 28 aR,sI 29 bC],[(5,.cells ([.row 546,.clo (.func 168) [] []])),rW 546 62 4 X0.D bJ,(997,.vals [] us)],[]⟩):=by unfold WR at h;apply g0 (o:=bJ);cases aD;replace h:=Bj h;exact lP h [.live [1,5,20,21,22,27,28,29],.keep [5,518,997],.ren 518 546,.sort];replace h:=Bl h;obtain⟨r9,h14,h⟩:=bS h;refine gG 46 (.cx false [(0,5),(1,518)] [(2,46)] (.d (D.b r9.1)) [(0,.cells ([.row 2,.clo (.func 168) [] []])),rW 2 62 4 X0.D r9.2]) (aWq h14) ?_;exact lP h [.live [1,5,20,21,22,27,28,29],.keep [5,46,997],.ren 46 546,.sort]
theorem aI5(rd:Option Nat)(us:List Value)(h:aI4 a8 bB aA aN bN aR bC bG=some bJ):Lq 150 rd 501350 ⟨sp 51 0 [sI 1 a8,bx 5,sD 20 (D.l X5.D) bB,sI 21 aA,sI 22 aN,sD 27 (D.l CN.D) bN,sI 28 aR,sI 29 bC],[(5,.cells ([.row 518,.clo (.func 168) [] []])),rW 518 62 4 X0.D bG,(997,.vals [] us)],[]⟩ (.normal,⟨sp 51 0 [sI 1 a8,bx 5,sD 20 (D.l X5.D) bB,sI 21 aA,sI 22 aN,sD 27 (D.l CN.D) bN,sI 28 aR,sI 29 bC],[(5,.cells ([.row 546,.clo (.func 168) [] []])),rW 546 62 4 X0.D bJ,(997,.vals [] us)],[]⟩):=by unfold aI4 at h;apply g0 (o:=bJ);refine xX 31 CN.D h fun x8 h=>?_;refine iB 36 h (fun h=>?_) fun h=>?_;obtain⟨o10,h15,h⟩:=bS h;refine gl (P0 rd us h15) ?_;exact lp h;obtain⟨o11,h16,h⟩:=bS h;refine gl (P0 rd us h16) ?_;exact lp h
def WU(us:List Value)(s1:Int)(s20:List X5)(s21 s22:Int)(s27:List CN)(s28 s29:Int)(w518:List X0):St:=⟨sp 51 0 [sI 1 s1,bx 5,sD 20 (D.l X5.D) s20,sI 21 s21,sI 22 s22,sD 27 (D.l CN.D) s27,sI 28 s28,sI 29 s29],[(5,.cells ([.row 518,.clo (.func 168) [] []])),rW 518 62 4 X0.D w518,(997,.vals [] us)],[]⟩
def WV(us:List Value)(s1:Int)(s20:List X5)(s21 s22:Int)(s27:List CN)(s28:Int)(o:(List X0)):Ex×St:=(.exit 2,⟨sp 51 0 [sI 1 s1,bx 5,sD 20 (D.l X5.D) s20,sI 21 s21,sI 22 s22],[(5,.cells ([.row 518,.clo (.func 168) [] []])),rW 518 62 4 X0.D o,(997,.vals [] us)],[]⟩)
theorem aI8(rd:Option Nat)(us:List Value)(h:aI7 a8 bB aA aN bN aR bC bG=some bJ):Lq 150 rd 31334 (WU us a8 bB aA aN bN aR bC bG) ((WV us a8 bB aA aN bN aR) bJ):=
 lL (fun s:Int×List X0=>WU us a8 bB aA aN bN aR s.1 s.2) (WV us a8 bB aA aN bN aR) (bC,bG) (fun⟨bC,bG⟩ o h=>by
 unfold Iq at h
 refine iB 30 h (fun h=>?_) fun h=>?_
 obtain⟨o12,h17,h⟩:=bS h
 refine gl (aI5 rd us h17) ?_
 exact lB h [.live [1,5,20,21,22,27,28,29],.keep [5,546,997],.ren 546 518,.sort]
 exact lb h) h
def WS(us:List Value)(s1:Int)(s20:List X5)(s21 s22:Int)(w518:List X0):St:=⟨sp 51 0 [sI 1 s1,bx 5,sD 20 (D.l X5.D) s20,sI 21 s21,sI 22 s22],[(5,.cells ([.row 518,.clo (.func 168) [] []])),rW 518 62 4 X0.D w518,(997,.vals [] us)],[]⟩
def WT(us:List Value)(s1:Int)(s20:List X5)(s21:Int)(o:(List X0)):Ex×St:=(.exit 0,⟨sp 51 0 [bx 5],[(5,.cells ([.row 518,.clo (.func 168) [] []])),rW 518 62 4 X0.D o,(997,.vals [] us)],[]⟩)
theorem aI6(rd:Option Nat)(us:List Value)(h:aSq a8 bB aA aN bG=some bJ):Lq 150 rd 122 (WS us a8 bB aA aN bG) ((WT us a8 bB aA) bJ):=
 lL (fun s:Int×List X0=>WS us a8 bB aA s.1 s.2) (WT us a8 bB aA) (aN,bG) (fun⟨aN,bG⟩ o h=>by
 unfold Ip at h
 refine iB 23 h (fun h=>?_) fun h=>?_
 refine xX 24 X5.D h fun x7 h=>?_
 refine gN 28 CN.D x7.args ?_
 obtain⟨o13,h18,h⟩:=bS h
 refine gl (aI8 rd us h18) ?_
 exact lb h
 exact lb h) h
theorem bBj(h:Xo a7 a8=some bG):AM Tryz.prog 150 [.d (AD.D a7),dI a8] [] (.row 0) [rW 0 62 4 X0.D bG]:=by unfold Xo at h;refine XG.call (ks:=[]) mixed fun us=>?_;apply g0 (o:=bG);refine gW 10 (.cx false [] [(0,417)] (.box 0 0) [(0,.cells ([.nil,.clo (.func 168) [] []]))])<|gW 21 (.int (a7.symbols.length:Int)) ?_;obtain⟨r1,h1,h⟩:=bS h;refine gQ (bAn h1) ?_;obtain⟨o6,h7,h⟩:=bS h;refine gL [.live [1,2,5,12],.keep [2,417,997],.ren 417 5,.sort] (aI3 none us h7)<|gQ (EN X5.D a7.symbols) ?_;obtain⟨o14,h19,h⟩:=bS h;refine gl (aI6 none us h19) ?_;obtain⟨r15,h20,h⟩:=bS h;refine gG 50 (.cx false [(0,5),(1,518)] [(2,50),(3,457)] (.row 2) [(0,.cells ([.row 3,.clo (.func 168) [] []])),rW 2 62 4 X0.D r15.1,rW 3 62 4 X0.D r15.2]) (aZ8 h20) ?_;exact lX h [.live [4],.keep [50,997],.ren 50 0,.sort]
def aB1(s0:List X0)(s7:Int)(w3:X0)(s8:Int):St:=⟨sp 19 0 [sD 0 (D.l X0.D) s0,bx 3,sI 7 s7,sI 8 s8],[cL 3 X0.D w3],[]⟩
def aB2(s0:List X0)(s7:Int)(w3:X0)(o:Unit⊕Int):Ex×St:=match o with
 | .inl o=>(.exit 0,⟨sp 19 0 [],[],[]⟩)
 | .inr o=>(.ret,⟨sp 19 0 [sI 4 o],[],[]⟩)
theorem aN6(rd:Option Nat)(h:aN5 bG a8 aI aA=some aF):Lq 172 rd 26 (aB1 bG a8 aI aA) ((aB2 bG a8 aI) aF):=
 lL (fun s:Int=>aB1 bG a8 aI s) (aB2 bG a8 aI) aA (fun aA o h=>by
 unfold JY at h
 refine iB 9 h (fun h=>?_) fun h=>?_
 refine xX 14 X0.D h fun x1 h=>?_
 refine iB 16 h (fun h=>?_) fun h=>?_
 exact lb h
 exact lb h
 exact lb h) h
theorem bC9(h:Zq bG aI=some a8):AM Tryz.prog 172 [.d ((D.l X0.D) bG),.d (X0.D aI)] [] (dI a8) []:=by
 unfold Zq at h;apply g0 (o:=a8);refine gN 7 X0.D bG ?_;obtain⟨o2,h4,h⟩:=bS h;refine gl (aN6 none h4) ?_;replace h:=AJ h;rcases h with⟨o3,rfl,h⟩|⟨o4,rfl,h⟩
 exact lf h;exact lf h
theorem aW3(h:Qp bG aI=some aD):AM Tryz.prog 151 [.d ((D.l X0.D) bG),.d (X0.D aI)] [] (.d (D.b aD)) []:=by unfold Qp at h;apply g0 (o:=aD);obtain⟨r1,h1,h⟩:=bS h;refine gC 7 (bC9 h1) ?_;exact lf h
theorem bAp(h:Um a8=some bG):AM Tryz.prog 173 [.nil,.d (D.i .i64 a8)] [] (.row 0) [rW 0 62 4 X0.D bG]:=
 aO5 (ρ:=⟨fun _=>173,fun a8=>if a8=0 then 0 else if a8=3 then 3 else if a8=4 then 4 else if a8=9 then 9 else if a8=20 then 20 else if a8=22 then 44 else 62,id⟩) (by_:=40) X0.D rfl rfl (bDq mixed ⟨ "slices.Grow[[]proctor/api.Value,proctor/api.Value]",by decide,(Tryz.func173).trans (by kernel_rfl)⟩ Tryz.underlying0 Tryz.underlying3 Tryz.underlying4 Tryz.underlying9 Tryz.underlying20 Tryz.underlying44 (by kernel_rfl) (by kernel_rfl) (by kernel_rfl) (by kernel_rfl) (by kernel_rfl) (by kernel_rfl) (by kernel_rfl) (by kernel_rfl) (by kernel_rfl) (by kernel_rfl) (by kernel_rfl) (by kernel_rfl)) (by kernel_rfl) (by decide) a8 bG h
theorem aIq(rd:Option Nat)(h:V8 bO a8 bP aA aN aD=some bE):Lq 153 rd 14951 ⟨sp 36 0 [sD 0 (D.l (D.l X0.D)) bO,sI 3 a8,sD 9 (D.l (D.l X0.D)) bP,sI 10 aA,sI 11 aN,sD 20 D.b aD],[],[]⟩ (.normal,⟨sp 36 0 [sD 0 (D.l (D.l X0.D)) bO,sI 3 a8,sD 9 (D.l (D.l X0.D)) bP,sI 10 aA,sI 11 aN],[],[]⟩):=by unfold V8 at h;apply g0 (o:=bE);cases aD;replace h:=Bj h;exact lp h;replace h:=Bl h;cases h
theorem aIp(rd:Option Nat)(h:V7 bO a8 bP aA aN=some aR):Lq 153 rd 934 ⟨sp 36 0 [sD 0 (D.l (D.l X0.D)) bO,sI 3 a8,sD 9 (D.l (D.l X0.D)) bP,sI 10 aA,sI 11 aN],[],[]⟩ (.normal,⟨sp 36 0 [sD 0 (D.l (D.l X0.D)) bO,sI 3 aR,sD 9 (D.l (D.l X0.D)) bP,sI 10 aA,sI 11 aN],[],[]⟩):=by unfold V7 at h;apply g0 (o:=aR);refine xX 13 (D.l X0.D) h fun x1 h=>?_;refine gN 17 X0.D x1 ?_;obtain⟨o2,h4,h⟩:=bS h;refine gl (aIq rd h4) ?_;exact lp h
def WA(s0 s9:List (List X0))(s10 s3 s11:Int):St:=⟨sp 36 0 [sD 0 (D.l (D.l X0.D)) s0,sI 3 s3,sD 9 (D.l (D.l X0.D)) s9,sI 10 s10,sI 11 s11],[],[]⟩
def WB(s0 s9:List (List X0))(s10 o:Int):Ex×St:=(.exit 0,⟨sp 36 0 [sD 0 (D.l (D.l X0.D)) s0,sI 3 o],[],[]⟩)
theorem aIr(rd:Option Nat)(h:V9 bO bP a8 aA aN=some aR):Lq 153 rd 58 (WA bO bP a8 aA aN) ((WB bO bP a8) aR):=
 lL (fun s:Int×Int=>WA bO bP a8 s.1 s.2) (WB bO bP a8) (aA,aN) (fun⟨aA,aN⟩ o h=>by
 unfold G8 at h
 refine iB 12 h (fun h=>?_) fun h=>?_
 obtain⟨o3,h5,h⟩:=bS h
 refine gl (aIp rd h5) ?_
 exact lb h
 exact lb h) h
def WD(s25:List (List X0))(s26 s27:Int)(w6:List X0):St:=⟨sp 36 0 [rx 6,sD 25 (D.l (D.l X0.D)) s25,sI 26 s26,sI 27 s27],[rW 6 62 4 X0.D w6],[]⟩
def WE(s25:List (List X0))(s26:Int)(o:(List X0)):Ex×St:=(.exit 2,⟨sp 36 0 [rx 6],[rW 6 62 4 X0.D o],[]⟩)
theorem aIs(rd:Option Nat)(h:WC bO a8 aA bG=some bJ):Lq 153 rd 250 (WD bO a8 aA bG) ((WE bO a8) bJ):=
 lL (fun s:Int×List X0=>WD bO a8 s.1 s.2) (WE bO a8) (aA,bG) (fun⟨aA,bG⟩ o h=>by
 unfold G9 at h
 refine iB 28 h (fun h=>?_) fun h=>?_
 refine xX 29 (D.l X0.D) h fun x6 h=>?_
 refine gG 33 (.rwl ((bG++x6).map X0.D)) (Ag X0.D x6) ?_
 obtain⟨h10,h⟩:=cS h
 refine gQ (Ak X0.D h10)<|gQ (Ai X0.D bG x6) ?_
 exact lB h [.live [6,25,26,27],.keep [33],.ren 33 6,.sort]
 exact lb h) h
theorem bBf(h:Xl bO=some bG):AM Tryz.prog 153 [.d ((D.l (D.l X0.D)) bO)] [] (.d ((D.l X0.D) bG)) []:=by unfold Xl at h;apply g0 (o:=bG);refine gN 10 (D.l X0.D) bO<|gW 26 (.int (bO.length:Int)) ?_;obtain⟨o4,h6,h⟩:=bS h;refine gl (aIr none h6) ?_;obtain⟨r5,h7,h⟩:=bS h;refine gG 24 (.cx true [] [(0,24)] (.row 0) [rW 0 62 4 X0.D r5]) (bAp h7)<|gQ (EN (D.l X0.D) bO) ?_;obtain⟨o7,h11,h⟩:=bS h;refine gL [.live [6,25,26,27],.keep [24],.ren 24 6,.sort] (aIs none h11) ?_;exact lF h [.frz 6]
theorem aLd(rd:Option Nat)(h:aLc a8 bG aD aI aQ=some bQ):Lq 152 rd 965 ⟨sp 30 0 [sI 0 a8,sD 1 (D.l X0.D) bG,bx 4,bx 6,sD 20 D.b aD],[cL 4 X0.D aI,cL 6 X0.D aQ],[]⟩ (.normal,⟨sp 30 0 [sI 0 a8,sD 1 (D.l X0.D) bG,bx 4,bx 6],[cL 4 X0.D aI,cL 6 X0.D bQ],[]⟩):=by unfold aLc at h;apply g0 (o:=bQ);cases aD;replace h:=Bj h;refine gW 27 (.str (aQ.str++([97]:List UInt8))) ?_;obtain⟨h6,h⟩:=cS h;refine gQ (KK h6) ?_;exact lp h;replace h:=Bl h;exact lp h
theorem aLb(rd:Option Nat)(h:YG a8 bG aI aQ=some bQ):Lq 152 rd 241 ⟨sp 30 0 [sI 0 a8,sD 1 (D.l X0.D) bG,bx 4,bx 6],[cL 4 X0.D aI,cL 6 X0.D aQ],[]⟩ (.normal,⟨sp 30 0 [sI 0 a8,sD 1 (D.l X0.D) bG,bx 4,bx 6],[cL 4 X0.D aI,cL 6 X0.D bQ],[]⟩):=by unfold YG at h;apply g0 (o:=bQ);obtain⟨o2,h7,h⟩:=bS h;refine gl (aLd rd h7) ?_;exact lp h
def YH(s0:Int)(s1:List X0)(w4 w6:X0):St:=⟨sp 30 0 [sI 0 s0,sD 1 (D.l X0.D) s1,bx 4,bx 6],[cL 4 X0.D w4,cL 6 X0.D w6],[]⟩
def YI(s0:Int)(s1:List X0)(w4 o:X0):Ex×St:=(.exit 0,⟨sp 30 0 [bx 4,bx 6],[cL 4 X0.D w4,cL 6 X0.D o],[]⟩)
theorem QH(rd:Option Nat)(h:SQ a8 bG aI aQ=some bQ):Lq 152 rd 60 (YH a8 bG aI aQ) ((YI a8 bG aI) bQ):=
 lL (fun s:X0=>YH a8 bG aI s) (YI a8 bG aI) aQ (fun aQ o h=>by
 unfold I5 at h
 obtain⟨r1,h3,h⟩:=bS h
 refine gQ (aW3 h3) ?_
 cases r1
 replace h:=Bj h
 refine gW 18 (.ret (.d (D.b false))) ?_
 exact lb h
 replace h:=Bl h
 refine gW 18 (.ret (.d (D.b true))) ?_
 obtain⟨o3,h8,h⟩:=bS h
 refine gl (aLb rd h8) ?_
 exact lb h) h
theorem bB3(h:Y8 a8 bG=some bR):AM Tryz.prog 152 [dI a8,.d ((D.l X0.D) bG)] [] (.tup [.d (X0.D bR.1),.d (D.b bR.2)]) []:=by unfold Y8 at h;apply g0 (o:=bR);refine iB 9 h (fun h=>?_) fun h=>?_;refine iB 12 h (fun h=>?_) fun h=>?_;exact lf h;obtain⟨o4,h9,h⟩:=bS h;refine gl (QH none h9) ?_;exact lf h;obtain⟨o5,h10,h⟩:=bS h;refine gl (QH none h10) ?_;exact lf h
theorem QF(rd:Option Nat)(h:YD bG a8 bU aA aN aD bH bV=some bJ):Lq 130 rd 15667 ⟨sp 67 0 [sD 1 (D.l X0.D) bG,sI 5 a8,rx 6,bx 8,sD 28 (D.l X2.D) bU,sI 29 aA,sI 30 aN,sD 45 D.b aD],[rW 6 62 4 X0.D bH,cL 8 X2.D bV],[]⟩ (.normal,⟨sp 67 0 [sD 1 (D.l X0.D) bG,sI 5 a8,rx 6,sD 28 (D.l X2.D) bU,sI 29 aA,sI 30 aN],[rW 6 62 4 X0.D bJ],[]⟩):=by unfold YD at h;apply g0 (o:=bJ);cases aD;replace h:=Bj h;exact lp h;replace h:=Bl h;refine gQ (Ag X0.D [bV.value])<|gG 50 (.rwl ((bH++[bV.value]).map X0.D)) (Ag X0.D [bV.value]) ?_;obtain⟨h9,h⟩:=cS h;refine gQ (Ak X0.D h9)<|gQ (Ai X0.D bH [bV.value]) ?_;exact lP h [.live [1,5,6,28,29,30],.keep [50],.ren 50 6,.sort]
theorem aK7(rd:Option Nat)(h:aK6 bG a8 bU aA aN bH=some bJ):Lq 130 rd 1958 ⟨sp 67 0 [sD 1 (D.l X0.D) bG,sI 5 a8,rx 6,sD 28 (D.l X2.D) bU,sI 29 aA,sI 30 aN],[rW 6 62 4 X0.D bH],[]⟩ (.normal,⟨sp 67 0 [sD 1 (D.l X0.D) bG,sI 5 a8,rx 6,sD 28 (D.l X2.D) bU,sI 29 aA,sI 30 aN],[rW 6 62 4 X0.D bJ],[]⟩):=by unfold aK6 at h;apply g0 (o:=bJ);refine xX 32 X2.D h fun x4 h=>?_;refine iB 39 h (fun h=>?_) fun h=>?_;obtain⟨r5,h7,h⟩:=bS h;refine gG 43 (.lend [6] (.d (D.b r5))) (aW3 h7) ?_;obtain⟨o6,h10,h⟩:=bS h;refine gl (QF rd h10) ?_;exact lp h;obtain⟨o7,h11,h⟩:=bS h;refine gl (QF rd h11) ?_;exact lp h
def YE(s1:List X0)(s5:Int)(s28:List X2)(s29 s30:Int)(w6:List X0):St:=⟨sp 67 0 [sD 1 (D.l X0.D) s1,sI 5 s5,rx 6,sD 28 (D.l X2.D) s28,sI 29 s29,sI 30 s30],[rW 6 62 4 X0.D w6],[]⟩
def YF(s1:List X0)(s5:Int)(s28:List X2)(s29:Int)(o:(List X0)):Ex×St:=(.exit 0,⟨sp 67 0 [sD 1 (D.l X0.D) s1,sI 5 s5,rx 6],[rW 6 62 4 X0.D o],[]⟩)
theorem aLa(rd:Option Nat)(h:aK9 bG a8 bU aA aN bH=some bJ):Lq 130 rd 122 (YE bG a8 bU aA aN bH) ((YF bG a8 bU aA) bJ):=
 lL (fun s:Int×List X0=>YE bG a8 bU aA s.1 s.2) (YF bG a8 bU aA) (aN,bH) (fun⟨aN,bH⟩ o h=>by
 unfold I4 at h
 refine iB 31 h (fun h=>?_) fun h=>?_
 obtain⟨o8,h12,h⟩:=bS h
 refine gl (aK7 rd h12) ?_
 exact lb h
 exact lb h) h
theorem aK8(rd:Option Nat)(h:SP aD bG aI=some bJ):Lq 130 rd 251 ⟨sp 67 0 [rx 6,bx 9,sD 61 D.b aD],[(6,.row 62 4 (bG.map X0.D)),cL 9 X0.D aI],[]⟩ (.normal,⟨sp 67 0 [rx 6],[(6,.row 62 4 (bJ.map X0.D))],[]⟩):=by unfold SP at h;apply g0 (o:=bJ);cases aD;replace h:=Bj h;exact lp h;replace h:=Bl h;refine gQ (Ag X0.D [aI])<|gG 65 (.sl ((bG++[aI]).map X0.D)) (Ag X0.D [aI]) ?_;obtain⟨h17,h⟩:=cS h;refine gQ (Ak X0.D h17)<|gQ (Ai X0.D bG [aI]) ?_;exact lP h [.live [6],.keep [65],.ren 65 6,.sort]
theorem bB2(h:Y7 bW bG=some bH):AM Tryz.prog 130 [.d (Xx.D bW),.d ((D.l X0.D) bG)] [] (.d ((D.l X0.D) bH)) []:=by unfold Y7 at h;apply g0 (o:=bH);refine gW 29 (.int (bW.b.length:Int))<|gW 54 (.fzn 6)<|xX 16 Xf.D h fun x1 h=>?_;refine xX 21 dZ h fun x2 h=>?_;obtain⟨r3,h3,h⟩:=bS h;refine gG 26 (.cx false [] [(0,26)] (.row 0) [rW 0 62 4 X0.D r3]) (bBj h3)<|gQ (EN X2.D bW.b) ?_;obtain⟨o9,h13,h⟩:=bS h;refine gL [.live [1,5,6,28,29,30],.keep [26],.ren 26 6,.sort] (aLa none h13)<|gQ (Ag (D.l X0.D) [o9,bG]) ?_;obtain⟨r10,h14,h⟩:=bS h;refine gC 57 (bBf h14) ?_;obtain⟨r11,h15,h⟩:=bS h;refine gC 58 (bB3 h15) ?_;obtain⟨o12,h18,h⟩:=bS h;refine gl (aK8 none h18) ?_;exact lf h
def aB3(s1:Int)(s8:List X2)(s9:Int)(w4:X0)(s10:Int):St:=⟨sp 22 0 [sI 1 s1,bx 4,sD 8 (D.l X2.D) s8,sI 9 s9,sI 10 s10],[cL 4 X0.D w4],[]⟩
def aB4(s1:Int)(s8:List X2)(s9:Int)(w4:X0)(o:Unit⊕X0):Ex×St:=match o with
 | .inl o=>(.exit 0,⟨sp 22 0 [bx 4],[cL 4 X0.D w4],[]⟩)
 | .inr o=>(.ret,⟨sp 22 0 [bx 4,sD 5 D.b true],[cL 4 X0.D o],[]⟩)
theorem aN7(rd:Option Nat)(h:aT7 a8 bU aA aI aN=some bX):Lq 174 rd 26 (aB3 a8 bU aA aI aN) ((aB4 a8 bU aA aI) bX):=
 lL (fun s:Int=>aB3 a8 bU aA aI s) (aB4 a8 bU aA aI) aN (fun aN o h=>by
 unfold JZ at h
 refine iB 11 h (fun h=>?_) fun h=>?_
 refine xX 12 X2.D h fun x1 h=>?_
 refine iB 17 h (fun h=>?_) fun h=>?_
 exact lb h
 exact lb h
 exact lb h) h
theorem bDa(h:Zr bU a8=some bR):AM Tryz.prog 174 [.d ((D.l X2.D) bU),dI a8] [] (.tup [.d (X0.D bR.1),.d (D.b bR.2)]) []:=by
 unfold Zr at h;apply g0 (o:=bR);refine gN 9 X2.D bU ?_;obtain⟨o2,h4,h⟩:=bS h;refine gl (aN7 none h4) ?_;replace h:=AJ h;rcases h with⟨o3,rfl,h⟩|⟨o4,rfl,h⟩
 exact lf h;exact lf h
theorem bAf(h:Uc bW aW aI=some aD):AM Tryz.prog 154 [.d (Xx.D bW),.d (CN.D aW),.d (X0.D aI)] [] (.d (D.b aD)) []:=by unfold Uc at h;apply g0 (o:=aD);refine iB 11 h (fun h=>?_) fun h=>?_;exact lf h;refine iB 17 h (fun h=>?_) fun h=>?_;obtain⟨r1,h3,h⟩:=bS h;refine gC 24 (bDa h3) ?_;refine iB 28 h (fun h=>?_) fun h=>?_;exact lf h;exact lf h;exact lf h
theorem QJ(rd:Option Nat)(h:ZF a8 aA bB aN aR aD bW aI=some bC):Lq 131 rd 15667 ⟨sp 42 0 [bx 2,bx 3,(5,.clo (.func 154) [] []),sD 6 dU a8,sI 7 aA,sD 11 (D.l X5.D) bB,sI 12 aN,sI 13 aR,sD 34 D.b aD],[cL 2 Xx.D bW,cL 3 X0.D aI],[]⟩ (.normal,⟨sp 42 0 [bx 2,bx 3,(5,.clo (.func 154) [] []),sD 6 dU bC,sD 11 (D.l X5.D) bB,sI 12 aN,sI 13 aR],[cL 2 Xx.D bW,cL 3 X0.D aI],[]⟩):=by unfold ZF at h;apply g0 (o:=bC);cases aD;replace h:=Bj h;exact lp h;replace h:=Bl h;obtain⟨h7,h⟩:=cS h;refine gQ h7 ?_;exact lp h
theorem aMf(rd:Option Nat)(h:aMe a8 bB aA aN bW aI=some aR):Lq 131 rd 1958 ⟨sp 42 0 [bx 2,bx 3,(5,.clo (.func 154) [] []),sD 6 dU a8,sD 11 (D.l X5.D) bB,sI 12 aA,sI 13 aN],[cL 2 Xx.D bW,cL 3 X0.D aI],[]⟩ (.normal,⟨sp 42 0 [bx 2,bx 3,(5,.clo (.func 154) [] []),sD 6 dU aR,sD 11 (D.l X5.D) bB,sI 12 aA,sI 13 aN],[cL 2 Xx.D bW,cL 3 X0.D aI],[]⟩):=by unfold aMe at h;apply g0 (o:=aR);refine xX 16 X5.D h fun x1 h=>?_;refine iB 23 h (fun h=>?_) fun h=>?_;refine xX 30 CN.D h fun x2 h=>?_;obtain⟨r3,h5,h⟩:=bS h;refine gC 33 (bAf h5) ?_;obtain⟨o4,h8,h⟩:=bS h;refine gl (QJ rd h8) ?_;exact lp h;obtain⟨o5,h9,h⟩:=bS h;refine gl (QJ rd h9) ?_;exact lp h
def ZG(s11:List X5)(s12:Int)(w2:Xx)(w3:X0)(s6 s13:Int):St:=⟨sp 42 0 [bx 2,bx 3,(5,.clo (.func 154) [] []),sD 6 dU s6,sD 11 (D.l X5.D) s11,sI 12 s12,sI 13 s13],[cL 2 Xx.D w2,cL 3 X0.D w3],[]⟩
def ZH(s11:List X5)(s12:Int)(w2:Xx)(w3:X0)(o:Int):Ex×St:=(.exit 0,⟨sp 42 0 [sD 6 dU o],[],[]⟩)
theorem aMg(rd:Option Nat)(h:aTg bB a8 bW aI aA aN=some aR):Lq 131 rd 122 (ZG bB a8 bW aI aA aN) ((ZH bB a8 bW aI) aR):=
 lL (fun s:Int×Int=>ZG bB a8 bW aI s.1 s.2) (ZH bB a8 bW aI) (aA,aN) (fun⟨aA,aN⟩ o h=>by
 unfold JB at h
 refine iB 14 h (fun h=>?_) fun h=>?_
 obtain⟨o6,h10,h⟩:=bS h
 refine gl (aMf rd h10) ?_
 exact lb h
 exact lb h) h
theorem bB9(h:Yl bW aI=some a8):AM Tryz.prog 131 [.d (Xx.D bW),.d (X0.D aI)] [] (.d (dU a8)) []:=by unfold Yl at h;apply g0 (o:=a8);refine gN 12 X5.D bW.q.symbols ?_;obtain⟨o7,h11,h⟩:=bS h;refine gl (aMg none h11) ?_;exact lf h
def HA(clk:Nat)(es:List (Nat×Int×Bool))(us:List Value)(s8:Int)(s12:List X0)(s13 s14:Int)(w0:List (Int×Bool))(w3:Xx)(w5:List (Int×Bool))(sn:List Nat):St:=⟨sp 33 0 [rx 0,bx 3,rx 5,sD 8 dU s8,sD 12 (D.l X0.D) s12,sI 13 s13,sI 14 s14,bx 22],[(0,.map clk (dl dU D.b es)),cL 3 Xx.D w3,(5,.mapS (ms dU D.b w5)),(22,.mit 0 clk sn),(997,.vals [] us)],[]⟩
def HB(clk:Nat)(es:List (Nat×Int×Bool))(us:List Value)(s8:Int)(s12:List X0)(s13 s14:Int)(w0:List (Int×Bool))(w3:Xx)(o:(List (Int×Bool))):Ex×St:=(.exit 2,⟨sp 33 0 [rx 0,bx 3,rx 5,sD 12 (D.l X0.D) s12,sI 13 s13,sI 14 s14],[(0,.map clk (dl dU D.b es)),cL 3 Xx.D w3,(5,.mapS (ms dU D.b o)),(997,.vals [] us)],[]⟩)
def aSt(clk:Nat)(es:List (Nat×Int×Bool))(us:List Value)(s8:Int)(s12:List X0)(s13 s14:Int)(w0:List (Int×Bool))(w3:Xx)(w5:List (Int×Bool)):St:=⟨sp 33 0 [rx 0,bx 3,rx 5,sD 12 (D.l X0.D) s12,sI 13 s13,sI 14 s14],[(0,.map clk (dl dU D.b es)),cL 3 Xx.D w3,(5,.mapS (ms dU D.b w5)),(997,.vals [] us)],[]⟩
set_option maxRecDepth 100000 in
theorem WZ(rd:Option Nat)(us:List Value)(clk:Nat)(es:List (Nat×Int×Bool))(s8:Int)(s12:List X0)(s13 s14:Int)(w0:List (Int×Bool))(w3:Xx)(k:Int)(v:Bool)(w5:List (Int×Bool))(sn:List Nat)(st:Nat)(hm:(st,k,v)∈es)(o:(List (Int×Bool)))(h:HC s8 s12 s13 s14 w0 w3 k v w5=some o):OC Tryz.prog rd (ER Tryz.prog 92) [0,1,1,1,0,0,1,1,0,0,1,0,1,1] ((⟨(HA clk es us s8 s12 s13 s14 w0 w3 w5 sn).E,Bz (HA clk es us s8 s12 s13 s14 w0 w3 w5 sn).B 22 (.mit 0 clk (sn++[st])),[]⟩:St).put (some 23) (.tup [bo true,.d (dU k),.d (D.b v)])) fun zx zs=>zx=.normal/\Wk zs ((fun s:(List (Int×Bool))=>HA clk es us s8 s12 s13 s14 w0 w3 s (sn++[st])) o):=by unfold HC at h;obtain rfl:=si h;exact Fu mixed [(25,.en (dU k) (D.b v)),(10027,.ms (ms dU D.b (Ge (AA .and .u64 k s8) true w5)))] [] [.live [0,3,5,8,12,13,14,22],.keep [0,3,5,22,997]] (ai (PF (fk:=dU) (fv:=D.b) (clk:=clk) (sn:=sn) hm) (ai (PN (aQ1 Tryz.underlying56) D.b w5 (AA .and .u64 k s8) true) (ti))) (by kernel_rfl)
set_option maxRecDepth 100000 in
theorem WY(rd:Option Nat)(us:List Value)(clk:Nat)(es:List (Nat×Int×Bool))(s8:Int)(s12:List X0)(s13 s14:Int)(w0:List (Int×Bool))(w3:Xx)(w5:List (Int×Bool))(sn:List Nat):OC Tryz.prog rd (ER Tryz.prog 92) [0,1,1,1,0,0,1,1,0,0,1,0,1,1] ((HA clk es us s8 s12 s13 s14 w0 w3 w5 sn).put (some 23) (.tup [bo false])) fun zx zs=>zx=(HB clk es us s8 s12 s13 s14 w0 w3 (Lc s8 s12 s13 s14 w0 w3 w5)).1/\Wk zs (HB clk es us s8 s12 s13 s14 w0 w3 (Lc s8 s12 s13 s14 w0 w3 w5)).2:=by refine OC.wk (e:=.exit 2) (s1:=aSt clk es us s8 s12 s13 s14 w0 w3 w5) (Fu mixed [] [] [.live [0,3,5,12,13,14],.keep [0,3,5,997]] (ti) (by kernel_rfl)) ?_;exact(Wk.canS 5 (by kernel_rfl) rfl)
set_option maxRecDepth 100000 in
theorem aJc(rd:Option Nat)(us:List Value)(clk:Nat)(es:List (Nat×Int×Bool))(s8:Int)(s12:List X0)(s13 s14:Int)(w0:List (Int×Bool))(w3:Xx)(w5:List (Int×Bool))(hp:(es.map (·.2)).Perm w0)(o:(List (Int×Bool)))(h:aSs s8 s12 s13 s14 w0 w3 w5=some o):F5 Tryz.prog rd (ER Tryz.prog 92) [0,1,1,1,0,0,1,1,0,0,1,0,1,1] (HA clk es us s8 s12 s13 s14 w0 w3 w5 []) ((HB clk es us s8 s12 s13 s14 w0 w3) o).1 ((HB clk es us s8 s12 s13 s14 w0 w3) o).2:=
 PC (fk:=dU) (fv:=D.b) (step:=(fun(x:Int×Bool) (s:(List (Int×Bool)))=>HC s8 s12 s13 s14 w0 w3 x.1 x.2 s)) (s0:=w5) 22 23 22 0 clk es (fun(sn:List Nat) (s:(List (Int×Bool)))=>HA clk es us s8 s12 s13 s14 w0 w3 s sn) (HB clk es us s8 s12 s13 s14 w0 w3) (by kernel_rfl) (RO (by rfl)) (fun _ _=>by kernel_rfl) (fun _ _=>by kernel_rfl) (fun _ _=>by kernel_rfl) hp
  (fun sn s k v st a hm h=>WZ rd us clk es s8 s12 s13 s14 w0 w3 k v s sn st hm a h) (fun sn s hc=>hc▸WY rd us clk es s8 s12 s13 s14 w0 w3 s sn) h
theorem aJa(rd:Option Nat)(us:List Value)(h:aI9 a8 bG aA aN bY bW bZ=some c9):Lq 92 rd 7475 ⟨sp 33 0 [rx 0,bx 3,rx 5,sD 8 dU a8,sD 12 (D.l X0.D) bG,sI 13 aA,sI 14 aN],[(0,.mapS (ms dU D.b bY)),cL 3 Xx.D bW,(5,.mapS (ms dU D.b bZ)),(997,.vals [] us)],[]⟩ (.normal,⟨sp 33 0 [rx 0,bx 3,rx 5,sD 12 (D.l X0.D) bG,sI 13 aA,sI 14 aN],[(0,.mapS (ms dU D.b bY)),cL 3 Xx.D bW,(5,.mapS (ms dU D.b c9)),(997,.vals [] us)],[]⟩):=by unfold aI9 at h;obtain⟨o4,h5,h⟩:=bS h;obtain rfl:=si h;exact Arr.lp (Arr.exact (fk:=dU) (fv:=D.b) (S:=bY) 0 (by kernel_rfl) fun clk es hp=>Arr.setm (fk:=dU) (fv:=D.b) (S:=bY) (clk:=clk) (es:=es) 0 hp (by kernel_rfl) (by kernel_rfl) (Gf mixed [] [⟨[0,1,1,1,0,0,1,1,0,0,1,0,1,1],[.live [0,3,5,8,12,13,14,22],.keep [0,3,5,22,997]],.exit 2,(HB clk es us a8 bG aA aN bY bW o4).2⟩] [.live [0,3,5,12,13,14],.keep [0,3,5,997]] (ai (aJc rd us clk es a8 bG aA aN bY bW bZ hp o4 h5) (ti)) (by kernel_rfl)))
def WW(us:List Value)(s12:List X0)(s13:Int)(w0:List (Int×Bool))(w3:Xx)(s14:Int)(w5:List (Int×Bool)):St:=⟨sp 33 0 [rx 0,bx 3,rx 5,sD 12 (D.l X0.D) s12,sI 13 s13,sI 14 s14],[(0,.mapS (ms dU D.b w0)),cL 3 Xx.D w3,(5,.mapS (ms dU D.b w5)),(997,.vals [] us)],[]⟩
def WX(us:List Value)(s12:List X0)(s13:Int)(w0:List (Int×Bool))(w3:Xx)(o:(List (Int×Bool))):Ex×St:=(.exit 0,⟨sp 33 0 [rx 5],[(5,.mapS (ms dU D.b o)),(997,.vals [] us)],[]⟩)
theorem aJb(rd:Option Nat)(us:List Value)(h:aSr bG a8 bY bW aA bZ=some c9):Lq 92 rd 58 (WW us bG a8 bY bW aA bZ) ((WX us bG a8 bY bW) c9):=
 lL (fun s:Int×(List (Int×Bool))=>WW us bG a8 bY bW s.1 s.2) (WX us bG a8 bY bW) (aA,bZ) (fun⟨aA,bZ⟩ o h=>by
 unfold Ir at h
 refine iB 15 h (fun h=>?_) fun h=>?_
 refine xX 16 X0.D h fun x2 h=>?_
 obtain⟨r3,h4,h⟩:=bS h
 refine gC 20 (bB9 h4) ?_
 obtain⟨o5,h6,h⟩:=bS h
 refine gl (aJa rd us h6) ?_
 exact lb h
 exact lb h) h
theorem bBk(h:Xp bW bY=some c9):AM Tryz.prog 92 [.row 0,.d (Xx.D bW)] [(0,.mapS (ms dU D.b bY))] (.row 1) [(1,.mapS (ms dU D.b c9))]:=by unfold Xp at h;refine XG.call (ks:=[]) mixed fun us=>?_;apply g0 (o:=c9);refine gW 10 .frz ?_;obtain⟨r1,h1,h⟩:=bS h;refine gC 12 (bB2 h1)<|gN 13 X0.D r1 ?_;obtain⟨o6,h7,h⟩:=bS h;refine gL [.live [0,3,5,12,13,14],.keep [0,3,10,997],.ren 10 5,.sort] (aJb none us h7) ?_;exact lX h [.live [4],.keep [5,997],.ren 5 1,.sort]
theorem aNa(rd:Option Nat)(h:aAo a8 aA aD=some bI):Lq 107 rd 13 ⟨sp 25 0 [sD 0 dU a8,sI 2 aA,sD 4 D.b aD],[],[]⟩ (.normal,⟨sp 25 0 [sD 0 dU bI.1,sI 2 bI.2],[],[]⟩):=by unfold aAo at h;apply g0 (o:=bI);cases aD;replace h:=Bj h;exact lp h;replace h:=Bl h;refine gQ (of_decide_eq_true rfl:(0:Int)<=32) ?_;exact lp h
theorem aNb(rd:Option Nat)(h:aAp a8 aA aD=some bI):Lq 107 rd 29 ⟨sp 25 0 [sD 0 dU a8,sI 2 aA,sD 8 D.b aD],[],[]⟩ (.normal,⟨sp 25 0 [sD 0 dU bI.1,sI 2 bI.2],[],[]⟩):=by unfold aAp at h;apply g0 (o:=bI);cases aD;replace h:=Bj h;exact lp h;replace h:=Bl h;refine gQ (of_decide_eq_true rfl:(0:Int)<=16) ?_;exact lp h
theorem aNc(rd:Option Nat)(h:aAq a8 aA aD=some bI):Lq 107 rd 61 ⟨sp 25 0 [sD 0 dU a8,sI 2 aA,sD 14 D.b aD],[],[]⟩ (.normal,⟨sp 25 0 [sD 0 dU bI.1,sI 2 bI.2],[],[]⟩):=by unfold aAq at h;apply g0 (o:=bI);cases aD;replace h:=Bj h;exact lp h;replace h:=Bl h;refine gQ (of_decide_eq_true rfl:(0:Int)<=8) ?_;exact lp h
theorem bCn(h:Z1 a8=some aA):AM Tryz.prog 107 [.d (dU a8)] [] (dI aA) []:=by unfold Z1 at h;apply g0 (o:=aA);obtain⟨o1,h2,h⟩:=bS h;refine gl (aNa none h2) ?_;obtain⟨o2,h4,h⟩:=bS h;refine gl (aNb none h4) ?_;obtain⟨o3,h6,h⟩:=bS h;refine gl (aNc none h6)<|gG 21 (.int (u8w o3.1).toNat) (aRf o3.1) ?_;obtain⟨x4,h7,h⟩:=xS h;refine gG 22 (.int x4.toNat) (HS h7)<|gG 23 (.int x4.toNat) (PZ x4) ?_;exact lf h
theorem aR3(h:Qq a8=some aA):AM Tryz.prog 73 [.d (dU a8)] [] (dI aA) []:=by unfold Qq at h;apply g0 (o:=aA);obtain⟨r1,h1,h⟩:=bS h;refine gC 7 (bCn h1) ?_;exact lf h
theorem aW4(h:Qr a8=some aD):AM Tryz.prog 178 [.d (dU a8)] [] (.d (D.b aD)) []:=by unfold Qr at h;apply g0 (o:=aD);exact lf h
theorem FE(h:Yj a8 aA=some aD):AM Tryz.prog 161 [.d (dU a8),.d (dU aA)] [] (.d (D.b aD)) []:=by unfold Yj at h;apply g0 (o:=aD);obtain⟨r1,h1,h⟩:=bS h;refine gQ (aW4 h1) ?_;cases r1;replace h:=Bj h;refine gW 6 (.ret (.d (D.b false))) ?_;exact lf h;replace h:=Bl h;refine gW 6 (.ret (.d (D.b true))) ?_;obtain⟨r2,h3,h⟩:=bS h;refine gC 9 (aW4 h3) ?_;refine iB 12 h (fun h=>?_) fun h=>?_;exact lf h;exact lf h
def XE(us:List Value)(s1 s2:Int)(s6 s7:Int)(w0:List Int):St:=⟨sp 49 0 [rx 0,sI 1 s1,sI 2 s2,sI 6 s6,sI 7 s7],[rW 0 56 1 dU w0,(997,.vals [.row 0] us)],[]⟩
def XF(us:List Value)(s1 s2 s6:Int)(o:(List Int)):Ex×St:=(.exit 2,⟨sp 49 0 [rx 0,sI 1 s1,sI 2 s2,sI 6 s6],[rW 0 56 1 dU o,(997,.vals [.row 0] us)],[]⟩)
theorem aKg(rd:Option Nat)(us:List Value)(h:SM a8 aA aN aR aZ=some b6):Lq 155 rd 402 (XE us a8 aA aN aR aZ) ((XF us a8 aA aN) b6):=
 lL (fun s:Int×List Int=>XE us a8 aA aN s.1 s.2) (XF us a8 aA aN) (aR,aZ) (fun⟨aR,aZ⟩ o h=>by
 unfold E9 at h
 refine iB 19 h (fun h=>?_) fun h=>?_
 obtain⟨h3,h⟩:=cS h
 refine gQ h3.1<|gQ (AI dU h3.2) ?_
 obtain⟨x1,h4,h⟩:=xS h
 refine gG 23 (.el (dU x1)) (AK dU h4) ?_
 obtain⟨h5,h⟩:=cS h
 refine gQ h5.1<|gQ (AI dU h5.2) ?_
 obtain⟨x2,h6,h⟩:=xS h
 refine gG 28 (.el (dU x2)) (AK dU h6) ?_
 obtain⟨r3,h7,h⟩:=bS h
 refine gQ (FE h7) ?_
 cases r3
 replace h:=Bj h
 refine gW 29 (.ret (.d (D.b false))) ?_
 exact lb h
 replace h:=Bl h
 refine gW 29 (.ret (.d (D.b true))) ?_
 obtain⟨h9,h⟩:=cS h
 refine gQ h9.1<|gQ (AI dU h9.2) ?_
 obtain⟨x4,h10,h⟩:=xS h
 refine gG 42 (.el (dU x4)) (AK dU h10)<|gW 10047 (.sl ((aZ.set aR.toNat x4).map dU)) ?_
 obtain⟨h11,h⟩:=cS h
 refine gQ h11.1<|gQ (AI dU h11.2) ?_
 obtain⟨x5,h12,h⟩:=xS h
 refine gG 46 (.el (dU x5)) (AK dU h12)<|gW 10048 (.sl (((aZ.set aR.toNat x4).set (AA .sub .i64 aR 1).toNat x5).map dU)) ?_
 obtain⟨h13,h⟩:=cS h
 refine gQ h13.1<|gQ (AI dU h13.2) ?_
 obtain⟨h14,h⟩:=cS h
 refine gQ (A0 dU h14)<|gQ (AV dU aZ aR x4) ?_
 obtain⟨h15,h⟩:=cS h
 refine gQ h15.1<|gQ (AI dU h15.2) ?_
 obtain⟨h16,h⟩:=cS h
 refine gQ (A0 dU h16)<|gQ (AV dU (aZ.set aR.toNat x4) (AA .sub .i64 aR 1) x5) ?_
 exact lb h
 exact lb h) h
def XC(us:List Value)(s1 s2 s6:Int)(w0:List Int):St:=⟨sp 49 0 [rx 0,sI 1 s1,sI 2 s2,sI 6 s6],[rW 0 56 1 dU w0,(997,.vals [.row 0] us)],[]⟩
def XD(us:List Value)(s1 s2:Int)(o:(List Int)):Ex×St:=(.exit 0,⟨sp 49 0 [],[rW 0 56 1 dU o,(997,.vals [.row 0] us)],[]⟩)
theorem aKf(rd:Option Nat)(us:List Value)(h:SK a8 aA aN aZ=some b6):Lq 155 rd 6 (XC us a8 aA aN aZ) ((XD us a8 aA) b6):=
 lL (fun s:Int×List Int=>XC us a8 aA s.1 s.2) (XD us a8 aA) (aN,aZ) (fun⟨aN,aZ⟩ o h=>by
 unfold HH at h
 refine iB 12 h (fun h=>?_) fun h=>?_
 obtain⟨o6,h17,h⟩:=bS h
 refine gl (aKg rd us h17) ?_
 exact lb h
 exact lb h) h
theorem bBt(h:Y0 a8 aA aZ=some cA):AM Tryz.prog 155 [.row 0,dI a8,dI aA] [rW 0 56 1 dU aZ] (.tup []) [rW 0 56 1 dU cA]:=by unfold Y0 at h;refine XG.call (ks:=[0]) mixed fun us=>?_;apply g0 (o:=cA);obtain⟨o7,h18,h⟩:=bS h;refine gl (aKf none us h18) ?_;exact lX h (lv [] [0,997])
theorem P1(rd:Option Nat)(us:List Value)(h:Ld a8 aA aN aR aD aZ=some bC):Lq 175 rd 397 ⟨sp 76 0 [rx 0,sI 2 a8,sI 3 aA,sI 8 aN,sI 9 aR,sD 36 D.b aD],[rW 0 56 1 dU aZ,(997,.vals [.row 0] us)],[]⟩ (.normal,⟨sp 76 0 [rx 0,sI 2 a8,sI 3 aA,sI 8 aN,sI 9 bC],[rW 0 56 1 dU aZ,(997,.vals [.row 0] us)],[]⟩):=by unfold Ld at h;apply g0 (o:=bC);cases aD;replace h:=Bj h;exact lp h;replace h:=Bl h;exact lp h
theorem aJi(rd:Option Nat)(us:List Value)(h:KY a8 aA aN aZ=some cB):Lq 175 rd 12 ⟨sp 76 0 [rx 0,sI 2 a8,sI 3 aA,sI 8 aN],[rW 0 56 1 dU aZ,(997,.vals [.row 0] us)],[]⟩ (match (generalizing:=false) cB with
 | .inl cB=>(.normal,⟨sp 76 0 [rx 0,sI 2 a8,sI 3 aA,sI 8 cB.1],[rW 0 56 1 dU cB.2,(997,.vals [.row 0] us)],[]⟩)
 | .inr cB=>match (generalizing:=false) cB with
 | .inl cB=>(.exit 0,⟨sp 76 0 [],[rW 0 56 1 dU aZ,(997,.vals [.row 0] us)],[]⟩)
 | .inr cB=>(.ret,⟨sp 76 0 [],[rW 0 56 1 dU aZ,(997,.vals [.row 0] us)],[]⟩)):=by
 unfold KY at h
 apply g0 (o:=cB)
 refine iB 16 h (fun h=>?_) fun h=>?_
 exact lp h
 refine iB 21 h (fun h=>?_) fun h=>?_
 obtain⟨h3,h⟩:=cS h
 refine gQ h3.1<|gQ (AI dU h3.2) ?_
 obtain⟨x1,h4,h⟩:=xS h
 refine gG 27 (.el (dU x1)) (AK dU h4) ?_
 obtain⟨h5,h⟩:=cS h
 refine gQ h5.1<|gQ (AI dU h5.2) ?_
 obtain⟨x2,h6,h⟩:=xS h
 refine gG 34 (.el (dU x2)) (AK dU h6) ?_
 obtain⟨r3,h7,h⟩:=bS h
 refine gC 35 (FE h7) ?_
 obtain⟨o4,h9,h⟩:=bS h
 refine gl (P1 rd us h9) ?_
 obtain⟨h10,h⟩:=cS h
 refine gQ h10.1<|gQ (AI dU h10.2) ?_
 obtain⟨x5,h11,h⟩:=xS h
 refine gG 44 (.el (dU x5)) (AK dU h11) ?_
 obtain⟨h12,h⟩:=cS h
 refine gQ h12.1<|gQ (AI dU h12.2) ?_
 obtain⟨x6,h13,h⟩:=xS h
 refine gG 50 (.el (dU x6)) (AK dU h13) ?_
 obtain⟨r7,h14,h⟩:=bS h
 refine gC 51 (FE h14) ?_
 refine iB 52 h (fun h=>?_) fun h=>?_
 exact lp h
 obtain⟨h16,h⟩:=cS h
 refine gQ h16.1<|gQ (AI dU h16.2) ?_
 obtain⟨x8,h17,h⟩:=xS h
 refine gG 66 (.el (dU x8)) (AK dU h17)<|gW 10073 (.sl ((aZ.set (AA .add .i64 aA aN).toNat x8).map dU)) ?_
 obtain⟨h18,h⟩:=cS h
 refine gQ h18.1<|gQ (AI dU h18.2) ?_
 obtain⟨x9,h19,h⟩:=xS h
 refine gG 72 (.el (dU x9)) (AK dU h19)<|gW 10074 (.sl (((aZ.set (AA .add .i64 aA aN).toNat x8).set (AA .add .i64 aA o4).toNat x9).map dU)) ?_
 obtain⟨h20,h⟩:=cS h
 refine gQ h20.1<|gQ (AI dU h20.2) ?_
 obtain⟨h21,h⟩:=cS h
 refine gQ (A0 dU h21)<|gQ (AV dU aZ (AA .add .i64 aA aN) x8) ?_
 obtain⟨h22,h⟩:=cS h
 refine gQ h22.1<|gQ (AI dU h22.2) ?_
 obtain⟨h23,h⟩:=cS h
 refine gQ (A0 dU h23)<|gQ (AV dU (aZ.set (AA .add .i64 aA aN).toNat x8) (AA .add .i64 aA o4) x9) ?_
 exact lp h
 obtain⟨o10,h24,h⟩:=bS h
 refine gl (P1 rd us h24) ?_
 obtain⟨h25,h⟩:=cS h
 refine gQ h25.1<|gQ (AI dU h25.2) ?_
 obtain⟨x11,h26,h⟩:=xS h
 refine gG 44 (.el (dU x11)) (AK dU h26) ?_
 obtain⟨h27,h⟩:=cS h
 refine gQ h27.1<|gQ (AI dU h27.2) ?_
 obtain⟨x12,h28,h⟩:=xS h
 refine gG 50 (.el (dU x12)) (AK dU h28) ?_
 obtain⟨r13,h29,h⟩:=bS h
 refine gC 51 (FE h29) ?_
 refine iB 52 h (fun h=>?_) fun h=>?_
 exact lp h
 obtain⟨h31,h⟩:=cS h
 refine gQ h31.1<|gQ (AI dU h31.2) ?_
 obtain⟨x14,h32,h⟩:=xS h
 refine gG 66 (.el (dU x14)) (AK dU h32)<|gW 10073 (.sl ((aZ.set (AA .add .i64 aA aN).toNat x14).map dU)) ?_
 obtain⟨h33,h⟩:=cS h
 refine gQ h33.1<|gQ (AI dU h33.2) ?_
 obtain⟨x15,h34,h⟩:=xS h
 refine gG 72 (.el (dU x15)) (AK dU h34)<|gW 10074 (.sl (((aZ.set (AA .add .i64 aA aN).toNat x14).set (AA .add .i64 aA o10).toNat x15).map dU)) ?_
 obtain⟨h35,h⟩:=cS h
 refine gQ h35.1<|gQ (AI dU h35.2) ?_
 obtain⟨h36,h⟩:=cS h
 refine gQ (A0 dU h36)<|gQ (AV dU aZ (AA .add .i64 aA aN) x14) ?_
 obtain⟨h37,h⟩:=cS h
 refine gQ h37.1<|gQ (AI dU h37.2) ?_
 obtain⟨h38,h⟩:=cS h
 refine gQ (A0 dU h38)<|gQ (AV dU (aZ.set (AA .add .i64 aA aN).toNat x14) (AA .add .i64 aA o10) x15) ?_
 exact lp h
def We(us:List Value)(s2 s3 s8:Int)(w0:List Int):St:=⟨sp 76 0 [rx 0,sI 2 s2,sI 3 s3,sI 8 s8],[rW 0 56 1 dU w0,(997,.vals [.row 0] us)],[]⟩
def Wg(us:List Value)(s2 s3:Int)(o:(List Int)⊕(List Int)):Ex×St:=match o with
 | .inl o=>(.exit 0,⟨sp 76 0 [],[rW 0 56 1 dU o,(997,.vals [.row 0] us)],[]⟩)
 | .inr o=>(.ret,⟨sp 76 0 [],[rW 0 56 1 dU o,(997,.vals [.row 0] us)],[]⟩)
theorem aJj(rd:Option Nat)(us:List Value)(h:SF a8 aA aN aZ=some cC):Lq 175 rd 6 (We us a8 aA aN aZ) ((Wg us a8 aA) cC):=
 lL (fun s:Int×List Int=>We us a8 aA s.1 s.2) (Wg us a8 aA) (aN,aZ) (fun⟨aN,aZ⟩ o h=>by
 unfold Ea at h
 obtain⟨o16,h39,h⟩:=bS h
 refine gl (aJi rd us h39) ?_
 replace h:=AJ h
 rcases h with⟨o17,rfl,h⟩|⟨o18,rfl,h⟩
 exact lb h
 replace h:=AJ h
 rcases h with⟨o19,rfl,h⟩|⟨o20,rfl,h⟩
 exact lb h
 exact lb h) h
theorem aXn(h:Xr a8 aA aN aZ=some cA):AM Tryz.prog 175 [.row 0,dI a8,dI aA,dI aN] [rW 0 56 1 dU aZ] (.tup []) [rW 0 56 1 dU cA]:=by
 unfold Xr at h;refine XG.call (ks:=[0]) mixed fun us=>?_;apply g0 (o:=cA);obtain⟨o21,h40,h⟩:=bS h;refine gl (aJj none us h40) ?_;replace h:=AJ h;rcases h with⟨o22,rfl,h⟩|⟨o23,rfl,h⟩
 exact lX h (lv [] [0,997]);exact lX h (lv [] [0,997])
def XL(us:List Value)(s6 s7:Int)(s8 s9:Int)(w0:List Int):St:=⟨sp 56 0 [rx 0,sI 6 s6,sI 7 s7,sI 8 s8,sI 9 s9],[rW 0 56 1 dU w0,(997,.vals [.row 0] us)],[]⟩
def XM(us:List Value)(s6 s7 s8:Int)(o:(List Int)):Ex×St:=(.exit 0,⟨sp 56 0 [rx 0,sI 6 s6,sI 7 s7,sI 8 s8],[rW 0 56 1 dU o,(997,.vals [.row 0] us)],[]⟩)
theorem aKn(rd:Option Nat)(us:List Value)(h:SN a8 aA aN aR aZ=some b6):Lq 156 rd 122 (XL us a8 aA aN aR aZ) ((XM us a8 aA aN) b6):=
 lL (fun s:Int×List Int=>XL us a8 aA aN s.1 s.2) (XM us a8 aA aN) (aR,aZ) (fun⟨aR,aZ⟩ o h=>by
 unfold HI at h
 refine iB 19 h (fun h=>?_) fun h=>?_
 obtain⟨r1,h2,h⟩:=bS h
 refine gG 26 (.cx false [(0,0)] [] (.tup []) [rW 0 56 1 dU r1]) (aXn h2) ?_
 exact lb h
 exact lb h) h
def XN(us:List Value)(s6 s7 s10:Int)(w0:List Int):St:=⟨sp 56 0 [rx 0,sI 6 s6,sI 7 s7,sI 10 s10],[rW 0 56 1 dU w0,(997,.vals [.row 0] us)],[]⟩
def XO(us:List Value)(s6 s7:Int)(o:(List Int)):Ex×St:=(.exit 2,⟨sp 56 0 [],[rW 0 56 1 dU o,(997,.vals [.row 0] us)],[]⟩)
theorem aKo(rd:Option Nat)(us:List Value)(h:SO a8 aA aN aZ=some b6):Lq 156 rd 126 (XN us a8 aA aN aZ) ((XO us a8 aA) b6):=
 lL (fun s:Int×List Int=>XN us a8 aA s.1 s.2) (XO us a8 aA) (aN,aZ) (fun⟨aN,aZ⟩ o h=>by
 unfold HJ at h
 refine iB 30 h (fun h=>?_) fun h=>?_
 obtain⟨h5,h⟩:=cS h
 refine gQ h5.1<|gQ (AI dU h5.2) ?_
 obtain⟨x3,h6,h⟩:=xS h
 refine gG 44 (.el (dU x3)) (AK dU h6)<|gW 10049 (.sl ((aZ.set a8.toNat x3).map dU)) ?_
 obtain⟨h7,h⟩:=cS h
 refine gQ h7.1<|gQ (AI dU h7.2) ?_
 obtain⟨x4,h8,h⟩:=xS h
 refine gG 48 (.el (dU x4)) (AK dU h8)<|gW 10050 (.sl (((aZ.set a8.toNat x3).set (AA .add .i64 a8 aN).toNat x4).map dU)) ?_
 obtain⟨h9,h⟩:=cS h
 refine gQ h9.1<|gQ (AI dU h9.2) ?_
 obtain⟨h10,h⟩:=cS h
 refine gQ (A0 dU h10)<|gQ (AV dU aZ a8 x3) ?_
 obtain⟨h11,h⟩:=cS h
 refine gQ h11.1<|gQ (AI dU h11.2) ?_
 obtain⟨h12,h⟩:=cS h
 refine gQ (A0 dU h12)<|gQ (AV dU (aZ.set a8.toNat x3) (AA .add .i64 a8 aN) x4) ?_
 obtain⟨r5,h13,h⟩:=bS h
 refine gG 55 (.cx false [(0,0)] [] (.tup []) [rW 0 56 1 dU r5]) (aXn h13) ?_
 exact lb h
 exact lb h) h
theorem bBw(h:Y2 a8 aA aZ=some cA):AM Tryz.prog 156 [.row 0,dI a8,dI aA] [rW 0 56 1 dU aZ] (.tup []) [rW 0 56 1 dU cA]:=by unfold Y2 at h;refine XG.call (ks:=[0]) mixed fun us=>?_;apply g0 (o:=cA);refine gQ (of_decide_eq_true rfl:(2:Int)≠0) ?_;obtain⟨o2,h3,h⟩:=bS h;refine gl (aKn none us h3) ?_;obtain⟨o6,h14,h⟩:=bS h;refine gl (aKo none us h14) ?_;exact lX h (lv [] [0,997])
theorem aW8(h:U4 a8=some aA):AM Tryz.prog 135 [dI a8] [] (.d (dU aA)) []:=by unfold U4 at h;apply g0 (o:=aA);obtain⟨r1,h1,h⟩:=bS h;refine gC 5 (aR3 h1) ?_;obtain⟨h2,h⟩:=cS h;refine gQ h2 ?_;exact lf h
theorem aW9(h:U5 a8=some aH):AM Tryz.prog 136 [.box 0 0] [(0,.cells ([.d (dU a8)]))] (.d (dU aH.1)) [(0,.cells ([.d (dU aH.2)]))]:=by unfold U5 at h;refine XG.call (ks:=[0]) mixed fun us=>?_;apply g0 (o:=aH);refine gQ (of_decide_eq_true rfl:(0:Int)<=13)<|gQ (of_decide_eq_true rfl:(0:Int)<=7)<|gQ (of_decide_eq_true rfl:(0:Int)<=17) ?_;exact lX h (lv [2] [0,997])
theorem aJ9(rd:Option Nat)(us:List Value)(h:OY a8 aA aN aR bC aD aZ bD=some cD):Lq 157 rd 30501 ⟨sp 65 0 [rx 0,sI 1 a8,sI 6 aA,bx 7,sD 8 dU aN,sI 9 aR,sI 10 bC,sD 43 D.b aD],[rW 0 56 1 dU aZ,(7,.cells ([.d (dU bD)])),(997,.vals [.row 0] us)],[]⟩ (.normal,⟨sp 65 0 [rx 0,sI 1 a8,sI 6 aA,bx 7,sD 8 dU aN,sI 9 aR,sI 10 cD],[rW 0 56 1 dU aZ,(7,.cells ([.d (dU bD)])),(997,.vals [.row 0] us)],[]⟩):=by unfold OY at h;apply g0 (o:=cD);cases aD;replace h:=Bj h;exact lp h;replace h:=Bl h;exact lp h
theorem aJ8(rd:Option Nat)(us:List Value)(h:SI a8 aA aN aR aZ bC=some cE):Lq 157 rd 1906 ⟨sp 65 0 [rx 0,sI 1 a8,sI 6 aA,bx 7,sD 8 dU aN,sI 9 aR],[rW 0 56 1 dU aZ,(7,.cells ([.d (dU bC)])),(997,.vals [.row 0] us)],[]⟩ (.normal,⟨sp 65 0 [rx 0,sI 1 a8,sI 6 aA,bx 7,sD 8 dU aN,sI 9 aR],[rW 0 56 1 dU cE.1,(7,.cells ([.d (dU cE.2)])),(997,.vals [.row 0] us)],[]⟩):=by unfold SI at h;apply g0 (o:=cE);obtain⟨r2,h4,h⟩:=bS h;refine gG 36 (.cx false [(0,7)] [] (.d (dU r2.1)) [(0,.cells ([.d (dU r2.2)]))]) (aW9 h4) ?_;obtain⟨o3,h6,h⟩:=bS h;refine gl (aJ9 rd us h6) ?_;obtain⟨h7,h⟩:=cS h;refine gQ h7.1<|gQ (AI dU h7.2) ?_;obtain⟨x4,h8,h⟩:=xS h;refine gG 58 (.el (dU x4)) (AK dU h8)<|gW 10063 (.sl ((aZ.set aR.toNat x4).map dU)) ?_;obtain⟨h9,h⟩:=cS h;refine gQ h9.1<|gQ (AI dU h9.2) ?_;obtain⟨x5,h10,h⟩:=xS h;refine gG 62 (.el (dU x5)) (AK dU h10)<|gW 10064 (.sl (((aZ.set aR.toNat x4).set (AA .add .i64 a8 o3).toNat x5).map dU)) ?_;obtain⟨h11,h⟩:=cS h;refine gQ h11.1<|gQ (AI dU h11.2) ?_;obtain⟨h12,h⟩:=cS h;refine gQ (A0 dU h12)<|gQ (AV dU aZ aR x4) ?_;obtain⟨h13,h⟩:=cS h;refine gQ h13.1<|gQ (AI dU h13.2) ?_;obtain⟨h14,h⟩:=cS h;refine gQ (A0 dU h14)<|gQ (AV dU (aZ.set aR.toNat x4) (AA .add .i64 a8 o3) x5) ?_;exact lp h
def W5(us:List Value)(s1 s6:Int)(s8 s9:Int)(w0:List Int)(w7:Int):St:=⟨sp 65 0 [rx 0,sI 1 s1,sI 6 s6,bx 7,sD 8 dU s8,sI 9 s9],[rW 0 56 1 dU w0,(7,.cells ([.d (dU w7)])),(997,.vals [.row 0] us)],[]⟩
def W6(us:List Value)(s1 s6 s8:Int)(o:(List Int)):Ex×St:=(.exit 0,⟨sp 65 0 [],[rW 0 56 1 dU o,(997,.vals [.row 0] us)],[]⟩)
theorem aKa(rd:Option Nat)(us:List Value)(h:SJ a8 aA aN aR aZ bC=some b6):Lq 157 rd 238 (W5 us a8 aA aN aR aZ bC) ((W6 us a8 aA aN) b6):=
 lL (fun s:Int×List Int×Int=>W5 us a8 aA aN s.1 s.2.1 s.2.2) (W6 us a8 aA aN) (aR,aZ,bC) (fun⟨aR,aZ,bC⟩ o h=>by
 unfold HG at h
 refine gQ (of_decide_eq_true rfl:(4:Int)≠0) ?_
 refine iB 33 h (fun h=>?_) fun h=>?_
 obtain⟨o6,h15,h⟩:=bS h
 refine gl (aJ8 rd us h15) ?_
 exact lb h
 exact lb h) h
theorem aJ7(rd:Option Nat)(us:List Value)(h:SH a8 aA aD aZ=some b6):Lq 157 rd 7 ⟨sp 65 0 [rx 0,sI 1 a8,sI 6 aA,sD 15 D.b aD],[rW 0 56 1 dU aZ,(997,.vals [.row 0] us)],[]⟩ (.normal,⟨sp 65 0 [],[rW 0 56 1 dU b6,(997,.vals [.row 0] us)],[]⟩):=by unfold SH at h;apply g0 (o:=b6);cases aD;replace h:=Bj h;exact lp h;replace h:=Bl h;obtain⟨r1,h2,h⟩:=bS h;refine gC 19 (aW8 h2)<|gQ (of_decide_eq_true rfl:(4:Int)≠0) ?_;obtain⟨o7,h16,h⟩:=bS h;refine gl (aKa rd us h16) ?_;exact lp h
theorem bBr(h:Xy a8 aA aZ=some cA):AM Tryz.prog 157 [.row 0,dI a8,dI aA] [rW 0 56 1 dU aZ] (.tup []) [rW 0 56 1 dU cA]:=by unfold Xy at h;refine XG.call (ks:=[0]) mixed fun us=>?_;apply g0 (o:=cA);obtain⟨o8,h17,h⟩:=bS h;refine gl (aJ7 none us h17) ?_;exact lX h (lv [] [0,997])
theorem aR1(h:Qj aZ a8 aA aN=some aM):AM Tryz.prog 184 [.d ((D.l dU) aZ),dI a8,dI aA,.box 0 0] [(0,.cells ([dI aN]))] (.tup [dI aM.1,dI aM.2.1]) [(0,.cells ([dI aM.2.2]))]:=by unfold Qj at h;refine XG.call (ks:=[3]) mixed fun us=>?_;apply g0 (o:=aM);refine xX 12 dU h fun x1 h=>?_;refine xX 16 dU h fun x2 h=>?_;obtain⟨r3,h3,h⟩:=bS h;refine gQ (FE h3) ?_;cases r3;replace h:=Bj h;refine gW 18 (.ret (.d (D.b false))) ?_;exact lX h (lv [8,9] [0,997]);replace h:=Bl h;refine gW 18 (.ret (.d (D.b true))) ?_;exact lX h (lv [8,9] [0,997])
theorem aW0(h:Qm aZ a8 aA aN aR=some aH):AM Tryz.prog 177 [.d ((D.l dU) aZ),dI a8,dI aA,dI aN,.box 0 0] [(0,.cells ([dI aR]))] (dI aH.1) [(0,.cells ([dI aH.2]))]:=by unfold Qm at h;refine XG.call (ks:=[4]) mixed fun us=>?_;apply g0 (o:=aH);obtain⟨r1,h1,h⟩:=bS h;refine gG 16 (.cx false [(0,0)] [] (.tup [dI r1.1,dI r1.2.1]) [(0,.cells ([dI r1.2.2]))]) (aR1 h1) ?_;obtain⟨r2,h2,h⟩:=bS h;refine gG 24 (.cx false [(0,0)] [] (.tup [dI r2.1,dI r2.2.1]) [(0,.cells ([dI r2.2.2]))]) (aR1 h2) ?_;obtain⟨r3,h3,h⟩:=bS h;refine gG 32 (.cx false [(0,0)] [] (.tup [dI r3.1,dI r3.2.1]) [(0,.cells ([dI r3.2.2]))]) (aR1 h3) ?_;exact lX h (lv [10] [0,997])
theorem aR2(h:Qk aZ a8 aA=some aH):AM Tryz.prog 176 [.d ((D.l dU) aZ),dI a8,.box 0 0] [(0,.cells ([dI aA]))] (dI aH.1) [(0,.cells ([dI aH.2]))]:=by unfold Qk at h;refine XG.call (ks:=[2]) mixed fun us=>?_;apply g0 (o:=aH);obtain⟨r1,h1,h⟩:=bS h;refine gG 14 (.cx false [(0,0)] [] (dI r1.1) [(0,.cells ([dI r1.2]))]) (aW0 h1) ?_;exact lX h (lv [6] [0,997])
theorem aNl(rd:Option Nat)(h:OZ aZ a8 aA aN aD aR=some cF):Lq 158 rd 4073 ⟨sp 57 0 [sD 0 (D.l dU) aZ,bx 9,sI 10 a8,sI 11 aA,sI 12 aN,sD 34 D.b aD],[(9,.cells ([dI aR]))],[]⟩ (.normal,⟨sp 57 0 [sD 0 (D.l dU) aZ,bx 9,sI 10 cF.1,sI 11 cF.2.1,sI 12 cF.2.2.1],[(9,.cells ([dI cF.2.2.2]))],[]⟩):=by unfold OZ at h;apply g0 (o:=cF);cases aD;replace h:=Bj h;exact lp h;replace h:=Bl h;obtain⟨r1,h3,h⟩:=bS h;refine gG 37 (.cx false [(0,9)] [] (dI r1.1) [(0,.cells ([dI r1.2]))]) (aR2 h3) ?_;obtain⟨r2,h4,h⟩:=bS h;refine gG 40 (.cx false [(0,9)] [] (dI r2.1) [(0,.cells ([dI r2.2]))]) (aR2 h4) ?_;obtain⟨r3,h5,h⟩:=bS h;refine gG 43 (.cx false [(0,9)] [] (dI r3.1) [(0,.cells ([dI r3.2]))]) (aR2 h5) ?_;exact lp h
theorem aNk(rd:Option Nat)(h:SX aZ a8 aA aN aR aD bC=some bI):Lq 158 rd 509 ⟨sp 57 0 [sD 0 (D.l dU) aZ,sI 8 a8,bx 9,sI 10 aA,sI 11 aN,sI 12 aR,sD 32 D.b aD],[(9,.cells ([dI bC]))],[]⟩ (.normal,⟨sp 57 0 [bx 9,sI 11 bI.1],[(9,.cells ([dI bI.2]))],[]⟩):=by unfold SX at h;apply g0 (o:=bI);cases aD;replace h:=Bj h;exact lp h;replace h:=Bl h;obtain⟨o4,h6,h⟩:=bS h;refine gl (aNl rd h6) ?_;obtain⟨r5,h7,h⟩:=bS h;refine gG 48 (.cx false [(0,9)] [] (dI r5.1) [(0,.cells ([dI r5.2]))]) (aW0 h7) ?_;exact lp h
theorem bCr(h:Z8 aZ a8 aA=some aH):AM Tryz.prog 158 [.d ((D.l dU) aZ),dI a8,dI aA] [] (.tup [dI aH.1,dI aH.2]) []:=by unfold Z8 at h;apply g0 (o:=aH);refine gQ (of_decide_eq_true rfl:(4:Int)≠0)<|gQ (of_decide_eq_true rfl:(4:Int)≠0)<|gQ (of_decide_eq_true rfl:(4:Int)≠0) ?_;obtain⟨o6,h8,h⟩:=bS h;refine gl (aNk none h8) ?_;refine iB 51 h (fun h=>?_) fun h=>?_;exact lf h;refine iB 54 h (fun h=>?_) fun h=>?_;exact lf h;exact lf h
def aAi(us:List Value)(s6 s7:Int)(w0:List Int):St:=⟨sp 32 0 [rx 0,sI 6 s6,sI 7 s7],[rW 0 56 1 dU w0,(997,.vals [.row 0] us)],[]⟩
def aAj(us:List Value)(o:(List Int)):Ex×St:=(.exit 0,⟨sp 32 0 [],[rW 0 56 1 dU o,(997,.vals [.row 0] us)],[]⟩)
theorem aM6(rd:Option Nat)(us:List Value)(h:ST a8 aA aZ=some b6):Lq 159 rd 14 (aAi us a8 aA aZ) ((aAj us) b6):=
 lL (fun s:Int×Int×List Int=>aAi us s.1 s.2.1 s.2.2) (aAj us) (a8,aA,aZ) (fun⟨a8,aA,aZ⟩ o h=>by
 unfold JI at h
 refine iB 13 h (fun h=>?_) fun h=>?_
 obtain⟨h2,h⟩:=cS h
 refine gQ h2.1<|gQ (AI dU h2.2) ?_
 obtain⟨x1,h3,h⟩:=xS h
 refine gG 21 (.el (dU x1)) (AK dU h3)<|gW 10026 (.sl ((aZ.set a8.toNat x1).map dU)) ?_
 obtain⟨h4,h⟩:=cS h
 refine gQ h4.1<|gQ (AI dU h4.2) ?_
 obtain⟨x2,h5,h⟩:=xS h
 refine gG 25 (.el (dU x2)) (AK dU h5)<|gW 10027 (.sl (((aZ.set a8.toNat x1).set aA.toNat x2).map dU)) ?_
 obtain⟨h6,h⟩:=cS h
 refine gQ h6.1<|gQ (AI dU h6.2) ?_
 obtain⟨h7,h⟩:=cS h
 refine gQ (A0 dU h7)<|gQ (AV dU aZ a8 x1) ?_
 obtain⟨h8,h⟩:=cS h
 refine gQ h8.1<|gQ (AI dU h8.2) ?_
 obtain⟨h9,h⟩:=cS h
 refine gQ (A0 dU h9)<|gQ (AV dU (aZ.set a8.toNat x1) aA x2) ?_
 exact lb h
 exact lb h) h
theorem bCk(h:Yy a8 aA aZ=some cA):AM Tryz.prog 159 [.row 0,dI a8,dI aA] [rW 0 56 1 dU aZ] (.tup []) [rW 0 56 1 dU cA]:=by unfold Yy at h;refine XG.call (ks:=[0]) mixed fun us=>?_;apply g0 (o:=cA);obtain⟨o3,h10,h⟩:=bS h;refine gl (aM6 none us h10) ?_;exact lX h (lv [] [0,997])
def UA(us:List Value)(s1 s2 s8:Int)(w0:List Int)(s7:Int):St:=⟨sp 133 0 [rx 0,sI 1 s1,sI 2 s2,sI 7 s7,sI 8 s8],[rW 0 56 1 dU w0,(997,.vals [.row 0] us)],[]⟩
def UB(us:List Value)(s1 s2 s8:Int)(w0:List Int)(o:Int):Ex×St:=(.exit 2,⟨sp 133 0 [rx 0,sI 1 s1,sI 2 s2,sI 7 o,sI 8 s8],[rW 0 56 1 dU w0,(997,.vals [.row 0] us)],[]⟩)
theorem aGx(rd:Option Nat)(us:List Value)(h:R1 a8 aA aN aZ aR=some bC):Lq 160 rd 3728 (UA us a8 aA aN aZ aR) ((UB us a8 aA aN aZ) bC):=
 lL (fun s:Int=>UA us a8 aA aN aZ s) (UB us a8 aA aN aZ) aR (fun aR o h=>by
 unfold Gz at h
 refine iB 20 h (fun h=>?_) fun h=>?_
 obtain⟨h3,h⟩:=cS h
 refine gQ h3.1<|gQ (AI dU h3.2) ?_
 obtain⟨x1,h4,h⟩:=xS h
 refine gG 24 (.el (dU x1)) (AK dU h4) ?_
 obtain⟨h5,h⟩:=cS h
 refine gQ h5.1<|gQ (AI dU h5.2) ?_
 obtain⟨x2,h6,h⟩:=xS h
 refine gG 29 (.el (dU x2)) (AK dU h6) ?_
 obtain⟨r3,h7,h⟩:=bS h
 refine gC 30 (FE h7) ?_
 refine iB 32 h (fun h=>?_) fun h=>?_
 exact lb h
 exact lb h
 exact lb h) h
def UC(us:List Value)(s1 s2:Int)(s7 s8 s9:Int)(w0:List Int):St:=⟨sp 133 0 [rx 0,sI 1 s1,sI 2 s2,sI 7 s7,sI 8 s8,sI 9 s9],[rW 0 56 1 dU w0,(997,.vals [.row 0] us)],[]⟩
def UD(us:List Value)(s1 s2:Int)(s7 s8:Int)(o:(List Int)):Ex×St:=(.exit 4,⟨sp 133 0 [rx 0,sI 1 s1,sI 2 s2,sI 7 s7,sI 8 s8],[rW 0 56 1 dU o,(997,.vals [.row 0] us)],[]⟩)
theorem aGy(rd:Option Nat)(us:List Value)(h:R2 a8 aA aN aR bC aZ=some b6):Lq 160 rd 477674 (UC us a8 aA aN aR bC aZ) ((UD us a8 aA aN aR) b6):=
 lL (fun s:Int×List Int=>UC us a8 aA aN aR s.1 s.2) (UD us a8 aA aN aR) (bC,aZ) (fun⟨bC,aZ⟩ o h=>by
 unfold G0 at h
 refine iB 65 h (fun h=>?_) fun h=>?_
 obtain⟨h22,h⟩:=cS h
 refine gQ h22.1<|gQ (AI dU h22.2) ?_
 obtain⟨x7,h23,h⟩:=xS h
 refine gG 71 (.el (dU x7)) (AK dU h23) ?_
 obtain⟨h24,h⟩:=cS h
 refine gQ h24.1<|gQ (AI dU h24.2) ?_
 obtain⟨x8,h25,h⟩:=xS h
 refine gG 76 (.el (dU x8)) (AK dU h25) ?_
 obtain⟨r9,h26,h⟩:=bS h
 refine gC 77 (FE h26) ?_
 refine iB 78 h (fun h=>?_) fun h=>?_
 exact lb h
 obtain⟨h28,h⟩:=cS h
 refine gQ h28.1<|gQ (AI dU h28.2) ?_
 obtain⟨x10,h29,h⟩:=xS h
 refine gG 88 (.el (dU x10)) (AK dU h29)<|gW 10093 (.sl ((aZ.set bC.toNat x10).map dU)) ?_
 obtain⟨h30,h⟩:=cS h
 refine gQ h30.1<|gQ (AI dU h30.2) ?_
 obtain⟨x11,h31,h⟩:=xS h
 refine gG 92 (.el (dU x11)) (AK dU h31)<|gW 10094 (.sl (((aZ.set bC.toNat x10).set (AA .sub .i64 bC 1).toNat x11).map dU)) ?_
 obtain⟨h32,h⟩:=cS h
 refine gQ h32.1<|gQ (AI dU h32.2) ?_
 obtain⟨h33,h⟩:=cS h
 refine gQ (A0 dU h33)<|gQ (AV dU aZ bC x10) ?_
 obtain⟨h34,h⟩:=cS h
 refine gQ h34.1<|gQ (AI dU h34.2) ?_
 obtain⟨h35,h⟩:=cS h
 refine gQ (A0 dU h35)<|gQ (AV dU (aZ.set bC.toNat x10) (AA .sub .i64 bC 1) x11) ?_
 exact lb h
 exact lb h) h
theorem aGu(rd:Option Nat)(us:List Value)(h:OK a8 aA aN aR aD aZ=some b6):Lq 160 rd 59709 ⟨sp 133 0 [rx 0,sI 1 a8,sI 2 aA,sI 7 aN,sI 8 aR,sD 61 D.b aD],[rW 0 56 1 dU aZ,(997,.vals [.row 0] us)],[]⟩ (.normal,⟨sp 133 0 [rx 0,sI 1 a8,sI 2 aA,sI 7 aN,sI 8 aR],[rW 0 56 1 dU b6,(997,.vals [.row 0] us)],[]⟩):=by unfold OK at h;apply g0 (o:=b6);cases aD;replace h:=Bj h;exact lp h;replace h:=Bl h;obtain⟨o12,h36,h⟩:=bS h;refine gl (aGy rd us h36) ?_;exact lp h
def UE(us:List Value)(s1 s2:Int)(s7 s8 s10:Int)(w0:List Int):St:=⟨sp 133 0 [rx 0,sI 1 s1,sI 2 s2,sI 7 s7,sI 8 s8,sI 10 s10],[rW 0 56 1 dU w0,(997,.vals [.row 0] us)],[]⟩
def UF(us:List Value)(s1 s2:Int)(s7 s8:Int)(o:(List Int)):Ex×St:=(.exit 6,⟨sp 133 0 [rx 0,sI 1 s1,sI 2 s2,sI 7 s7,sI 8 s8],[rW 0 56 1 dU o,(997,.vals [.row 0] us)],[]⟩)
theorem aGz(rd:Option Nat)(us:List Value)(h:R3 a8 aA aN aR bC aZ=some b6):Lq 160 rd 477690 (UE us a8 aA aN aR bC aZ) ((UF us a8 aA aN aR) b6):=
 lL (fun s:Int×List Int=>UE us a8 aA aN aR s.1 s.2) (UF us a8 aA aN aR) (bC,aZ) (fun⟨bC,aZ⟩ o h=>by
 unfold G1 at h
 refine iB 103 h (fun h=>?_) fun h=>?_
 obtain⟨h40,h⟩:=cS h
 refine gQ h40.1<|gQ (AI dU h40.2) ?_
 obtain⟨x14,h41,h⟩:=xS h
 refine gG 109 (.el (dU x14)) (AK dU h41) ?_
 obtain⟨h42,h⟩:=cS h
 refine gQ h42.1<|gQ (AI dU h42.2) ?_
 obtain⟨x15,h43,h⟩:=xS h
 refine gG 114 (.el (dU x15)) (AK dU h43) ?_
 obtain⟨r16,h44,h⟩:=bS h
 refine gC 115 (FE h44) ?_
 refine iB 116 h (fun h=>?_) fun h=>?_
 exact lb h
 obtain⟨h46,h⟩:=cS h
 refine gQ h46.1<|gQ (AI dU h46.2) ?_
 obtain⟨x17,h47,h⟩:=xS h
 refine gG 126 (.el (dU x17)) (AK dU h47)<|gW 10131 (.sl ((aZ.set bC.toNat x17).map dU)) ?_
 obtain⟨h48,h⟩:=cS h
 refine gQ h48.1<|gQ (AI dU h48.2) ?_
 obtain⟨x18,h49,h⟩:=xS h
 refine gG 130 (.el (dU x18)) (AK dU h49)<|gW 10132 (.sl (((aZ.set bC.toNat x17).set (AA .sub .i64 bC 1).toNat x18).map dU)) ?_
 obtain⟨h50,h⟩:=cS h
 refine gQ h50.1<|gQ (AI dU h50.2) ?_
 obtain⟨h51,h⟩:=cS h
 refine gQ (A0 dU h51)<|gQ (AV dU aZ bC x17) ?_
 obtain⟨h52,h⟩:=cS h
 refine gQ h52.1<|gQ (AI dU h52.2) ?_
 obtain⟨h53,h⟩:=cS h
 refine gQ (A0 dU h53)<|gQ (AV dU (aZ.set bC.toNat x17) (AA .sub .i64 bC 1) x18) ?_
 exact lb h
 exact lb h) h
theorem aGv(rd:Option Nat)(us:List Value)(h:OL a8 aA aN aR aD aZ=some b6):Lq 160 rd 59711 ⟨sp 133 0 [rx 0,sI 1 a8,sI 2 aA,sI 7 aN,sI 8 aR,sD 98 D.b aD],[rW 0 56 1 dU aZ,(997,.vals [.row 0] us)],[]⟩ (.normal,⟨sp 133 0 [rx 0,sI 1 a8,sI 2 aA,sI 7 aN,sI 8 aR],[rW 0 56 1 dU b6,(997,.vals [.row 0] us)],[]⟩):=by unfold OL at h;apply g0 (o:=b6);cases aD;replace h:=Bj h;exact lp h;replace h:=Bl h;obtain⟨o19,h54,h⟩:=bS h;refine gl (aGz rd us h54) ?_;exact lp h
theorem aGt(rd:Option Nat)(us:List Value)(h:R0 a8 aA aN aR aZ=some cG):Lq 160 rd 466 ⟨sp 133 0 [rx 0,sI 1 a8,sI 2 aA,sI 7 aN,sI 8 aR],[rW 0 56 1 dU aZ,(997,.vals [.row 0] us)],[]⟩ (match (generalizing:=false) cG with
 | .inl cG=>(.normal,⟨sp 133 0 [rx 0,sI 1 a8,sI 2 aA,sI 7 cG.1,sI 8 aR],[rW 0 56 1 dU cG.2,(997,.vals [.row 0] us)],[]⟩)
 | .inr cG=>(.ret,⟨sp 133 0 [sD 6 D.b cG],[rW 0 56 1 dU aZ,(997,.vals [.row 0] us)],[]⟩)):=by
 unfold R0 at h
 apply g0 (o:=cG)
 obtain⟨o4,h9,h⟩:=bS h
 refine gl (aGx rd us h9) ?_
 refine iB 37 h (fun h=>?_) fun h=>?_
 exact lp h
 refine iB 41 h (fun h=>?_) fun h=>?_
 exact lp h
 obtain⟨h12,h⟩:=cS h
 refine gQ h12.1<|gQ (AI dU h12.2) ?_
 obtain⟨x5,h13,h⟩:=xS h
 refine gG 51 (.el (dU x5)) (AK dU h13)<|gW 10056 (.sl ((aZ.set o4.toNat x5).map dU)) ?_
 obtain⟨h14,h⟩:=cS h
 refine gQ h14.1<|gQ (AI dU h14.2) ?_
 obtain⟨x6,h15,h⟩:=xS h
 refine gG 55 (.el (dU x6)) (AK dU h15)<|gW 10057 (.sl (((aZ.set o4.toNat x5).set (AA .sub .i64 o4 1).toNat x6).map dU)) ?_
 obtain⟨h16,h⟩:=cS h
 refine gQ h16.1<|gQ (AI dU h16.2) ?_
 obtain⟨h17,h⟩:=cS h
 refine gQ (A0 dU h17)<|gQ (AV dU aZ o4 x5) ?_
 obtain⟨h18,h⟩:=cS h
 refine gQ h18.1<|gQ (AI dU h18.2) ?_
 obtain⟨h19,h⟩:=cS h
 refine gQ (A0 dU h19)<|gQ (AV dU (aZ.set o4.toNat x5) (AA .sub .i64 o4 1) x6) ?_
 obtain⟨o13,h37,h⟩:=bS h
 refine gl (aGu rd us h37) ?_
 obtain⟨o20,h55,h⟩:=bS h
 refine gl (aGv rd us h55) ?_
 exact lp h
def T8(us:List Value)(s1 s2:Int)(s7 s8:Int)(w0:List Int):St:=⟨sp 133 0 [rx 0,sI 1 s1,sI 2 s2,sI 7 s7,sI 8 s8],[rW 0 56 1 dU w0,(997,.vals [.row 0] us)],[]⟩
def T9(us:List Value)(s1 s2:Int)(o:(List Int)⊕(Bool×List Int)):Ex×St:=match o with
 | .inl o=>(.exit 0,⟨sp 133 0 [],[rW 0 56 1 dU o,(997,.vals [.row 0] us)],[]⟩)
 | .inr o=>(.ret,⟨sp 133 0 [sD 6 D.b o.1],[rW 0 56 1 dU o.2,(997,.vals [.row 0] us)],[]⟩)
theorem aGw(rd:Option Nat)(us:List Value)(h:OM a8 aA aN aR aZ=some cH):Lq 160 rd 58 (T8 us a8 aA aN aR aZ) ((T9 us a8 aA) cH):=
 lL (fun s:Int×Int×List Int=>T8 us a8 aA s.1 s.2.1 s.2.2) (T9 us a8 aA) (aN,aR,aZ) (fun⟨aN,aR,aZ⟩ o h=>by
 unfold Gy at h
 refine iB 14 h (fun h=>?_) fun h=>?_
 obtain⟨o21,h56,h⟩:=bS h
 refine gl (aGt rd us h56) ?_
 replace h:=AJ h
 rcases h with⟨o22,rfl,h⟩|⟨o23,rfl,h⟩
 exact lb h
 exact lb h
 exact lb h) h
theorem bA1(h:X8 a8 aA aZ=some cI):AM Tryz.prog 160 [.row 0,dI a8,dI aA] [rW 0 56 1 dU aZ] (.d (D.b cI.1)) [rW 0 56 1 dU cI.2]:=by
 unfold X8 at h;refine XG.call (ks:=[0]) mixed fun us=>?_;apply g0 (o:=cI);obtain⟨o24,h57,h⟩:=bS h;refine gl (aGw none us h57) ?_;replace h:=AJ h;rcases h with⟨o25,rfl,h⟩|⟨o26,rfl,h⟩
 exact lX h (lv [6] [0,997]);exact lX h (lv [6] [0,997])
end Go.Ac
