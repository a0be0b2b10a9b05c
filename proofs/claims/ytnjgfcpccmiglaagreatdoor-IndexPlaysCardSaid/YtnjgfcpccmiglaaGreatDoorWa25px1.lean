/- Own work, printed: the functions compute these. -/
import Derived.Test.YtnjgfcpccmiglaaGreatDoorSh25p
import Derived.Test.YtnjgfcpccmiglaaGreatDoorProg
set_option linter.unusedVariables false
set_option linter.unusedSimpArgs false
namespace Go.Ac
open Go.Proofs
variable {a8 cD:AA}
variable {a9 aB aO aS cX d6 d7:Int}
variable {aA:Unit⊕Unit}
variable {aC bD:List (List UInt8)}
variable {aD aP:List UInt8}
variable {aE b9:Bool}
variable {aF:List X8}
variable {aG:Unit⊕Int}
variable {aH:Unit⊕(Int×Int)}
variable {aI:Int×Int}
variable {aJ aR:X3}
variable {aK:(List (List UInt8))⊕Unit}
variable {aL:X3×Int}
variable {aM:Int×Bool}
variable {aN:Int×Int×Int}
variable {aQ:Unit⊕Bool}
variable {aT aY:X2}
variable {aU cC:X5}
variable {aV:Int⊕Unit}
variable {aW c9:A9}
variable {aX:AX}
variable {aZ:List Bool}
variable {b6 cJ cZ:List Int}
variable {b7:(List Int)}
variable {b8:(List Bool×List Int)}
variable {bA cQ:List X0}
variable {bB:List Xg}
variable {bC:X8}
variable {bE:Xd}
variable {bG:List Xd}
variable {bH:Xi}
variable {bI:List Xi}
variable {bJ:(List (List UInt8))}
variable {bK:List Yc}
variable {bL:X4×Bool}
variable {bM:Int⊕(Unit⊕(Unit⊕(Unit⊕(Unit⊕(Unit⊕Unit)))))}
variable {bN:Unit⊕(Unit⊕(Unit⊕(Unit⊕(Unit⊕(Unit⊕Int)))))}
variable {bO:Int⊕(Unit⊕(Unit⊕(Unit⊕(Unit⊕Int))))}
variable {bP:Unit⊕(Unit⊕(Unit⊕(Unit⊕Int)))}
variable {bQ:Unit⊕(Unit⊕(Unit⊕Int))}
variable {bR:Unit⊕(Unit⊕Int)}
variable {bU:List Xb}
variable {bV:List X4}
variable {bW:Xb}
variable {bX:X4}
variable {bY:(List X4)}
variable {bZ:Bool×Int}
variable {cA:List A9}
variable {cB:Bool×List X4×Int}
variable {cE:(List X4×Int)⊕(List X4×Int)}
variable {cF cK:List AX}
variable {cG:Bool×Int×List X4}
variable {cH:List X5}
variable {cI:(Int×List X4)⊕(Int×List X4)}
variable {cM:List X2}
variable {cN:Unit}
variable {cO:AA×MP Int (List X0)×MP (List UInt8) (List Int)}
variable {cP:X0}
variable {cR:Unit⊕X3}
variable {cT:X3×Bool}
variable {cU:(List UInt8)}
variable {cV:List X3}
variable {cW:(List UInt8)⊕Unit}
variable {cY:(Int×Int)}
variable {d4:MP Int (List X0)}
variable {d5:MP (List UInt8) (List Int)}
variable {d8:(AA×MP Int (List X0)×MP (List UInt8) (List Int))}
theorem mixed:Tryz.prog.follows .mixedOrders=true:=by kernel_rfl
theorem lB{β:Type}{ws:List (Nat×W)}{lw:List Lw}{Q:List Prop}{o v:β}{rd:Option Nat}{root:Code}{q:List Nat}{s:St}{E:β->Ex}{S:β->St}(h:some v=some o)(l:List Ws)(he:(cj Q True/\(E v=E v/\S v=S v))=S0 Tryz.prog rd root ws lw q l s (E v) (S v):=by kernel_rfl):Gl ws lw Q (fun o=>Arr Tryz.prog rd root q s (E o) (S o)) o:=lB_ mixed h l he
theorem lP{β:Type}{ws:List (Nat×W)}{lw:List Lw}{Q:List Prop}{o v:β}{rd:Option Nat}{root:Code}{q:List Nat}{s:St}{E:β->Ex}{S:β->St}(h:some v=some o)(l:List Ws)(he:(cj Q True/\(E v=E v/\S v=S v))=S0 Tryz.prog rd root ws lw q l s (E v) (S v):=by kernel_rfl):Gl ws lw Q (fun o=>EL Tryz.prog rd root q s (E o) (S o)) o:=lP_ mixed h l he
theorem lb{β:Type}{ws:List (Nat×W)}{lw:List Lw}{Q:List Prop}{o v:β}{rd:Option Nat}{root:Code}{q:List Nat}{s:St}{E:β->Ex}{S:β->St}(h:some v=some o)(he:(cj Q True/\(E v=E v/\S v=S v))=S0 Tryz.prog rd root ws lw q (lvS (S v)) s (E v) (S v):=by kernel_rfl):Gl ws lw Q (fun o=>Arr Tryz.prog rd root q s (E o) (S o)) o:=lB_ mixed h _ he
theorem lp{β:Type}{ws:List (Nat×W)}{lw:List Lw}{Q:List Prop}{o v:β}{rd:Option Nat}{root:Code}{q:List Nat}{s:St}{E:β->Ex}{S:β->St}(h:some v=some o)(he:(cj Q True/\(E v=E v/\S v=S v))=S0 Tryz.prog rd root ws lw q (lvS (S v)) s (E v) (S v):=by kernel_rfl):Gl ws lw Q (fun o=>EL Tryz.prog rd root q s (E o) (S o)) o:=lP_ mixed h _ he
theorem lF{β:Type}{ws:List (Nat×W)}{lw:List Lw}{Q:List Prop}{o v:β}{f:FuncId}{args:List A}{R:β->A}(h:some v=some o)(l:List Ws)(he:(cj Q True/\(R v=R v/\true=true))=aC3 Tryz.prog f ws lw l args (R v):=by kernel_rfl):Gl ws lw Q (fun o=>AM Tryz.prog f args [] (R o) []) o:=lF_ mixed h l he
theorem lf{β:Type}{ws:List (Nat×W)}{lw:List Lw}{Q:List Prop}{o v:β}{f:FuncId}{args:List A}{R:β->A}(h:some v=some o)(he:(cj Q True/\(R v=R v/\true=true))=aC3 Tryz.prog f ws lw [] args (R v):=by kernel_rfl):Gl ws lw Q (fun o=>AM Tryz.prog f args [] (R o) []) o:=lF_ mixed h [] he
abbrev Lq(n:Nat)(rd:Option Nat)(p:Nat)(s:St)(x:Ex×St):Prop:=EL Tryz.prog rd (DJ Tryz.prog n) (pth p) s x.1 x.2
theorem lI{β:Type}{ws:List (Nat×W)}{lw:List Lw}{Q:List Prop}{o v:β}{f:FuncId}{args:List A}{F0:Bx}(hF:Far F0){r:A}{F:β->Bx}(hc:∀f,∀p∈F f,∀m,p.2.has m=true->m∈AK (F f))(h:some v=some o)(l:List Ws)(he:(cj Q True/\(r=r/\F v=F v/\true=true))=aKg Tryz.prog f ws lw l args F0 r (F v):=by kernel_rfl):Gl ws lw Q (fun o=>K6 Tryz.prog f args F0 r (F o)) o:=lI_ mixed hF hc h l he
theorem lX{β:Type}{ws:List (Nat×W)}{lw:List Lw}{Q:List Prop}{o v:β}{f:FuncId}{args:List A}{X:Bx}{ks:List Nat}{us:List Value}{R:β->A}{X1:β->Bx}(h:some v=some o)(l:List Ws)(he:(cj Q True/\(R v=R v/\X1 v++[(vx,.vals (F3 args ks) us)]=X1 v++[(vx,.vals (F3 args ks) us)]/\true=true))=aKh Tryz.prog f ws lw l args X ks us (R v) (X1 v):=by kernel_rfl):Gl ws lw Q (fun o=>XG Tryz.prog f args X ks us (R o) (X1 o)) o:=lX_ h l he
def TS(w1:AA)(s3:Int):St:=⟨sp 166 0 [bx 1,sI 3 s3],[cL 1 AA.D w1],[]⟩
def TT(w1:AA)(o:Unit⊕Unit):Ex×St:=match o with
 | .inl o=>(.exit 0,⟨sp 166 0 [bx 1],[cL 1 AA.D w1],[]⟩)
 | .inr o=>(.ret,⟨sp 166 0 [sI 2 0],[],[]⟩)
theorem aDm(rd:Option Nat)(h:aLx a8 a9=some aA):Lq 20 rd 58 (TS a8 a9) ((TT a8) aA):=
 lL (fun s:Int=>TS a8 s) (TT a8) a9 (fun a9 o h=>by
 unfold GH at h
 refine gN 58 X8.D a8.decls ?_
 refine iB 59 h (fun h=>?_) fun h=>?_
 refine xX 65 X8.D h fun x1 h=>?_
 refine gN 68 dZ x1.types ?_
 refine iB 70 h (fun h=>?_) fun h=>?_
 exact lb h
 refine xX 74 X8.D h fun x2 h=>?_
 refine gG 77 (.int (x2.name.length:Int)) (BH x2.name) ?_
 refine iB 79 h (fun h=>?_) fun h=>?_
 exact lb h
 exact lb h
 exact lb h) h
def TW(s4:Int)(w1:AA)(s5:Int):St:=⟨sp 166 0 [bx 1,sI 4 s4,sI 5 s5],[cL 1 AA.D w1],[]⟩
def TX(s4:Int)(w1:AA)(o:Unit⊕Unit):Ex×St:=match o with
 | .inl o=>(.exit 4,⟨sp 166 0 [bx 1,sI 4 s4],[cL 1 AA.D w1],[]⟩)
 | .inr o=>(.ret,⟨sp 166 0 [sI 2 0],[],[]⟩)
theorem aDo(rd:Option Nat)(h:aLz a9 a8 aB=some aA):Lq 20 rd 15654 (TW a9 a8 aB) ((TX a9 a8) aA):=
 lL (fun s:Int=>TW a9 a8 s) (TX a9 a8) aB (fun aB o h=>by
 unfold GJ at h
 refine xX 99 X2.D h fun x7 h=>?_
 refine gN 102 AX.D x7.args ?_
 refine iB 103 h (fun h=>?_) fun h=>?_
 refine xX 109 X2.D h fun x8 h=>?_
 refine xX 113 AX.D h fun x9 h=>?_
 refine gG 117 (.int (x9.value.str.length:Int)) (BH x9.value.str) ?_
 refine iB 118 h (fun h=>?_) fun h=>?_
 exact lb h
 exact lb h
 exact lb h) h
def TU(w1:AA)(s4:Int):St:=⟨sp 166 0 [bx 1,sI 4 s4],[cL 1 AA.D w1],[]⟩
def TV(w1:AA)(o:Unit⊕Unit):Ex×St:=match o with
 | .inl o=>(.exit 2,⟨sp 166 0 [bx 1],[cL 1 AA.D w1],[]⟩)
 | .inr o=>(.ret,⟨sp 166 0 [sI 2 0],[],[]⟩)
theorem aDn(rd:Option Nat)(h:aLy a8 a9=some aA):Lq 20 rd 122 (TU a8 a9) ((TV a8) aA):=
 lL (fun s:Int=>TU a8 s) (TV a8) a9 (fun a9 o h=>by
 unfold GI at h
 refine gN 83 X2.D a8.symbols ?_
 refine iB 84 h (fun h=>?_) fun h=>?_
 refine xX 90 X2.D h fun x6 h=>?_
 refine gN 93 AX.D x6.args ?_
 refine iB 94 h (fun h=>?_) fun h=>?_
 exact lb h
 obtain⟨o10,h23,h⟩:=bS h
 refine gl (aDo rd h23) ?_
 replace h:=AH h
 rcases h with⟨o11,rfl,h⟩|⟨o12,rfl,h⟩
 exact lb h
 exact lb h
 exact lb h) h
def TY(w1:AA)(s6:Int):St:=⟨sp 166 0 [bx 1,sI 6 s6],[cL 1 AA.D w1],[]⟩
def TZ(w1:AA)(o:Unit⊕Unit):Ex×St:=match o with
 | .inl o=>(.exit 6,⟨sp 166 0 [bx 1],[cL 1 AA.D w1],[]⟩)
 | .inr o=>(.ret,⟨sp 166 0 [sI 2 0],[],[]⟩)
theorem aDp(rd:Option Nat)(h:aL0 a8 a9=some aA):Lq 20 rd 250 (TY a8 a9) ((TZ a8) aA):=
 lL (fun s:Int=>TY a8 s) (TZ a8) a9 (fun a9 o h=>by
 unfold GK at h
 refine gN 122 Xi.D a8.frees ?_
 refine iB 123 h (fun h=>?_) fun h=>?_
 refine xX 129 Xi.D h fun x16 h=>?_
 refine gG 133 (.int (x16.init_.str.length:Int)) (BH x16.init_.str) ?_
 refine iB 134 h (fun h=>?_) fun h=>?_
 exact lb h
 exact lb h
 exact lb h) h
def Ta(w1:AA)(s7:Int):St:=⟨sp 166 0 [bx 1,sI 7 s7],[cL 1 AA.D w1],[]⟩
def Tb(w1:AA)(o:Unit⊕Unit):Ex×St:=match o with
 | .inl o=>(.exit 8,⟨sp 166 0 [bx 1],[cL 1 AA.D w1],[]⟩)
 | .inr o=>(.ret,⟨sp 166 0 [sI 2 0],[],[]⟩)
theorem aDq(rd:Option Nat)(h:aL1 a8 a9=some aA):Lq 20 rd 506 (Ta a8 a9) ((Tb a8) aA):=
 lL (fun s:Int=>Ta a8 s) (Tb a8) a9 (fun a9 o h=>by
 unfold GL at h
 refine gN 138 Xb.D a8.nodes ?_
 refine iB 139 h (fun h=>?_) fun h=>?_
 refine xX 145 Xb.D h fun x20 h=>?_
 refine gG 149 (.int (x20.value.str.length:Int)) (BH x20.value.str) ?_
 refine iB 150 h (fun h=>?_) fun h=>?_
 exact lb h
 exact lb h
 exact lb h) h
def Tc(w1:AA)(s8:Int):St:=⟨sp 166 0 [bx 1,sI 8 s8],[cL 1 AA.D w1],[]⟩
def Td(w1:AA)(o:Unit⊕Unit):Ex×St:=match o with
 | .inl o=>(.exit 10,⟨sp 166 0 [],[],[]⟩)
 | .inr o=>(.ret,⟨sp 166 0 [sI 2 0],[],[]⟩)
theorem aDr(rd:Option Nat)(h:aL2 a8 a9=some aA):Lq 20 rd 1018 (Tc a8 a9) ((Td a8) aA):=
 lL (fun s:Int=>Tc a8 s) (Td a8) a9 (fun a9 o h=>by
 unfold GM at h
 refine gN 154 X5.D a8.trans ?_
 refine iB 155 h (fun h=>?_) fun h=>?_
 refine xX 161 X5.D h fun x24 h=>?_
 refine gN 164 A9.D x24.sets ?_
 refine iB 165 h (fun h=>?_) fun h=>?_
 exact lb h
 exact lb h
 exact lb h) h
theorem aWf(h:Xa a8=some a9):AM Tryz.prog 20 [.d (AA.D a8)] [] (dI a9) []:=by
 unfold Xa at h;apply g0 (o:=a9);refine gN 11 X8.D a8.decls ?_;refine iB 13 h (fun h=>?_) fun h=>?_;exact lf h;refine gN 16 Xd.D a8.quants ?_;refine iB 19 h (fun h=>?_) fun h=>?_;exact lf h;refine gN 22 Xi.D a8.frees ?_;refine iB 25 h (fun h=>?_) fun h=>?_;exact lf h;refine gN 28 Yc.D a8.states ?_;refine iB 31 h (fun h=>?_) fun h=>?_;exact lf h;refine gN 34 X2.D a8.symbols ?_;refine iB 37 h (fun h=>?_) fun h=>?_;exact lf h;refine gN 40 X5.D a8.trans ?_;refine iB 43 h (fun h=>?_) fun h=>?_;exact lf h;refine gN 46 Xb.D a8.nodes ?_;refine iB 49 h (fun h=>?_) fun h=>?_;exact lf h;refine gG 52 (.int (a8.name.length:Int)) (BH a8.name) ?_;refine iB 54 h (fun h=>?_) fun h=>?_;exact lf h;obtain⟨o3,h14,h⟩:=bS h;refine gl (aDm none h14) ?_;replace h:=AH h;rcases h with⟨o4,rfl,h⟩|⟨o5,rfl,h⟩
 obtain⟨o13,h24,h⟩:=bS h;refine gl (aDn none h24) ?_;replace h:=AH h;rcases h with⟨o14,rfl,h⟩|⟨o15,rfl,h⟩
 obtain⟨o17,h28,h⟩:=bS h;refine gl (aDp none h28) ?_;replace h:=AH h;rcases h with⟨o18,rfl,h⟩|⟨o19,rfl,h⟩
 obtain⟨o21,h32,h⟩:=bS h;refine gl (aDq none h32) ?_;replace h:=AH h;rcases h with⟨o22,rfl,h⟩|⟨o23,rfl,h⟩
 obtain⟨o25,h36,h⟩:=bS h;refine gl (aDr none h36) ?_;replace h:=AH h;rcases h with⟨o26,rfl,h⟩|⟨o27,rfl,h⟩
 exact lf h;exact lf h;exact lf h;exact lf h;exact lf h;exact lf h
theorem aVs(h:Ue=some aC):AM Tryz.prog 123 [] [] (.d ((D.l D.s) aC)) []:=by unfold Ue at h;apply g0 (o:=aC);refine gQ (Ad D.s ([([97,99,99,101,112,116]:List UInt8),([97,108,115,111]:List UInt8),([97,110,100]:List UInt8),([98,111,111,108]:List UInt8),([100,111]:List UInt8),([101,118,101,110,116]:List UInt8),([101,120,105,115,116,115]:List UInt8),([102,97,108,115,101]:List UInt8),([102,111,114,97,108,108]:List UInt8),([102,114,101,101]:List UInt8),([105,102]:List UInt8),([105,110,116]:List UInt8),([110,101,120,116]:List UInt8),([110,111,116]:List UInt8),([111,110]:List UInt8),([111,114]:List UInt8),([113,101,97]:List UInt8),([115,107,105,112]:List UInt8),([115,116,97,114,116]:List UInt8),([115,116,114,105,110,103]:List UInt8),([116,111]:List UInt8),([116,114,117,101]:List UInt8)])) ?_;exact lf h
def XQ(s0:List UInt8)(s3:Int):St:=⟨sp 55 0 [sD 0 D.s s0,sI 3 s3],[],[]⟩
def XR(s0:List UInt8)(o:Unit⊕Unit):Ex×St:=match o with
 | .inl o=>(.exit 0,⟨sp 55 0 [],[],[]⟩)
 | .inr o=>(.ret,⟨sp 55 0 [sD 2 D.b false],[],[]⟩)
theorem aHx(rd:Option Nat)(h:aMw aD a9=some aA):Lq 124 rd 58 (XQ aD a9) ((XR aD) aA):=
 lL (fun s:Int=>XQ aD s) (XR aD) a9 (fun a9 o h=>by
 unfold Jt at h
 refine gG 16 (.int (aD.length:Int)) (BH aD) ?_
 refine iB 17 h (fun h=>?_) fun h=>?_
 obtain⟨x1,h4,h⟩:=xS h
 refine gG 22 (.int x1.toNat) (Ci h4) ?_
 refine iB 25 h (fun h=>?_) fun h=>?_
 refine iB 29 h (fun h=>?_) fun h=>?_
 exact lb h
 refine iB 32 h (fun h=>?_) fun h=>?_
 refine iB 37 h (fun h=>?_) fun h=>?_
 exact lb h
 refine iB 43 h (fun h=>?_) fun h=>?_
 refine iB 46 h (fun h=>?_) fun h=>?_
 exact lb h
 refine iB 50 h (fun h=>?_) fun h=>?_
 exact lb h
 refine iB 54 h (fun h=>?_) fun h=>?_
 exact lb h
 exact lb h
 exact lb h
 refine iB 43 h (fun h=>?_) fun h=>?_
 refine iB 46 h (fun h=>?_) fun h=>?_
 exact lb h
 refine iB 50 h (fun h=>?_) fun h=>?_
 exact lb h
 refine iB 54 h (fun h=>?_) fun h=>?_
 exact lb h
 exact lb h
 exact lb h
 refine iB 32 h (fun h=>?_) fun h=>?_
 refine iB 37 h (fun h=>?_) fun h=>?_
 exact lb h
 refine iB 43 h (fun h=>?_) fun h=>?_
 refine iB 46 h (fun h=>?_) fun h=>?_
 exact lb h
 refine iB 50 h (fun h=>?_) fun h=>?_
 exact lb h
 refine iB 54 h (fun h=>?_) fun h=>?_
 exact lb h
 exact lb h
 exact lb h
 refine iB 43 h (fun h=>?_) fun h=>?_
 refine iB 46 h (fun h=>?_) fun h=>?_
 exact lb h
 refine iB 50 h (fun h=>?_) fun h=>?_
 exact lb h
 refine iB 54 h (fun h=>?_) fun h=>?_
 exact lb h
 exact lb h
 exact lb h
 exact lb h) h
theorem aYu(h:Z8 aD=some aE):AM Tryz.prog 124 [.d (D.s aD)] [] (.d (D.b aE)) []:=by
 unfold Z8 at h;apply g0 (o:=aE);refine gG 7 (.int (aD.length:Int)) (BH aD) ?_;refine iB 9 h (fun h=>?_) fun h=>?_;exact lf h;refine gG 11 (.int (aD.length:Int)) (BH aD) ?_;refine iB 13 h (fun h=>?_) fun h=>?_;exact lf h;obtain⟨o2,h27,h⟩:=bS h;refine gl (aHx none h27) ?_;replace h:=AH h;rcases h with⟨o3,rfl,h⟩|⟨o4,rfl,h⟩
 exact lf h;exact lf h
def W7(s0:List UInt8)(s3:List (List UInt8))(s4:Int):St:=⟨sp 24 0 [sD 0 D.s s0,sD 3 (D.l D.s) s3,sI 4 s4],[],[]⟩
def W8(s0:List UInt8)(s3:List (List UInt8))(o:Unit⊕Unit):Ex×St:=match o with
 | .inl o=>(.exit 0,⟨sp 24 0 [sD 0 D.s s0],[],[]⟩)
 | .inr o=>(.ret,⟨sp 24 0 [sD 2 D.b false],[],[]⟩)
theorem aHl(rd:Option Nat)(h:aMr aD aC a9=some aA):Lq 65 rd 58 (W7 aD aC a9) ((W8 aD aC) aA):=
 lL (fun s:Int=>W7 aD aC s) (W8 aD aC) a9 (fun a9 o h=>by
 unfold Jr at h
 refine gN 8 D.s aC ?_
 refine iB 9 h (fun h=>?_) fun h=>?_
 refine xX 14 D.s h fun x2 h=>?_
 refine iB 17 h (fun h=>?_) fun h=>?_
 exact lb h
 exact lb h
 exact lb h) h
theorem aHm(h:Yx aD=some aE):AM Tryz.prog 65 [.d (D.s aD)] [] (.d (D.b aE)) []:=by
 unfold Yx at h;apply g0 (o:=aE);obtain⟨r1,h1,h⟩:=bS h;refine gC 5 (aVs h1) ?_;obtain⟨o3,h5,h⟩:=bS h;refine gl (aHl none h5) ?_;replace h:=AH h;rcases h with⟨o4,rfl,h⟩|⟨o5,rfl,h⟩
 obtain⟨r6,h6,h⟩:=bS h;refine gQ (aYu h6) ?_;cases r6;replace h:=B1 h;refine gW 19 (.ret (.d (D.b false))) ?_;exact lf h;replace h:=B2 h;refine gW 19 (.ret (.d (D.b true))) ?_;exact lf h;exact lf h
def XB(s0:List X8)(s1:List UInt8)(s5:Int):St:=⟨sp 20 0 [sD 0 (D.l X8.D) s0,sD 1 D.s s1,sI 5 s5],[],[]⟩
def XC(s0:List X8)(s1:List UInt8)(o:Unit⊕Int):Ex×St:=match o with
 | .inl o=>(.exit 0,⟨sp 20 0 [],[],[]⟩)
 | .inr o=>(.ret,⟨sp 20 0 [sI 4 o],[],[]⟩)
theorem aHq(rd:Option Nat)(h:aHp aF aD a9=some aG):Lq 23 rd 26 (XB aF aD a9) ((XC aF aD) aG):=
 lL (fun s:Int=>XB aF aD s) (XC aF aD) a9 (fun a9 o h=>by
 unfold FH at h
 refine gN 8 X8.D aF ?_
 refine iB 9 h (fun h=>?_) fun h=>?_
 refine xX 14 X8.D h fun x1 h=>?_
 refine iB 18 h (fun h=>?_) fun h=>?_
 exact lb h
 exact lb h
 exact lb h) h
theorem aRq(h:Yz aF aD=some a9):AM Tryz.prog 23 [.d ((D.l X8.D) aF),.d (D.s aD)] [] (dI a9) []:=by
 unfold Yz at h;apply g0 (o:=a9);obtain⟨o2,h4,h⟩:=bS h;refine gl (aHq none h4) ?_;replace h:=AH h;rcases h with⟨o3,rfl,h⟩|⟨o4,rfl,h⟩
 exact lf h;exact lf h
def WS(s0:List X8)(s4 s5:Int):St:=⟨sp 72 0 [sD 0 (D.l X8.D) s0,sI 4 s4,sI 5 s5],[],[]⟩
def WT(s0:List X8)(s4:Int)(o:Unit⊕Unit):Ex×St:=match o with
 | .inl o=>(.exit 2,⟨sp 72 0 [sD 0 (D.l X8.D) s0,sI 4 s4],[],[]⟩)
 | .inr o=>(.ret,⟨sp 72 0 [sI 2 8,sI 3 s4],[],[]⟩)
theorem aG3(rd:Option Nat)(h:aG2 aF a9 aB=some aA):Lq 42 rd 29854 (WS aF a9 aB) ((WT aF a9) aA):=
 lL (fun s:Int=>WS aF a9 s) (WT aF a9) aB (fun aB o h=>by
 unfold Jp at h
 refine xX 44 X8.D h fun x6 h=>?_
 refine gN 47 dZ x6.types ?_
 refine iB 48 h (fun h=>?_) fun h=>?_
 refine xX 53 X8.D h fun x7 h=>?_
 refine xX 57 dZ h fun x8 h=>?_
 refine iB 60 h (fun h=>?_) fun h=>?_
 exact lb h
 refine xX 63 X8.D h fun x9 h=>?_
 refine xX 67 dZ h fun x10 h=>?_
 refine iB 70 h (fun h=>?_) fun h=>?_
 exact lb h
 exact lb h
 exact lb h) h
def WQ(s0:List X8)(s4:Int):St:=⟨sp 72 0 [sD 0 (D.l X8.D) s0,sI 4 s4],[],[]⟩
def WR(s0:List X8)(o:Unit⊕(Int×Int)):Ex×St:=match o with
 | .inl o=>(.exit 0,⟨sp 72 0 [],[],[]⟩)
 | .inr o=>(.ret,⟨sp 72 0 [sI 2 o.1,sI 3 o.2],[],[]⟩)
theorem aG1(rd:Option Nat)(h:aMo aF a9=some aH):Lq 42 rd 58 (WQ aF a9) ((WR aF) aH):=
 lL (fun s:Int=>WQ aF s) (WR aF) a9 (fun a9 o h=>by
 unfold G4 at h
 refine gN 11 X8.D aF ?_
 refine iB 12 h (fun h=>?_) fun h=>?_
 refine xX 17 X8.D h fun x1 h=>?_
 obtain⟨r2,h4,h⟩:=bS h
 refine gC 20 (aHm h4) ?_
 refine iB 21 h (fun h=>?_) fun h=>?_
 exact lb h
 refine xX 26 X8.D h fun x3 h=>?_
 obtain⟨r4,h7,h⟩:=bS h
 refine gC 29 (aRq h7) ?_
 refine iB 31 h (fun h=>?_) fun h=>?_
 exact lb h
 refine xX 35 X8.D h fun x5 h=>?_
 refine gN 38 dZ x5.types ?_
 refine iB 39 h (fun h=>?_) fun h=>?_
 exact lb h
 obtain⟨o11,h19,h⟩:=bS h
 refine gl (aG3 rd h19) ?_
 replace h:=AH h
 rcases h with⟨o12,rfl,h⟩|⟨o13,rfl,h⟩
 exact lb h
 exact lb h
 exact lb h) h
theorem aXz(h:Yk aF=some aI):AM Tryz.prog 42 [.d ((D.l X8.D) aF)] [] (.tup [dI aI.1,dI aI.2]) []:=by
 unfold Yk at h;apply g0 (o:=aI);refine gN 7 X8.D aF ?_;refine iB 8 h (fun h=>?_) fun h=>?_;exact lf h;obtain⟨o14,h20,h⟩:=bS h;refine gl (aG1 none h20) ?_;replace h:=AH h;rcases h with⟨o15,rfl,h⟩|⟨o16,rfl,h⟩
 exact lf h;exact lf h
theorem YO(h:Zm aJ=some aE):AM Tryz.prog 24 [.d (X3.D aJ)] [] (.d (D.b aE)) []:=by unfold Zm at h;apply g0 (o:=aE);refine iB 5 h (fun h=>?_) fun h=>?_;refine iB 9 h (fun h=>?_) fun h=>?_;exact lf h;exact lf h;refine iB 16 h (fun h=>?_) fun h=>?_;refine iB 20 h (fun h=>?_) fun h=>?_;refine iB 25 h (fun h=>?_) fun h=>?_;refine gG 28 (.int (aJ.str.length:Int)) (BH aJ.str) ?_;exact lf h;exact lf h;exact lf h;refine iB 34 h (fun h=>?_) fun h=>?_;refine iB 39 h (fun h=>?_) fun h=>?_;exact lf h;exact lf h;exact lf h
def XS(s0:List (List UInt8))(s1 s5:Int):St:=⟨sp 20 0 [sD 0 (D.l D.s) s0,sI 1 s1,sI 5 s5],[],[]⟩
def XT(s0:List (List UInt8))(s1:Int)(o:Unit⊕Unit):Ex×St:=match o with
 | .inl o=>(.exit 0,⟨sp 20 0 [],[],[]⟩)
 | .inr o=>(.ret,⟨sp 20 0 [sD 4 D.b true],[],[]⟩)
theorem aHy(rd:Option Nat)(h:aMx aC a9 aB=some aA):Lq 66 rd 26 (XS aC a9 aB) ((XT aC a9) aA):=
 lL (fun s:Int=>XS aC a9 s) (XT aC a9) aB (fun aB o h=>by
 unfold Ju at h
 refine iB 8 h (fun h=>?_) fun h=>?_
 refine xX 13 D.s h fun x1 h=>?_
 refine xX 17 D.s h fun x2 h=>?_
 refine iB 19 h (fun h=>?_) fun h=>?_
 exact lb h
 exact lb h
 exact lb h) h
theorem aRw(h:Z9 aC a9=some aE):AM Tryz.prog 66 [.d ((D.l D.s) aC),dI a9] [] (.d (D.b aE)) []:=by
 unfold Z9 at h;apply g0 (o:=aE);obtain⟨o3,h5,h⟩:=bS h;refine gl (aHy none h5) ?_;replace h:=AH h;rcases h with⟨o4,rfl,h⟩|⟨o5,rfl,h⟩
 exact lf h;exact lf h
def T5(w1:AA)(s4:Int)(w3:List (List UInt8)):St:=⟨sp 112 0 [bx 1,rx 3,sI 4 s4],[cL 1 AA.D w1,(3,.row 9 1 (w3.map D.s))],[]⟩
def T6(w1:AA)(o:(List (List UInt8))⊕Unit):Ex×St:=match o with
 | .inl o=>(.exit 0,⟨sp 112 0 [bx 1,rx 3],[cL 1 AA.D w1,(3,.row 9 1 (o.map D.s))],[]⟩)
 | .inr o=>(.ret,⟨sp 112 0 [sD 2 D.b false],[],[]⟩)
theorem aEd(rd:Option Nat)(h:aEc a8 a9 aC=some aK):Lq 43 rd 58 (T5 a8 a9 aC) ((T6 a8) aK):=
 lL (fun s:Int×List (List UInt8)=>T5 a8 s.1 s.2) (T6 a8) (a9,aC) (fun⟨a9,aC⟩ o h=>by
 unfold GR at h
 refine gN 12 Xd.D a8.quants ?_
 refine iB 13 h (fun h=>?_) fun h=>?_
 refine xX 20 Xd.D h fun x4 h=>?_
 refine gQ (Ad D.s [x4.name])<|gG 24 (.sl ((aC++[x4.name]).map D.s)) (Ad D.s [x4.name]) ?_
 obtain⟨h10,h⟩:=cS h
 refine gQ (Am D.s h10)<|gQ (Ak D.s aC [x4.name])<|xX 28 Xd.D h fun x5 h=>?_
 refine iB 32 h (fun h=>?_) fun h=>?_
 exact lb h
 refine xX 36 Xd.D h fun x6 h=>?_
 refine iB 40 h (fun h=>?_) fun h=>?_
 exact lb h
 exact lB h [.live [1,3,4],.keep [1,24],.ren 24 3,.sort]
 exact lb h) h
def T7(w1:AA)(s5:Int)(w3:List (List UInt8)):St:=⟨sp 112 0 [bx 1,rx 3,sI 5 s5],[cL 1 AA.D w1,(3,.row 9 1 (w3.map D.s))],[]⟩
def T8(w1:AA)(o:(List (List UInt8))⊕Unit):Ex×St:=match o with
 | .inl o=>(.exit 2,⟨sp 112 0 [bx 1,rx 3],[cL 1 AA.D w1,(3,.row 9 1 (o.map D.s))],[]⟩)
 | .inr o=>(.ret,⟨sp 112 0 [sD 2 D.b false],[],[]⟩)
theorem aEf(rd:Option Nat)(h:aEe a8 a9 aC=some aK):Lq 43 rd 122 (T7 a8 a9 aC) ((T8 a8) aK):=
 lL (fun s:Int×List (List UInt8)=>T7 a8 s.1 s.2) (T8 a8) (a9,aC) (fun⟨a9,aC⟩ o h=>by
 unfold GS at h
 refine gN 44 Xi.D a8.frees ?_
 refine iB 45 h (fun h=>?_) fun h=>?_
 refine xX 52 Xi.D h fun x10 h=>?_
 refine gQ (Ad D.s [x10.name])<|gG 56 (.sl ((aC++[x10.name]).map D.s)) (Ad D.s [x10.name]) ?_
 obtain⟨h18,h⟩:=cS h
 refine gQ (Am D.s h18)<|gQ (Ak D.s aC [x10.name])<|xX 60 Xi.D h fun x11 h=>?_
 obtain⟨r12,h20,h⟩:=bS h
 refine gC 63 (YO h20) ?_
 refine iB 64 h (fun h=>?_) fun h=>?_
 exact lb h
 exact lB h [.live [1,3,5],.keep [1,56],.ren 56 3,.sort]
 exact lb h) h
def T9(w1:AA)(w3:List (List UInt8))(s6:Int):St:=⟨sp 112 0 [bx 1,rx 3,sI 6 s6],[cL 1 AA.D w1,(3,.row 9 1 (w3.map D.s))],[]⟩
def UA(w1:AA)(w3:List (List UInt8))(o:Unit⊕Unit):Ex×St:=match o with
 | .inl o=>(.exit 4,⟨sp 112 0 [bx 1],[cL 1 AA.D w1],[]⟩)
 | .inr o=>(.ret,⟨sp 112 0 [sD 2 D.b false],[],[]⟩)
theorem aEh(rd:Option Nat)(h:aEg a8 aC a9=some aA):Lq 43 rd 250 (T9 a8 aC a9) ((UA a8 aC) aA):=
 lL (fun s:Int=>T9 a8 aC s) (UA a8 aC) a9 (fun a9 o h=>by
 unfold Jj at h
 refine gN 67 D.s aC ?_
 refine iB 68 h (fun h=>?_) fun h=>?_
 refine xX 73 D.s h fun x16 h=>?_
 obtain⟨r17,h25,h⟩:=bS h
 refine gC 75 (aHm h25) ?_
 refine iB 77 h (fun h=>?_) fun h=>?_
 exact lb h
 obtain⟨r18,h27,h⟩:=bS h
 refine gQ (aRw h27) ?_
 cases r18
 replace h:=B1 h
 refine gW 80 (.ret (.d (D.b false))) ?_
 exact lb h
 replace h:=B2 h
 refine gW 80 (.ret (.d (D.b true))) ?_
 exact lb h
 exact lb h) h
def UB(w1:AA)(s8:Int)(w7:List (List UInt8)):St:=⟨sp 112 0 [bx 1,rx 7,sI 8 s8],[cL 1 AA.D w1,(7,.row 9 1 (w7.map D.s))],[]⟩
def UC(w1:AA)(o:Unit⊕Unit):Ex×St:=match o with
 | .inl o=>(.exit 6,⟨sp 112 0 [bx 1],[cL 1 AA.D w1],[]⟩)
 | .inr o=>(.ret,⟨sp 112 0 [sD 2 D.b false],[],[]⟩)
theorem aEj(rd:Option Nat)(h:aEi a8 a9 aC=some aA):Lq 43 rd 1018 (UB a8 a9 aC) ((UC a8) aA):=
 lL (fun s:Int×List (List UInt8)=>UB a8 s.1 s.2) (UC a8) (a9,aC) (fun⟨a9,aC⟩ o h=>by
 unfold Ey at h
 refine gN 85 Yc.D a8.states ?_
 refine iB 86 h (fun h=>?_) fun h=>?_
 refine xX 93 Yc.D h fun x26 h=>?_
 refine gQ (Ad D.s [x26.name])<|gG 97 (.sl ((aC++[x26.name]).map D.s)) (Ad D.s [x26.name]) ?_
 obtain⟨h40,h⟩:=cS h
 refine gQ (Am D.s h40)<|gQ (Ak D.s aC [x26.name])<|xX 100 D.s h fun x27 h=>?_
 obtain⟨r28,h42,h⟩:=bS h
 refine gC 102 (aHm h42) ?_
 refine iB 104 h (fun h=>?_) fun h=>?_
 exact lb h
 obtain⟨r29,h44,h⟩:=bS h
 refine gQ (aRw h44) ?_
 cases r29
 replace h:=B1 h
 refine gW 107 (.ret (.d (D.b false))) ?_
 exact lB h [.live [1,7,8],.keep [1,97],.ren 97 7,.sort]
 replace h:=B2 h
 refine gW 107 (.ret (.d (D.b true))) ?_
 exact lb h
 exact lb h) h
theorem aWl(h:Xj a8=some aE):AM Tryz.prog 43 [.d (AA.D a8)] [] (.d (D.b aE)) []:=by
 unfold Xj at h;apply g0 (o:=aE);obtain⟨o7,h15,h⟩:=bS h;refine gL [.live [1,3,4],.keep [1],.nil 3 3 9 1,.sort] (aEd none h15) ?_;replace h:=AH h;rcases h with⟨o8,rfl,h⟩|⟨o9,rfl,h⟩
 obtain⟨o13,h22,h⟩:=bS h;refine gl (aEf none h22) ?_;replace h:=AH h;rcases h with⟨o14,rfl,h⟩|⟨o15,rfl,h⟩
 obtain⟨o19,h29,h⟩:=bS h;refine gl (aEh none h29) ?_;replace h:=AH h;rcases h with⟨o20,rfl,h⟩|⟨o21,rfl,h⟩
 obtain⟨o30,h46,h⟩:=bS h;refine gL [.live [1,7,8],.keep [1],.nil 7 7 9 1,.sort] (aEj none h46) ?_;replace h:=AH h;rcases h with⟨o31,rfl,h⟩|⟨o32,rfl,h⟩
 obtain⟨r33,h47,h⟩:=bS h;refine gC 111 (aHm h47) ?_;exact lf h;exact lf h;exact lf h;exact lf h;exact lf h
theorem J6(h:Zn aE=some aL):AM Tryz.prog 181 [.d (D.b aE)] [] (.tup [.d (X3.D aL.1),dI aL.2]) []:=by unfold Zn at h;apply g0 (o:=aL);exact lf h
theorem aV7(h:Ut a9 aB=some aM):AM Tryz.prog 187 [dI a9,dI aB] [] (.tup [dI aM.1,.d (D.b aM.2)]) []:=by unfold Ut at h;apply g0 (o:=aM);refine iB 8 h (fun h=>?_) fun h=>?_;refine iB 14 h (fun h=>?_) fun h=>?_;exact lf h;refine iB 17 h (fun h=>?_) fun h=>?_;refine iB 23 h (fun h=>?_) fun h=>?_;exact lf h;exact lf h;exact lf h;refine iB 17 h (fun h=>?_) fun h=>?_;refine iB 23 h (fun h=>?_) fun h=>?_;exact lf h;exact lf h;exact lf h
theorem aC0(h:Qq a9 aE=some aL):AM Tryz.prog 188 [dI a9,.d (D.b aE)] [] (.tup [.d (X3.D aL.1),dI aL.2]) []:=by unfold Qq at h;apply g0 (o:=aL);refine iB 7 h (fun h=>?_) fun h=>?_;exact lf h;exact lf h
theorem aC1(h:Qr a9 aB=some aM):AM Tryz.prog 189 [dI a9,dI aB] [] (.tup [dI aM.1,.d (D.b aM.2)]) []:=by unfold Qr at h;apply g0 (o:=aM);refine iB 8 h (fun h=>?_) fun h=>?_;refine iB 14 h (fun h=>?_) fun h=>?_;exact lf h;refine iB 17 h (fun h=>?_) fun h=>?_;refine iB 23 h (fun h=>?_) fun h=>?_;exact lf h;exact lf h;exact lf h;refine iB 17 h (fun h=>?_) fun h=>?_;refine iB 23 h (fun h=>?_) fun h=>?_;exact lf h;exact lf h;exact lf h
theorem aV8(h:Uu a9 aB=some aM):AM Tryz.prog 190 [dI a9,dI aB] [] (.tup [dI aM.1,.d (D.b aM.2)]) []:=by
 unfold Uu at h;apply g0 (o:=aM);refine iB 8 h (fun h=>?_) fun h=>?_;exact lf h;refine iB 11 h (fun h=>?_) fun h=>?_;exact lf h;refine iB 13 h (fun h=>?_) fun h=>?_;obtain⟨r1,h4,h⟩:=bS h;refine gC 15 (aC1 h4) ?_;exact lf h;refine iB 19 h (fun h=>?_) fun h=>?_;obtain⟨r2,h6,h⟩:=bS h;refine gC 21 (aC1 h6) ?_;exact lf h;rcases iS h with⟨h7,h⟩|⟨h7,h⟩
 refine gT 26 h7 ?_;rcases iS h with⟨h8,h⟩|⟨h8,h⟩
 refine gT 30 h8 ?_;obtain⟨h9,h⟩:=cS h;refine gQ h9 ?_;refine iB 36 h (fun h=>?_) fun h=>?_;exact lf h;refine gT 39 h7 ?_;rcases iS h with⟨h11,h⟩|⟨h11,h⟩
 refine gT 43 h11 ?_;obtain⟨h12,h⟩:=cS h;refine gQ h12 ?_;refine iB 50 h (fun h=>?_) fun h=>?_;exact lf h;rcases iS h with⟨h14,h⟩|⟨h14,h⟩
 refine gT 53 h14<|gT 57 h8 ?_;obtain⟨h15,h⟩:=cS h;refine gQ h15 ?_;refine iB 64 h (fun h=>?_) fun h=>?_;exact lf h;refine gT 67 h14<|gT 71 h11 ?_;obtain⟨h17,h⟩:=cS h;refine gQ h17 ?_;refine iB 77 h (fun h=>?_) fun h=>?_;exact lf h;exact lf h;refine gF 53 h14<|gF 67 h14 ?_;exact lf h;refine gF 43 h11 ?_;rcases iS h with⟨h19,h⟩|⟨h19,h⟩
 refine gT 53 h19<|gT 57 h8 ?_;obtain⟨h20,h⟩:=cS h;refine gQ h20 ?_;refine iB 64 h (fun h=>?_) fun h=>?_;exact lf h;refine gT 67 h19<|gF 71 h11 ?_;exact lf h;refine gF 53 h19<|gF 67 h19 ?_;exact lf h;refine gF 30 h8<|gT 39 h7 ?_;rcases iS h with⟨h22,h⟩|⟨h22,h⟩
 refine gT 43 h22 ?_;obtain⟨h23,h⟩:=cS h;refine gQ h23 ?_;refine iB 50 h (fun h=>?_) fun h=>?_;exact lf h;rcases iS h with⟨h25,h⟩|⟨h25,h⟩
 refine gT 53 h25<|gF 57 h8<|gT 67 h25<|gT 71 h22 ?_;obtain⟨h26,h⟩:=cS h;refine gQ h26 ?_;refine iB 77 h (fun h=>?_) fun h=>?_;exact lf h;exact lf h;refine gF 53 h25<|gF 67 h25 ?_;exact lf h;refine gF 43 h22 ?_;rcases iS h with⟨h28,h⟩|⟨h28,h⟩
 refine gT 53 h28<|gF 57 h8<|gT 67 h28<|gF 71 h22 ?_;exact lf h;refine gF 53 h28<|gF 67 h28 ?_;exact lf h;refine gF 26 h7<|gF 39 h7 ?_;rcases iS h with⟨h29,h⟩|⟨h29,h⟩
 refine gT 53 h29 ?_;refine iB 57 h (fun h=>?_) fun h=>?_;obtain⟨h31,h⟩:=cS h;refine gQ h31 ?_;refine iB 64 h (fun h=>?_) fun h=>?_;exact lf h;refine gT 67 h29 ?_;refine iB 71 h (fun h=>?_) fun h=>?_;obtain⟨h34,h⟩:=cS h;refine gQ h34 ?_;refine iB 77 h (fun h=>?_) fun h=>?_;exact lf h;exact lf h;exact lf h;refine gT 67 h29 ?_;refine iB 71 h (fun h=>?_) fun h=>?_;obtain⟨h37,h⟩:=cS h;refine gQ h37 ?_;refine iB 77 h (fun h=>?_) fun h=>?_;exact lf h;exact lf h;exact lf h;refine gF 53 h29<|gF 67 h29 ?_;exact lf h
theorem aV9(h:Uv a9 aB=some aN):AM Tryz.prog 191 [dI a9,dI aB] [] (.tup [dI aN.1,dI aN.2.1,dI aN.2.2]) []:=by unfold Uv at h;apply g0 (o:=aN);refine iB 10 h (fun h=>?_) fun h=>?_;exact lf h;refine iB 12 h (fun h=>?_) fun h=>?_;obtain⟨r1,h3,h⟩:=bS h;refine gC 15 (aC1 h3) ?_;refine iB 19 h (fun h=>?_) fun h=>?_;exact lf h;exact lf h;obtain⟨h5,h⟩:=cS h;refine gQ h5 ?_;obtain⟨h6,h⟩:=cS h;refine gQ h6 ?_;exact lf h
theorem aQg(h:U0 a9 aB aO=some aL):AM Tryz.prog 182 [dI a9,dI aB,dI aO] [] (.tup [.d (X3.D aL.1),dI aL.2]) []:=by unfold U0 at h;apply g0 (o:=aL);refine iB 18 h (fun h=>?_) fun h=>?_;obtain⟨r1,h2,h⟩:=bS h;refine gC 22 (aV7 h2) ?_;obtain⟨r2,h3,h⟩:=bS h;refine gC 27 (aC0 h3) ?_;exact lf h;refine iB 31 h (fun h=>?_) fun h=>?_;obtain⟨r3,h5,h⟩:=bS h;refine gC 35 (aC1 h5) ?_;obtain⟨r4,h6,h⟩:=bS h;refine gC 40 (aC0 h6) ?_;exact lf h;refine iB 44 h (fun h=>?_) fun h=>?_;obtain⟨r5,h8,h⟩:=bS h;refine gC 48 (aV8 h8) ?_;obtain⟨r6,h9,h⟩:=bS h;refine gC 53 (aC0 h9) ?_;exact lf h;obtain⟨r7,h10,h⟩:=bS h;refine gC 59 (aV9 h10) ?_;refine iB 64 h (fun h=>?_) fun h=>?_;exact lf h;refine iB 67 h (fun h=>?_) fun h=>?_;exact lf h;obtain⟨r8,h13,h⟩:=bS h;refine gC 73 (aC0 h13) ?_;exact lf h
def W9(s0 s1:List UInt8)(s5:Int):St:=⟨sp 37 0 [sD 0 D.s s0,sD 1 D.s s1,sI 5 s5],[],[]⟩
def XA(s0 s1:List UInt8)(o:Unit⊕Bool):Ex×St:=match o with
 | .inl o=>(.exit 0,⟨sp 37 0 [sD 0 D.s s0,sD 1 D.s s1],[],[]⟩)
 | .inr o=>(.ret,⟨sp 37 0 [sD 4 D.b o],[],[]⟩)
theorem aHo(rd:Option Nat)(h:aHn aD aP a9=some aQ):Lq 64 rd 26 (W9 aD aP a9) ((XA aD aP) aQ):=
 lL (fun s:Int=>W9 aD aP s) (XA aD aP) a9 (fun a9 o h=>by
 unfold FF at h
 refine gG 8 (.int (aD.length:Int)) (BH aD) ?_
 refine iB 10 h (fun h=>?_) fun h=>?_
 refine gG 13 (.int (aP.length:Int)) (BH aP) ?_
 refine iB 15 h (fun h=>?_) fun h=>?_
 obtain⟨x1,h3,h⟩:=xS h
 refine gG 20 (.int x1.toNat) (Ci h3) ?_
 obtain⟨x2,h4,h⟩:=xS h
 refine gG 23 (.int x2.toNat) (Ci h4) ?_
 refine iB 24 h (fun h=>?_) fun h=>?_
 obtain⟨x3,h6,h⟩:=xS h
 refine gG 27 (.int x3.toNat) (Ci h6) ?_
 obtain⟨x4,h7,h⟩:=xS h
 refine gG 30 (.int x4.toNat) (Ci h7) ?_
 exact lb h
 exact lb h
 exact lb h
 exact lb h) h
theorem aRp(h:Yy aD aP=some aE):AM Tryz.prog 64 [.d (D.s aD),.d (D.s aP)] [] (.d (D.b aE)) []:=by
 unfold Yy at h;apply g0 (o:=aE);obtain⟨o5,h8,h⟩:=bS h;refine gl (aHo none h8) ?_;replace h:=AH h;rcases h with⟨o6,rfl,h⟩|⟨o7,rfl,h⟩
 refine gG 33 (.int (aD.length:Int)) (BH aD)<|gG 35 (.int (aP.length:Int)) (BH aP) ?_;exact lf h;exact lf h
theorem aP6(h:Qt aJ aR=some aE):AM Tryz.prog 183 [.d (X3.D aJ),.d (X3.D aR)] [] (.d (D.b aE)) []:=by unfold Qt at h;apply g0 (o:=aE);refine iB 9 h (fun h=>?_) fun h=>?_;exact lf h;refine iB 17 h (fun h=>?_) fun h=>?_;exact lf h;refine iB 25 h (fun h=>?_) fun h=>?_;obtain⟨r1,h4,h⟩:=bS h;refine gC 30 (aRp h4) ?_;exact lf h;refine iB 34 h (fun h=>?_) fun h=>?_;exact lf h;exact lf h
theorem aWa(h:Uw a9 aJ aR=some aL):AM Tryz.prog 168 [dI a9,.d (X3.D aJ),.d (X3.D aR)] [] (.tup [.d (X3.D aL.1),dI aL.2]) []:=by unfold Uw at h;apply g0 (o:=aL);refine iB 10 h (fun h=>?_) fun h=>?_;exact lf h;refine iB 13 h (fun h=>?_) fun h=>?_;exact lf h;refine iB 16 h (fun h=>?_) fun h=>?_;refine iB 19 h (fun h=>?_) fun h=>?_;exact lf h;obtain⟨r1,h5,h⟩:=bS h;refine gC 24 (J6 h5) ?_;exact lf h;refine iB 28 h (fun h=>?_) fun h=>?_;refine iB 31 h (fun h=>?_) fun h=>?_;exact lf h;obtain⟨r2,h8,h⟩:=bS h;refine gC 35 (aQg h8) ?_;exact lf h;refine iB 42 h (fun h=>?_) fun h=>?_;exact lf h;refine iB 45 h (fun h=>?_) fun h=>?_;obtain⟨r3,h11,h⟩:=bS h;refine gC 49 (J6 h11) ?_;exact lf h;refine iB 53 h (fun h=>?_) fun h=>?_;obtain⟨r4,h13,h⟩:=bS h;refine gC 57 (J6 h13) ?_;exact lf h;refine iB 62 h (fun h=>?_) fun h=>?_;refine iB 64 h (fun h=>?_) fun h=>?_;refine iB 67 h (fun h=>?_) fun h=>?_;obtain⟨r5,h17,h⟩:=bS h;refine gC 71 (J6 h17) ?_;exact lf h;obtain⟨r6,h18,h⟩:=bS h;refine gC 71 (J6 h18) ?_;exact lf h;refine iB 75 h (fun h=>?_) fun h=>?_;refine iB 78 h (fun h=>?_) fun h=>?_;obtain⟨r7,h21,h⟩:=bS h;refine gC 82 (J6 h21) ?_;exact lf h;obtain⟨r8,h22,h⟩:=bS h;refine gC 82 (J6 h22) ?_;exact lf h;exact lf h;refine iB 87 h (fun h=>?_) fun h=>?_;obtain⟨r9,h24,h⟩:=bS h;refine gC 90 (aP6 h24) ?_;obtain⟨r10,h25,h⟩:=bS h;refine gC 91 (J6 h25) ?_;exact lf h;refine iB 95 h (fun h=>?_) fun h=>?_;obtain⟨r11,h27,h⟩:=bS h;refine gC 98 (aP6 h27) ?_;obtain⟨r12,h28,h⟩:=bS h;refine gC 100 (J6 h28) ?_;exact lf h;refine iB 106 h (fun h=>?_) fun h=>?_;refine iB 110 h (fun h=>?_) fun h=>?_;refine iB 113 h (fun h=>?_) fun h=>?_;obtain⟨r13,h32,h⟩:=bS h;refine gC 119 (aQg h32) ?_;exact lf h;refine iB 125 h (fun h=>?_) fun h=>?_;refine iB 128 h (fun h=>?_) fun h=>?_;refine gG 131 (.int (aJ.str.length:Int)) (BH aJ.str)<|gG 134 (.int (aR.str.length:Int)) (BH aR.str) ?_;refine iB 136 h (fun h=>?_) fun h=>?_;exact lf h;refine gW 142 (.str (aJ.str++aR.str)) ?_;obtain⟨h36,h⟩:=cS h;refine gQ (FZ h36) ?_;exact lf h;exact lf h;exact lf h;refine iB 125 h (fun h=>?_) fun h=>?_;refine iB 128 h (fun h=>?_) fun h=>?_;refine gG 131 (.int (aJ.str.length:Int)) (BH aJ.str)<|gG 134 (.int (aR.str.length:Int)) (BH aR.str) ?_;refine iB 136 h (fun h=>?_) fun h=>?_;exact lf h;refine gW 142 (.str (aJ.str++aR.str)) ?_;obtain⟨h40,h⟩:=cS h;refine gQ (FZ h40) ?_;exact lf h;exact lf h;exact lf h;refine iB 125 h (fun h=>?_) fun h=>?_;refine iB 128 h (fun h=>?_) fun h=>?_;refine gG 131 (.int (aJ.str.length:Int)) (BH aJ.str)<|gG 134 (.int (aR.str.length:Int)) (BH aR.str) ?_;refine iB 136 h (fun h=>?_) fun h=>?_;exact lf h;refine gW 142 (.str (aJ.str++aR.str)) ?_;obtain⟨h44,h⟩:=cS h;refine gQ (FZ h44) ?_;exact lf h;exact lf h;exact lf h
theorem aR9(h:Zr a9 aB aO=some aS):AM Tryz.prog 156 [dI a9,dI aB,dI aO] [] (dI aS) []:=by unfold Zr at h;apply g0 (o:=aS);refine iB 11 h (fun h=>?_) fun h=>?_;exact lf h;refine iB 15 h (fun h=>?_) fun h=>?_;exact lf h;obtain⟨r1,h3,h⟩:=bS h;refine gC 22 (aWa h3) ?_;refine iB 26 h (fun h=>?_) fun h=>?_;exact lf h;refine iB 28 h (fun h=>?_) fun h=>?_;exact lf h;exact lf h
theorem aMl(self:AA->Int->Option (Int×Int×Int))(hs:∀(a0:AA) (a1:Int) (r:Int×Int×Int),self a0 a1=some r->AM Tryz.prog 125 [.d (AA.D a0),dI a1] [] (.tup [dI r.1,dI r.2.1,dI r.2.2]) [])(a0:AA)(a1:Int)(r:Int×Int×Int)(h:NM self a0 a1=some r):AM Tryz.prog 125 [.d (AA.D a0),dI a1] [] (.tup [dI r.1,dI r.2.1,dI r.2.2]) []:=by unfold NM at h;apply g0 (o:=r);refine iB 17 h (fun h=>?_) fun h=>?_;exact lf h;refine gN 21 Xb.D a0.nodes ?_;refine iB 23 h (fun h=>?_) fun h=>?_;exact lf h;refine xX 27 Xb.D h fun x1 h=>?_;refine iB 32 h (fun h=>?_) fun h=>?_;refine iB 36 h (fun h=>?_) fun h=>?_;exact lf h;refine iB 41 h (fun h=>?_) fun h=>?_;exact lf h;obtain⟨r2,h7,h⟩:=bS h;refine gC 44 (YO h7) ?_;refine iB 46 h (fun h=>?_) fun h=>?_;exact lf h;exact lf h;refine iB 54 h (fun h=>?_) fun h=>?_;exact lf h;refine iB 57 h (fun h=>?_) fun h=>?_;refine iB 61 h (fun h=>?_) fun h=>?_;exact lf h;refine gN 66 Xd.D a0.quants ?_;refine iB 69 h (fun h=>?_) fun h=>?_;exact lf h;refine iB 73 h (fun h=>?_) fun h=>?_;exact lf h;refine xX 78 Xd.D h fun x3 h=>?_;exact lf h;refine iB 84 h (fun h=>?_) fun h=>?_;refine iB 88 h (fun h=>?_) fun h=>?_;exact lf h;refine gN 93 Xi.D a0.frees ?_;refine iB 96 h (fun h=>?_) fun h=>?_;exact lf h;refine iB 100 h (fun h=>?_) fun h=>?_;exact lf h;refine xX 105 Xi.D h fun x4 h=>?_;exact lf h;refine iB 113 h (fun h=>?_) fun h=>?_;exact lf h;refine iB 117 h (fun h=>?_) fun h=>?_;exact lf h;obtain⟨r5,h22,h⟩:=bS h;refine gG 122 (.ret (.tup [dI r5.1,dI r5.2.1,dI r5.2.2])) (hs a0 (AB .sub .i64 a1 1) r5 h22) ?_;refine iB 128 h (fun h=>?_) fun h=>?_;refine iB 131 h (fun h=>?_) fun h=>?_;exact lf h;refine iB 138 h (fun h=>?_) fun h=>?_;exact lf h;refine iB 142 h (fun h=>?_) fun h=>?_;exact lf h;obtain⟨r6,h27,h⟩:=bS h;refine gC 147 (aR9 h27) ?_;exact lf h;refine iB 153 h (fun h=>?_) fun h=>?_;exact lf h;refine iB 160 h (fun h=>?_) fun h=>?_;exact lf h;refine iB 166 h (fun h=>?_) fun h=>?_;exact lf h;obtain⟨r7,h31,h⟩:=bS h;refine gG 171 (.ret (.tup [dI r7.1,dI r7.2.1,dI r7.2.2])) (hs a0 (AB .sub .i64 r5.2.2 1) r7 h31)<|gW 182 (.int (Fv r5.2.1 r7.2.1)) ?_;obtain⟨r8,h32,h⟩:=bS h;refine gC 179 (aR9 h32)<|gQ (rfl:Fv r5.2.1 r7.2.1=Fv r5.2.1 r7.2.1) ?_;exact lf h
theorem WE:∀(n:Nat) (a0:AA) (a1:Int) (r:Int×Int×Int),IM n a0 a1=some r->AM Tryz.prog 125 [.d (AA.D a0),dI a1] [] (.tup [dI r.1,dI r.2.1,dI r.2.2]) []
 |0,a0,a1,r,h=>by simp[IM]at h
 |n+1,a0,a1,r,h=>aMl _ (WE n) a0 a1 r h
theorem aXu(h:Yf a8 a9=some aN):AM Tryz.prog 125 [.d (AA.D a8),dI a9] [] (.tup [dI aN.1,dI aN.2.1,dI aN.2.2]) []:=WE 100000 a8 a9 aN h
theorem aP7(h:Qv a8 a9 aB=some aI):AM Tryz.prog 67 [.d (AA.D a8),dI a9,dI aB] [] (.tup [dI aI.1,dI aI.2]) []:=by unfold Qv at h;apply g0 (o:=aI);obtain⟨r1,h1,h⟩:=bS h;refine gC 14 (aXu h1) ?_;refine iB 20 h (fun h=>?_) fun h=>?_;exact lf h;refine iB 24 h (fun h=>?_) fun h=>?_;exact lf h;exact lf h
def XU(s1:Int)(w2:X2)(s5:Int):St:=⟨sp 30 0 [sI 1 s1,bx 2,sI 5 s5],[cL 2 X2.D w2],[]⟩
def XV(s1:Int)(w2:X2)(o:Unit⊕Unit):Ex×St:=match o with
 | .inl o=>(.exit 0,⟨sp 30 0 [],[],[]⟩)
 | .inr o=>(.ret,⟨sp 30 0 [sD 4 D.b true],[],[]⟩)
theorem aHz(rd:Option Nat)(h:aMy a9 aT aB=some aA):Lq 71 rd 26 (XU a9 aT aB) ((XV a9 aT) aA):=
 lL (fun s:Int=>XU a9 aT s) (XV a9 aT) aB (fun aB o h=>by
 unfold Jv at h
 refine gN 9 AX.D aT.args ?_
 refine iB 10 h (fun h=>?_) fun h=>?_
 refine xX 16 AX.D h fun x1 h=>?_
 refine iB 20 h (fun h=>?_) fun h=>?_
 refine xX 24 AX.D h fun x2 h=>?_
 refine iB 29 h (fun h=>?_) fun h=>?_
 exact lb h
 exact lb h
 exact lb h
 exact lb h) h
theorem aRx(h:Za aT a9=some aE):AM Tryz.prog 71 [.d (X2.D aT),dI a9] [] (.d (D.b aE)) []:=by
 unfold Za at h;apply g0 (o:=aE);obtain⟨o3,h6,h⟩:=bS h;refine gl (aHz none h6) ?_;replace h:=AH h;rcases h with⟨o4,rfl,h⟩|⟨o5,rfl,h⟩
 exact lf h;exact lf h
def YG(s3:Int)(w4:AA)(w5:X2)(s9:Int):St:=⟨sp 34 0 [sI 3 s3,bx 4,bx 5,sI 9 s9],[cL 4 AA.D w4,cL 5 X2.D w5],[]⟩
def YH(s3:Int)(w4:AA)(w5:X2)(o:Unit⊕Unit):Ex×St:=match o with
 | .inl o=>(.exit 0,⟨sp 34 0 [],[],[]⟩)
 | .inr o=>(.ret,⟨sp 34 0 [sD 8 D.b false],[],[]⟩)
theorem aH5(rd:Option Nat)(h:aM5 a9 a8 aT aB=some aA):Lq 68 rd 26 (YG a9 a8 aT aB) ((YH a9 a8 aT) aA):=
 lL (fun s:Int=>YG a9 a8 aT s) (YH a9 a8 aT) aB (fun aB o h=>by
 unfold J0 at h
 refine iB 13 h (fun h=>?_) fun h=>?_
 refine xX 19 Xb.D h fun x1 h=>?_
 refine iB 23 h (fun h=>?_) fun h=>?_
 refine xX 28 Xb.D h fun x2 h=>?_
 obtain⟨r3,h5,h⟩:=bS h
 refine gC 31 (aRx h5) ?_
 refine iB 33 h (fun h=>?_) fun h=>?_
 exact lb h
 exact lb h
 exact lb h
 exact lb h) h
theorem aY1(h:Zi a8 aT a9 aB=some aE):AM Tryz.prog 68 [.d (AA.D a8),.d (X2.D aT),dI a9,dI aB] [] (.d (D.b aE)) []:=by
 unfold Zi at h;apply g0 (o:=aE);obtain⟨o4,h7,h⟩:=bS h;refine gl (aH5 none h7) ?_;replace h:=AH h;rcases h with⟨o5,rfl,h⟩|⟨o6,rfl,h⟩
 exact lf h;exact lf h
theorem aF1(rd:Option Nat)(h:Ve a9 aB aE a8 aU=some aV):Lq 44 rd 61 ⟨sp 153 0 [sI 2 a9,bx 3,bx 4,sI 8 aB,sD 56 D.b aE],[cL 3 AA.D a8,cL 4 X5.D aU],[]⟩ (match (generalizing:=false) aV with
 | .inl aV=>(.normal,⟨sp 153 0 [sI 2 a9,bx 3,bx 4,sI 8 aV],[cL 3 AA.D a8,cL 4 X5.D aU],[]⟩)
 | .inr aV=>(.ret,⟨sp 153 0 [sI 6 0,sD 7 D.b false],[],[]⟩)):=by
 unfold Ve at h
 apply g0 (o:=aV)
 cases aE
 replace h:=B1 h
 exact lp h
 replace h:=B2 h
 obtain⟨r1,h8,h⟩:=bS h
 refine gC 62 (aP7 h8) ?_
 refine iB 67 h (fun h=>?_) fun h=>?_
 exact lp h
 refine iB 70 h (fun h=>?_) fun h=>?_
 exact lp h
 exact lp h
def Vi(s2 s11:Int)(w3:AA)(w4:X5)(w12:A9)(s15:Int):St:=⟨sp 153 0 [sI 2 s2,bx 3,bx 4,sI 11 s11,bx 12,sI 15 s15],[cL 3 AA.D w3,cL 4 X5.D w4,cL 12 A9.D w12],[]⟩
def Vj(s2 s11:Int)(w3:AA)(w4:X5)(w12:A9)(o:Unit⊕Unit):Ex×St:=match o with
 | .inl o=>(.exit 2,⟨sp 153 0 [sI 2 s2,bx 3,bx 4,sI 11 s11,bx 12],[cL 3 AA.D w3,cL 4 X5.D w4,cL 12 A9.D w12],[]⟩)
 | .inr o=>(.ret,⟨sp 153 0 [sI 6 0,sD 7 D.b false],[],[]⟩)
theorem aF4(rd:Option Nat)(h:aF3 a9 aB a8 aU aW aO=some aA):Lq 44 rd 256314 (Vi a9 aB a8 aU aW aO) ((Vj a9 aB a8 aU aW) aA):=
 lL (fun s:Int=>Vi a9 aB a8 aU aW s) (Vj a9 aB a8 aU aW) aO (fun aO o h=>by
 unfold Jm at h
 refine iB 127 h (fun h=>?_) fun h=>?_
 refine xX 133 A9.D h fun x8 h=>?_
 refine iB 138 h (fun h=>?_) fun h=>?_
 exact lb h
 exact lb h
 exact lb h) h
def Vg(s2:Int)(w3:AA)(w4:X5)(s8 s11:Int):St:=⟨sp 153 0 [sI 2 s2,bx 3,bx 4,sI 8 s8,sI 11 s11],[cL 3 AA.D w3,cL 4 X5.D w4],[]⟩
def Vh(s2:Int)(w3:AA)(w4:X5)(o:Int⊕Unit):Ex×St:=match o with
 | .inl o=>(.exit 0,⟨sp 153 0 [sI 2 s2,bx 3,bx 4,sI 8 o],[cL 3 AA.D w3,cL 4 X5.D w4],[]⟩)
 | .inr o=>(.ret,⟨sp 153 0 [sI 6 0,sD 7 D.b false],[],[]⟩)
theorem aF2(rd:Option Nat)(h:Vf a9 a8 aU aB aO=some aV):Lq 44 rd 250 (Vg a9 a8 aU aB aO) ((Vh a9 a8 aU) aV):=
 lL (fun s:Int×Int=>Vg a9 a8 aU s.1 s.2) (Vh a9 a8 aU) (aB,aO) (fun⟨aB,aO⟩ o h=>by
 unfold E4 at h
 refine gN 77 A9.D aU.sets ?_
 refine iB 78 h (fun h=>?_) fun h=>?_
 refine xX 84 A9.D h fun x5 h=>?_
 obtain⟨r6,h14,h⟩:=bS h
 refine gC 91 (aP7 h14) ?_
 refine iB 97 h (fun h=>?_) fun h=>?_
 exact lb h
 refine gN 102 Xi.D a8.frees ?_
 refine iB 105 h (fun h=>?_) fun h=>?_
 exact lb h
 refine iB 109 h (fun h=>?_) fun h=>?_
 exact lb h
 refine iB 113 h (fun h=>?_) fun h=>?_
 exact lb h
 refine xX 119 Xi.D h fun x7 h=>?_
 refine iB 124 h (fun h=>?_) fun h=>?_
 exact lb h
 obtain⟨o9,h24,h⟩:=bS h
 refine gl (aF4 rd h24) ?_
 replace h:=AH h
 rcases h with⟨o10,rfl,h⟩|⟨o11,rfl,h⟩
 exact lb h
 exact lb h
 exact lb h) h
theorem aXb(h:Y2 a8 aU a9=some aM):AM Tryz.prog 44 [.d (AA.D a8),.d (X5.D aU),dI a9] [] (.tup [dI aM.1,.d (D.b aM.2)]) []:=by
 unfold Y2 at h;apply g0 (o:=aM);refine iB 19 h (fun h=>?_) fun h=>?_;exact lf h;refine gN 24 Yc.D a8.states ?_;refine iB 27 h (fun h=>?_) fun h=>?_;exact lf h;refine iB 32 h (fun h=>?_) fun h=>?_;exact lf h;refine gN 37 Yc.D a8.states ?_;refine iB 40 h (fun h=>?_) fun h=>?_;exact lf h;refine iB 45 h (fun h=>?_) fun h=>?_;exact lf h;refine gN 50 X2.D a8.symbols ?_;refine iB 52 h (fun h=>?_) fun h=>?_;exact lf h;obtain⟨o2,h11,h⟩:=bS h;refine gl (aF1 none h11) ?_;replace h:=AH h;rcases h with⟨o3,rfl,h⟩|⟨o4,rfl,h⟩
 obtain⟨o12,h25,h⟩:=bS h;refine gl (aF2 none h25) ?_;replace h:=AH h;rcases h with⟨o13,rfl,h⟩|⟨o14,rfl,h⟩
 refine xX 148 X2.D h fun x15 h=>?_;obtain⟨r16,h27,h⟩:=bS h;refine gC 152 (aY1 h27) ?_;exact lf h;exact lf h;exact lf h
theorem aVf(h:U1 a8 aX a9=some aE):AM Tryz.prog 126 [.d (AA.D a8),.d (AX.D aX),dI a9] [] (.d (D.b aE)) []:=by unfold U1 at h;apply g0 (o:=aE);refine iB 11 h (fun h=>?_) fun h=>?_;refine iB 15 h (fun h=>?_) fun h=>?_;obtain⟨r1,h3,h⟩:=bS h;refine gQ (YO h3) ?_;cases r1;replace h:=B1 h;refine gW 18 (.ret (.d (D.b false))) ?_;exact lf h;replace h:=B2 h;refine gW 18 (.ret (.d (D.b true))) ?_;exact lf h;exact lf h;refine iB 30 h (fun h=>?_) fun h=>?_;exact lf h;refine iB 33 h (fun h=>?_) fun h=>?_;refine iB 37 h (fun h=>?_) fun h=>?_;refine gN 42 Xd.D a8.quants ?_;refine iB 45 h (fun h=>?_) fun h=>?_;refine xX 50 Xd.D h fun x2 h=>?_;exact lf h;exact lf h;exact lf h;refine iB 58 h (fun h=>?_) fun h=>?_;refine iB 62 h (fun h=>?_) fun h=>?_;refine gN 67 Xi.D a8.frees ?_;refine iB 70 h (fun h=>?_) fun h=>?_;refine xX 75 Xi.D h fun x3 h=>?_;exact lf h;exact lf h;exact lf h;refine iB 85 h (fun h=>?_) fun h=>?_;exact lf h;exact lf h
def YI(w2:AA)(w3:X2)(s5:Int):St:=⟨sp 56 0 [bx 2,bx 3,sI 5 s5],[cL 2 AA.D w2,cL 3 X2.D w3],[]⟩
def YJ(w2:AA)(w3:X2)(o:Unit⊕Unit):Ex×St:=match o with
 | .inl o=>(.exit 0,⟨sp 56 0 [],[],[]⟩)
 | .inr o=>(.ret,⟨sp 56 0 [sD 4 D.b false],[],[]⟩)
theorem aH6(rd:Option Nat)(h:aM6 a8 aT a9=some aA):Lq 69 rd 58 (YI a8 aT a9) ((YJ a8 aT) aA):=
 lL (fun s:Int=>YI a8 aT s) (YJ a8 aT) a9 (fun a9 o h=>by
 unfold J3 at h
 refine gN 34 AX.D aT.args ?_
 refine iB 35 h (fun h=>?_) fun h=>?_
 refine xX 42 AX.D h fun x2 h=>?_
 refine xX 48 X8.D h fun x3 h=>?_
 refine xX 52 dZ h fun x4 h=>?_
 obtain⟨r5,h9,h⟩:=bS h
 refine gC 54 (aVf h9) ?_
 refine iB 55 h (fun h=>?_) fun h=>?_
 exact lb h
 exact lb h
 exact lb h) h
theorem aY2(h:Zj a8 aT=some aE):AM Tryz.prog 69 [.d (AA.D a8),.d (X2.D aT)] [] (.d (D.b aE)) []:=by
 unfold Zj at h;apply g0 (o:=aE);refine iB 9 h (fun h=>?_) fun h=>?_;exact lf h;refine gN 14 X8.D a8.decls ?_;refine iB 17 h (fun h=>?_) fun h=>?_;exact lf h;refine gN 20 AX.D aT.args<|xX 25 X8.D h fun x1 h=>?_;refine gN 28 dZ x1.types ?_;refine iB 30 h (fun h=>?_) fun h=>?_;exact lf h;obtain⟨o6,h11,h⟩:=bS h;refine gl (aH6 none h11) ?_;replace h:=AH h;rcases h with⟨o7,rfl,h⟩|⟨o8,rfl,h⟩
 exact lf h;exact lf h
def YK(w2 w3:X2)(s5:Int):St:=⟨sp 38 0 [bx 2,bx 3,sI 5 s5],[cL 2 X2.D w2,cL 3 X2.D w3],[]⟩
def YL(w2 w3:X2)(o:Unit⊕Unit):Ex×St:=match o with
 | .inl o=>(.exit 0,⟨sp 38 0 [],[],[]⟩)
 | .inr o=>(.ret,⟨sp 38 0 [sD 4 D.b false],[],[]⟩)
theorem aH7(rd:Option Nat)(h:aM7 aT aY a9=some aA):Lq 70 rd 58 (YK aT aY a9) ((YL aT aY) aA):=
 lL (fun s:Int=>YK aT aY s) (YL aT aY) a9 (fun a9 o h=>by
 unfold J4 at h
 refine gN 23 AX.D aT.args ?_
 refine iB 24 h (fun h=>?_) fun h=>?_
 refine xX 30 AX.D h fun x1 h=>?_
 refine xX 35 AX.D h fun x2 h=>?_
 refine iB 37 h (fun h=>?_) fun h=>?_
 exact lb h
 exact lb h
 exact lb h) h
theorem aY3(h:Zk aT aY=some aE):AM Tryz.prog 70 [.d (X2.D aT),.d (X2.D aY)] [] (.d (D.b aE)) []:=by
 unfold Zk at h;apply g0 (o:=aE);refine iB 11 h (fun h=>?_) fun h=>?_;exact lf h;refine gN 14 AX.D aT.args<|gN 17 AX.D aY.args ?_;refine iB 19 h (fun h=>?_) fun h=>?_;exact lf h;obtain⟨o3,h7,h⟩:=bS h;refine gl (aH7 none h7) ?_;replace h:=AH h;rcases h with⟨o4,rfl,h⟩|⟨o5,rfl,h⟩
 exact lf h;exact lf h
theorem aDb(rd:Option Nat)(h:aDa a9 aB aE a8 aZ b6=some b7):Lq 45 rd 15653 ⟨sp 118 0 [bx 1,rx 3,rx 4,sI 5 a9,sI 6 aB,sD 34 D.b aE],[cL 1 AA.D a8,(3,.buf true 4 1 (aZ.map D.b)),(4,.row 3 1 (b6.map dZ))],[]⟩ (.normal,⟨sp 118 0 [bx 1,rx 3,rx 4,sI 5 a9,sI 6 aB],[cL 1 AA.D a8,(3,.buf true 4 1 (aZ.map D.b)),(4,.row 3 1 (b7.map dZ))],[]⟩):=by unfold aDa at h;apply g0 (o:=b7);cases aE;replace h:=B1 h;exact lp h;replace h:=B2 h;refine gQ (Ad dZ [aB])<|gG 38 (.sl ((b6++[aB]).map dZ)) (Ad dZ [aB]) ?_;obtain⟨h17,h⟩:=cS h;refine gQ (Am dZ h17)<|gQ (Ak dZ b6 [aB]) ?_;exact lP h [.live [1,3,4,5,6],.keep [1,3,38],.ren 38 4,.sort]
theorem aC9(rd:Option Nat)(h:aC8 a9 a8 aZ b6=some b8):Lq 45 rd 978 ⟨sp 118 0 [bx 1,rx 3,rx 4,sI 5 a9],[cL 1 AA.D a8,(3,.buf true 4 1 (aZ.map D.b)),(4,.row 3 1 (b6.map dZ))],[]⟩ (.normal,⟨sp 118 0 [bx 1,rx 3,rx 4,sI 5 a9],[cL 1 AA.D a8,(3,.buf true 4 1 (b8.1.map D.b)),(4,.row 3 1 (b8.2.map dZ))],[]⟩):=by unfold aC8 at h;apply g0 (o:=b8);refine xX 27 X5.D h fun x5 h=>?_;refine gW 10041 (.sl ((aZ.set x5.symbol.toNat true).map D.b)) ?_;obtain⟨h14,h⟩:=cS h;refine gQ h14.1<|gQ (Du D.b h14.2) ?_;obtain⟨x6,h15,h⟩:=xS h;refine gG 33 (.el (D.b x6)) (FL D.b h15) ?_;obtain⟨o7,h18,h⟩:=bS h;refine gl (aDb rd h18) ?_;obtain⟨h19,h⟩:=cS h;refine gQ h19.1<|gQ (Du D.b h19.2) ?_;obtain⟨h20,h⟩:=cS h;refine gQ (aA5 D.b h20)<|gQ (IF D.b aZ x5.symbol true) ?_;exact lp h
def TI(w1:AA)(s5:Int)(w3:List Bool)(w4:List Int):St:=⟨sp 118 0 [bx 1,rx 3,rx 4,sI 5 s5],[cL 1 AA.D w1,(3,.buf true 4 1 (w3.map D.b)),(4,.row 3 1 (w4.map dZ))],[]⟩
def TJ(w1:AA)(o:(List Int)):Ex×St:=(.exit 0,⟨sp 118 0 [bx 1,rx 4],[cL 1 AA.D w1,(4,.row 3 1 (o.map dZ))],[]⟩)
theorem aDd(rd:Option Nat)(h:aDc a8 a9 aZ b6=some b7):Lq 45 rd 122 (TI a8 a9 aZ b6) ((TJ a8) b7):=
 lL (fun s:Int×List Bool×List Int=>TI a8 s.1 s.2.1 s.2.2) (TJ a8) (a9,aZ,b6) (fun⟨a9,aZ,b6⟩ o h=>by
 unfold GG at h
 refine gN 20 X5.D a8.trans ?_
 refine iB 21 h (fun h=>?_) fun h=>?_
 obtain⟨o8,h21,h⟩:=bS h
 refine gl (aC9 rd h21) ?_
 exact lb h
 exact lb h) h
def TK(w1:AA)(w4:List Int)(s7:Int):St:=⟨sp 118 0 [bx 1,rx 4,sI 7 s7],[cL 1 AA.D w1,(4,.row 3 1 (w4.map dZ))],[]⟩
def TL(w1:AA)(w4:List Int)(o:Unit⊕Unit):Ex×St:=match o with
 | .inl o=>(.exit 2,⟨sp 118 0 [bx 1],[cL 1 AA.D w1],[]⟩)
 | .inr o=>(.ret,⟨sp 118 0 [sD 2 D.b false],[],[]⟩)
theorem aDf(rd:Option Nat)(h:aDe a8 b6 a9=some aA):Lq 45 rd 250 (TK a8 b6 a9) ((TL a8 b6) aA):=
 lL (fun s:Int=>TK a8 b6 s) (TL a8 b6) a9 (fun a9 o h=>by
 unfold Jf at h
 refine gN 44 dZ b6 ?_
 refine iB 45 h (fun h=>?_) fun h=>?_
 refine gW 54 (.int (a8.symbols.length:Int))<|gW 56 (.int (b6.length:Int))<|xX 50 dZ h fun x10 h=>?_
 refine gQ (CY X2.D a8.symbols)<|gQ (CY dZ b6) ?_
 refine iB 60 h (fun h=>?_) fun h=>?_
 exact lb h
 exact lb h
 exact lb h) h
def TO(s8:Int)(w1:AA)(s9:Int):St:=⟨sp 118 0 [bx 1,sI 8 s8,sI 9 s9],[cL 1 AA.D w1],[]⟩
def TP(s8:Int)(w1:AA)(o:Unit⊕Unit):Ex×St:=match o with
 | .inl o=>(.exit 6,⟨sp 118 0 [bx 1,sI 8 s8],[cL 1 AA.D w1],[]⟩)
 | .inr o=>(.ret,⟨sp 118 0 [sD 2 D.b false],[],[]⟩)
theorem aDj(rd:Option Nat)(h:aDi a9 a8 aB=some aA):Lq 45 rd 64806 (TO a9 a8 aB) ((TP a9 a8) aA):=
 lL (fun s:Int=>TO a9 a8 s) (TP a9 a8) aB (fun aB o h=>by
 unfold Jh at h
 refine iB 78 h (fun h=>?_) fun h=>?_
 refine xX 84 X2.D h fun x16 h=>?_
 refine xX 89 X2.D h fun x17 h=>?_
 obtain⟨r18,h34,h⟩:=bS h
 refine gQ (aY3 h34) ?_
 cases r18
 replace h:=B1 h
 refine gW 91 (.ret (.d (D.b false))) ?_
 exact lb h
 replace h:=B2 h
 refine gW 91 (.ret (.d (D.b true))) ?_
 exact lb h
 exact lb h) h
def TM(w1:AA)(s8:Int):St:=⟨sp 118 0 [bx 1,sI 8 s8],[cL 1 AA.D w1],[]⟩
def TN(w1:AA)(o:Unit⊕Unit):Ex×St:=match o with
 | .inl o=>(.exit 4,⟨sp 118 0 [bx 1],[cL 1 AA.D w1],[]⟩)
 | .inr o=>(.ret,⟨sp 118 0 [sD 2 D.b false],[],[]⟩)
theorem aDh(rd:Option Nat)(h:aDg a8 a9=some aA):Lq 45 rd 506 (TM a8 a9) ((TN a8) aA):=
 lL (fun s:Int=>TM a8 s) (TN a8) a9 (fun a9 o h=>by
 unfold Jg at h
 refine gN 64 X2.D a8.symbols ?_
 refine iB 65 h (fun h=>?_) fun h=>?_
 refine xX 72 X2.D h fun x14 h=>?_
 obtain⟨r15,h29,h⟩:=bS h
 refine gC 74 (aY2 h29) ?_
 refine iB 75 h (fun h=>?_) fun h=>?_
 exact lb h
 obtain⟨o19,h36,h⟩:=bS h
 refine gl (aDj rd h36) ?_
 replace h:=AH h
 rcases h with⟨o20,rfl,h⟩|⟨o21,rfl,h⟩
 exact lb h
 exact lb h
 exact lb h) h
def Om(s10:Int)(w1:AA)(s11:Bool)(s12:Int):St:=⟨sp 118 0 [bx 1,sI 10 s10,sD 11 D.b s11,sI 12 s12],[cL 1 AA.D w1],[]⟩
def On(s10:Int)(w1:AA)(o:Bool):Ex×St:=(.exit 10,⟨sp 118 0 [bx 1,sI 10 s10,sD 11 D.b o],[cL 1 AA.D w1],[]⟩)
theorem TH(rd:Option Nat)(h:Ol a9 a8 aE aB=some b9):Lq 45 rd 260682 (Om a9 a8 aE aB) ((On a9 a8) b9):=
 lL (fun s:Bool×Int=>Om a9 a8 s.1 s.2) (On a9 a8) (aE,aB) (fun⟨aE,aB⟩ o h=>by
 unfold EO at h
 refine gN 102 X2.D a8.symbols ?_
 refine iB 103 h (fun h=>?_) fun h=>?_
 refine iB 107 h (fun h=>?_) fun h=>?_
 exact lb h
 refine xX 111 X2.D h fun x25 h=>?_
 obtain⟨r26,h42,h⟩:=bS h
 refine gC 114 (aRx h42) ?_
 exact lb h
 exact lb h) h
def TQ(w1:AA)(s10:Int):St:=⟨sp 118 0 [bx 1,sI 10 s10],[cL 1 AA.D w1],[]⟩
def TR(w1:AA)(o:Unit⊕Unit):Ex×St:=match o with
 | .inl o=>(.exit 8,⟨sp 118 0 [],[],[]⟩)
 | .inr o=>(.ret,⟨sp 118 0 [sD 2 D.b false],[],[]⟩)
theorem aDl(rd:Option Nat)(h:aDk a8 a9=some aA):Lq 45 rd 1018 (TQ a8 a9) ((TR a8) aA):=
 lL (fun s:Int=>TQ a8 s) (TR a8) a9 (fun a9 o h=>by
 unfold Ji at h
 refine gN 95 Xd.D a8.quants ?_
 refine iB 96 h (fun h=>?_) fun h=>?_
 obtain⟨o27,h43,h⟩:=bS h
 refine gl (TH rd h43) ?_
 refine iB 117 h (fun h=>?_) fun h=>?_
 exact lb h
 exact lb h
 exact lb h) h
theorem aWd(h:X9 a8=some aE):AM Tryz.prog 45 [.d (AA.D a8)] [] (.d (D.b aE)) []:=by
 unfold X9 at h;apply g0 (o:=aE);refine gN 15 X2.D a8.symbols<|gW 16 (.sl ((List.replicate (a8.symbols.length:Int).toNat false).map D.b)) ?_;obtain⟨h1,h⟩:=cS h;refine gQ h1.1<|gQ (Int.le_refl (a8.symbols.length:Int))<|gQ (Int.le_refl (a8.symbols.length:Int))<|gQ (aBl D.b false h1.2)<|gQ (aBk D.b (a8.symbols.length:Int) false) ?_;obtain⟨o9,h22,h⟩:=bS h;refine gL [.live [1,3,4,5],.keep [1,16],.ren 16 3,.nil 4 4 3 1,.sort] (aDd none h22) ?_;obtain⟨o11,h26,h⟩:=bS h;refine gl (aDf none h26) ?_;replace h:=AH h;rcases h with⟨o12,rfl,h⟩|⟨o13,rfl,h⟩
 obtain⟨o22,h37,h⟩:=bS h;refine gl (aDh none h37) ?_;replace h:=AH h;rcases h with⟨o23,rfl,h⟩|⟨o24,rfl,h⟩
 obtain⟨o28,h45,h⟩:=bS h;refine gl (aDl none h45) ?_;replace h:=AH h;rcases h with⟨o29,rfl,h⟩|⟨o30,rfl,h⟩
 exact lf h;exact lf h;exact lf h;exact lf h
def XD(w1:AA)(s5 s6:Int):St:=⟨sp 101 0 [bx 1,sI 5 s5,sI 6 s6],[cL 1 AA.D w1],[]⟩
def XE(w1:AA)(o:Int⊕Unit):Ex×St:=match o with
 | .inl o=>(.exit 0,⟨sp 101 0 [bx 1,sI 5 o],[cL 1 AA.D w1],[]⟩)
 | .inr o=>(.ret,⟨sp 101 0 [sD 2 D.b false],[],[]⟩)
theorem aHr(rd:Option Nat)(h:Rw a8 a9 aB=some aV):Lq 21 rd 250 (XD a8 a9 aB) ((XE a8) aV):=
 lL (fun s:Int×Int=>XD a8 s.1 s.2) (XE a8) (a9,aB) (fun⟨a9,aB⟩ o h=>by
 unfold HG at h
 refine gN 74 X5.D a8.trans ?_
 refine iB 75 h (fun h=>?_) fun h=>?_
 refine xX 83 X5.D h fun x3 h=>?_
 obtain⟨r4,h15,h⟩:=bS h
 refine gC 86 (aXb h15) ?_
 refine iB 90 h (fun h=>?_) fun h=>?_
 exact lb h
 exact lb h
 exact lb h) h
theorem aYo(h:Z0 a8=some aE):AM Tryz.prog 21 [.d (AA.D a8)] [] (.d (D.b aE)) []:=by
 unfold Z0 at h;apply g0 (o:=aE);obtain⟨r1,h1,h⟩:=bS h;refine gC 12 (aXz h1) ?_;refine iB 17 h (fun h=>?_) fun h=>?_;exact lf h;refine gN 20 Xd.D a8.quants ?_;refine iB 23 h (fun h=>?_) fun h=>?_;exact lf h;refine gN 26 Xi.D a8.frees ?_;refine iB 29 h (fun h=>?_) fun h=>?_;exact lf h;refine gN 32 Yc.D a8.states ?_;refine iB 35 h (fun h=>?_) fun h=>?_;exact lf h;refine gN 38 X2.D a8.symbols ?_;refine iB 41 h (fun h=>?_) fun h=>?_;exact lf h;refine gN 44 Xb.D a8.nodes ?_;refine iB 47 h (fun h=>?_) fun h=>?_;exact lf h;refine gN 50 X5.D a8.trans ?_;refine iB 53 h (fun h=>?_) fun h=>?_;exact lf h;refine iB 58 h (fun h=>?_) fun h=>?_;exact lf h;refine gN 63 Yc.D a8.states ?_;refine iB 66 h (fun h=>?_) fun h=>?_;exact lf h;obtain⟨r2,h11,h⟩:=bS h;refine gC 68 (aWl h11) ?_;refine iB 70 h (fun h=>?_) fun h=>?_;exact lf h;obtain⟨o5,h17,h⟩:=bS h;refine gl (aHr none h17) ?_;replace h:=AH h;rcases h with⟨o6,rfl,h⟩|⟨o7,rfl,h⟩
 refine gN 95 Xb.D a8.nodes ?_;refine iB 97 h (fun h=>?_) fun h=>?_;obtain⟨r8,h19,h⟩:=bS h;refine gC 99 (aWd h19) ?_;exact lf h;exact lf h;exact lf h
def YE(s0:List X0)(s3:Int):St:=⟨sp 51 0 [sD 0 (D.l X0.D) s0,sI 3 s3],[],[]⟩
def YF(s0:List X0)(o:Unit⊕Unit):Ex×St:=match o with
 | .inl o=>(.exit 0,⟨sp 51 0 [],[],[]⟩)
 | .inr o=>(.ret,⟨sp 51 0 [sD 2 D.b false],[],[]⟩)
theorem aH4(rd:Option Nat)(h:aM4 bA a9=some aA):Lq 22 rd 26 (YE bA a9) ((YF bA) aA):=
 lL (fun s:Int=>YE bA s) (YF bA) a9 (fun a9 o h=>by
 unfold HK at h
 refine gN 6 X0.D bA ?_
 refine iB 7 h (fun h=>?_) fun h=>?_
 refine xX 12 X0.D h fun x1 h=>?_
 refine iB 16 h (fun h=>?_) fun h=>?_
 exact lb h
 refine xX 19 X0.D h fun x2 h=>?_
 refine iB 24 h (fun h=>?_) fun h=>?_
 exact lb h
 refine xX 27 X0.D h fun x3 h=>?_
 obtain⟨r4,h7,h⟩:=bS h
 refine gC 30 (YO h7) ?_
 refine iB 33 h (fun h=>?_) fun h=>?_
 exact lb h
 refine iB 36 h (fun h=>?_) fun h=>?_
 refine xX 39 X0.D h fun x5 h=>?_
 refine xX 45 X0.D h fun x6 h=>?_
 refine iB 50 h (fun h=>?_) fun h=>?_
 exact lb h
 exact lb h
 exact lb h
 exact lb h) h
theorem aYz(h:Zg bA=some aE):AM Tryz.prog 22 [.d ((D.l X0.D) bA)] [] (.d (D.b aE)) []:=by
 unfold Zg at h;apply g0 (o:=aE);obtain⟨o7,h13,h⟩:=bS h;refine gl (aH4 none h13) ?_;replace h:=AH h;rcases h with⟨o8,rfl,h⟩|⟨o9,rfl,h⟩
 exact lf h;exact lf h
def WO(s1:List Xg)(s5:Int)(w2:AA)(s6:Int):St:=⟨sp 87 0 [sD 1 (D.l Xg.D) s1,bx 2,sI 5 s5,sI 6 s6],[cL 2 AA.D w2],[]⟩
def WP(s1:List Xg)(s5:Int)(w2:AA)(o:Unit⊕Unit):Ex×St:=match o with
 | .inl o=>(.exit 2,⟨sp 87 0 [sD 1 (D.l Xg.D) s1,bx 2,sI 5 s5],[cL 2 AA.D w2],[]⟩)
 | .inr o=>(.ret,⟨sp 87 0 [sD 4 D.b false],[],[]⟩)
theorem aG0(rd:Option Nat)(h:aGz bB a9 a8 aB=some aA):Lq 5 rd 7462 (WO bB a9 a8 aB) ((WP bB a9 a8) aA):=
 lL (fun s:Int=>WO bB a9 a8 s) (WP bB a9 a8) aB (fun aB o h=>by
 unfold G3 at h
 refine xX 46 Xg.D h fun x6 h=>?_
 refine gN 49 X0.D x6.bind ?_
 refine iB 50 h (fun h=>?_) fun h=>?_
 refine gW 65 (.int (a8.quants.length:Int))<|xX 55 Xg.D h fun x7 h=>?_
 refine xX 59 X0.D h fun x8 h=>?_
 refine gQ (CY Xd.D a8.quants) ?_
 refine iB 67 h (fun h=>?_) fun h=>?_
 exact lb h
 refine xX 75 Xd.D h fun x9 h=>?_
 refine iB 80 h (fun h=>?_) fun h=>?_
 exact lb h
 refine gG 84 (.int (x8.value.str.length:Int)) (BH x8.value.str) ?_
 refine iB 86 h (fun h=>?_) fun h=>?_
 exact lb h
 exact lb h
 exact lb h) h
def WM(s1:List Xg)(w2:AA)(s5:Int):St:=⟨sp 87 0 [sD 1 (D.l Xg.D) s1,bx 2,sI 5 s5],[cL 2 AA.D w2],[]⟩
def WN(s1:List Xg)(w2:AA)(o:Unit⊕Unit):Ex×St:=match o with
 | .inl o=>(.exit 0,⟨sp 87 0 [],[],[]⟩)
 | .inr o=>(.ret,⟨sp 87 0 [sD 4 D.b false],[],[]⟩)
theorem aGy(rd:Option Nat)(h:aMn bB a8 a9=some aA):Lq 5 rd 58 (WM bB a8 a9) ((WN bB a8) aA):=
 lL (fun s:Int=>WM bB a8 s) (WN bB a8) a9 (fun a9 o h=>by
 unfold G2 at h
 refine gN 23 Xg.D bB ?_
 refine iB 24 h (fun h=>?_) fun h=>?_
 refine xX 29 Xg.D h fun x3 h=>?_
 refine gN 32 X0.D x3.bind ?_
 refine iB 34 h (fun h=>?_) fun h=>?_
 exact lb h
 refine xX 37 Xg.D h fun x4 h=>?_
 obtain⟨r5,h10,h⟩:=bS h
 refine gC 40 (aYz h10) ?_
 refine iB 42 h (fun h=>?_) fun h=>?_
 exact lb h
 obtain⟨o10,h20,h⟩:=bS h
 refine gl (aG0 rd h20) ?_
 replace h:=AH h
 rcases h with⟨o11,rfl,h⟩|⟨o12,rfl,h⟩
 exact lb h
 exact lb h
 exact lb h) h
theorem aXy(h:Yj a8 bB=some aE):AM Tryz.prog 5 [.d (AA.D a8),.d ((D.l Xg.D) bB)] [] (.d (D.b aE)) []:=by
 unfold Yj at h;apply g0 (o:=aE);refine gN 9 Xg.D bB ?_;refine iB 11 h (fun h=>?_) fun h=>?_;exact lf h;obtain⟨r1,h2,h⟩:=bS h;refine gC 13 (aWf h2) ?_;refine iB 16 h (fun h=>?_) fun h=>?_;exact lf h;obtain⟨r2,h4,h⟩:=bS h;refine gC 18 (aYo h4) ?_;refine iB 20 h (fun h=>?_) fun h=>?_;exact lf h;obtain⟨o13,h21,h⟩:=bS h;refine gl (aGy none h21) ?_;replace h:=AH h;rcases h with⟨o14,rfl,h⟩|⟨o15,rfl,h⟩
 exact lf h;exact lf h
theorem aU9(h:Qu a8=some aE):AM Tryz.prog 46 [.d (AA.D a8)] [] (.d (D.b aE)) []:=by unfold Qu at h;apply g0 (o:=aE);refine gN 5 Xd.D a8.quants ?_;refine iB 7 h (fun h=>?_) fun h=>?_;refine gN 10 Xi.D a8.frees ?_;refine iB 13 h (fun h=>?_) fun h=>?_;refine gN 16 Yc.D a8.states ?_;refine iB 19 h (fun h=>?_) fun h=>?_;refine gN 22 X2.D a8.symbols ?_;refine iB 25 h (fun h=>?_) fun h=>?_;refine gN 28 Xb.D a8.nodes ?_;refine iB 31 h (fun h=>?_) fun h=>?_;refine gN 34 X5.D a8.trans ?_;exact lf h;exact lf h;exact lf h;exact lf h;exact lf h;exact lf h
theorem aVt(h:Uf bC aD=some aE):AM Tryz.prog 170 [.d (X8.D bC),.eptr (D.cells (D.s aD))] [] (.d (D.b aE)) []:=by unfold Uf at h;apply g0 (o:=aE);exact lf h
def WV(s0:List X8)(s1:List UInt8)(s7 s8:Int):St:=⟨sp 19 0 [sD 0 (D.l X8.D) s0,(1,.clo (.func 170) [] [.eptr (D.cells (D.s s1))]),sI 7 s7,sI 8 s8],[],[]⟩
def WW(s0:List X8)(s1:List UInt8)(s7:Int)(o:Unit⊕Int):Ex×St:=match o with
 | .inl o=>(.exit 0,⟨sp 19 0 [],[],[]⟩)
 | .inr o=>(.ret,⟨sp 19 0 [sI 4 o],[],[]⟩)
theorem aG4(rd:Option Nat)(h:WU aF aD a9 aB=some aG):Lq 169 rd 26 (WV aF aD a9 aB) ((WW aF aD a9) aG):=
 lL (fun s:Int=>WV aF aD a9 s) (WW aF aD a9) aB (fun aB o h=>by
 unfold G5 at h
 refine iB 9 h (fun h=>?_) fun h=>?_
 refine xX 14 X8.D h fun x1 h=>?_
 obtain⟨r2,h3,h⟩:=bS h
 refine gQ (aVt h3) ?_
 cases r2
 replace h:=B1 h
 refine gW 16 (.ret (.d (D.b false))) ?_
 exact lb h
 replace h:=B2 h
 refine gW 16 (.ret (.d (D.b true))) ?_
 exact lb h
 exact lb h) h
theorem aX1(h:Yl aF aD=some a9):AM Tryz.prog 169 [.d ((D.l X8.D) aF),.clo (.func 170) [] [.eptr (D.cells (D.s aD))]] [] (dI a9) []:=by
 unfold Yl at h;apply g0 (o:=a9);refine gN 7 X8.D aF ?_;obtain⟨o3,h5,h⟩:=bS h;refine gl (aG4 none h5) ?_;replace h:=AH h;rcases h with⟨o4,rfl,h⟩|⟨o5,rfl,h⟩
 exact lf h;exact lf h
theorem aUl(h:Q5 aF aD=some aM):AM Tryz.prog 157 [.d ((D.l X8.D) aF),.d (D.s aD)] [] (.tup [dI aM.1,.d (D.b aM.2)]) []:=by unfold Q5 at h;apply g0 (o:=aM);refine gW 3 .frz ?_;obtain⟨r1,h1,h⟩:=bS h;refine gC 9 (aX1 h1)<|gG 11 (.int (Fv r1 0)) (rfl:Fv r1 0=Fv r1 0) ?_;exact lf h
theorem aVc(h:Qx a9=some aE):AM Tryz.prog 160 [.d ((D.i .i32) a9)] [] (.d (D.b aE)) []:=by unfold Qx at h;apply g0 (o:=aE);refine iB 5 h (fun h=>?_) fun h=>?_;refine iB 8 h (fun h=>?_) fun h=>?_;refine iB 16 h (fun h=>?_) fun h=>?_;refine iB 24 h (fun h=>?_) fun h=>?_;exact lf h;exact lf h;refine iB 21 h (fun h=>?_) fun h=>?_;refine iB 24 h (fun h=>?_) fun h=>?_;exact lf h;exact lf h;exact lf h;refine iB 13 h (fun h=>?_) fun h=>?_;refine iB 16 h (fun h=>?_) fun h=>?_;refine iB 24 h (fun h=>?_) fun h=>?_;exact lf h;exact lf h;refine iB 21 h (fun h=>?_) fun h=>?_;refine iB 24 h (fun h=>?_) fun h=>?_;exact lf h;exact lf h;exact lf h;exact lf h;exact lf h
theorem aP8(h:Qy aD=some a9):AM Tryz.prog 161 [.d (D.s aD),.clo (.func 160) [] []] [] (dI a9) []:=
 aI7 (ρ:=⟨fun n=>if n=15 then 161 else 172,fun n=>if n=0 then 0 else if n=3 then 3 else if n=4 then 4 else if n=9 then 9 else if n=21 then 21 else 212,id⟩) (aOw mixed (Tryz.func161.trans (by kernel_rfl)) (Tryz.func172.trans (by kernel_rfl)) Tryz.underlying0 Tryz.underlying3 Tryz.underlying4 Tryz.underlying9 Tryz.underlying21 Tryz.underlying212 (by kernel_rfl) (by kernel_rfl) (by kernel_rfl) (by kernel_rfl) (by kernel_rfl) (by kernel_rfl)) (enters_of Tryz.func160 (by kernel_rfl) rfl) (fun _ _ h=>aVc h) h
theorem aP1(h:Qm aD=some aE):AM Tryz.prog 128 [.d (D.s aD)] [] (.d (D.b aE)) []:=by unfold Qm at h;apply g0 (o:=aE);refine iB 6 h (fun h=>?_) fun h=>?_;exact lf h;refine gG 8 (.int (aD.length:Int)) (BH aD) ?_;refine iB 11 h (fun h=>?_) fun h=>?_;exact lf h;obtain⟨x1,h3,h⟩:=xS h;refine gG 13 (.int x1.toNat) (Ci h3) ?_;refine iB 15 h (fun h=>?_) fun h=>?_;obtain⟨x2,h5,h⟩:=xS h;refine gG 17 (.int x2.toNat) (Ci h5) ?_;refine iB 20 h (fun h=>?_) fun h=>?_;exact lf h;obtain⟨r3,h7,h⟩:=bS h;refine gC 23 (aP8 h7) ?_;exact lf h;obtain⟨r4,h8,h⟩:=bS h;refine gC 23 (aP8 h8) ?_;exact lf h
def WG(s0:List (List UInt8))(s1:List UInt8)(s7 s8:Int):St:=⟨sp 19 0 [sD 0 (D.l D.s) s0,sD 1 D.s s1,sI 7 s7,sI 8 s8],[],[]⟩
def WH(s0:List (List UInt8))(s1:List UInt8)(s7:Int)(o:Unit⊕Int):Ex×St:=match o with
 | .inl o=>(.exit 0,⟨sp 19 0 [],[],[]⟩)
 | .inr o=>(.ret,⟨sp 19 0 [sI 4 o],[],[]⟩)
theorem aGk(rd:Option Nat)(h:WF aC aD a9 aB=some aG):Lq 132 rd 26 (WG aC aD a9 aB) ((WH aC aD a9) aG):=
 lL (fun s:Int=>WG aC aD a9 s) (WH aC aD a9) aB (fun aB o h=>by
 unfold Gz at h
 refine iB 9 h (fun h=>?_) fun h=>?_
 refine xX 14 D.s h fun x1 h=>?_
 refine iB 16 h (fun h=>?_) fun h=>?_
 exact lb h
 exact lb h
 exact lb h) h
theorem aRe(h:Yg aC aD=some a9):AM Tryz.prog 132 [.d ((D.l D.s) aC),.d (D.s aD)] [] (dI a9) []:=by
 unfold Yg at h;apply g0 (o:=a9);refine gN 7 D.s aC ?_;obtain⟨o2,h4,h⟩:=bS h;refine gl (aGk none h4) ?_;replace h:=AH h;rcases h with⟨o3,rfl,h⟩|⟨o4,rfl,h⟩
 exact lf h;exact lf h
theorem aUn(h:Q7 aC aD=some aE):AM Tryz.prog 162 [.d ((D.l D.s) aC),.d (D.s aD)] [] (.d (D.b aE)) []:=by unfold Q7 at h;apply g0 (o:=aE);obtain⟨r1,h1,h⟩:=bS h;refine gC 7 (aRe h1) ?_;exact lf h
theorem aZa(h:Zt aD=some aE):AM Tryz.prog 129 [.d (D.s aD)] [] (.d (D.b aE)) []:=by unfold Zt at h;apply g0 (o:=aE);obtain⟨r1,h1,h⟩:=bS h;refine gQ (aP1 h1) ?_;cases r1;replace h:=B1 h;refine gW 4 (.ret (.d (D.b false))) ?_;exact lf h;replace h:=B2 h;refine gW 4 (.ret (.d (D.b true))) ?_;obtain⟨r2,h3,h⟩:=bS h;refine gC 8 (aUn h3) ?_;exact lf h
theorem aMt(h:Z1 aD=some aE):AM Tryz.prog 73 [.d (D.s aD)] [] (.d (D.b aE)) []:=by unfold Z1 at h;apply g0 (o:=aE);obtain⟨r1,h1,h⟩:=bS h;refine gQ (aP1 h1) ?_;cases r1;replace h:=B1 h;refine gW 4 (.ret (.d (D.b false))) ?_;exact lf h;replace h:=B2 h;refine gW 4 (.ret (.d (D.b true))) ?_;obtain⟨r2,h3,h⟩:=bS h;refine gC 7 (aZa h3) ?_;refine iB 10 h (fun h=>?_) fun h=>?_;exact lf h;exact lf h
theorem aLu(h:Qn a9=some aD):AM Tryz.prog 77 [dI a9] [] (.d (D.s aD)) []:=by unfold Qn at h;apply g0 (o:=aD);refine iB 4 h (fun h=>?_) fun h=>?_;exact lf h;refine iB 6 h (fun h=>?_) fun h=>?_;exact lf h;refine iB 8 h (fun h=>?_) fun h=>?_;exact lf h;exact lf h
theorem aVu(h:Ug a9=some aE):AM Tryz.prog 159 [dI a9] [] (.d (D.b aE)) []:=by unfold Ug at h;apply g0 (o:=aE);obtain⟨r1,h1,h⟩:=bS h;refine gC 4 (aLu h1) ?_;exact lf h
def Wi(s0:List Int)(s7 s8:Int):St:=⟨sp 19 0 [sD 0 (D.l dZ) s0,(1,.clo (.func 159) [] []),sI 7 s7,sI 8 s8],[],[]⟩
def Wj(s0:List Int)(s7:Int)(o:Unit⊕Int):Ex×St:=match o with
 | .inl o=>(.exit 0,⟨sp 19 0 [],[],[]⟩)
 | .inr o=>(.ret,⟨sp 19 0 [sI 4 o],[],[]⟩)
theorem aG8(rd:Option Nat)(h:Wh b6 a9 aB=some aG):Lq 171 rd 26 (Wi b6 a9 aB) ((Wj b6 a9) aG):=
 lL (fun s:Int=>Wi b6 a9 s) (Wj b6 a9) aB (fun aB o h=>by
 unfold G9 at h
 refine iB 9 h (fun h=>?_) fun h=>?_
 refine xX 14 dZ h fun x1 h=>?_
 obtain⟨r2,h3,h⟩:=bS h
 refine gQ (aVu h3) ?_
 cases r2
 replace h:=B1 h
 refine gW 16 (.ret (.d (D.b false))) ?_
 exact lb h
 replace h:=B2 h
 refine gW 16 (.ret (.d (D.b true))) ?_
 exact lb h
 exact lb h) h
theorem aX9(h:Yp b6=some a9):AM Tryz.prog 171 [.d ((D.l dZ) b6),.clo (.func 159) [] []] [] (dI a9) []:=by
 unfold Yp at h;apply g0 (o:=a9);refine gN 7 dZ b6 ?_;obtain⟨o3,h5,h⟩:=bS h;refine gl (aG8 none h5) ?_;replace h:=AH h;rcases h with⟨o4,rfl,h⟩|⟨o5,rfl,h⟩
 exact lf h;exact lf h
theorem aUp(h:Q8 b6=some aE):AM Tryz.prog 158 [.d ((D.l dZ) b6),.clo (.func 159) [] []] [] (.d (D.b aE)) []:=by unfold Q8 at h;apply g0 (o:=aE);obtain⟨r1,h1,h⟩:=bS h;refine gC 7 (aX9 h1) ?_;exact lf h
theorem aZg(h:Zw aF a9=some aB):AM Tryz.prog 127 [.d ((D.l X8.D) aF),dI a9] [] (dI aB) []:=by unfold Zw at h;apply g0 (o:=aB);refine xX 10 X8.D h fun x1 h=>?_;obtain⟨r2,h2,h⟩:=bS h;refine gC 16 (aUl h2) ?_;obtain⟨r3,h3,h⟩:=bS h;refine gC 22 (aMt h3) ?_;refine iB 19 h (fun h=>?_) fun h=>?_;exact lf h;refine iB 24 h (fun h=>?_) fun h=>?_;exact lf h;refine gN 31 dZ x1.types ?_;refine iB 28 h (fun h=>?_) fun h=>?_;exact lf h;obtain⟨r4,h7,h⟩:=bS h;refine gQ (aUp h7) ?_;cases r4;replace h:=B1 h;refine gW 36 (.ret (.d (D.b false))) ?_;exact lf h;replace h:=B2 h;refine gW 36 (.ret (.d (D.b true))) ?_;exact lf h
def Vv(s0:List X8)(s10 s11:Int):St:=⟨sp 22 0 [sD 0 (D.l X8.D) s0,sI 10 s10,sI 11 s11],[],[]⟩
def Vw(s0:List X8)(s10:Int)(o:Unit⊕(Int×Int)):Ex×St:=match o with
 | .inl o=>(.exit 0,⟨sp 22 0 [],[],[]⟩)
 | .inr o=>(.ret,⟨sp 22 0 [sI 2 o.1,sI 3 o.2],[],[]⟩)
theorem aGa(rd:Option Nat)(h:Vu aF a9 aB=some aH):Lq 72 rd 58 (Vv aF a9 aB) ((Vw aF a9) aH):=
 lL (fun s:Int=>Vv aF a9 s) (Vw aF a9) aB (fun aB o h=>by
 unfold EB at h
 refine iB 12 h (fun h=>?_) fun h=>?_
 obtain⟨r1,h3,h⟩:=bS h
 refine gC 16 (aZg h3) ?_
 refine iB 18 h (fun h=>?_) fun h=>?_
 exact lb h
 exact lb h
 exact lb h) h
theorem aXi(h:Y7 aF=some aI):AM Tryz.prog 72 [.d ((D.l X8.D) aF)] [] (.tup [dI aI.1,dI aI.2]) []:=by
 unfold Y7 at h;apply g0 (o:=aI);refine gN 7 X8.D aF ?_;refine iB 8 h (fun h=>?_) fun h=>?_;exact lf h;refine gN 10 X8.D aF ?_;obtain⟨o2,h5,h⟩:=bS h;refine gl (aGa none h5) ?_;replace h:=AH h;rcases h with⟨o3,rfl,h⟩|⟨o4,rfl,h⟩
 exact lf h;exact lf h
theorem aUr(h:Q9 a9 aD aC=some aE):AM Tryz.prog 131 [dI a9,.d (D.s aD),.eptr (D.cells ((D.l D.s) aC))] [] (.d (D.b aE)) []:=by unfold Q9 at h;apply g0 (o:=aE);obtain⟨r1,h1,h⟩:=bS h;refine gQ (aMt h1) ?_;cases r1;replace h:=B1 h;refine gW 7 (.ret (.d (D.b false))) ?_;exact lf h;replace h:=B2 h;refine gW 7 (.ret (.d (D.b true))) ?_;obtain⟨r2,h3,h⟩:=bS h;refine gC 11 (aRe h3) ?_;exact lf h
def V9(s1 s7:List (List UInt8))(s8 s9:Int):St:=⟨sp 20 0 [(1,.clo (.func 131) [] [.eptr (D.cells ((D.l D.s) s1))]),sD 7 (D.l D.s) s7,sI 8 s8,sI 9 s9],[],[]⟩
def WA(s1 s7:List (List UInt8))(s8:Int)(o:Unit⊕Unit):Ex×St:=match o with
 | .inl o=>(.exit 0,⟨sp 20 0 [],[],[]⟩)
 | .inr o=>(.ret,⟨sp 20 0 [sD 4 D.b false],[],[]⟩)
theorem aGi(rd:Option Nat)(h:V8 aC bD a9 aB=some aA):Lq 130 rd 26 (V9 aC bD a9 aB) ((WA aC bD a9) aA):=
 lL (fun s:Int=>V9 aC bD a9 s) (WA aC bD a9) aB (fun aB o h=>by
 unfold FD at h
 refine iB 10 h (fun h=>?_) fun h=>?_
 refine xX 12 D.s h fun x1 h=>?_
 obtain⟨r2,h3,h⟩:=bS h
 refine gC 17 (aUr h3) ?_
 refine iB 18 h (fun h=>?_) fun h=>?_
 exact lb h
 exact lb h
 exact lb h) h
theorem aXr(h:Yd aC bD=some aE):AM Tryz.prog 130 [.d ((D.l D.s) aC),.clo (.func 131) [] [.eptr (D.cells ((D.l D.s) bD))]] [] (.d (D.b aE)) []:=by
 unfold Yd at h;apply g0 (o:=aE);refine gN 8 D.s aC ?_;obtain⟨o3,h5,h⟩:=bS h;refine gl (aGi none h5) ?_;replace h:=AH h;rcases h with⟨o4,rfl,h⟩|⟨o5,rfl,h⟩
 exact lf h;exact lf h
theorem aR6(h:Zo aC=some aE):AM Tryz.prog 74 [.d ((D.l D.s) aC)] [] (.d (D.b aE)) []:=by unfold Zo at h;apply g0 (o:=aE);refine gW 1 .frz ?_;obtain⟨r1,h1,h⟩:=bS h;refine gC 5 (aXr h1) ?_;exact lf h
theorem aVv(h:Uh a9 bE=some aE):AM Tryz.prog 76 [dI a9,.d (Xd.D bE)] [] (.d (D.b aE)) []:=by unfold Uh at h;apply g0 (o:=aE);obtain⟨r1,h1,h⟩:=bS h;refine gC 7 (aLu h1) ?_;exact lf h
def WY(s7:List Xd)(s8 s9:Int):St:=⟨sp 20 0 [(1,.clo (.func 76) [] []),sD 7 (D.l Xd.D) s7,sI 8 s8,sI 9 s9],[],[]⟩
def WZ(s7:List Xd)(s8:Int)(o:Unit⊕Unit):Ex×St:=match o with
 | .inl o=>(.exit 0,⟨sp 20 0 [],[],[]⟩)
 | .inr o=>(.ret,⟨sp 20 0 [sD 4 D.b false],[],[]⟩)
theorem aG5(rd:Option Nat)(h:WX bG a9 aB=some aA):Lq 75 rd 26 (WY bG a9 aB) ((WZ bG a9) aA):=
 lL (fun s:Int=>WY bG a9 s) (WZ bG a9) aB (fun aB o h=>by
 unfold G6 at h
 refine iB 10 h (fun h=>?_) fun h=>?_
 refine xX 12 Xd.D h fun x1 h=>?_
 obtain⟨r2,h3,h⟩:=bS h
 refine gC 17 (aVv h3) ?_
 refine iB 18 h (fun h=>?_) fun h=>?_
 exact lb h
 exact lb h
 exact lb h) h
theorem aX3(h:Ym bG=some aE):AM Tryz.prog 75 [.d ((D.l Xd.D) bG),.clo (.func 76) [] []] [] (.d (D.b aE)) []:=by
 unfold Ym at h;apply g0 (o:=aE);refine gN 8 Xd.D bG ?_;obtain⟨o3,h5,h⟩:=bS h;refine gl (aG5 none h5) ?_;replace h:=AH h;rcases h with⟨o4,rfl,h⟩|⟨o5,rfl,h⟩
 exact lf h;exact lf h
theorem aVg(h:U2 a9=some aJ):AM Tryz.prog 133 [dI a9] [] (.d (X3.D aJ)) []:=by unfold U2 at h;apply g0 (o:=aJ);exact lf h
theorem aVh(h:U3 aD=some aJ):AM Tryz.prog 134 [.d (D.s aD)] [] (.d (X3.D aJ)) []:=by unfold U3 at h;apply g0 (o:=aJ);exact lf h
theorem aVi(h:U4 aE=some aJ):AM Tryz.prog 135 [.d (D.b aE)] [] (.d (X3.D aJ)) []:=by unfold U4 at h;apply g0 (o:=aJ);exact lf h
theorem aH9(h:Zp aJ=some aE):AM Tryz.prog 80 [.d (X3.D aJ)] [] (.d (D.b aE)) []:=by unfold Zp at h;apply g0 (o:=aE);refine iB 5 h (fun h=>?_) fun h=>?_;obtain⟨r1,h2,h⟩:=bS h;refine gC 10 (aVg h2) ?_;exact lf h;refine iB 12 h (fun h=>?_) fun h=>?_;obtain⟨r2,h4,h⟩:=bS h;refine gC 17 (aVh h4) ?_;refine iB 19 h (fun h=>?_) fun h=>?_;refine gG 22 (.int (aJ.str.length:Int)) (BH aJ.str) ?_;exact lf h;exact lf h;refine iB 25 h (fun h=>?_) fun h=>?_;obtain⟨r3,h7,h⟩:=bS h;refine gC 30 (aVi h7) ?_;exact lf h;exact lf h
theorem aVw(h:Ui a9 bH=some aE):AM Tryz.prog 79 [dI a9,.d (Xi.D bH)] [] (.d (D.b aE)) []:=by unfold Ui at h;apply g0 (o:=aE);obtain⟨r1,h1,h⟩:=bS h;refine gC 7 (aH9 h1) ?_;exact lf h
def Wb(s7:List Xi)(s8 s9:Int):St:=⟨sp 20 0 [(1,.clo (.func 79) [] []),sD 7 (D.l Xi.D) s7,sI 8 s8,sI 9 s9],[],[]⟩
def Wc(s7:List Xi)(s8:Int)(o:Unit⊕Unit):Ex×St:=match o with
 | .inl o=>(.exit 0,⟨sp 20 0 [],[],[]⟩)
 | .inr o=>(.ret,⟨sp 20 0 [sD 4 D.b false],[],[]⟩)
theorem aG6(rd:Option Nat)(h:Wa bI a9 aB=some aA):Lq 78 rd 26 (Wb bI a9 aB) ((Wc bI a9) aA):=
 lL (fun s:Int=>Wb bI a9 s) (Wc bI a9) aB (fun aB o h=>by
 unfold G7 at h
 refine iB 10 h (fun h=>?_) fun h=>?_
 refine xX 12 Xi.D h fun x1 h=>?_
 obtain⟨r2,h3,h⟩:=bS h
 refine gC 17 (aVw h3) ?_
 refine iB 18 h (fun h=>?_) fun h=>?_
 exact lb h
 exact lb h
 exact lb h) h
theorem aX5(h:Yn bI=some aE):AM Tryz.prog 78 [.d ((D.l Xi.D) bI),.clo (.func 79) [] []] [] (.d (D.b aE)) []:=by
 unfold Yn at h;apply g0 (o:=aE);refine gN 8 Xi.D bI ?_;obtain⟨o3,h5,h⟩:=bS h;refine gl (aG6 none h5) ?_;replace h:=AH h;rcases h with⟨o4,rfl,h⟩|⟨o5,rfl,h⟩
 exact lf h;exact lf h
def Te(s14:List Xd)(s15:Int)(w1:AA)(s16:Int)(w3:List (List UInt8)):St:=⟨sp 96 0 [bx 1,rx 3,(4,.nil),sD 14 (D.l Xd.D) s14,sI 15 s15,sI 16 s16],[cL 1 AA.D w1,(3,.row 9 1 (w3.map D.s))],[]⟩
def Tf(s14:List Xd)(s15:Int)(w1:AA)(o:(List (List UInt8))):Ex×St:=(.exit 0,⟨sp 96 0 [bx 1,rx 3,(4,.nil)],[cL 1 AA.D w1,(3,.row 9 1 (o.map D.s))],[]⟩)
theorem aDs(rd:Option Nat)(h:RX bG a9 a8 aB aC=some bJ):Lq 47 rd 58 (Te bG a9 a8 aB aC) ((Tf bG a9 a8) bJ):=
 lL (fun s:Int×List (List UInt8)=>Te bG a9 a8 s.1 s.2) (Tf bG a9 a8) (aB,aC) (fun⟨aB,aC⟩ o h=>by
 unfold Eu at h
 refine iB 17 h (fun h=>?_) fun h=>?_
 refine xX 18 Xd.D h fun x2 h=>?_
 refine gQ (Ad D.s [x2.name])<|gG 24 (.sl ((aC++[x2.name]).map D.s)) (Ad D.s [x2.name]) ?_
 obtain⟨h6,h⟩:=cS h
 refine gQ (Am D.s h6)<|gQ (Ak D.s aC [x2.name]) ?_
 exact lB h [.live [1,3,4,14,15,16],.keep [1,24],.ren 24 3,.sort]
 exact lb h) h
def Tg(s27:List Xi)(s28:Int)(w1:AA)(s29:Int)(w3:List (List UInt8)):St:=⟨sp 96 0 [bx 1,rx 3,(4,.nil),sD 27 (D.l Xi.D) s27,sI 28 s28,sI 29 s29],[cL 1 AA.D w1,(3,.row 9 1 (w3.map D.s))],[]⟩
def Th(s27:List Xi)(s28:Int)(w1:AA)(o:(List (List UInt8))):Ex×St:=(.exit 2,⟨sp 96 0 [bx 1,rx 3,(4,.nil)],[cL 1 AA.D w1,(3,.row 9 1 (o.map D.s))],[]⟩)
theorem aDt(rd:Option Nat)(h:RY bI a9 a8 aB aC=some bJ):Lq 47 rd 122 (Tg bI a9 a8 aB aC) ((Th bI a9 a8) bJ):=
 lL (fun s:Int×List (List UInt8)=>Tg bI a9 a8 s.1 s.2) (Th bI a9 a8) (aB,aC) (fun⟨aB,aC⟩ o h=>by
 unfold Ev at h
 refine iB 30 h (fun h=>?_) fun h=>?_
 refine xX 31 Xi.D h fun x4 h=>?_
 refine gQ (Ad D.s [x4.name])<|gG 37 (.sl ((aC++[x4.name]).map D.s)) (Ad D.s [x4.name]) ?_
 obtain⟨h10,h⟩:=cS h
 refine gQ (Am D.s h10)<|gQ (Ak D.s aC [x4.name]) ?_
 exact lB h [.live [1,3,4,27,28,29],.keep [1,37],.ren 37 3,.sort]
 exact lb h) h
def Ti(s40:List Yc)(s41:Int)(w1:AA)(w3:List (List UInt8))(s42:Int)(w4:List (List UInt8)):St:=⟨sp 96 0 [bx 1,rx 3,rx 4,sD 40 (D.l Yc.D) s40,sI 41 s41,sI 42 s42],[cL 1 AA.D w1,(3,.row 9 1 (w3.map D.s)),(4,.row 9 1 (w4.map D.s))],[]⟩
def Tj(s40:List Yc)(s41:Int)(w1:AA)(w3:List (List UInt8))(o:(List (List UInt8))):Ex×St:=(.exit 4,⟨sp 96 0 [bx 1,rx 3,rx 4],[cL 1 AA.D w1,(3,.row 9 1 (w3.map D.s)),(4,.row 9 1 (o.map D.s))],[]⟩)
theorem aDu(rd:Option Nat)(h:RZ bK a9 a8 aC aB bD=some bJ):Lq 47 rd 250 (Ti bK a9 a8 aC aB bD) ((Tj bK a9 a8 aC) bJ):=
 lL (fun s:Int×List (List UInt8)=>Ti bK a9 a8 aC s.1 s.2) (Tj bK a9 a8 aC) (aB,bD) (fun⟨aB,bD⟩ o h=>by
 unfold Ew at h
 refine iB 43 h (fun h=>?_) fun h=>?_
 refine xX 44 Yc.D h fun x7 h=>?_
 refine gQ (Ad D.s [x7.name])<|gG 50 (.sl ((bD++[x7.name]).map D.s)) (Ad D.s [x7.name]) ?_
 obtain⟨h17,h⟩:=cS h
 refine gQ (Am D.s h17)<|gQ (Ak D.s bD [x7.name]) ?_
 exact lB h [.live [1,3,4,40,41,42],.keep [1,3,50],.ren 50 4,.sort]
 exact lb h) h
theorem aWh(h:Xc a8=some aE):AM Tryz.prog 47 [.d (AA.D a8)] [] (.d (D.b aE)) []:=by unfold Xc at h;apply g0 (o:=aE);refine gN 15 Xd.D a8.quants<|gW 28 (.int (a8.frees.length:Int))<|gW 41 (.int (a8.states.length:Int)) ?_;obtain⟨o3,h7,h⟩:=bS h;refine gL [.live [1,3,4,14,15,16],.keep [1],.nil 3 3 9 1,.sort] (aDs none h7)<|gQ (CY Xi.D a8.frees) ?_;obtain⟨o5,h11,h⟩:=bS h;refine gl (aDt none h11)<|gQ (CY Yc.D a8.states) ?_;obtain⟨o8,h18,h⟩:=bS h;refine gL [.live [1,3,4,40,41,42],.keep [1,3],.nil 4 4 9 1,.sort] (aDu none h18) ?_;obtain⟨r9,h19,h⟩:=bS h;refine gC 55 (aXi h19) ?_;refine iB 60 h (fun h=>?_) fun h=>?_;obtain⟨r10,h21,h⟩:=bS h;refine gQ (aMt h21) ?_;cases r10;replace h:=B1 h;refine gW 63 (.ret (.d (D.b false))) ?_;exact lf h;replace h:=B2 h;refine gW 63 (.ret (.d (D.b true))) ?_;obtain⟨r11,h23,h⟩:=bS h;refine gQ (aR6 h23) ?_;cases r11;replace h:=B1 h;refine gW 67 (.ret (.d (D.b false))) ?_;exact lf h;replace h:=B2 h;refine gW 67 (.ret (.d (D.b true))) ?_;obtain⟨r12,h25,h⟩:=bS h;refine gQ (aR6 h25) ?_;cases r12;replace h:=B1 h;refine gW 71 (.ret (.d (D.b false))) ?_;exact lf h;replace h:=B2 h;refine gW 71 (.ret (.d (D.b true))) ?_;obtain⟨r13,h27,h⟩:=bS h;refine gQ (aX3 h27) ?_;cases r13;replace h:=B1 h;refine gW 76 (.ret (.d (D.b false))) ?_;exact lf h;replace h:=B2 h;refine gW 76 (.ret (.d (D.b true))) ?_;obtain⟨r14,h29,h⟩:=bS h;refine gQ (aX5 h29) ?_;cases r14;replace h:=B1 h;refine gW 81 (.ret (.d (D.b false))) ?_;exact lf h;replace h:=B2 h;refine gW 81 (.ret (.d (D.b true))) ?_;refine iB 88 h (fun h=>?_) fun h=>?_;refine gN 93 Yc.D a8.states ?_;exact lf h;exact lf h;exact lf h
theorem aVj(h:U5 a8 a9=some bL):AM Tryz.prog 136 [.d (AA.D a8),dI a9] [] (.tup [.d (X4.D bL.1),.d (D.b bL.2)]) []:=by
 unfold U5 at h;apply g0 (o:=bL);refine xX 11 Xb.D h fun x1 h=>?_;refine iB 22 h (fun h=>?_) fun h=>?_;refine iB 31 h (fun h=>?_) fun h=>?_;obtain⟨r2,h4,h⟩:=bS h;refine gQ (aH9 h4) ?_;cases r2;replace h:=B1 h;refine gW 34 (.ret (.d (D.b false))) ?_;refine iB 45 h (fun h=>?_) fun h=>?_;rcases iS h with⟨h7,h⟩|⟨h7,h⟩
 refine gT 50 h7 ?_;rcases iS h with⟨h8,h⟩|⟨h8,h⟩
 refine gT 55 h8<|gN 60 Xd.D a8.quants ?_;refine iB 41 h (fun h=>?_) fun h=>?_;refine xX 67 Xd.D h fun x3 h=>?_;exact lf h;refine iB 76 h (fun h=>?_) fun h=>?_;refine gT 81 h7<|gT 86 h8<|gN 91 Xi.D a8.frees ?_;refine iB 72 h (fun h=>?_) fun h=>?_;refine xX 98 Xi.D h fun x4 h=>?_;exact lf h;exact lf h;exact lf h;refine gF 55 h8 ?_;refine iB 76 h (fun h=>?_) fun h=>?_;refine gT 81 h7<|gF 86 h8 ?_;exact lf h;exact lf h;refine gF 50 h7 ?_;refine iB 76 h (fun h=>?_) fun h=>?_;refine gF 81 h7 ?_;exact lf h;exact lf h;refine iB 76 h (fun h=>?_) fun h=>?_;refine iB 81 h (fun h=>?_) fun h=>?_;refine iB 86 h (fun h=>?_) fun h=>?_;refine gN 91 Xi.D a8.frees ?_;refine iB 72 h (fun h=>?_) fun h=>?_;refine xX 98 Xi.D h fun x5 h=>?_;exact lf h;exact lf h;exact lf h;exact lf h;exact lf h;replace h:=B2 h;refine gW 34 (.ret (.d (D.b true))) ?_;exact lf h;refine iB 45 h (fun h=>?_) fun h=>?_;rcases iS h with⟨h22,h⟩|⟨h22,h⟩
 refine gT 50 h22 ?_;rcases iS h with⟨h23,h⟩|⟨h23,h⟩
 refine gT 55 h23<|gN 60 Xd.D a8.quants ?_;refine iB 41 h (fun h=>?_) fun h=>?_;refine xX 67 Xd.D h fun x6 h=>?_;exact lf h;refine iB 76 h (fun h=>?_) fun h=>?_;refine gT 81 h22<|gT 86 h23<|gN 91 Xi.D a8.frees ?_;refine iB 72 h (fun h=>?_) fun h=>?_;refine xX 98 Xi.D h fun x7 h=>?_;exact lf h;exact lf h;exact lf h;refine gF 55 h23 ?_;refine iB 76 h (fun h=>?_) fun h=>?_;refine gT 81 h22<|gF 86 h23 ?_;exact lf h;exact lf h;refine gF 50 h22 ?_;refine iB 76 h (fun h=>?_) fun h=>?_;refine gF 81 h22 ?_;exact lf h;exact lf h;refine iB 76 h (fun h=>?_) fun h=>?_;refine iB 81 h (fun h=>?_) fun h=>?_;refine iB 86 h (fun h=>?_) fun h=>?_;refine gN 91 Xi.D a8.frees ?_;refine iB 72 h (fun h=>?_) fun h=>?_;refine xX 98 Xi.D h fun x8 h=>?_;exact lf h;exact lf h;exact lf h;exact lf h;exact lf h;refine iB 45 h (fun h=>?_) fun h=>?_;rcases iS h with⟨h37,h⟩|⟨h37,h⟩
 refine gT 50 h37 ?_;rcases iS h with⟨h38,h⟩|⟨h38,h⟩
 refine gT 55 h38<|gN 60 Xd.D a8.quants ?_;refine iB 41 h (fun h=>?_) fun h=>?_;refine xX 67 Xd.D h fun x9 h=>?_;exact lf h;refine iB 76 h (fun h=>?_) fun h=>?_;refine gT 81 h37<|gT 86 h38<|gN 91 Xi.D a8.frees ?_;refine iB 72 h (fun h=>?_) fun h=>?_;refine xX 98 Xi.D h fun x10 h=>?_;exact lf h;exact lf h;exact lf h;refine gF 55 h38 ?_;refine iB 76 h (fun h=>?_) fun h=>?_;refine gT 81 h37<|gF 86 h38 ?_;exact lf h;exact lf h;refine gF 50 h37 ?_;refine iB 76 h (fun h=>?_) fun h=>?_;refine gF 81 h37 ?_;exact lf h;exact lf h;refine iB 76 h (fun h=>?_) fun h=>?_;refine iB 81 h (fun h=>?_) fun h=>?_;refine iB 86 h (fun h=>?_) fun h=>?_;refine gN 91 Xi.D a8.frees ?_;refine iB 72 h (fun h=>?_) fun h=>?_;refine xX 98 Xi.D h fun x11 h=>?_;exact lf h;exact lf h;exact lf h;exact lf h;exact lf h
theorem Fo(h:Z5 aE a9=some aB):AM Tryz.prog 163 [.d (D.b aE),dI a9] [] (dI aB) []:=by unfold Z5 at h;apply g0 (o:=aB);refine iB 6 h (fun h=>?_) fun h=>?_;exact lf h;exact lf h
theorem aD7(rd:Option Nat)(h:aMe a9 aB aO aE=some b9):Lq 137 rd 13631497 ⟨sp 81 0 [sI 1 a9,sI 2 aB,sI 7 aO,sD 10 D.b aE],[],[]⟩ (.normal,⟨sp 81 0 [sI 1 a9,sI 2 aB,sI 7 aO,sD 10 D.b b9],[],[]⟩):=by unfold aMe at h;apply g0 (o:=b9);cases aE;replace h:=B1 h;exact lp h;replace h:=B2 h;exact lp h
theorem Tv(rd:Option Nat)(h:Tu a9 aB aO aE=some b9):Lq 137 rd 872416159 ⟨sp 81 0 [sI 1 a9,sI 2 aB,sI 7 aO,sD 15 D.b aE],[],[]⟩ (.normal,⟨sp 81 0 [sI 1 a9,sI 2 aB,sI 7 aO,sD 15 D.b b9],[],[]⟩):=by unfold Tu at h;apply g0 (o:=b9);cases aE;replace h:=B1 h;exact lp h;replace h:=B2 h;exact lp h
theorem Tt(rd:Option Nat)(h:Ts a9 aB aO aE=some b9):Lq 137 rd 218104039 ⟨sp 81 0 [sI 1 a9,sI 2 aB,sI 7 aO,sD 15 D.b aE],[],[]⟩ (.normal,⟨sp 81 0 [sI 1 a9,sI 2 aB,sI 7 aO,sD 15 D.b b9],[],[]⟩):=by unfold Ts at h;apply g0 (o:=b9);cases aE;replace h:=B1 h;obtain⟨o2,h9,h⟩:=bS h;refine gl (Tv rd h9) ?_;exact lp h;replace h:=B2 h;exact lp h
theorem aD8(rd:Option Nat)(h:aMf a9 aB aO aE=some b9):Lq 137 rd 54526009 ⟨sp 81 0 [sI 1 a9,sI 2 aB,sI 7 aO,sD 15 D.b aE],[],[]⟩ (.normal,⟨sp 81 0 [sI 1 a9,sI 2 aB,sI 7 aO,sD 15 D.b b9],[],[]⟩):=by unfold aMf at h;apply g0 (o:=b9);cases aE;replace h:=B1 h;obtain⟨o3,h10,h⟩:=bS h;refine gl (Tt rd h10) ?_;exact lp h;replace h:=B2 h;exact lp h
theorem Tx(rd:Option Nat)(h:Tw a9 aB aO aE=some b9):Lq 137 rd 218104057 ⟨sp 81 0 [sI 1 a9,sI 2 aB,sI 7 aO,sD 22 D.b aE],[],[]⟩ (.normal,⟨sp 81 0 [sI 1 a9,sI 2 aB,sI 7 aO,sD 22 D.b b9],[],[]⟩):=by unfold Tw at h;apply g0 (o:=b9);cases aE;replace h:=B1 h;exact lp h;replace h:=B2 h;exact lp h
theorem Tz(rd:Option Nat)(h:Ty a9 aB aO aE=some b9):Lq 137 rd 218104061 ⟨sp 81 0 [sI 1 a9,sI 2 aB,sI 7 aO,sD 25 D.b aE],[],[]⟩ (.normal,⟨sp 81 0 [sI 1 a9,sI 2 aB,sD 25 D.b b9],[],[]⟩):=by unfold Ty at h;apply g0 (o:=b9);cases aE;replace h:=B1 h;exact lp h;replace h:=B2 h;exact lp h
def aMd(s1 s2 s7:Int)(o:Int⊕(Unit⊕(Unit⊕(Unit⊕(Unit⊕(Unit⊕Unit)))))):Ex×St:=match o with
 | .inl o=>(.normal,⟨sp 81 0 [sI 1 s1,sI 2 o],[],[]⟩)
 | .inr o=>match o with
 | .inl o=>(.exit 0,⟨sp 81 0 [],[],[]⟩)
 | .inr o=>match o with
 | .inl o=>(.exit 3,⟨sp 81 0 [sI 1 s1],[],[]⟩)
 | .inr o=>match o with
 | .inl o=>(.exit 4,⟨sp 81 0 [sI 1 s1,sI 2 s2],[],[]⟩)
 | .inr o=>match o with
 | .inl o=>(.exit 5,⟨sp 81 0 [sI 1 s1,sI 2 s2],[],[]⟩)
 | .inr o=>match o with
 | .inl o=>(.exit 6,⟨sp 81 0 [sI 1 s1,sI 2 s2],[],[]⟩)
 | .inr o=>(.exit 7,⟨sp 81 0 [sI 1 s1,sI 2 s2],[],[]⟩)
theorem aD6(rd:Option Nat)(h:aMc a9 aB aO=some bM):Lq 137 rd 53248 ⟨sp 81 0 [sI 1 a9,sI 2 aB,sI 7 aO],[],[]⟩ (aMd a9 aB aO bM):=by unfold aMc at h;apply g0 (o:=bM);refine iB 8 h (fun h=>?_) fun h=>?_;exact lp h;obtain⟨o1,h3,h⟩:=bS h;refine gl (aD7 rd h3) ?_;cases o1;replace h:=B1 h;refine iB 13 h (fun h=>?_) fun h=>?_;exact lp h;obtain⟨o4,h11,h⟩:=bS h;refine gl (aD8 rd h11) ?_;cases o4;replace h:=B1 h;refine iB 20 h (fun h=>?_) fun h=>?_;exact lp h;obtain⟨o5,h15,h⟩:=bS h;refine gl (Tx rd h15) ?_;cases o5;replace h:=B1 h;obtain⟨o6,h18,h⟩:=bS h;refine gl (Tz rd h18) ?_;cases o6;replace h:=B1 h;exact lp h;replace h:=B2 h;exact lp h;replace h:=B2 h;exact lp h;replace h:=B2 h;exact lp h;replace h:=B2 h;exact lp h
def aMb(s1 s2 s7:Int)(o:Unit⊕(Unit⊕(Unit⊕(Unit⊕(Unit⊕(Unit⊕Int)))))):Ex×St:=match o with
 | .inl o=>(.normal,⟨sp 81 0 [sI 1 s1],[],[]⟩)
 | .inr o=>match o with
 | .inl o=>(.exit 0,⟨sp 81 0 [],[],[]⟩)
 | .inr o=>match o with
 | .inl o=>(.exit 4,⟨sp 81 0 [sI 1 s1,sI 2 s2],[],[]⟩)
 | .inr o=>match o with
 | .inl o=>(.exit 5,⟨sp 81 0 [sI 1 s1,sI 2 s2],[],[]⟩)
 | .inr o=>match o with
 | .inl o=>(.exit 6,⟨sp 81 0 [sI 1 s1,sI 2 s2],[],[]⟩)
 | .inr o=>match o with
 | .inl o=>(.exit 7,⟨sp 81 0 [sI 1 s1,sI 2 s2],[],[]⟩)
 | .inr o=>(.ret,⟨sp 81 0 [sI 6 o],[],[]⟩)
theorem aD5(rd:Option Nat)(h:aMa a9 aB aO=some bN):Lq 137 rd 13312 ⟨sp 81 0 [sI 1 a9,sI 2 aB,sI 7 aO],[],[]⟩ (aMb a9 aB aO bN):=by
 unfold aMa at h;apply g0 (o:=bN);obtain⟨o7,h20,h⟩:=bS h;refine gl (aD6 rd h20) ?_;replace h:=AH h;rcases h with⟨o8,rfl,h⟩|⟨o9,rfl,h⟩
 refine iB 31 h (fun h=>?_) fun h=>?_;obtain⟨r10,h22,h⟩:=bS h;refine gC 36 (Fo h22) ?_;exact lp h;obtain⟨r11,h23,h⟩:=bS h;refine gC 36 (Fo h23) ?_;exact lp h;replace h:=AH h;rcases h with⟨o12,rfl,h⟩|⟨o13,rfl,h⟩
 exact lp h;replace h:=AH h;rcases h with⟨o14,rfl,h⟩|⟨o15,rfl,h⟩
 exact lp h;replace h:=AH h;rcases h with⟨o16,rfl,h⟩|⟨o17,rfl,h⟩
 exact lp h;replace h:=AH h;rcases h with⟨o18,rfl,h⟩|⟨o19,rfl,h⟩
 exact lp h;replace h:=AH h;rcases h with⟨o20,rfl,h⟩|⟨o21,rfl,h⟩
 exact lp h;exact lp h
def aL9(s1 s2 s7:Int)(o:Int⊕(Unit⊕(Unit⊕(Unit⊕(Unit⊕Int))))):Ex×St:=match o with
 | .inl o=>(.normal,⟨sp 81 0 [sI 1 s1,sI 2 o],[],[]⟩)
 | .inr o=>match o with
 | .inl o=>(.exit 0,⟨sp 81 0 [],[],[]⟩)
 | .inr o=>match o with
 | .inl o=>(.exit 5,⟨sp 81 0 [sI 1 s1,sI 2 s2],[],[]⟩)
 | .inr o=>match o with
 | .inl o=>(.exit 6,⟨sp 81 0 [sI 1 s1,sI 2 s2],[],[]⟩)
 | .inr o=>match o with
 | .inl o=>(.exit 7,⟨sp 81 0 [sI 1 s1,sI 2 s2],[],[]⟩)
 | .inr o=>(.ret,⟨sp 81 0 [sI 6 o],[],[]⟩)
theorem aD4(rd:Option Nat)(h:aL8 a9 aB aO=some bO):Lq 137 rd 3328 ⟨sp 81 0 [sI 1 a9,sI 2 aB,sI 7 aO],[],[]⟩ (aL9 a9 aB aO bO):=by
 unfold aL8 at h;apply g0 (o:=bO);obtain⟨o22,h24,h⟩:=bS h;refine gl (aD5 rd h24) ?_;replace h:=AH h;rcases h with⟨o23,rfl,h⟩|⟨o24,rfl,h⟩
 exact lp h;replace h:=AH h;rcases h with⟨o25,rfl,h⟩|⟨o26,rfl,h⟩
 exact lp h;replace h:=AH h;rcases h with⟨o27,rfl,h⟩|⟨o28,rfl,h⟩
 exact lp h;replace h:=AH h;rcases h with⟨o29,rfl,h⟩|⟨o30,rfl,h⟩
 exact lp h;replace h:=AH h;rcases h with⟨o31,rfl,h⟩|⟨o32,rfl,h⟩
 exact lp h;replace h:=AH h;rcases h with⟨o33,rfl,h⟩|⟨o34,rfl,h⟩
 exact lp h;exact lp h
def aL7(s1 s2 s7:Int)(o:Unit⊕(Unit⊕(Unit⊕(Unit⊕Int)))):Ex×St:=match o with
 | .inl o=>(.normal,⟨sp 81 0 [sI 1 s1,sI 2 s2],[],[]⟩)
 | .inr o=>match o with
 | .inl o=>(.exit 0,⟨sp 81 0 [],[],[]⟩)
 | .inr o=>match o with
 | .inl o=>(.exit 6,⟨sp 81 0 [sI 1 s1,sI 2 s2],[],[]⟩)
 | .inr o=>match o with
 | .inl o=>(.exit 7,⟨sp 81 0 [sI 1 s1,sI 2 s2],[],[]⟩)
 | .inr o=>(.ret,⟨sp 81 0 [sI 6 o],[],[]⟩)
theorem aD3(rd:Option Nat)(h:aL6 a9 aB aO=some bP):Lq 137 rd 832 ⟨sp 81 0 [sI 1 a9,sI 2 aB,sI 7 aO],[],[]⟩ (aL7 a9 aB aO bP):=by
 unfold aL6 at h;apply g0 (o:=bP);obtain⟨o35,h25,h⟩:=bS h;refine gl (aD4 rd h25) ?_;replace h:=AH h;rcases h with⟨o36,rfl,h⟩|⟨o37,rfl,h⟩
 refine iB 40 h (fun h=>?_) fun h=>?_;obtain⟨r38,h27,h⟩:=bS h;refine gC 46 (Fo h27) ?_;exact lp h;obtain⟨r39,h28,h⟩:=bS h;refine gC 46 (Fo h28) ?_;exact lp h;replace h:=AH h;rcases h with⟨o40,rfl,h⟩|⟨o41,rfl,h⟩
 exact lp h;replace h:=AH h;rcases h with⟨o42,rfl,h⟩|⟨o43,rfl,h⟩
 exact lp h;replace h:=AH h;rcases h with⟨o44,rfl,h⟩|⟨o45,rfl,h⟩
 exact lp h;replace h:=AH h;rcases h with⟨o46,rfl,h⟩|⟨o47,rfl,h⟩
 exact lp h;exact lp h
theorem aD2(rd:Option Nat)(h:aL5 a9 aB aO=some bQ):Lq 137 rd 208 ⟨sp 81 0 [sI 1 a9,sI 2 aB,sI 7 aO],[],[]⟩ (match (generalizing:=false) bQ with
 | .inl bQ=>(.normal,⟨sp 81 0 [sI 1 a9,sI 2 aB],[],[]⟩)
 | .inr bQ=>match (generalizing:=false) bQ with
 | .inl bQ=>(.exit 0,⟨sp 81 0 [],[],[]⟩)
 | .inr bQ=>match (generalizing:=false) bQ with
 | .inl bQ=>(.exit 7,⟨sp 81 0 [sI 1 a9,sI 2 aB],[],[]⟩)
 | .inr bQ=>(.ret,⟨sp 81 0 [sI 6 bQ],[],[]⟩)):=by
 unfold aL5 at h
 apply g0 (o:=bQ)
 obtain⟨o48,h29,h⟩:=bS h
 refine gl (aD3 rd h29) ?_
 replace h:=AH h
 rcases h with⟨o49,rfl,h⟩|⟨o50,rfl,h⟩
 refine iB 49 h (fun h=>?_) fun h=>?_
 obtain⟨r51,h31,h⟩:=bS h
 refine gC 59 (Fo h31) ?_
 exact lp h
 refine iB 53 h (fun h=>?_) fun h=>?_
 obtain⟨r52,h33,h⟩:=bS h
 refine gC 59 (Fo h33) ?_
 exact lp h
 obtain⟨r53,h34,h⟩:=bS h
 refine gC 59 (Fo h34) ?_
 exact lp h
 replace h:=AH h
 rcases h with⟨o54,rfl,h⟩|⟨o55,rfl,h⟩
 exact lp h
 replace h:=AH h
 rcases h with⟨o56,rfl,h⟩|⟨o57,rfl,h⟩
 exact lp h
 replace h:=AH h
 rcases h with⟨o58,rfl,h⟩|⟨o59,rfl,h⟩
 exact lp h
 exact lp h
theorem aD1(rd:Option Nat)(h:aL4 a9 aB aO=some bR):Lq 137 rd 52 ⟨sp 81 0 [sI 1 a9,sI 2 aB,sI 7 aO],[],[]⟩ (match (generalizing:=false) bR with
 | .inl bR=>(.normal,⟨sp 81 0 [sI 1 a9,sI 2 aB],[],[]⟩)
 | .inr bR=>match (generalizing:=false) bR with
 | .inl bR=>(.exit 0,⟨sp 81 0 [],[],[]⟩)
 | .inr bR=>(.ret,⟨sp 81 0 [sI 6 bR],[],[]⟩)):=by
 unfold aL4 at h
 apply g0 (o:=bR)
 obtain⟨o60,h35,h⟩:=bS h
 refine gl (aD2 rd h35) ?_
 replace h:=AH h
 rcases h with⟨o61,rfl,h⟩|⟨o62,rfl,h⟩
 obtain⟨r63,h36,h⟩:=bS h
 refine gC 61 (aLu h36) ?_
 refine iB 63 h (fun h=>?_) fun h=>?_
 obtain⟨r64,h38,h⟩:=bS h
 refine gC 68 (Fo h38) ?_
 exact lp h
 obtain⟨r65,h39,h⟩:=bS h
 refine gC 68 (Fo h39) ?_
 exact lp h
 replace h:=AH h
 rcases h with⟨o66,rfl,h⟩|⟨o67,rfl,h⟩
 exact lp h
 replace h:=AH h
 rcases h with⟨o68,rfl,h⟩|⟨o69,rfl,h⟩
 exact lp h
 exact lp h
theorem aD0(rd:Option Nat)(h:aL3 a9 aB aO=some aG):Lq 137 rd 13 ⟨sp 81 0 [sI 1 a9,sI 2 aB,sI 7 aO],[],[]⟩ (match (generalizing:=false) aG with
 | .inl aG=>(.normal,⟨sp 81 0 [],[],[]⟩)
 | .inr aG=>(.ret,⟨sp 81 0 [sI 6 aG],[],[]⟩)):=by
 unfold aL3 at h
 apply g0 (o:=aG)
 obtain⟨o70,h40,h⟩:=bS h
 refine gl (aD1 rd h40) ?_
 replace h:=AH h
 rcases h with⟨o71,rfl,h⟩|⟨o72,rfl,h⟩
 refine iB 71 h (fun h=>?_) fun h=>?_
 obtain⟨r73,h42,h⟩:=bS h
 refine gC 80 (Fo h42) ?_
 exact lp h
 refine iB 75 h (fun h=>?_) fun h=>?_
 obtain⟨r74,h44,h⟩:=bS h
 refine gC 80 (Fo h44) ?_
 exact lp h
 obtain⟨r75,h45,h⟩:=bS h
 refine gC 80 (Fo h45) ?_
 exact lp h
 replace h:=AH h
 rcases h with⟨o76,rfl,h⟩|⟨o77,rfl,h⟩
 exact lp h
 exact lp h
theorem aQl(h:Xf a9 aB aO=some aS):AM Tryz.prog 137 [dI a9,dI aB,dI aO] [] (dI aS) []:=by
 unfold Xf at h;apply g0 (o:=aS);obtain⟨o78,h46,h⟩:=bS h;refine gl (aD0 none h46) ?_;replace h:=AH h;rcases h with⟨o79,rfl,h⟩|⟨o80,rfl,h⟩
 exact lf h;exact lf h
theorem O0(rd:Option Nat)(h:Mq a9 bU aB aO aE a8 bV bW bX=some bY):Lq 81 rd 956905 ⟨sp 147 0 [bx 1,rx 3,sI 4 a9,bx 5,bx 8,sD 15 (D.l Xb.D) bU,sI 16 aB,sI 17 aO,sD 77 D.b aE],[cL 1 AA.D a8,(3,.buf true 152 3 (bV.map X4.D)),cL 5 Xb.D bW,cL 8 X4.D bX],[]⟩ (.normal,⟨sp 147 0 [bx 1,rx 3,sD 15 (D.l Xb.D) bU,sI 16 aB,sI 17 aO],[cL 1 AA.D a8,(3,.buf true 152 3 (bY.map X4.D))],[]⟩):=by unfold Mq at h;apply g0 (o:=bY);cases aE;replace h:=B1 h;exact lp h;replace h:=B2 h;obtain⟨r5,h20,h⟩:=bS h;refine gC 86 (aQl h20)<|gW 10093 (.sl ((bV.set a9.toNat (X4.mk r5 (AB .add .i64 bX.depth 1) bX.from_)).map X4.D)) ?_;obtain⟨h21,h⟩:=cS h;refine gQ h21.1<|gQ (Du X4.D h21.2) ?_;obtain⟨h22,h⟩:=cS h;refine gQ (aA5 X4.D h22)<|gQ (IF X4.D bV a9 (X4.mk r5 (AB .add .i64 bX.depth 1) bX.from_)) ?_;exact lp h
theorem Fy(rd:Option Nat)(h:GT a9 bU aB aO aE a8 bV bW bX=some bY):Lq 81 rd 119615 ⟨sp 147 0 [bx 1,rx 3,sI 4 a9,bx 5,bx 8,sD 15 (D.l Xb.D) bU,sI 16 aB,sI 17 aO,sD 120 D.b aE],[cL 1 AA.D a8,(3,.buf true 152 3 (bV.map X4.D)),cL 5 Xb.D bW,cL 8 X4.D bX],[]⟩ (.normal,⟨sp 147 0 [bx 1,rx 3,sD 15 (D.l Xb.D) bU,sI 16 aB,sI 17 aO],[cL 1 AA.D a8,(3,.buf true 152 3 (bY.map X4.D))],[]⟩):=by unfold GT at h;apply g0 (o:=bY);cases aE;replace h:=B1 h;exact lp h;replace h:=B2 h;obtain⟨h31,h⟩:=cS h;refine gQ h31.1<|gQ (Du X4.D h31.2) ?_;obtain⟨x9,h32,h⟩:=xS h;refine gG 125 (.el (X4.D x9)) (FL X4.D h32)<|gW 139 (.int (Fv x9.depth bX.depth)) ?_;obtain⟨r10,h33,h⟩:=bS h;refine gC 134 (aQl h33)<|gQ (rfl:Fv x9.depth bX.depth=Fv x9.depth bX.depth)<|gW 10144 (.sl ((bV.set a9.toNat (X4.mk r10 (AB .add .i64 (Fv x9.depth bX.depth) 1) x9.from_)).map X4.D)) ?_;obtain⟨h34,h⟩:=cS h;refine gQ h34.1<|gQ (Du X4.D h34.2) ?_;obtain⟨h35,h⟩:=cS h;refine gQ (aA5 X4.D h35)<|gQ (IF X4.D bV a9 (X4.mk r10 (AB .add .i64 (Fv x9.depth bX.depth) 1) x9.from_)) ?_;exact lp h
theorem aEk(rd:Option Nat)(h:UD bU a9 aB a8 bV=some bY):Lq 81 rd 934 ⟨sp 147 0 [bx 1,rx 3,sD 15 (D.l Xb.D) bU,sI 16 a9,sI 17 aB],[cL 1 AA.D a8,(3,.buf true 152 3 (bV.map X4.D))],[]⟩ (.normal,⟨sp 147 0 [bx 1,rx 3,sD 15 (D.l Xb.D) bU,sI 16 a9,sI 17 aB],[cL 1 AA.D a8,(3,.buf true 152 3 (bY.map X4.D))],[]⟩):=by unfold UD at h;apply g0 (o:=bY);refine xX 20 Xb.D h fun x1 h=>?_;obtain⟨r2,h4,h⟩:=bS h;refine gC 25 (aVj h4) ?_;refine iB 28 h (fun h=>?_) fun h=>?_;refine gW 10032 (.sl ((bV.set aB.toNat r2.1).map X4.D)) ?_;obtain⟨h6,h⟩:=cS h;refine gQ h6.1<|gQ (Du X4.D h6.2) ?_;obtain⟨h7,h⟩:=cS h;refine gQ (aA5 X4.D h7)<|gQ (IF X4.D bV aB r2.1) ?_;exact lp h;refine iB 36 h (fun h=>?_) fun h=>?_;exact lp h;refine iB 41 h (fun h=>?_) fun h=>?_;exact lp h;refine iB 45 h (fun h=>?_) fun h=>?_;exact lp h;obtain⟨h11,h⟩:=cS h;refine gQ h11.1<|gQ (Du X4.D h11.2) ?_;obtain⟨x3,h12,h⟩:=xS h;refine gG 51 (.el (X4.D x3)) (FL X4.D h12) ?_;refine iB 54 h (fun h=>?_) fun h=>?_;exact lp h;refine iB 59 h (fun h=>?_) fun h=>?_;exact lp h;obtain⟨h15,h⟩:=cS h;refine gQ h15.1<|gQ (Du X4.D h15.2) ?_;obtain⟨x4,h16,h⟩:=xS h;refine gG 64 (.el (X4.D x4)) (FL X4.D h16) ?_;refine iB 67 h (fun h=>?_) fun h=>?_;refine iB 73 h (fun h=>?_) fun h=>?_;obtain⟨o6,h23,h⟩:=bS h;refine gl (O0 rd h23) ?_;exact lp h;obtain⟨o7,h24,h⟩:=bS h;refine gl (O0 rd h24) ?_;exact lp h;refine iB 99 h (fun h=>?_) fun h=>?_;refine iB 107 h (fun h=>?_) fun h=>?_;refine iB 112 h (fun h=>?_) fun h=>?_;obtain⟨h28,h⟩:=cS h;refine gQ h28.1<|gQ (Du X4.D h28.2) ?_;obtain⟨x8,h29,h⟩:=xS h;refine gG 118 (.el (X4.D x8)) (FL X4.D h29) ?_;obtain⟨o11,h36,h⟩:=bS h;refine gl (Fy rd h36) ?_;exact lp h;obtain⟨o12,h37,h⟩:=bS h;refine gl (Fy rd h37) ?_;exact lp h;obtain⟨o13,h38,h⟩:=bS h;refine gl (Fy rd h38) ?_;exact lp h;obtain⟨o14,h39,h⟩:=bS h;refine gl (Fy rd h39) ?_;exact lp h
def UE(s15:List Xb)(s16:Int)(w1:AA)(s17:Int)(w3:List X4):St:=⟨sp 147 0 [bx 1,rx 3,sD 15 (D.l Xb.D) s15,sI 16 s16,sI 17 s17],[cL 1 AA.D w1,(3,.buf true 152 3 (w3.map X4.D))],[]⟩
def UF(s15:List Xb)(s16:Int)(w1:AA)(o:(List X4)):Ex×St:=(.exit 0,⟨sp 147 0 [rx 3],[(3,.buf true 152 3 (o.map X4.D))],[]⟩)
theorem aEl(rd:Option Nat)(h:Mr bU a9 a8 aB bV=some bY):Lq 81 rd 58 (UE bU a9 a8 aB bV) ((UF bU a9 a8) bY):=
 lL (fun s:Int×List X4=>UE bU a9 a8 s.1 s.2) (UF bU a9 a8) (aB,bV) (fun⟨aB,bV⟩ o h=>by
 unfold GU at h
 refine iB 18 h (fun h=>?_) fun h=>?_
 obtain⟨o15,h40,h⟩:=bS h
 refine gl (aEk rd h40) ?_
 exact lb h
 exact lb h) h
theorem aWn(h:Xk a8=some bV):AM Tryz.prog 81 [.d (AA.D a8)] [] (.d ((D.l X4.D) bV)) []:=by unfold Xk at h;apply g0 (o:=bV);refine gN 12 Xb.D a8.nodes<|gW 13 (.sl ((List.replicate (a8.nodes.length:Int).toNat (X4.mk 0 0 0)).map X4.D))<|gW 16 (.int (a8.nodes.length:Int)) ?_;obtain⟨h1,h⟩:=cS h;refine gQ h1.1<|gQ (Int.le_refl (a8.nodes.length:Int))<|gQ (Int.le_refl (a8.nodes.length:Int))<|gQ (aBl X4.D (X4.mk 0 0 0) h1.2)<|gQ (aBk X4.D (a8.nodes.length:Int) (X4.mk 0 0 0))<|gQ (CY Xb.D a8.nodes) ?_;obtain⟨o16,h41,h⟩:=bS h;refine gL [.live [1,3,15,16,17],.keep [1,13],.ren 13 3,.sort] (aEl none h41) ?_;exact lF h [.frz 3]
theorem aP5(h:Qs a9 aB bV aO=some bZ):AM Tryz.prog 82 [dI a9,dI aB,.box 0 0,.eptr (D.cells ((D.l X4.D) bV))] [(0,.cells ([dI aO]))] (.d (D.b bZ.1)) [(0,.cells ([dI bZ.2]))]:=by unfold Qs at h;refine XG.call (ks:=[2]) mixed fun us=>?_;apply g0 (o:=bZ);refine iB 10 h (fun h=>?_) fun h=>?_;exact lX h (lv [6] [0,997]);refine gN 13 X4.D bV ?_;refine iB 16 h (fun h=>?_) fun h=>?_;exact lX h (lv [6] [0,997]);refine xX 19 X4.D h fun x1 h=>?_;refine iB 25 h (fun h=>?_) fun h=>?_;exact lX h (lv [6] [0,997]);refine iB 29 h (fun h=>?_) fun h=>?_;exact lX h (lv [6] [0,997]);refine xX 32 X4.D h fun x2 h=>?_;refine iB 38 h (fun h=>?_) fun h=>?_;exact lX h (lv [6] [0,997]);refine xX 41 X4.D h fun x3 h=>?_;refine iB 45 h (fun h=>?_) fun h=>?_;exact lX h (lv [6] [0,997]);exact lX h (lv [6] [0,997])
theorem aVx(h:Uj aW c9=some aE):AM Tryz.prog 86 [.d (A9.D aW),.eptr (D.cells (A9.D c9))] [] (.d (D.b aE)) []:=by unfold Uj at h;apply g0 (o:=aE);exact lf h
def Wm(s0:List A9)(s1:A9)(s7 s8:Int):St:=⟨sp 19 0 [sD 0 (D.l A9.D) s0,(1,.clo (.func 86) [] [.eptr (D.cells (A9.D s1))]),sI 7 s7,sI 8 s8],[],[]⟩
def Wn(s0:List A9)(s1:A9)(s7:Int)(o:Unit⊕Int):Ex×St:=match o with
 | .inl o=>(.exit 0,⟨sp 19 0 [],[],[]⟩)
 | .inr o=>(.ret,⟨sp 19 0 [sI 4 o],[],[]⟩)
theorem aG9(rd:Option Nat)(h:Wl cA aW a9 aB=some aG):Lq 138 rd 26 (Wm cA aW a9 aB) ((Wn cA aW a9) aG):=
 lL (fun s:Int=>Wm cA aW a9 s) (Wn cA aW a9) aB (fun aB o h=>by
 unfold HA at h
 refine iB 9 h (fun h=>?_) fun h=>?_
 refine xX 14 A9.D h fun x1 h=>?_
 obtain⟨r2,h3,h⟩:=bS h
 refine gQ (aVx h3) ?_
 cases r2
 replace h:=B1 h
 refine gW 16 (.ret (.d (D.b false))) ?_
 exact lb h
 replace h:=B2 h
 refine gW 16 (.ret (.d (D.b true))) ?_
 exact lb h
 exact lb h) h
theorem aYb(h:Yq cA aW=some a9):AM Tryz.prog 138 [.d ((D.l A9.D) cA),.clo (.func 86) [] [.eptr (D.cells (A9.D aW))]] [] (dI a9) []:=by
 unfold Yq at h;apply g0 (o:=a9);refine gN 7 A9.D cA ?_;obtain⟨o3,h5,h⟩:=bS h;refine gl (aG9 none h5) ?_;replace h:=AH h;rcases h with⟨o4,rfl,h⟩|⟨o5,rfl,h⟩
 exact lf h;exact lf h
theorem aZi(h:Zx cA aW=some aE):AM Tryz.prog 85 [.d ((D.l A9.D) cA),.clo (.func 86) [] [.eptr (D.cells (A9.D aW))]] [] (.d (D.b aE)) []:=by unfold Zx at h;apply g0 (o:=aE);obtain⟨r1,h1,h⟩:=bS h;refine gC 7 (aYb h1) ?_;exact lf h
theorem aUt(h:Qa a9 aW aU a8 bV aB=some cB):AM Tryz.prog 84 [dI a9,.d (A9.D aW),.eptr (D.cells (X5.D aU)),.eptr (D.cells (AA.D a8)),.box 0 0] [(0,.cells ([.clo (.func 82) [] [.box 1 0,.eptr (D.cells ((D.l X4.D) bV))]])),(1,.cells ([dI aB]))] (.d (D.b cB.1)) [(0,.cells ([.clo (.func 82) [] [.box 1 0,.eptr (D.cells ((D.l X4.D) cB.2.1))]])),(1,.cells ([dI cB.2.2]))]:=by unfold Qa at h;refine XG.call (ks:=[4,1001]) mixed fun us=>?_;apply g0 (o:=cB);refine gW 6 .frz<|gW 12 (.sl ((sub aU.sets 0 a9).map A9.D)) ?_;obtain⟨h1,h⟩:=cS h;refine gQ (Cw A9.D h1) ?_;obtain⟨r1,h2,h⟩:=bS h;refine gC 14 (aZi h2) ?_;refine iB 18 h (fun h=>?_) fun h=>?_;refine gN 23 Xi.D a8.frees ?_;refine iB 26 h (fun h=>?_) fun h=>?_;refine iB 30 h (fun h=>?_) fun h=>?_;refine xX 38 Xi.D h fun x2 h=>?_;obtain⟨r3,h7,h⟩:=bS h;refine gG 42 (.cx false [(0,1)] [] (.d (D.b r3.1)) [(0,.cells ([dI r3.2]))]) (aP5 h7) ?_;exact lX h (lv [7] [0,1,997]);exact lX h (lv [7] [0,1,997]);exact lX h (lv [7] [0,1,997]);exact lX h (lv [7] [0,1,997])
def VT(us:List Value)(s1_1:X5)(s1_2:AA)(s7:List A9)(s8:Int)(w997_1:X5)(w997_2:AA)(s9:Int)(w0:List X4)(w1:Int):St:=⟨sp 20 0 [(1,.clo (.func 84) [] [.eptr (D.cells (X5.D s1_1)),.eptr (D.cells (AA.D s1_2)),.box 0 0]),sD 7 (D.l A9.D) s7,sI 8 s8,sI 9 s9],[(0,.cells ([.clo (.func 82) [] [.box 1 0,.eptr (D.cells ((D.l X4.D) w0))]])),(1,.cells ([dI w1])),(997,.vals [.clo (.func 84) [] [.eptr (D.cells (X5.D w997_1)),.eptr (D.cells (AA.D w997_2)),.box 0 0],.box 1 0] us)],[]⟩
def VU(us:List Value)(s1_1:X5)(s1_2:AA)(s7:List A9)(s8:Int)(w997_1:X5)(w997_2:AA)(o:(List X4×Int)⊕(List X4×Int)):Ex×St:=match o with
 | .inl o=>(.exit 0,⟨sp 20 0 [],[(0,.cells ([.clo (.func 82) [] [.box 1 0,.eptr (D.cells ((D.l X4.D) o.1))]])),(1,.cells ([dI o.2])),(997,.vals [.clo (.func 84) [] [.eptr (D.cells (X5.D w997_1)),.eptr (D.cells (AA.D w997_2)),.box 0 0],.box 1 0] us)],[]⟩)
 | .inr o=>(.ret,⟨sp 20 0 [sD 4 D.b false],[(0,.cells ([.clo (.func 82) [] [.box 1 0,.eptr (D.cells ((D.l X4.D) o.1))]])),(1,.cells ([dI o.2])),(997,.vals [.clo (.func 84) [] [.eptr (D.cells (X5.D w997_1)),.eptr (D.cells (AA.D w997_2)),.box 0 0],.box 1 0] us)],[]⟩)
theorem aFv(rd:Option Nat)(us:List Value)(h:M7 aU a8 cA a9 cC cD aB bV aO=some cE):Lq 87 rd 26 (VT us aU a8 cA a9 cC cD aB bV aO) ((VU us aU a8 cA a9 cC cD) cE):=
 lL (fun s:Int×List X4×Int=>VT us aU a8 cA a9 cC cD s.1 s.2.1 s.2.2) (VU us aU a8 cA a9 cC cD) (aB,bV,aO) (fun⟨aB,bV,aO⟩ o h=>by
 unfold DP at h
 refine iB 10 h (fun h=>?_) fun h=>?_
 refine xX 12 A9.D h fun x1 h=>?_
 obtain⟨r2,h3,h⟩:=bS h
 refine gG 17 (.cx false [(0,0),(1,1)] [] (.d (D.b r2.1)) [(0,.cells ([.clo (.func 82) [] [.box 1 0,.eptr (D.cells ((D.l X4.D) r2.2.1))]])),(1,.cells ([dI r2.2.2]))]) (aUt h3) ?_
 refine iB 18 h (fun h=>?_) fun h=>?_
 exact lb h
 exact lb h
 exact lb h) h
theorem aQy(h:Xx cA aU a8 bV a9=some cB):AM Tryz.prog 87 [.d ((D.l A9.D) cA),.clo (.func 84) [] [.eptr (D.cells (X5.D aU)),.eptr (D.cells (AA.D a8)),.box 0 0]] [(0,.cells ([.clo (.func 82) [] [.box 1 0,.eptr (D.cells ((D.l X4.D) bV))]])),(1,.cells ([dI a9]))] (.d (D.b cB.1)) [(0,.cells ([.clo (.func 82) [] [.box 1 0,.eptr (D.cells ((D.l X4.D) cB.2.1))]])),(1,.cells ([dI cB.2.2]))]:=by
 unfold Xx at h;refine XG.call (ks:=[1,1001]) mixed fun us=>?_;apply g0 (o:=cB);refine gN 8 A9.D cA ?_;obtain⟨o3,h5,h⟩:=bS h;refine gl (aFv none us h5) ?_;replace h:=AH h;rcases h with⟨o4,rfl,h⟩|⟨o5,rfl,h⟩
 exact lX h (lv [4] [0,1,997]);exact lX h (lv [4] [0,1,997])
def Wp(s0:List AX)(s7:Int)(w3:AX)(s8:Int):St:=⟨sp 19 0 [sD 0 (D.l AX.D) s0,bx 3,sI 7 s7,sI 8 s8],[cL 3 AX.D w3],[]⟩
def Wq(s0:List AX)(s7:Int)(w3:AX)(o:Unit⊕Int):Ex×St:=match o with
 | .inl o=>(.exit 0,⟨sp 19 0 [],[],[]⟩)
 | .inr o=>(.ret,⟨sp 19 0 [sI 4 o],[],[]⟩)
theorem aHa(rd:Option Nat)(h:Wo cF a9 aX aB=some aG):Lq 164 rd 26 (Wp cF a9 aX aB) ((Wq cF a9 aX) aG):=
 lL (fun s:Int=>Wp cF a9 aX s) (Wq cF a9 aX) aB (fun aB o h=>by
 unfold HB at h
 refine iB 9 h (fun h=>?_) fun h=>?_
 refine xX 14 AX.D h fun x1 h=>?_
 refine iB 16 h (fun h=>?_) fun h=>?_
 exact lb h
 exact lb h
 exact lb h) h
theorem aYd(h:Yr cF aX=some a9):AM Tryz.prog 164 [.d ((D.l AX.D) cF),.d (AX.D aX)] [] (dI a9) []:=by
 unfold Yr at h;apply g0 (o:=a9);refine gN 7 AX.D cF ?_;obtain⟨o2,h4,h⟩:=bS h;refine gl (aHa none h4) ?_;replace h:=AH h;rcases h with⟨o3,rfl,h⟩|⟨o4,rfl,h⟩
 exact lf h;exact lf h
theorem aUv(h:Qb cF aX=some aE):AM Tryz.prog 139 [.d ((D.l AX.D) cF),.d (AX.D aX)] [] (.d (D.b aE)) []:=by unfold Qb at h;apply g0 (o:=aE);obtain⟨r1,h1,h⟩:=bS h;refine gC 7 (aYd h1) ?_;exact lf h
theorem aR8(h:Zq aT a9=some aE):AM Tryz.prog 90 [.d (X2.D aT),dI a9] [] (.d (D.b aE)) []:=by unfold Zq at h;apply g0 (o:=aE);obtain⟨r1,h1,h⟩:=bS h;refine gC 9 (aUv h1) ?_;exact lf h
theorem aUx(h:Qc a9 bW a8 aU=some aE):AM Tryz.prog 89 [dI a9,.d (Xb.D bW),.eptr (D.cells (AA.D a8)),.eptr (D.cells (X5.D aU))] [] (.d (D.b aE)) []:=by unfold Qc at h;apply g0 (o:=aE);refine iB 10 h (fun h=>?_) fun h=>?_;exact lf h;refine xX 15 X2.D h fun x1 h=>?_;obtain⟨r2,h3,h⟩:=bS h;refine gC 19 (aR8 h3) ?_;exact lf h
def Vn(s1_1:AA)(s1_2:X5)(s7:List Xb)(s8 s9:Int):St:=⟨sp 20 0 [(1,.clo (.func 89) [] [.eptr (D.cells (AA.D s1_1)),.eptr (D.cells (X5.D s1_2))]),sD 7 (D.l Xb.D) s7,sI 8 s8,sI 9 s9],[],[]⟩
def Vo(s1_1:AA)(s1_2:X5)(s7:List Xb)(s8:Int)(o:Unit⊕Unit):Ex×St:=match o with
 | .inl o=>(.exit 0,⟨sp 20 0 [],[],[]⟩)
 | .inr o=>(.ret,⟨sp 20 0 [sD 4 D.b false],[],[]⟩)
theorem aF6(rd:Option Nat)(h:Vm a8 aU bU a9 aB=some aA):Lq 88 rd 26 (Vn a8 aU bU a9 aB) ((Vo a8 aU bU a9) aA):=
 lL (fun s:Int=>Vn a8 aU bU a9 s) (Vo a8 aU bU a9) aB (fun aB o h=>by
 unfold E5 at h
 refine iB 10 h (fun h=>?_) fun h=>?_
 refine xX 12 Xb.D h fun x1 h=>?_
 obtain⟨r2,h3,h⟩:=bS h
 refine gC 17 (aUx h3) ?_
 refine iB 18 h (fun h=>?_) fun h=>?_
 exact lb h
 exact lb h
 exact lb h) h
theorem aQ6(h:Y4 bU a8 aU=some aE):AM Tryz.prog 88 [.d ((D.l Xb.D) bU),.clo (.func 89) [] [.eptr (D.cells (AA.D a8)),.eptr (D.cells (X5.D aU))]] [] (.d (D.b aE)) []:=by
 unfold Y4 at h;apply g0 (o:=aE);refine gN 8 Xb.D bU ?_;obtain⟨o3,h5,h⟩:=bS h;refine gl (aF6 none h5) ?_;replace h:=AH h;rcases h with⟨o4,rfl,h⟩|⟨o5,rfl,h⟩
 exact lf h;exact lf h
theorem aZk(h:Zy a9 aU a8 aB bV=some cG):AM Tryz.prog 83 [dI a9,.d (X5.D aU),.box 0 0,.eptr (D.cells (AA.D a8)),.box 1 0] [(0,.cells ([dI aB])),(1,.cells ([.clo (.func 82) [] [.box 0 0,.eptr (D.cells ((D.l X4.D) bV))]]))] (.d (D.b cG.1)) [(0,.cells ([dI cG.2.1])),(1,.cells ([.clo (.func 82) [] [.box 0 0,.eptr (D.cells ((D.l X4.D) cG.2.2))]]))]:=by unfold Zy at h;refine XG.call (ks:=[2,4]) mixed fun us=>?_;apply g0 (o:=cG);refine gW 6 .frz ?_;refine iB 14 h (fun h=>?_) fun h=>?_;exact lX h (lv [7] [0,1,997]);refine gN 19 Yc.D a8.states ?_;refine iB 22 h (fun h=>?_) fun h=>?_;exact lX h (lv [7] [0,1,997]);refine iB 27 h (fun h=>?_) fun h=>?_;exact lX h (lv [7] [0,1,997]);refine gN 32 Yc.D a8.states ?_;refine iB 35 h (fun h=>?_) fun h=>?_;exact lX h (lv [7] [0,1,997]);refine iB 40 h (fun h=>?_) fun h=>?_;exact lX h (lv [7] [0,1,997]);refine gN 45 X2.D a8.symbols ?_;refine iB 48 h (fun h=>?_) fun h=>?_;exact lX h (lv [7] [0,1,997]);refine iB 52 h (fun h=>?_) fun h=>?_;obtain⟨r1,h8,h⟩:=bS h;refine gG 56 (.cx false [(0,0)] [] (.d (D.b r1.1)) [(0,.cells ([dI r1.2]))]) (aP5 h8) ?_;refine iB 59 h (fun h=>?_) fun h=>?_;exact lX h (lv [7] [0,1,997]);obtain⟨r2,h10,h⟩:=bS h;refine gG 64 (.cx false [(0,1),(1,0)] [] (.d (D.b r2.1)) [(0,.cells ([.clo (.func 82) [] [.box 1 0,.eptr (D.cells ((D.l X4.D) r2.2.1))]])),(1,.cells ([dI r2.2.2]))]) (aQy h10) ?_;refine iB 65 h (fun h=>?_) fun h=>?_;refine gW 70 (.sl ((sub a8.nodes aB r2.2.2).map Xb.D)) ?_;obtain⟨h12,h⟩:=cS h;refine gQ (Cw Xb.D h12) ?_;obtain⟨r3,h13,h⟩:=bS h;refine gC 72 (aQ6 h13) ?_;exact lX h (lv [7] [0,1,997]);exact lX h (lv [7] [0,1,997]);obtain⟨r4,h14,h⟩:=bS h;refine gG 64 (.cx false [(0,1),(1,0)] [] (.d (D.b r4.1)) [(0,.cells ([.clo (.func 82) [] [.box 1 0,.eptr (D.cells ((D.l X4.D) r4.2.1))]])),(1,.cells ([dI r4.2.2]))]) (aQy h14) ?_;refine iB 65 h (fun h=>?_) fun h=>?_;refine gW 70 (.sl ((sub a8.nodes aB r4.2.2).map Xb.D)) ?_;obtain⟨h16,h⟩:=cS h;refine gQ (Cw Xb.D h16) ?_;obtain⟨r5,h17,h⟩:=bS h;refine gC 72 (aQ6 h17) ?_;exact lX h (lv [7] [0,1,997]);exact lX h (lv [7] [0,1,997])
def Vk(us:List Value)(s1:AA)(s7:List X5)(s8:Int)(w997:AA)(s9 w0:Int)(w1:List X4):St:=⟨sp 20 0 [(1,.clo (.func 83) [] [.box 0 0,.eptr (D.cells (AA.D s1)),.box 1 0]),sD 7 (D.l X5.D) s7,sI 8 s8,sI 9 s9],[(0,.cells ([dI w0])),(1,.cells ([.clo (.func 82) [] [.box 0 0,.eptr (D.cells ((D.l X4.D) w1))]])),(997,.vals [.clo (.func 83) [] [.box 0 0,.eptr (D.cells (AA.D w997)),.box 1 0]] us)],[]⟩
def Vl(us:List Value)(s1:AA)(s7:List X5)(s8:Int)(w997:AA)(o:(Int×List X4)⊕(Int×List X4)):Ex×St:=match o with
 | .inl o=>(.exit 0,⟨sp 20 0 [],[(0,.cells ([dI o.1])),(1,.cells ([.clo (.func 82) [] [.box 0 0,.eptr (D.cells ((D.l X4.D) o.2))]])),(997,.vals [.clo (.func 83) [] [.box 0 0,.eptr (D.cells (AA.D w997)),.box 1 0]] us)],[]⟩)
 | .inr o=>(.ret,⟨sp 20 0 [sD 4 D.b false],[(0,.cells ([dI o.1])),(1,.cells ([.clo (.func 82) [] [.box 0 0,.eptr (D.cells ((D.l X4.D) o.2))]])),(997,.vals [.clo (.func 83) [] [.box 0 0,.eptr (D.cells (AA.D w997)),.box 1 0]] us)],[]⟩)
theorem aF5(rd:Option Nat)(us:List Value)(h:LK a8 cH a9 cD aB aO bV=some cI):Lq 91 rd 26 (Vk us a8 cH a9 cD aB aO bV) ((Vl us a8 cH a9 cD) cI):=
 lL (fun s:Int×Int×List X4=>Vk us a8 cH a9 cD s.1 s.2.1 s.2.2) (Vl us a8 cH a9 cD) (aB,aO,bV) (fun⟨aB,aO,bV⟩ o h=>by
 unfold EA at h
 refine iB 10 h (fun h=>?_) fun h=>?_
 refine xX 12 X5.D h fun x1 h=>?_
 obtain⟨r2,h3,h⟩:=bS h
 refine gG 17 (.cx false [(0,0),(1,1)] [] (.d (D.b r2.1)) [(0,.cells ([dI r2.2.1])),(1,.cells ([.clo (.func 82) [] [.box 0 0,.eptr (D.cells ((D.l X4.D) r2.2.2))]]))]) (aZk h3) ?_
 refine iB 18 h (fun h=>?_) fun h=>?_
 exact lb h
 exact lb h
 exact lb h) h
theorem aXd(h:Y3 cH a8 a9 bV=some cG):AM Tryz.prog 91 [.d ((D.l X5.D) cH),.clo (.func 83) [] [.box 0 0,.eptr (D.cells (AA.D a8)),.box 1 0]] [(0,.cells ([dI a9])),(1,.cells ([.clo (.func 82) [] [.box 0 0,.eptr (D.cells ((D.l X4.D) bV))]]))] (.d (D.b cG.1)) [(0,.cells ([dI cG.2.1])),(1,.cells ([.clo (.func 82) [] [.box 0 0,.eptr (D.cells ((D.l X4.D) cG.2.2))]]))]:=by
 unfold Y3 at h;refine XG.call (ks:=[1]) mixed fun us=>?_;apply g0 (o:=cG);refine gN 8 X5.D cH ?_;obtain⟨o3,h5,h⟩:=bS h;refine gl (aF5 none us h5) ?_;replace h:=AH h;rcases h with⟨o4,rfl,h⟩|⟨o5,rfl,h⟩
 exact lX h (lv [4] [0,1,997]);exact lX h (lv [4] [0,1,997])
theorem aY7(h:Zs a8=some aE):AM Tryz.prog 48 [.d (AA.D a8)] [] (.d (D.b aE)) []:=by unfold Zs at h;apply g0 (o:=aE);refine gW 1 .frz<|gW 10003 .frz ?_;obtain⟨r1,h1,h⟩:=bS h;refine gC 8 (aWn h1) ?_;obtain⟨r2,h2,h⟩:=bS h;refine gG 14 (.cx false [(0,4),(1,5)] [] (.d (D.b r2.1)) [(0,.cells ([dI r2.2.1])),(1,.cells ([.clo (.func 82) [] [.box 0 0,.eptr (D.cells ((D.l X4.D) r2.2.2))]]))]) (aXd h2) ?_;refine iB 15 h (fun h=>?_) fun h=>?_;refine gN 18 X4.D r1 ?_;exact lf h;exact lf h
def Wt(s0:List Int)(s1 s7 s8:Int):St:=⟨sp 19 0 [sD 0 (D.l dZ) s0,sI 1 s1,sI 7 s7,sI 8 s8],[],[]⟩
def Wu(s0:List Int)(s1 s7:Int)(o:Unit⊕Int):Ex×St:=match o with
 | .inl o=>(.exit 0,⟨sp 19 0 [],[],[]⟩)
 | .inr o=>(.ret,⟨sp 19 0 [sI 4 o],[],[]⟩)
theorem aHb(rd:Option Nat)(h:Wr b6 a9 aB aO=some aG):Lq 140 rd 26 (Wt b6 a9 aB aO) ((Wu b6 a9 aB) aG):=
 lL (fun s:Int=>Wt b6 a9 aB s) (Wu b6 a9 aB) aO (fun aO o h=>by
 unfold HC at h
 refine iB 9 h (fun h=>?_) fun h=>?_
 refine xX 14 dZ h fun x1 h=>?_
 refine iB 16 h (fun h=>?_) fun h=>?_
 exact lb h
 exact lb h
 exact lb h) h
theorem aYf(h:Ys b6 a9=some aB):AM Tryz.prog 140 [.d ((D.l dZ) b6),dI a9] [] (dI aB) []:=by
 unfold Ys at h;apply g0 (o:=aB);refine gN 7 dZ b6 ?_;obtain⟨o2,h4,h⟩:=bS h;refine gl (aHb none h4) ?_;replace h:=AH h;rcases h with⟨o3,rfl,h⟩|⟨o4,rfl,h⟩
 exact lf h;exact lf h
theorem aZm(h:Zz b6 a9=some aE):AM Tryz.prog 92 [.d ((D.l dZ) b6),dI a9] [] (.d (D.b aE)) []:=by unfold Zz at h;apply g0 (o:=aE);obtain⟨r1,h1,h⟩:=bS h;refine gC 7 (aYf h1) ?_;exact lf h
theorem aVy(h:Uk a9 aB a8 b6=some aE):AM Tryz.prog 99 [dI a9,dI aB,.eptr (D.cells (AA.D a8)),.eptr (D.cells ((D.l dZ) b6))] [] (.d (D.b aE)) []:=by unfold Uk at h;apply g0 (o:=aE);refine gN 10 X2.D a8.symbols<|gN 12 dZ b6 ?_;exact lf h
def We(s1_1:AA)(s1_2 s7:List Int)(s8 s9:Int):St:=⟨sp 20 0 [(1,.clo (.func 99) [] [.eptr (D.cells (AA.D s1_1)),.eptr (D.cells ((D.l dZ) s1_2))]),sD 7 (D.l dZ) s7,sI 8 s8,sI 9 s9],[],[]⟩
def Wg(s1_1:AA)(s1_2 s7:List Int)(s8:Int)(o:Unit⊕Unit):Ex×St:=match o with
 | .inl o=>(.exit 0,⟨sp 20 0 [],[],[]⟩)
 | .inr o=>(.ret,⟨sp 20 0 [sD 4 D.b false],[],[]⟩)
theorem aG7(rd:Option Nat)(h:Wd a8 b6 cJ a9 aB=some aA):Lq 98 rd 26 (We a8 b6 cJ a9 aB) ((Wg a8 b6 cJ a9) aA):=
 lL (fun s:Int=>We a8 b6 cJ a9 s) (Wg a8 b6 cJ a9) aB (fun aB o h=>by
 unfold G8 at h
 refine iB 10 h (fun h=>?_) fun h=>?_
 refine xX 12 dZ h fun x1 h=>?_
 obtain⟨r2,h3,h⟩:=bS h
 refine gC 17 (aVy h3) ?_
 refine iB 18 h (fun h=>?_) fun h=>?_
 exact lb h
 exact lb h
 exact lb h) h
theorem aX7(h:Yo b6 a8 cJ=some aE):AM Tryz.prog 98 [.d ((D.l dZ) b6),.clo (.func 99) [] [.eptr (D.cells (AA.D a8)),.eptr (D.cells ((D.l dZ) cJ))]] [] (.d (D.b aE)) []:=by
 unfold Yo at h;apply g0 (o:=aE);refine gN 8 dZ b6 ?_;obtain⟨o3,h5,h⟩:=bS h;refine gl (aG7 none h5) ?_;replace h:=AH h;rcases h with⟨o4,rfl,h⟩|⟨o5,rfl,h⟩
 exact lf h;exact lf h
theorem aVb(h:Qw a8 aX a9=some aE):AM Tryz.prog 143 [.d (AA.D a8),.d (AX.D aX),dI a9] [] (.d (D.b aE)) []:=by unfold Qw at h;apply g0 (o:=aE);refine iB 9 h (fun h=>?_) fun h=>?_;refine iB 14 h (fun h=>?_) fun h=>?_;obtain⟨r1,h3,h⟩:=bS h;refine gQ (aH9 h3) ?_;cases r1;replace h:=B1 h;refine gW 17 (.ret (.d (D.b false))) ?_;exact lf h;replace h:=B2 h;refine gW 17 (.ret (.d (D.b true))) ?_;exact lf h;exact lf h;refine iB 26 h (fun h=>?_) fun h=>?_;refine iB 31 h (fun h=>?_) fun h=>?_;refine gN 36 Xd.D a8.quants ?_;refine iB 39 h (fun h=>?_) fun h=>?_;refine xX 44 Xd.D h fun x2 h=>?_;refine iB 50 h (fun h=>?_) fun h=>?_;exact lf h;exact lf h;exact lf h;exact lf h;refine iB 56 h (fun h=>?_) fun h=>?_;refine iB 61 h (fun h=>?_) fun h=>?_;refine gN 66 Xi.D a8.frees ?_;refine iB 69 h (fun h=>?_) fun h=>?_;refine xX 74 Xi.D h fun x3 h=>?_;refine iB 81 h (fun h=>?_) fun h=>?_;exact lf h;exact lf h;exact lf h;exact lf h;exact lf h
theorem aVz(h:Ul aX a9 a8=some aE):AM Tryz.prog 142 [.d (AX.D aX),dI a9,.eptr (D.cells (AA.D a8))] [] (.d (D.b aE)) []:=by unfold Ul at h;apply g0 (o:=aE);obtain⟨r1,h1,h⟩:=bS h;refine gC 9 (aVb h1) ?_;exact lf h
def Ww(s1:List Int)(s2:AA)(s15:List AX)(s16 s17:Int):St:=⟨sp 32 0 [sD 1 (D.l dZ) s1,(2,.clo (.func 142) [] [.eptr (D.cells (AA.D s2))]),sD 15 (D.l AX.D) s15,sI 16 s16,sI 17 s17],[],[]⟩
def Wx(s1:List Int)(s2:AA)(s15:List AX)(s16:Int)(o:Unit⊕Unit):Ex×St:=match o with
 | .inl o=>(.exit 0,⟨sp 32 0 [],[],[]⟩)
 | .inr o=>(.ret,⟨sp 32 0 [sD 6 D.b false],[],[]⟩)
theorem aHc(rd:Option Nat)(h:Wv b6 a8 cF a9 aB=some aA):Lq 141 rd 58 (Ww b6 a8 cF a9 aB) ((Wx b6 a8 cF a9) aA):=
 lL (fun s:Int=>Ww b6 a8 cF a9 s) (Wx b6 a8 cF a9) aB (fun aB o h=>by
 unfold HD at h
 refine iB 18 h (fun h=>?_) fun h=>?_
 refine xX 20 AX.D h fun x1 h=>?_
 refine xX 24 dZ h fun x2 h=>?_
 obtain⟨r3,h5,h⟩:=bS h
 refine gC 29 (aVz h5) ?_
 refine iB 30 h (fun h=>?_) fun h=>?_
 exact lb h
 exact lb h
 exact lb h) h
theorem aYh(h:Yt cF b6 a8=some aE):AM Tryz.prog 141 [.d ((D.l AX.D) cF),.d ((D.l dZ) b6),.clo (.func 142) [] [.eptr (D.cells (AA.D a8))]] [] (.d (D.b aE)) []:=by
 unfold Yt at h;apply g0 (o:=aE);refine gN 11 AX.D cF<|gN 13 dZ b6 ?_;refine iB 14 h (fun h=>?_) fun h=>?_;exact lf h;refine gN 16 AX.D cF ?_;obtain⟨o4,h7,h⟩:=bS h;refine gl (aHc none h7) ?_;replace h:=AH h;rcases h with⟨o5,rfl,h⟩|⟨o6,rfl,h⟩
 exact lf h;exact lf h
theorem aUd(h:Q0 a8 aT=some aE):AM Tryz.prog 94 [.d (AA.D a8),.d (X2.D aT)] [] (.d (D.b aE)) []:=by unfold Q0 at h;apply g0 (o:=aE);refine gW 2 .frz ?_;refine iB 8 h (fun h=>?_) fun h=>?_;exact lf h;refine gN 13 X8.D a8.decls ?_;refine iB 15 h (fun h=>?_) fun h=>?_;exact lf h;refine xX 22 X8.D h fun x1 h=>?_;obtain⟨r2,h4,h⟩:=bS h;refine gC 26 (aYh h4) ?_;exact lf h
def Wz(s0 s1:List AX)(s12 s13:Int):St:=⟨sp 26 0 [sD 0 (D.l AX.D) s0,sD 1 (D.l AX.D) s1,sI 12 s12,sI 13 s13],[],[]⟩
def W0(s0 s1:List AX)(s12:Int)(o:Unit⊕Unit):Ex×St:=match o with
 | .inl o=>(.exit 0,⟨sp 26 0 [],[],[]⟩)
 | .inr o=>(.ret,⟨sp 26 0 [sD 4 D.b false],[],[]⟩)
theorem aHd(rd:Option Nat)(h:Wy cF cK a9 aB=some aA):Lq 144 rd 58 (Wz cF cK a9 aB) ((W0 cF cK a9) aA):=
 lL (fun s:Int=>Wz cF cK a9 s) (W0 cF cK a9) aB (fun aB o h=>by
 unfold HE at h
 refine iB 14 h (fun h=>?_) fun h=>?_
 refine xX 18 AX.D h fun x1 h=>?_
 refine xX 22 AX.D h fun x2 h=>?_
 refine iB 24 h (fun h=>?_) fun h=>?_
 exact lb h
 exact lb h
 exact lb h) h
theorem aYj(h:Yu cF cK=some aE):AM Tryz.prog 144 [.d ((D.l AX.D) cF),.d ((D.l AX.D) cK)] [] (.d (D.b aE)) []:=by
 unfold Yu at h;apply g0 (o:=aE);refine gN 7 AX.D cF<|gN 9 AX.D cK ?_;refine iB 10 h (fun h=>?_) fun h=>?_;exact lf h;refine gN 12 AX.D cF ?_;obtain⟨o3,h6,h⟩:=bS h;refine gl (aHd none h6) ?_;replace h:=AH h;rcases h with⟨o4,rfl,h⟩|⟨o5,rfl,h⟩
 exact lf h;exact lf h
theorem aUf(h:Q1 aT aY=some aE):AM Tryz.prog 97 [.d (X2.D aT),.d (X2.D aY)] [] (.d (D.b aE)) []:=by unfold Q1 at h;apply g0 (o:=aE);refine iB 10 h (fun h=>?_) fun h=>?_;obtain⟨r1,h2,h⟩:=bS h;refine gC 15 (aYj h2) ?_;exact lf h;exact lf h
theorem aUz(h:Qd aT aY=some aE):AM Tryz.prog 96 [.d (X2.D aT),.eptr (D.cells (X2.D aY))] [] (.d (D.b aE)) []:=by unfold Qd at h;apply g0 (o:=aE);obtain⟨r1,h1,h⟩:=bS h;refine gC 6 (aUf h1) ?_;exact lf h
def V0(s0:List X2)(s1:X2)(s7 s8:Int):St:=⟨sp 19 0 [sD 0 (D.l X2.D) s0,(1,.clo (.func 96) [] [.eptr (D.cells (X2.D s1))]),sI 7 s7,sI 8 s8],[],[]⟩
def V1(s0:List X2)(s1:X2)(s7:Int)(o:Unit⊕Int):Ex×St:=match o with
 | .inl o=>(.exit 0,⟨sp 19 0 [],[],[]⟩)
 | .inr o=>(.ret,⟨sp 19 0 [sI 4 o],[],[]⟩)
theorem aGf(rd:Option Nat)(h:Vz cM aT a9 aB=some aG):Lq 95 rd 26 (V0 cM aT a9 aB) ((V1 cM aT a9) aG):=
 lL (fun s:Int=>V0 cM aT a9 s) (V1 cM aT a9) aB (fun aB o h=>by
 unfold E9 at h
 refine iB 9 h (fun h=>?_) fun h=>?_
 refine xX 14 X2.D h fun x1 h=>?_
 obtain⟨r2,h3,h⟩:=bS h
 refine gQ (aUz h3) ?_
 cases r2
 replace h:=B1 h
 refine gW 16 (.ret (.d (D.b false))) ?_
 exact lb h
 replace h:=B2 h
 refine gW 16 (.ret (.d (D.b true))) ?_
 exact lb h
 exact lb h) h
theorem aXl(h:Y9 cM aT=some a9):AM Tryz.prog 95 [.d ((D.l X2.D) cM),.clo (.func 96) [] [.eptr (D.cells (X2.D aT))]] [] (dI a9) []:=by
 unfold Y9 at h;apply g0 (o:=a9);refine gN 7 X2.D cM ?_;obtain⟨o3,h5,h⟩:=bS h;refine gl (aGf none h5) ?_;replace h:=AH h;rcases h with⟨o4,rfl,h⟩|⟨o5,rfl,h⟩
 exact lf h;exact lf h
theorem aU1(h:Qe a9 aT a8=some aE):AM Tryz.prog 93 [dI a9,.d (X2.D aT),.eptr (D.cells (AA.D a8))] [] (.d (D.b aE)) []:=by unfold Qe at h;apply g0 (o:=aE);refine gW 4 .frz ?_;obtain⟨r1,h1,h⟩:=bS h;refine gQ (aUd h1) ?_;cases r1;replace h:=B1 h;refine gW 8 (.ret (.d (D.b false))) ?_;exact lf h;replace h:=B2 h;refine gW 8 (.ret (.d (D.b true))) ?_;obtain⟨r2,h3,h⟩:=bS h;refine gC 13 (aXl h3) ?_;exact lf h
def V3(s1:AA)(s7:List X2)(s8 s9:Int):St:=⟨sp 20 0 [(1,.clo (.func 93) [] [.eptr (D.cells (AA.D s1))]),sD 7 (D.l X2.D) s7,sI 8 s8,sI 9 s9],[],[]⟩
def V4(s1:AA)(s7:List X2)(s8:Int)(o:Unit⊕Unit):Ex×St:=match o with
 | .inl o=>(.exit 0,⟨sp 20 0 [],[],[]⟩)
 | .inr o=>(.ret,⟨sp 20 0 [sD 4 D.b false],[],[]⟩)
theorem aGg(rd:Option Nat)(h:V2 a8 cM a9 aB=some aA):Lq 100 rd 26 (V3 a8 cM a9 aB) ((V4 a8 cM a9) aA):=
 lL (fun s:Int=>V3 a8 cM a9 s) (V4 a8 cM a9) aB (fun aB o h=>by
 unfold FA at h
 refine iB 10 h (fun h=>?_) fun h=>?_
 refine xX 12 X2.D h fun x1 h=>?_
 obtain⟨r2,h3,h⟩:=bS h
 refine gC 17 (aU1 h3) ?_
 refine iB 18 h (fun h=>?_) fun h=>?_
 exact lb h
 exact lb h
 exact lb h) h
theorem aXn(h:Ya cM a8=some aE):AM Tryz.prog 100 [.d ((D.l X2.D) cM),.clo (.func 93) [] [.eptr (D.cells (AA.D a8))]] [] (.d (D.b aE)) []:=by
 unfold Ya at h;apply g0 (o:=aE);refine gN 8 X2.D cM ?_;obtain⟨o3,h5,h⟩:=bS h;refine gl (aGg none h5) ?_;replace h:=AH h;rcases h with⟨o4,rfl,h⟩|⟨o5,rfl,h⟩
 exact lf h;exact lf h
theorem aU3(h:Qf aT a9=some aE):AM Tryz.prog 103 [.d (X2.D aT),.eptr (D.cells (dZ a9))] [] (.d (D.b aE)) []:=by unfold Qf at h;apply g0 (o:=aE);obtain⟨r1,h1,h⟩:=bS h;refine gC 6 (aR8 h1) ?_;exact lf h
def WC(s0:List X2)(s1 s7 s8:Int):St:=⟨sp 19 0 [sD 0 (D.l X2.D) s0,(1,.clo (.func 103) [] [.eptr (D.cells (dZ s1))]),sI 7 s7,sI 8 s8],[],[]⟩
def WD(s0:List X2)(s1 s7:Int)(o:Unit⊕Int):Ex×St:=match o with
 | .inl o=>(.exit 0,⟨sp 19 0 [],[],[]⟩)
 | .inr o=>(.ret,⟨sp 19 0 [sI 4 o],[],[]⟩)
theorem aGj(rd:Option Nat)(h:WB cM a9 aB aO=some aG):Lq 95 rd 26 (WC cM a9 aB aO) ((WD cM a9 aB) aG):=
 lL (fun s:Int=>WC cM a9 aB s) (WD cM a9 aB) aO (fun aO o h=>by
 unfold FE at h
 refine iB 9 h (fun h=>?_) fun h=>?_
 refine xX 14 X2.D h fun x1 h=>?_
 obtain⟨r2,h3,h⟩:=bS h
 refine gQ (aU3 h3) ?_
 cases r2
 replace h:=B1 h
 refine gW 16 (.ret (.d (D.b false))) ?_
 exact lb h
 replace h:=B2 h
 refine gW 16 (.ret (.d (D.b true))) ?_
 exact lb h
 exact lb h) h
theorem aXt(h:Ye cM a9=some aB):AM Tryz.prog 95 [.d ((D.l X2.D) cM),.clo (.func 103) [] [.eptr (D.cells (dZ a9))]] [] (dI aB) []:=by
 unfold Ye at h;apply g0 (o:=aB);refine gN 7 X2.D cM ?_;obtain⟨o3,h5,h⟩:=bS h;refine gl (aGj none h5) ?_;replace h:=AH h;rcases h with⟨o4,rfl,h⟩|⟨o5,rfl,h⟩
 exact lf h;exact lf h
theorem aUh(h:Q3 cM a9=some aE):AM Tryz.prog 102 [.d ((D.l X2.D) cM),.clo (.func 103) [] [.eptr (D.cells (dZ a9))]] [] (.d (D.b aE)) []:=by unfold Q3 at h;apply g0 (o:=aE);obtain⟨r1,h1,h⟩:=bS h;refine gC 7 (aXt h1) ?_;exact lf h
theorem aU5(h:Qg a9 bE a8=some aE):AM Tryz.prog 101 [dI a9,.d (Xd.D bE),.eptr (D.cells (AA.D a8))] [] (.d (D.b aE)) []:=by unfold Qg at h;apply g0 (o:=aE);refine gW 3 .frz ?_;obtain⟨r1,h1,h⟩:=bS h;refine gC 9 (aUh h1) ?_;exact lf h
def V6(s1:AA)(s7:List Xd)(s8 s9:Int):St:=⟨sp 20 0 [(1,.clo (.func 101) [] [.eptr (D.cells (AA.D s1))]),sD 7 (D.l Xd.D) s7,sI 8 s8,sI 9 s9],[],[]⟩
def V7(s1:AA)(s7:List Xd)(s8:Int)(o:Unit⊕Unit):Ex×St:=match o with
 | .inl o=>(.exit 0,⟨sp 20 0 [],[],[]⟩)
 | .inr o=>(.ret,⟨sp 20 0 [sD 4 D.b false],[],[]⟩)
theorem aGh(rd:Option Nat)(h:V5 a8 bG a9 aB=some aA):Lq 75 rd 26 (V6 a8 bG a9 aB) ((V7 a8 bG a9) aA):=
 lL (fun s:Int=>V6 a8 bG a9 s) (V7 a8 bG a9) aB (fun aB o h=>by
 unfold FC at h
 refine iB 10 h (fun h=>?_) fun h=>?_
 refine xX 12 Xd.D h fun x1 h=>?_
 obtain⟨r2,h3,h⟩:=bS h
 refine gC 17 (aU5 h3) ?_
 refine iB 18 h (fun h=>?_) fun h=>?_
 exact lb h
 exact lb h
 exact lb h) h
theorem aXp(h:Yb bG a8=some aE):AM Tryz.prog 75 [.d ((D.l Xd.D) bG),.clo (.func 101) [] [.eptr (D.cells (AA.D a8))]] [] (.d (D.b aE)) []:=by
 unfold Yb at h;apply g0 (o:=aE);refine gN 8 Xd.D bG ?_;obtain⟨o3,h5,h⟩:=bS h;refine gl (aGh none h5) ?_;replace h:=AH h;rcases h with⟨o4,rfl,h⟩|⟨o5,rfl,h⟩
 exact lf h;exact lf h
theorem aEp(rd:Option Nat)(h:UI a8 cH a9 aB aE aU b6=some b7):Lq 49 rd 7475 ⟨sp 41 0 [eP 1 AA.D a8,bx 3,bx 5,sD 8 (D.l X5.D) cH,sI 9 a9,sI 10 aB,sD 18 D.b aE],[(3,.cells ([.row 600])),cL 5 X5.D aU,(600,.row 3 1 (b6.map dZ))],[]⟩ (.normal,⟨sp 41 0 [eP 1 AA.D a8,bx 3,sD 8 (D.l X5.D) cH,sI 9 a9,sI 10 aB],[(3,.cells ([.row 523])),(523,.row 3 1 (b7.map dZ))],[]⟩):=by unfold UI at h;apply g0 (o:=b7);cases aE;replace h:=B1 h;exact lP h [.live [1,3,8,9,10],.keep [3,600],.ren 600 523,.sort];replace h:=B2 h;refine gQ (Ad dZ [aU.symbol])<|gG 23 (.sl ((b6++[aU.symbol]).map dZ)) (Ad dZ [aU.symbol]) ?_;obtain⟨h12,h⟩:=cS h;refine gQ (Am dZ h12)<|gQ (Ak dZ b6 [aU.symbol]) ?_;exact lP h [.live [1,3,8,9,10],.keep [3,23],.ren 23 523,.sort]
theorem aEo(rd:Option Nat)(h:Rh a8 cH a9 aB b6=some b7):Lq 49 rd 934 ⟨sp 41 0 [eP 1 AA.D a8,bx 3,sD 8 (D.l X5.D) cH,sI 9 a9,sI 10 aB],[(3,.cells ([.row 600])),(600,.row 3 1 (b6.map dZ))],[]⟩ (.normal,⟨sp 41 0 [eP 1 AA.D a8,bx 3,sD 8 (D.l X5.D) cH,sI 9 a9,sI 10 aB],[(3,.cells ([.row 523])),(523,.row 3 1 (b7.map dZ))],[]⟩):=by unfold Rh at h;apply g0 (o:=b7);refine xX 12 X5.D h fun x5 h=>?_;obtain⟨r6,h10,h⟩:=bS h;refine gC 17 (aZm h10) ?_;obtain⟨o7,h13,h⟩:=bS h;refine gl (aEp rd h13) ?_;exact lp h
def UJ(s1:AA)(s8:List X5)(s9 s10:Int)(w600:List Int):St:=⟨sp 41 0 [eP 1 AA.D s1,bx 3,sD 8 (D.l X5.D) s8,sI 9 s9,sI 10 s10],[(3,.cells ([.row 600])),(600,.row 3 1 (w600.map dZ))],[]⟩
def UK(s1:AA)(s8:List X5)(s9:Int)(o:(List Int)):Ex×St:=(.exit 0,⟨sp 41 0 [eP 1 AA.D s1,bx 3],[(3,.cells ([.row 600])),(600,.row 3 1 (o.map dZ))],[]⟩)
theorem aEq(rd:Option Nat)(h:Ri a8 cH a9 aB b6=some b7):Lq 49 rd 58 (UJ a8 cH a9 aB b6) ((UK a8 cH a9) b7):=
 lL (fun s:Int×List Int=>UJ a8 cH a9 s.1 s.2) (UK a8 cH a9) (aB,b6) (fun⟨aB,b6⟩ o h=>by
 unfold D5 at h
 refine iB 11 h (fun h=>?_) fun h=>?_
 obtain⟨o8,h14,h⟩:=bS h
 refine gl (aEo rd h14) ?_
 exact lB h [.live [1,3,8,9,10],.keep [3,523],.ren 523 600,.sort]
 exact lb h) h
theorem aWr(h:Xn a8=some aE):AM Tryz.prog 49 [.d (AA.D a8)] [] (.d (D.b aE)) []:=by unfold Xn at h;apply g0 (o:=aE);refine gN 9 X5.D a8.trans<|gW 1 .frz ?_;obtain⟨o9,h15,h⟩:=bS h;refine gL [.live [1,3,8,9,10],.keep [3],.nilc 3 0 600 3 1,.frz 600,.sort] (aEq none h15) ?_;obtain⟨r10,h16,h⟩:=bS h;refine gQ (aX7 h16) ?_;cases r10;replace h:=B1 h;refine gW 28 (.lend [3] (.d (D.b false))) ?_;exact lf h;replace h:=B2 h;refine gW 28 (.lend [3] (.d (D.b true))) ?_;obtain⟨r11,h18,h⟩:=bS h;refine gQ (aXn h18) ?_;cases r11;replace h:=B1 h;refine gW 33 (.ret (.d (D.b false))) ?_;exact lf h;replace h:=B2 h;refine gW 33 (.ret (.d (D.b true))) ?_;obtain⟨r12,h20,h⟩:=bS h;refine gC 39 (aXp h20) ?_;exact lf h
theorem aR2(h:Zh a8=some aE):AM Tryz.prog 26 [.d (AA.D a8)] [] (.d (D.b aE)) []:=by unfold Zh at h;apply g0 (o:=aE);obtain⟨r1,h1,h⟩:=bS h;refine gQ (aU9 h1) ?_;cases r1;replace h:=B1 h;refine gW 4 (.ret (.d (D.b false))) ?_;exact lf h;replace h:=B2 h;refine gW 4 (.ret (.d (D.b true))) ?_;obtain⟨r2,h3,h⟩:=bS h;refine gQ (aWh h3) ?_;cases r2;replace h:=B1 h;refine gW 7 (.ret (.d (D.b false))) ?_;exact lf h;replace h:=B2 h;refine gW 7 (.ret (.d (D.b true))) ?_;obtain⟨r3,h5,h⟩:=bS h;refine gQ (aY7 h5) ?_;cases r3;replace h:=B1 h;refine gW 11 (.ret (.d (D.b false))) ?_;exact lf h;replace h:=B2 h;refine gW 11 (.ret (.d (D.b true))) ?_;obtain⟨r4,h7,h⟩:=bS h;refine gC 15 (aWr h7) ?_;exact lf h
theorem aP3(h:Qo a8=some cN):AM Tryz.prog 8 [.d (AA.D a8)] [] (.d (.v (.pointer none))) []:=by
 unfold Qo at h;refine XG.call (ks:=[]) mixed fun us=>?_;apply g0 (o:=cN);refine gW 5 (.bit true) ?_;obtain⟨r1,h1,h⟩:=bS h;refine gC 4 (aR2 h1) ?_;rcases iS h with⟨h2,h⟩|⟨h2,h⟩
 refine gQ h2 ?_;exact lX h (lv [2] [997]);cases h
theorem aP4(h:Qp a8=some cO):AM Tryz.prog 8 [.d (AA.D a8)] [] (.box 0 0) [(0,.cells ((AW (AA.D cO.1))++[.row 1,.row 2])),(1,.map cO.2.1.clk (MP.dl dZ (D.l X0.D) cO.2.1)),(2,.mapR 995 cO.2.2.clk (ksR D.s cO.2.2) []),(995,.rows 3 (xsR dZ cO.2.2 []))]:=by
 unfold Qp at h;refine XG.call (ks:=[]) mixed fun us=>?_;apply g0 (o:=cO);refine gW 5 (.bit false)<|gW 8 (.mkr 996) ?_;obtain⟨r1,h1,h⟩:=bS h;refine gC 4 (aR2 h1) ?_;rcases iS h with⟨h2,h⟩|⟨h2,h⟩
 cases h;refine gQ h2 ?_;exact lX h [.live [2],.keep [7,8,10,996,997],.ren 7 1,.ren 8 2,.ren 10 0,.ren 996 995,.sort]
theorem aLr(h:Qh a9=some cP):AM Tryz.prog 25 [dI a9] [] (.d (X0.D cP)) []:=by unfold Qh at h;apply g0 (o:=cP);exact lf h
theorem aVk(h:U6 bA=some cQ):AM Tryz.prog 28 [.d (D.l X0.D bA)] [] (.d (D.l X0.D cQ)) []:=
 QG (ρ:=⟨fun _=>28,fun n=>if n=4 then 4 else if n=22 then 45 else 68,id⟩) (by_:=48) X0.D rfl (LW mixed ⟨ "slices.Clone[[]proctor/api.Slot,proctor/api.Slot]",by decide,(Tryz.func28).trans (by kernel_rfl)⟩ Tryz.underlying4 Tryz.underlying45 (by kernel_rfl) (by kernel_rfl) (by kernel_rfl) (by kernel_rfl)) (by kernel_rfl) (by decide) bA cQ h
theorem aLs(h:Qi a9 aB=some aD):AM Tryz.prog 53 [dI a9,dI aB] [] (.d (D.s aD)) []:=by unfold Qi at h;apply g0 (o:=aD);refine gG 6 (.int (u8w a9).toNat) (Eq a9)<|gG 8 (.int (u8w aB).toNat) (Eq aB)<|gQ (Ad AY [u8w a9,u8w aB])<|gG 10 (.str [u8w a9,u8w aB]) (rfl:[u8w a9,u8w aB].map AY=[u8w a9,u8w aB].map AY) ?_;exact lf h
def Vq(s1:Int)(s8:List X0)(s9:Int)(w4:X3)(s10:Int):St:=⟨sp 22 0 [sI 1 s1,bx 4,sD 8 (D.l X0.D) s8,sI 9 s9,sI 10 s10],[cL 4 X3.D w4],[]⟩
def Vr(s1:Int)(s8:List X0)(s9:Int)(w4:X3)(o:Unit⊕X3):Ex×St:=match o with
 | .inl o=>(.exit 0,⟨sp 22 0 [bx 4],[cL 4 X3.D w4],[]⟩)
 | .inr o=>(.ret,⟨sp 22 0 [bx 4,sD 5 D.b true],[cL 4 X3.D o],[]⟩)
theorem aF7(rd:Option Nat)(h:Vp a9 bA aB aJ aO=some cR):Lq 54 rd 26 (Vq a9 bA aB aJ aO) ((Vr a9 bA aB aJ) cR):=
 lL (fun s:Int=>Vq a9 bA aB aJ s) (Vr a9 bA aB aJ) aO (fun aO o h=>by
 unfold Gr at h
 refine iB 11 h (fun h=>?_) fun h=>?_
 refine xX 12 X0.D h fun x1 h=>?_
 refine iB 17 h (fun h=>?_) fun h=>?_
 exact lb h
 exact lb h
 exact lb h) h
theorem aMj(h:Y5 bA a9=some cT):AM Tryz.prog 54 [.d ((D.l X0.D) bA),dI a9] [] (.tup [.d (X3.D cT.1),.d (D.b cT.2)]) []:=by
 unfold Y5 at h;apply g0 (o:=cT);refine gN 9 X0.D bA ?_;obtain⟨o2,h4,h⟩:=bS h;refine gl (aF7 none h4) ?_;replace h:=AH h;rcases h with⟨o3,rfl,h⟩|⟨o4,rfl,h⟩
 exact lf h;exact lf h
def Vs(s3 s10:Int)(w4:List UInt8):St:=⟨sp 27 0 [sD 3 dU s3,bx 4,sI 10 s10],[(4,.buf false 218 1 (w4.map AY))],[]⟩
def Vt(s3:Int)(o:(List UInt8)):Ex×St:=(.exit 0,⟨sp 27 0 [bx 4],[(4,.buf false 218 1 (o.map AY))],[]⟩)
theorem aF9(rd:Option Nat)(h:Jn a9 aB aD=some cU):Lq 145 rd 122 (Vs a9 aB aD) ((Vt a9) cU):=
 lL (fun s:Int×List UInt8=>Vs a9 s.1 s.2) (Vt a9) (aB,aD) (fun⟨aB,aD⟩ o h=>by
 unfold E6 at h
 refine iB 11 h (fun h=>?_) fun h=>?_
 refine gW 19 (.int (u8w (AB .shr .u64 a9 (AB .mul .i64 8 (AB .sub .i64 7 aB)))).toNat)<|gW 10020 (.sl ((aD.set aB.toNat (u8w (AB .shr .u64 a9 (AB .mul .i64 8 (AB .sub .i64 7 aB))))).map AY)) ?_
 obtain⟨h2,h⟩:=cS h
 refine gQ h2<|gQ (Eq (AB .shr .u64 a9 (AB .mul .i64 8 (AB .sub .i64 7 aB)))) ?_
 obtain⟨h3,h⟩:=cS h
 refine gQ h3.1<|gQ h3.2 ?_
 obtain⟨h4,h⟩:=cS h
 refine gQ (aA5 AY h4)<|gQ (IF AY aD aB (u8w (AB .shr .u64 a9 (AB .mul .i64 8 (AB .sub .i64 7 aB))))) ?_
 exact lb h
 exact lb h) h
theorem aXg(h:Y6 a9=some aD):AM Tryz.prog 145 [dI a9] [] (.d ((D.l AY) aD)) []:=by unfold Y6 at h;apply g0 (o:=aD);refine gW 22 (.sl ((List.replicate (8:Int).toNat (0:UInt8)).map AY)) ?_;obtain⟨o1,h5,h⟩:=bS h;refine gl (aF9 none h5)<|gW 25 (.sl ((o1.take (List.replicate (8:Int).toNat (0:UInt8)).length++(List.replicate (8:Int).toNat (0:UInt8)).drop o1.length).map AY)) ?_;obtain⟨h6,h⟩:=cS h;refine gQ h6.1<|gQ (Int.le_refl (8:Int))<|gQ (Int.le_refl (8:Int))<|gQ (aBl AY (0:UInt8) h6.2)<|gQ (aBk AY (8:Int) (0:UInt8)) ?_;obtain⟨h7,h⟩:=cS h;refine gQ (aSy AY h7)<|gQ (aIr AY (List.replicate (8:Int).toNat (0:UInt8)) o1) ?_;exact lF h [.frz 22]
theorem aFp(rd:Option Nat)(h:aFo aD a9 aB aE aP=some cU):Lq 146 rd 14951 ⟨sp 27 0 [sD 0 D.s aD,rx 3,sI 6 a9,sI 7 aB,sD 19 D.b aE],[(3,.row 5 1 (aP.map AY))],[]⟩ (.normal,⟨sp 27 0 [sD 0 D.s aD,rx 3,sI 6 a9,sI 7 aB],[(3,.row 5 1 (cU.map AY))],[]⟩):=by unfold aFo at h;apply g0 (o:=cU);cases aE;replace h:=B1 h;exact lp h;replace h:=B2 h;refine gQ (Ad AY [(255:UInt8)])<|gG 22 (.sl ((aP++[(255:UInt8)]).map AY)) (Ad AY [(255:UInt8)]) ?_;obtain⟨h6,h⟩:=cS h;refine gQ (Am AY h6)<|gQ (Ak AY aP [(255:UInt8)]) ?_;exact lP h [.live [0,3,6,7],.keep [22],.ren 22 3,.sort]
theorem aFr(rd:Option Nat)(h:VN aD a9 aB aP=some cU):Lq 146 rd 934 ⟨sp 27 0 [sD 0 D.s aD,rx 3,sI 6 a9,sI 7 aB],[(3,.row 5 1 (aP.map AY))],[]⟩ (.normal,⟨sp 27 0 [sD 0 D.s aD,rx 3,sI 6 a9,sI 7 aB],[(3,.row 5 1 (cU.map AY))],[]⟩):=by unfold VN at h;apply g0 (o:=cU);obtain⟨x5,h10,h⟩:=xS h;refine gG 13 (.int x5.toNat) (Ci h10)<|gQ (Ad AY [x5])<|gG 15 (.sl ((aP++[x5]).map AY)) (Ad AY [x5]) ?_;obtain⟨h11,h⟩:=cS h;refine gQ (Am AY h11)<|gQ (Ak AY aP [x5]) ?_;obtain⟨x6,h12,h⟩:=xS h;refine gG 18 (.int x6.toNat) (Ci h12) ?_;obtain⟨o7,h13,h⟩:=bS h;refine gL [.live [0,3,6,7,19],.keep [15],.ren 15 3,.sort] (aFp rd h13) ?_;exact lp h
def VO(s0:List UInt8)(s6 s7:Int)(w3:List UInt8):St:=⟨sp 27 0 [sD 0 D.s s0,rx 3,sI 6 s6,sI 7 s7],[(3,.row 5 1 (w3.map AY))],[]⟩
def VP(s0:List UInt8)(s6:Int)(o:(List UInt8)):Ex×St:=(.exit 0,⟨sp 27 0 [rx 3],[(3,.row 5 1 (o.map AY))],[]⟩)
theorem aFs(rd:Option Nat)(h:Rp aD a9 aB aP=some cU):Lq 146 rd 58 (VO aD a9 aB aP) ((VP aD a9) cU):=
 lL (fun s:Int×List UInt8=>VO aD a9 s.1 s.2) (VP aD a9) (aB,aP) (fun⟨aB,aP⟩ o h=>by
 unfold Gf at h
 refine iB 8 h (fun h=>?_) fun h=>?_
 obtain⟨o8,h14,h⟩:=bS h
 refine gl (aFr rd h14) ?_
 exact lb h
 exact lb h) h
theorem aW5(h:Xv aD=some aP):AM Tryz.prog 146 [.d (D.s aD)] [] (.d ((D.l AY) aP)) []:=by unfold Xv at h;apply g0 (o:=aP);refine gG 6 (.int (aD.length:Int)) (BH aD) ?_;obtain⟨o9,h15,h⟩:=bS h;refine gL [.live [0,3,6,7],.keep [],.nil 3 3 5 1,.sort] (aFs none h15)<|gQ (Ad AY [(0:UInt8),(1:UInt8)])<|gG 26 (.sl ((o9++[(0:UInt8),(1:UInt8)]).map AY)) (Ad AY [(0:UInt8),(1:UInt8)]) ?_;obtain⟨h16,h⟩:=cS h;refine gQ (Am AY h16)<|gQ (Ak AY o9 [(0:UInt8),(1:UInt8)]) ?_;exact lf h
theorem aZd(h:Zu aJ=some aD):AM Tryz.prog 104 [.d (X3.D aJ)] [] (.d ((D.l AY) aD)) []:=by unfold Zu at h;apply g0 (o:=aD);refine gG 6 (.int (u8w aJ.kind).toNat) (Eq aJ.kind)<|gQ (Ad AY [u8w aJ.kind]) ?_;refine iB 10 h (fun h=>?_) fun h=>?_;obtain⟨r1,h2,h⟩:=bS h;refine gC 15 (aXg h2)<|gG 16 (.sl (([u8w aJ.kind]++r1).map AY)) (Ad AY r1) ?_;obtain⟨h3,h⟩:=cS h;refine gQ (Am AY h3)<|gQ (Ak AY [u8w aJ.kind] r1) ?_;exact lf h;refine iB 17 h (fun h=>?_) fun h=>?_;obtain⟨r2,h5,h⟩:=bS h;refine gC 22 (aW5 h5)<|gG 23 (.sl (([u8w aJ.kind]++r2).map AY)) (Ad AY r2) ?_;obtain⟨h6,h⟩:=cS h;refine gQ (Am AY h6)<|gQ (Ak AY [u8w aJ.kind] r2) ?_;exact lf h;refine iB 25 h (fun h=>?_) fun h=>?_;refine gQ (Ad AY [(1:UInt8)])<|gG 28 (.sl (([u8w aJ.kind]++[(1:UInt8)]).map AY)) (Ad AY [(1:UInt8)]) ?_;obtain⟨h8,h⟩:=cS h;refine gQ (Am AY h8)<|gQ (Ak AY [u8w aJ.kind] [(1:UInt8)]) ?_;exact lf h;refine gQ (Ad AY [(0:UInt8)])<|gG 31 (.sl (([u8w aJ.kind]++[(0:UInt8)]).map AY)) (Ad AY [(0:UInt8)]) ?_;obtain⟨h9,h⟩:=cS h;refine gQ (Am AY h9)<|gQ (Ak AY [u8w aJ.kind] [(0:UInt8)]) ?_;exact lf h
def VQ(s6:List X3)(s7 s8:Int)(w3:List UInt8):St:=⟨sp 21 0 [rx 3,sD 6 (D.l X3.D) s6,sI 7 s7,sI 8 s8],[(3,.row 5 1 (w3.map AY))],[]⟩
def VS(s6:List X3)(s7:Int)(o:(List UInt8)⊕Unit):Ex×St:=match o with
 | .inl o=>(.exit 0,⟨sp 21 0 [rx 3],[(3,.row 5 1 (o.map AY))],[]⟩)
 | .inr o=>(.ret,⟨sp 21 0 [(2,.nil)],[],[]⟩)
theorem aFt(rd:Option Nat)(h:Rq cV a9 aB aD=some cW):Lq 55 rd 58 (VQ cV a9 aB aD) ((VS cV a9) cW):=
 lL (fun s:Int×List UInt8=>VQ cV a9 s.1 s.2) (VS cV a9) (aB,aD) (fun⟨aB,aD⟩ o h=>by
 unfold E3 at h
 refine iB 9 h (fun h=>?_) fun h=>?_
 refine xX 10 X3.D h fun x4 h=>?_
 obtain⟨r5,h9,h⟩:=bS h
 refine gC 13 (aH9 h9) ?_
 refine iB 14 h (fun h=>?_) fun h=>?_
 exact lb h
 obtain⟨r6,h11,h⟩:=bS h
 refine gC 17 (aZd h11)<|gG 18 (.sl ((aD++r6).map AY)) (Ad AY r6) ?_
 obtain⟨h12,h⟩:=cS h
 refine gQ (Am AY h12)<|gQ (Ak AY aD r6) ?_
 exact lB h [.live [3,6,7,8],.keep [18],.ren 18 3,.sort]
 exact lb h) h
theorem aMh(h:Xw cV=some aD):AM Tryz.prog 55 [.d ((D.l X3.D) cV)] [] (.d ((D.l AY) aD)) []:=by
 unfold Xw at h;apply g0 (o:=aD);refine gN 7 X3.D cV ?_;obtain⟨o7,h13,h⟩:=bS h;refine gL [.live [3,6,7,8],.keep [],.nil 3 3 5 1,.sort] (aFt none h13) ?_;replace h:=AH h;rcases h with⟨o8,rfl,h⟩|⟨o9,rfl,h⟩
 exact lf h;exact lf h
theorem aPz(h:Qj a9=some aE):AM Tryz.prog 147 [dI a9] [] (.d (D.b aE)) []:=by unfold Qj at h;apply g0 (o:=aE);exact lf h
theorem aVl(h:U7 a9 aB=some aE):AM Tryz.prog 105 [dI a9,dI aB] [] (.d (D.b aE)) []:=by unfold U7 at h;apply g0 (o:=aE);obtain⟨r1,h1,h⟩:=bS h;refine gQ (aPz h1) ?_;cases r1;replace h:=B1 h;refine gW 6 (.ret (.d (D.b false))) ?_;exact lf h;replace h:=B2 h;refine gW 6 (.ret (.d (D.b true))) ?_;obtain⟨r2,h3,h⟩:=bS h;refine gC 9 (aPz h3) ?_;refine iB 12 h (fun h=>?_) fun h=>?_;exact lf h;exact lf h
theorem Co(h:Qj a9=some aE):AM Tryz.prog 106 [dI a9] [] (.d (D.b aE)) []:=by unfold Qj at h;apply g0 (o:=aE);exact lf h
theorem aE8(rd:Option Nat)(h:aE7 b6 a9 aB aO aS cX aE=some cY):Lq 56 rd 1931 ⟨sp 54 0 [sD 0 (D.l dZ) b6,sI 1 a9,sI 6 aB,sI 7 aO,sI 8 aS,sI 9 cX,sD 27 D.b aE],[],[]⟩ (.normal,⟨sp 54 0 [sD 0 (D.l dZ) b6,sI 1 a9,sI 6 aB,sI 7 cY.1,sI 8 cY.2],[],[]⟩):=by unfold aE7 at h;apply g0 (o:=cY);cases aE;replace h:=B1 h;exact lp h;replace h:=B2 h;exact lp h
theorem aE6(rd:Option Nat)(h:aE5 b6 a9 aB aO aS=some cY):Lq 56 rd 241 ⟨sp 54 0 [sD 0 (D.l dZ) b6,sI 1 a9,sI 6 aB,sI 7 aO,sI 8 aS],[],[]⟩ (.normal,⟨sp 54 0 [sD 0 (D.l dZ) b6,sI 1 a9,sI 6 aB,sI 7 cY.1,sI 8 cY.2],[],[]⟩):=by unfold aE5 at h;apply g0 (o:=cY);refine gQ (of_decide_eq_true rfl:(0:Int)<=1)<|xX 24 dZ h fun x1 h=>?_;obtain⟨r2,h3,h⟩:=bS h;refine gC 27 (aVl h3) ?_;obtain⟨o3,h5,h⟩:=bS h;refine gl (aE8 rd h5) ?_;exact lp h
def Uz(s0:List Int)(s1 s6:Int)(s7 s8:Int):St:=⟨sp 54 0 [sD 0 (D.l dZ) s0,sI 1 s1,sI 6 s6,sI 7 s7,sI 8 s8],[],[]⟩
def VA(s0:List Int)(s1 s6 o:Int):Ex×St:=(.exit 0,⟨sp 54 0 [sD 0 (D.l dZ) s0,sI 1 s1,sI 6 s6,sI 7 o],[],[]⟩)
theorem aE9(rd:Option Nat)(h:Uy b6 a9 aB aO aS=some cX):Lq 56 rd 60 (Uz b6 a9 aB aO aS) ((VA b6 a9 aB) cX):=
 lL (fun s:Int×Int=>Uz b6 a9 aB s.1 s.2) (VA b6 a9 aB) (aO,aS) (fun⟨aO,aS⟩ o h=>by
 unfold E2 at h
 refine iB 15 h (fun h=>?_) fun h=>?_
 obtain⟨o4,h6,h⟩:=bS h
 refine gl (aE6 rd h6) ?_
 exact lb h
 exact lb h) h
theorem aFa(h:Xr b6 a9=some aM):AM Tryz.prog 56 [.d ((D.l dZ) b6),dI a9] [] (.tup [dI aM.1,.d (D.b aM.2)]) []:=by unfold Xr at h;apply g0 (o:=aM);refine gN 11 dZ b6 ?_;obtain⟨o5,h7,h⟩:=bS h;refine gl (aE9 none h7) ?_;refine iB 35 h (fun h=>?_) fun h=>?_;refine xX 38 dZ h fun x6 h=>?_;refine iB 42 h (fun h=>?_) fun h=>?_;exact lf h;refine xX 45 dZ h fun x7 h=>?_;obtain⟨r8,h12,h⟩:=bS h;refine gQ (Co h12) ?_;cases r8;replace h:=B1 h;refine gW 47 (.ret (.d (D.b false))) ?_;exact lf h;replace h:=B2 h;refine gW 47 (.ret (.d (D.b true))) ?_;obtain⟨r9,h14,h⟩:=bS h;refine gC 50 (Co h14) ?_;exact lf h;exact lf h
theorem aVm(h:U8 a9 b6 cJ=some cZ):AM Tryz.prog 57 [.row 0,.d (D.i .i64 a9),.row 1] [rW 0 3 1 dZ b6,(1,.row 3 1 (cJ.map dZ))] (.row 2) [rW 2 3 1 dZ cZ]:=
 aN6 (ρ:=⟨fun n=>if n=22 then 57 else if n=29 then 107 else 108,fun n=>if n=0 then 0 else if n=3 then 3 else if n=4 then 4 else if n=24 then 52 else 3,id⟩) (by_:=8) dZ mixed rfl ⟨ "slices.Insert[[]int,int]",by decide,(Tryz.func57).trans (by kernel_rfl)⟩ Tryz.underlying3 Tryz.underlying4 Tryz.underlying52 (by kernel_rfl) (by decide) (by decide)
  (fun args w=>run_callFunc_extern Tryz.func107 (by kernel_rfl) (by kernel_rfl) (by kernel_rfl) (e:=Go.Extern.SlicesOverlaps.overlaps #[52,52] #[4]) (by kernel_rfl) args w) a9 b6 cJ cZ h
theorem aMz(h:Zb a9 b6=some cJ):AM Tryz.prog 31 [.row 0,dI a9] [rW 0 3 1 dZ b6] (.row 1) [rW 1 3 1 dZ cJ]:=by unfold Zb at h;refine XG.call (ks:=[]) mixed fun us=>?_;apply g0 (o:=cJ);obtain⟨r1,h1,h⟩:=bS h;refine gG 10 (.lend [0] (.tup [dI r1.1,.d (D.b r1.2)])) (aFa h1) ?_;refine iB 13 h (fun h=>?_) fun h=>?_;exact lX h [.live [4],.keep [0,997],.ren 0 1,.sort];refine gQ (Ad dZ [a9]) ?_;obtain⟨r2,h3,h⟩:=bS h;refine gG 19 (.cx true [(0,0),(1,18)] [(2,19)] (.row 2) [rW 2 3 1 dZ r2]) (aVm h3) ?_;exact lX h [.live [4],.keep [19,997],.ren 19 1,.sort]
theorem aUj(h:Q4 aD a9 a8 d4 d5=some cO):AM Tryz.prog 30 [.d (D.s aD),.box 0 0,.eptr (D.cells (dZ a9))] [(0,.cells ([.box 1 0])),(1,.cells ((AW (AA.D a8))++[.row 2,.row 3])),(2,.map d4.clk (MP.dl dZ (D.l X0.D) d4)),(3,.mapR 996 d5.clk (ksR D.s d5) []),(996,.rows 3 (xsR dZ d5 []))] (.tup []) [(0,.cells ([.box 1 0])),(1,.cells ((AW (AA.D cO.1))++[.row 4,.row 5])),(4,.map cO.2.1.clk (MP.dl dZ (D.l X0.D) cO.2.1)),(5,.mapR 995 cO.2.2.clk (ksR D.s cO.2.2) []),(995,.rows 3 (xsR dZ cO.2.2 []))]:=by unfold Q4 at h;refine XG.call (ks:=[1,1001]) mixed fun us=>?_;apply g0 (o:=cO);refine gG 14 (.mr 996 d5.clk (ksR D.s d5) (xsR dZ d5 [aD]) (((A5 [] d5 aD).1).map dZ)) (aOf (S1 Tryz.underlying9) dZ d5 aD 3 996 3) ?_;obtain⟨r1,h1,h⟩:=bS h;refine gG 16 (.cx false [(0,14)] [(1,16)] (.row 1) [rW 1 3 1 dZ r1]) (aMz h1)<|gQ (aK9 (S1 Tryz.underlying9) dZ d5 aD r1 3 996 3 14)<|gW 10007 (.mr 996 (CJ d5 aD r1).clk (ksR D.s (CJ d5 aD r1)) (xsR dZ (CJ d5 aD r1) []) []) ?_;exact lX h [.live [],.keep [0,1,2,3,996,997],.ren 2 4,.ren 3 5,.ren 996 995,.sort]
theorem aC5(rd:Option Nat)(us:List Value)(h:IJ bA a9 aB aD cM aO aS cF cX d6 aE a8 aJ d4 d5 d7=some cU):Lq 29 rd 3355451 ⟨sp 57 0 [sD 1 (D.l X0.D) bA,(2,.clo (.func 30) [] [.box 1 0,.eptr (D.cells (dZ a9))]),sI 6 aB,sD 10 D.s aD,bx 11,sD 17 (D.l X2.D) cM,sI 18 aO,sI 19 aS,sD 25 (D.l AX.D) cF,sI 26 cX,sI 27 d6,sD 45 D.b aE],[(0,.cells ((AW (AA.D a8))++[.row 502,.row 503])),(1,.cells ([.box 0 0])),cL 11 X3.D aJ,(502,.map d4.clk (MP.dl dZ (D.l X0.D) d4)),(503,.mapR 996 d5.clk (ksR D.s d5) []),(996,.rows 3 (xsR dZ d5 [])),(997,.vals [.box 0 0,.clo (.func 30) [] [.box 1 0,.eptr (D.cells (dZ d7))]] us)],[]⟩ (.normal,⟨sp 57 0 [sD 1 (D.l X0.D) bA,(2,.clo (.func 30) [] [.box 1 0,.eptr (D.cells (dZ a9))]),sI 6 aB,sD 10 D.s cU,sD 17 (D.l X2.D) cM,sI 18 aO,sI 19 aS,sD 25 (D.l AX.D) cF,sI 26 cX,sI 27 d6],[(0,.cells ((AW (AA.D a8))++[.row 502,.row 503])),(1,.cells ([.box 0 0])),(502,.map d4.clk (MP.dl dZ (D.l X0.D) d4)),(503,.mapR 996 d5.clk (ksR D.s d5) []),(996,.rows 3 (xsR dZ d5 [])),(997,.vals [.box 0 0,.clo (.func 30) [] [.box 1 0,.eptr (D.cells (dZ d7))]] us)],[]⟩):=by unfold IJ at h;apply g0 (o:=cU);cases aE;replace h:=B1 h;exact lp h;replace h:=B2 h;refine gQ (Ad X3.D [aJ]) ?_;obtain⟨r5,h9,h⟩:=bS h;refine gC 49 (aMh h9)<|gG 50 (.str r5) (rfl:r5.map AY=r5.map AY)<|gW 51 (.str (aD++r5)) ?_;obtain⟨h10,h⟩:=cS h;refine gQ (FZ h10) ?_;exact lp h
theorem aC4(rd:Option Nat)(us:List Value)(h:RW bA a9 aB cM aO aS cF cX d6 a8 d4 d5 d7=some d8):Lq 29 rd 26214 ⟨sp 57 0 [sD 1 (D.l X0.D) bA,(2,.clo (.func 30) [] [.box 1 0,.eptr (D.cells (dZ a9))]),sI 6 aB,sD 17 (D.l X2.D) cM,sI 18 aO,sI 19 aS,sD 25 (D.l AX.D) cF,sI 26 cX,sI 27 d6],[(0,.cells ((AW (AA.D a8))++[.row 502,.row 503])),(1,.cells ([.box 0 0])),(502,.map d4.clk (MP.dl dZ (D.l X0.D) d4)),(503,.mapR 996 d5.clk (ksR D.s d5) []),(996,.rows 3 (xsR dZ d5 [])),(997,.vals [.box 0 0,.clo (.func 30) [] [.box 1 0,.eptr (D.cells (dZ d7))]] us)],[]⟩ (.normal,⟨sp 57 0 [sD 1 (D.l X0.D) bA,(2,.clo (.func 30) [] [.box 1 0,.eptr (D.cells (dZ a9))]),sI 6 aB,sD 17 (D.l X2.D) cM,sI 18 aO,sI 19 aS,sD 25 (D.l AX.D) cF,sI 26 cX,sI 27 d6],[(0,.cells ((AW (AA.D d8.1))++[.row 502,.row 503])),(1,.cells ([.box 0 0])),(502,.map d8.2.1.clk (MP.dl dZ (D.l X0.D) d8.2.1)),(503,.mapR 996 d8.2.2.clk (ksR D.s d8.2.2) []),(996,.rows 3 (xsR dZ d8.2.2 [])),(997,.vals [.box 0 0,.clo (.func 30) [] [.box 1 0,.eptr (D.cells (dZ d7))]] us)],[]⟩):=by unfold RW at h;apply g0 (o:=d8);refine xX 30 AX.D h fun x2 h=>?_;refine iB 34 h (fun h=>?_) fun h=>?_;exact lp h;obtain⟨r3,h6,h⟩:=bS h;refine gC 37 (aLs h6) ?_;obtain⟨r4,h7,h⟩:=bS h;refine gC 42 (aMj h7) ?_;obtain⟨o6,h11,h⟩:=bS h;refine gl (aC5 rd us h11) ?_;obtain⟨r7,h12,h⟩:=bS h;refine gG 54 (.cx false [(0,1),(1,0),(2,502),(3,503),(996,996)] [(4,54),(5,461),(995,994)] (.tup []) [(0,.cells ([.box 1 0])),(1,.cells ((AW (AA.D r7.1))++[.row 4,.row 5])),(4,.map r7.2.1.clk (MP.dl dZ (D.l X0.D) r7.2.1)),(5,.mapR 995 r7.2.2.clk (ksR D.s r7.2.2) []),(995,.rows 3 (xsR dZ r7.2.2 []))]) (aUj h12) ?_;exact lP h [.live [1,2,6,17,18,19,25,26,27],.keep [0,1,54,461,994,997],.ren 54 502,.ren 461 503,.ren 994 996,.sort]
def TF(us:List Value)(s1:List X0)(s2 s6:Int)(s17:List X2)(s18 s19:Int)(s25:List AX)(s26 w997 s27:Int)(w0:AA)(w502:MP Int (List X0))(w503:MP (List UInt8) (List Int)):St:=⟨sp 57 0 [sD 1 (D.l X0.D) s1,(2,.clo (.func 30) [] [.box 1 0,.eptr (D.cells (dZ s2))]),sI 6 s6,sD 17 (D.l X2.D) s17,sI 18 s18,sI 19 s19,sD 25 (D.l AX.D) s25,sI 26 s26,sI 27 s27],[(0,.cells ((AW (AA.D w0))++[.row 502,.row 503])),(1,.cells ([.box 0 0])),(502,.map w502.clk (MP.dl dZ (D.l X0.D) w502)),(503,.mapR 996 w503.clk (ksR D.s w503) []),(996,.rows 3 (xsR dZ w503 [])),(997,.vals [.box 0 0,.clo (.func 30) [] [.box 1 0,.eptr (D.cells (dZ w997))]] us)],[]⟩
end Go.Ac
