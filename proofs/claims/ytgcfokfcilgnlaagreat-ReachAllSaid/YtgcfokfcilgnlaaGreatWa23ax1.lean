/- Own work, printed: the functions compute these. -/
import Derived.Test.YtgcfokfcilgnlaaGreatSh23a
import Derived.Test.YtgcfokfcilgnlaaGreatProg
set_option linter.unusedVariables false
set_option linter.unusedSimpArgs false
namespace Go.Ac
open Go.Proofs
variable {a7:AD}
variable {a8 aA aN aR bD bE cD:Int}
variable {a9:Unit⊕Unit}
variable {aB:List (List UInt8)}
variable {aC aO:List UInt8}
variable {aD b8:Bool}
variable {aE:List Xd}
variable {aF:Unit⊕Int}
variable {aG:Unit⊕(Int×Int)}
variable {aH:Int×Int}
variable {aI aQ bR:X0}
variable {aJ:(List (List UInt8))⊕Unit}
variable {aK:X0×Int}
variable {aL:Int×Bool}
variable {aM:Int×Int×Int}
variable {aP:Unit⊕Bool}
variable {aS aX:X3}
variable {aT:Xc}
variable {aU:Int⊕Unit}
variable {aV:FV}
variable {aW:CE}
variable {aY:List Bool}
variable {aZ cA:List Int}
variable {b6:(List Int)}
variable {b7:(List Bool×List Int)}
variable {b9:List X2}
variable {bA:List Xc}
variable {bB:List Yk}
variable {bC:List X3}
variable {bG:Unit}
variable {bH bI bM:List X0}
variable {bJ:(Int×Int)}
variable {bK:(List X0)}
variable {bL:Bool×List X0}
variable {bN:List X0×List X0}
variable {bO:List CE}
variable {bP bQ:List (List X0)}
variable {bU:X0×Bool}
variable {bV:X2}
variable {bW:Xp}
variable {bX:Unit⊕X0}
variable {bY bZ:List (Int×Bool)}
variable {c9:(List (Int×Bool))}
variable {cB:(Int×List Int)⊕(Unit⊕Unit)}
variable {cC:(List Int)⊕(List Int)}
variable {cE:(List Int×Int)}
variable {cF:(Int×Int×Int×Int)}
theorem mixed:Tryz.prog.follows .mixedOrders=true:=by kernel_rfl
theorem lB{β:Type}{ws:List (Nat×W)}{lw:List Lw}{Q:List Prop}{o v:β}{rd:Option Nat}{root:Code}{q:List Nat}{s:St}{E:β->Ex}{S:β->St}(h:some v=some o)(l:List Ws)(he:(cj Q True/\(E v=E v/\S v=S v))=QZ Tryz.prog rd root ws lw q l s (E v) (S v):=by kernel_rfl):Gl ws lw Q (fun o=>Arr Tryz.prog rd root q s (E o) (S o)) o:=lB_ mixed h l he
theorem lP{β:Type}{ws:List (Nat×W)}{lw:List Lw}{Q:List Prop}{o v:β}{rd:Option Nat}{root:Code}{q:List Nat}{s:St}{E:β->Ex}{S:β->St}(h:some v=some o)(l:List Ws)(he:(cj Q True/\(E v=E v/\S v=S v))=QZ Tryz.prog rd root ws lw q l s (E v) (S v):=by kernel_rfl):Gl ws lw Q (fun o=>FT Tryz.prog rd root q s (E o) (S o)) o:=lP_ mixed h l he
theorem lb{β:Type}{ws:List (Nat×W)}{lw:List Lw}{Q:List Prop}{o v:β}{rd:Option Nat}{root:Code}{q:List Nat}{s:St}{E:β->Ex}{S:β->St}(h:some v=some o)(he:(cj Q True/\(E v=E v/\S v=S v))=QZ Tryz.prog rd root ws lw q (lvS (S v)) s (E v) (S v):=by kernel_rfl):Gl ws lw Q (fun o=>Arr Tryz.prog rd root q s (E o) (S o)) o:=lB_ mixed h _ he
theorem lp{β:Type}{ws:List (Nat×W)}{lw:List Lw}{Q:List Prop}{o v:β}{rd:Option Nat}{root:Code}{q:List Nat}{s:St}{E:β->Ex}{S:β->St}(h:some v=some o)(he:(cj Q True/\(E v=E v/\S v=S v))=QZ Tryz.prog rd root ws lw q (lvS (S v)) s (E v) (S v):=by kernel_rfl):Gl ws lw Q (fun o=>FT Tryz.prog rd root q s (E o) (S o)) o:=lP_ mixed h _ he
theorem lF{β:Type}{ws:List (Nat×W)}{lw:List Lw}{Q:List Prop}{o v:β}{f:FuncId}{args:List A}{R:β->A}(h:some v=some o)(l:List Ws)(he:(cj Q True/\(R v=R v/\true=true))=YU Tryz.prog f ws lw l args (R v):=by kernel_rfl):Gl ws lw Q (fun o=>AL Tryz.prog f args [] (R o) []) o:=lF_ mixed h l he
theorem lf{β:Type}{ws:List (Nat×W)}{lw:List Lw}{Q:List Prop}{o v:β}{f:FuncId}{args:List A}{R:β->A}(h:some v=some o)(he:(cj Q True/\(R v=R v/\true=true))=YU Tryz.prog f ws lw [] args (R v):=by kernel_rfl):Gl ws lw Q (fun o=>AL Tryz.prog f args [] (R o) []) o:=lF_ mixed h [] he
abbrev Lq(n:Nat)(rd:Option Nat)(p:Nat)(s:St)(x:Ex×St):Prop:=FT Tryz.prog rd (EE Tryz.prog n) (pth p) s x.1 x.2
theorem lI{β:Type}{ws:List (Nat×W)}{lw:List Lw}{Q:List Prop}{o v:β}{f:FuncId}{args:List A}{F0:Bx}(hF:Far F0){r:A}{F:β->Bx}(hc: ∀f,∀p∈F f,∀m,p.2.has m=true->m∈AO (F f))(h:some v=some o)(l:List Ws)(he:(cj Q True/\(r=r/\F v=F v/\true=true))=aH0 Tryz.prog f ws lw l args F0 r (F v):=by kernel_rfl):Gl ws lw Q (fun o=>LD Tryz.prog f args F0 r (F o)) o:=lI_ mixed hF hc h l he
theorem lX{β:Type}{ws:List (Nat×W)}{lw:List Lw}{Q:List Prop}{o v:β}{f:FuncId}{args:List A}{X:Bx}{ks:List Nat}{us:List Value}{R:β->A}{X1:β->Bx}(h:some v=some o)(l:List Ws)(he:(cj Q True/\(R v=R v/\X1 v++[(vx,.vals (I5 args ks) us)]=X1 v++[(vx,.vals (I5 args ks) us)]/\true=true))=aH1 Tryz.prog f ws lw l args X ks us (R v) (X1 v):=by kernel_rfl):Gl ws lw Q (fun o=>XG Tryz.prog f args X ks us (R o) (X1 o)) o:=lX_ h l he
def SE(w1:AD)(s3:Int):St:=⟨sp 166 0 [bx 1,sI 3 s3],[cL 1 AD.D w1],[]⟩
def SF(w1:AD)(o:Unit⊕Unit):Ex×St:=match o with
 | .inl o=>(.exit 0,⟨sp 166 0 [bx 1],[cL 1 AD.D w1],[]⟩)
 | .inr o=>(.ret,⟨sp 166 0 [sI 2 0],[],[]⟩)
theorem aAg(rd:Option Nat)(h:aJm a7 a8=some a9):Lq 43 rd 58 (SE a7 a8) ((SF a7) a9):=
 lL (fun s:Int=>SE a7 s) (SF a7) a8 (fun a8 o h=>by
 unfold Hd at h
 refine gN 58 Xd.D a7.decls ?_
 refine iB 59 h (fun h=> ?_) fun h=> ?_
 refine xX 65 Xd.D h fun x1 h=> ?_
 refine gN 68 dZ x1.types ?_
 refine iB 70 h (fun h=> ?_) fun h=> ?_
 exact lb h
 refine xX 74 Xd.D h fun x2 h=> ?_
 refine gG 77 (.int (x2.name.length:Int)) (CS x2.name) ?_
 refine iB 79 h (fun h=> ?_) fun h=> ?_
 exact lb h
 exact lb h
 exact lb h) h
def SI(s4:Int)(w1:AD)(s5:Int):St:=⟨sp 166 0 [bx 1,sI 4 s4,sI 5 s5],[cL 1 AD.D w1],[]⟩
def SJ(s4:Int)(w1:AD)(o:Unit⊕Unit):Ex×St:=match o with
 | .inl o=>(.exit 4,⟨sp 166 0 [bx 1,sI 4 s4],[cL 1 AD.D w1],[]⟩)
 | .inr o=>(.ret,⟨sp 166 0 [sI 2 0],[],[]⟩)
theorem aAi(rd:Option Nat)(h:aJo a8 a7 aA=some a9):Lq 43 rd 15654 (SI a8 a7 aA) ((SJ a8 a7) a9):=
 lL (fun s:Int=>SI a8 a7 s) (SJ a8 a7) aA (fun aA o h=>by
 unfold Hf at h
 refine xX 99 X3.D h fun x7 h=> ?_
 refine gN 102 CE.D x7.args ?_
 refine iB 103 h (fun h=> ?_) fun h=> ?_
 refine xX 109 X3.D h fun x8 h=> ?_
 refine xX 113 CE.D h fun x9 h=> ?_
 refine gG 117 (.int (x9.value.str.length:Int)) (CS x9.value.str) ?_
 refine iB 118 h (fun h=> ?_) fun h=> ?_
 exact lb h
 exact lb h
 exact lb h) h
def SG(w1:AD)(s4:Int):St:=⟨sp 166 0 [bx 1,sI 4 s4],[cL 1 AD.D w1],[]⟩
def SH(w1:AD)(o:Unit⊕Unit):Ex×St:=match o with
 | .inl o=>(.exit 2,⟨sp 166 0 [bx 1],[cL 1 AD.D w1],[]⟩)
 | .inr o=>(.ret,⟨sp 166 0 [sI 2 0],[],[]⟩)
theorem aAh(rd:Option Nat)(h:aJn a7 a8=some a9):Lq 43 rd 122 (SG a7 a8) ((SH a7) a9):=
 lL (fun s:Int=>SG a7 s) (SH a7) a8 (fun a8 o h=>by
 unfold He at h
 refine gN 83 X3.D a7.symbols ?_
 refine iB 84 h (fun h=> ?_) fun h=> ?_
 refine xX 90 X3.D h fun x6 h=> ?_
 refine gN 93 CE.D x6.args ?_
 refine iB 94 h (fun h=> ?_) fun h=> ?_
 exact lb h
 obtain⟨o10,h23,h⟩:=bS h
 refine gl (aAi rd h23) ?_
 replace h:=AK h
 rcases h with⟨o11,rfl,h⟩|⟨o12,rfl,h⟩
 exact lb h
 exact lb h
 exact lb h) h
def SK(w1:AD)(s6:Int):St:=⟨sp 166 0 [bx 1,sI 6 s6],[cL 1 AD.D w1],[]⟩
def SL(w1:AD)(o:Unit⊕Unit):Ex×St:=match o with
 | .inl o=>(.exit 6,⟨sp 166 0 [bx 1],[cL 1 AD.D w1],[]⟩)
 | .inr o=>(.ret,⟨sp 166 0 [sI 2 0],[],[]⟩)
theorem aAj(rd:Option Nat)(h:aJp a7 a8=some a9):Lq 43 rd 250 (SK a7 a8) ((SL a7) a9):=
 lL (fun s:Int=>SK a7 s) (SL a7) a8 (fun a8 o h=>by
 unfold Hg at h
 refine gN 122 Ye.D a7.frees ?_
 refine iB 123 h (fun h=> ?_) fun h=> ?_
 refine xX 129 Ye.D h fun x16 h=> ?_
 refine gG 133 (.int (x16.init_.str.length:Int)) (CS x16.init_.str) ?_
 refine iB 134 h (fun h=> ?_) fun h=> ?_
 exact lb h
 exact lb h
 exact lb h) h
def SM(w1:AD)(s7:Int):St:=⟨sp 166 0 [bx 1,sI 7 s7],[cL 1 AD.D w1],[]⟩
def SN(w1:AD)(o:Unit⊕Unit):Ex×St:=match o with
 | .inl o=>(.exit 8,⟨sp 166 0 [bx 1],[cL 1 AD.D w1],[]⟩)
 | .inr o=>(.ret,⟨sp 166 0 [sI 2 0],[],[]⟩)
theorem aAk(rd:Option Nat)(h:aJq a7 a8=some a9):Lq 43 rd 506 (SM a7 a8) ((SN a7) a9):=
 lL (fun s:Int=>SM a7 s) (SN a7) a8 (fun a8 o h=>by
 unfold Hh at h
 refine gN 138 Yj.D a7.nodes ?_
 refine iB 139 h (fun h=> ?_) fun h=> ?_
 refine xX 145 Yj.D h fun x20 h=> ?_
 refine gG 149 (.int (x20.value.str.length:Int)) (CS x20.value.str) ?_
 refine iB 150 h (fun h=> ?_) fun h=> ?_
 exact lb h
 exact lb h
 exact lb h) h
def SO(w1:AD)(s8:Int):St:=⟨sp 166 0 [bx 1,sI 8 s8],[cL 1 AD.D w1],[]⟩
def SP(w1:AD)(o:Unit⊕Unit):Ex×St:=match o with
 | .inl o=>(.exit 10,⟨sp 166 0 [],[],[]⟩)
 | .inr o=>(.ret,⟨sp 166 0 [sI 2 0],[],[]⟩)
theorem aAl(rd:Option Nat)(h:aJr a7 a8=some a9):Lq 43 rd 1018 (SO a7 a8) ((SP a7) a9):=
 lL (fun s:Int=>SO a7 s) (SP a7) a8 (fun a8 o h=>by
 unfold Hi at h
 refine gN 154 Xc.D a7.trans ?_
 refine iB 155 h (fun h=> ?_) fun h=> ?_
 refine xX 161 Xc.D h fun x24 h=> ?_
 refine gN 164 FV.D x24.sets ?_
 refine iB 165 h (fun h=> ?_) fun h=> ?_
 exact lb h
 exact lb h
 exact lb h) h
theorem aRd(h:Xa a7=some a8):AL Tryz.prog 43 [.d (AD.D a7)] [] (dI a8) []:=by
 unfold Xa at h;apply g0 (o:=a8);refine gN 11 Xd.D a7.decls ?_;refine iB 13 h (fun h=> ?_) fun h=> ?_;exact lf h;refine gN 16 Yc.D a7.quants ?_;refine iB 19 h (fun h=> ?_) fun h=> ?_;exact lf h;refine gN 22 Ye.D a7.frees ?_;refine iB 25 h (fun h=> ?_) fun h=> ?_;exact lf h;refine gN 28 Xb.D a7.states ?_;refine iB 31 h (fun h=> ?_) fun h=> ?_;exact lf h;refine gN 34 X3.D a7.symbols ?_;refine iB 37 h (fun h=> ?_) fun h=> ?_;exact lf h;refine gN 40 Xc.D a7.trans ?_;refine iB 43 h (fun h=> ?_) fun h=> ?_;exact lf h;refine gN 46 Yj.D a7.nodes ?_;refine iB 49 h (fun h=> ?_) fun h=> ?_;exact lf h;refine gG 52 (.int (a7.name.length:Int)) (CS a7.name) ?_;refine iB 54 h (fun h=> ?_) fun h=> ?_;exact lf h;obtain⟨o3,h14,h⟩:=bS h;refine gl (aAg none h14) ?_;replace h:=AK h;rcases h with⟨o4,rfl,h⟩|⟨o5,rfl,h⟩
 obtain⟨o13,h24,h⟩:=bS h;refine gl (aAh none h24) ?_;replace h:=AK h;rcases h with⟨o14,rfl,h⟩|⟨o15,rfl,h⟩
 obtain⟨o17,h28,h⟩:=bS h;refine gl (aAj none h28) ?_;replace h:=AK h;rcases h with⟨o18,rfl,h⟩|⟨o19,rfl,h⟩
 obtain⟨o21,h32,h⟩:=bS h;refine gl (aAk none h32) ?_;replace h:=AK h;rcases h with⟨o22,rfl,h⟩|⟨o23,rfl,h⟩
 obtain⟨o25,h36,h⟩:=bS h;refine gl (aAl none h36) ?_;replace h:=AK h;rcases h with⟨o26,rfl,h⟩|⟨o27,rfl,h⟩
 exact lf h;exact lf h;exact lf h;exact lf h;exact lf h;exact lf h
theorem aQv(h:Qs=some aB):AL Tryz.prog 140 [] [] (.d ((D.l D.s) aB)) []:=by unfold Qs at h;apply g0 (o:=aB);refine gQ (Ar D.s ([([97,99,99,101,112,116]:List UInt8),([97,108,115,111]:List UInt8),([97,110,100]:List UInt8),([98,111,111,108]:List UInt8),([100,111]:List UInt8),([101,118,101,110,116]:List UInt8),([101,120,105,115,116,115]:List UInt8),([102,97,108,115,101]:List UInt8),([102,111,114,97,108,108]:List UInt8),([102,114,101,101]:List UInt8),([105,102]:List UInt8),([105,110,116]:List UInt8),([110,101,120,116]:List UInt8),([110,111,116]:List UInt8),([111,110]:List UInt8),([111,114]:List UInt8),([113,101,97]:List UInt8),([115,107,105,112]:List UInt8),([115,116,97,114,116]:List UInt8),([115,116,114,105,110,103]:List UInt8),([116,111]:List UInt8),([116,114,117,101]:List UInt8)])) ?_;exact lf h
def U8(s0:List UInt8)(s3:Int):St:=⟨sp 55 0 [sD 0 D.s s0,sI 3 s3],[],[]⟩
def U9(s0:List UInt8)(o:Unit⊕Unit):Ex×St:=match o with
 | .inl o=>(.exit 0,⟨sp 55 0 [],[],[]⟩)
 | .inr o=>(.ret,⟨sp 55 0 [sD 2 D.b false],[],[]⟩)
theorem aFb(rd:Option Nat)(h:aKr aC a8=some a9):Lq 141 rd 58 (U8 aC a8) ((U9 aC) a9):=
 lL (fun s:Int=>U8 aC s) (U9 aC) a8 (fun a8 o h=>by
 unfold IR at h
 refine gG 16 (.int (aC.length:Int)) (CS aC) ?_
 refine iB 17 h (fun h=> ?_) fun h=> ?_
 obtain⟨x1,h4,h⟩:=xS h
 refine gG 22 (.int x1.toNat) (Gh h4) ?_
 refine iB 25 h (fun h=> ?_) fun h=> ?_
 refine iB 29 h (fun h=> ?_) fun h=> ?_
 exact lb h
 refine iB 32 h (fun h=> ?_) fun h=> ?_
 refine iB 37 h (fun h=> ?_) fun h=> ?_
 exact lb h
 refine iB 43 h (fun h=> ?_) fun h=> ?_
 refine iB 46 h (fun h=> ?_) fun h=> ?_
 exact lb h
 refine iB 50 h (fun h=> ?_) fun h=> ?_
 exact lb h
 refine iB 54 h (fun h=> ?_) fun h=> ?_
 exact lb h
 exact lb h
 exact lb h
 refine iB 43 h (fun h=> ?_) fun h=> ?_
 refine iB 46 h (fun h=> ?_) fun h=> ?_
 exact lb h
 refine iB 50 h (fun h=> ?_) fun h=> ?_
 exact lb h
 refine iB 54 h (fun h=> ?_) fun h=> ?_
 exact lb h
 exact lb h
 exact lb h
 refine iB 32 h (fun h=> ?_) fun h=> ?_
 refine iB 37 h (fun h=> ?_) fun h=> ?_
 exact lb h
 refine iB 43 h (fun h=> ?_) fun h=> ?_
 refine iB 46 h (fun h=> ?_) fun h=> ?_
 exact lb h
 refine iB 50 h (fun h=> ?_) fun h=> ?_
 exact lb h
 refine iB 54 h (fun h=> ?_) fun h=> ?_
 exact lb h
 exact lb h
 exact lb h
 refine iB 43 h (fun h=> ?_) fun h=> ?_
 refine iB 46 h (fun h=> ?_) fun h=> ?_
 exact lb h
 refine iB 50 h (fun h=> ?_) fun h=> ?_
 exact lb h
 refine iB 54 h (fun h=> ?_) fun h=> ?_
 exact lb h
 exact lb h
 exact lb h
 exact lb h) h
theorem aSu(h:Ys aC=some aD):AL Tryz.prog 141 [.d (D.s aC)] [] (.d (D.b aD)) []:=by
 unfold Ys at h;apply g0 (o:=aD);refine gG 7 (.int (aC.length:Int)) (CS aC) ?_;refine iB 9 h (fun h=> ?_) fun h=> ?_;exact lf h;refine gG 11 (.int (aC.length:Int)) (CS aC) ?_;refine iB 13 h (fun h=> ?_) fun h=> ?_;exact lf h;obtain⟨o2,h27,h⟩:=bS h;refine gl (aFb none h27) ?_;replace h:=AK h;rcases h with⟨o3,rfl,h⟩|⟨o4,rfl,h⟩
 exact lf h;exact lf h
def Uq(s0:List UInt8)(s3:List (List UInt8))(s4:Int):St:=⟨sp 24 0 [sD 0 D.s s0,sD 3 (D.l D.s) s3,sI 4 s4],[],[]⟩
def Ur(s0:List UInt8)(s3:List (List UInt8))(o:Unit⊕Unit):Ex×St:=match o with
 | .inl o=>(.exit 0,⟨sp 24 0 [sD 0 D.s s0],[],[]⟩)
 | .inr o=>(.ret,⟨sp 24 0 [sD 2 D.b false],[],[]⟩)
theorem aEx(rd:Option Nat)(h:aKp aC aB a8=some a9):Lq 109 rd 58 (Uq aC aB a8) ((Ur aC aB) a9):=
 lL (fun s:Int=>Uq aC aB s) (Ur aC aB) a8 (fun a8 o h=>by
 unfold IM at h
 refine gN 8 D.s aB ?_
 refine iB 9 h (fun h=> ?_) fun h=> ?_
 refine xX 14 D.s h fun x2 h=> ?_
 refine iB 17 h (fun h=> ?_) fun h=> ?_
 exact lb h
 exact lb h
 exact lb h) h
theorem aEy(h:Yi aC=some aD):AL Tryz.prog 109 [.d (D.s aC)] [] (.d (D.b aD)) []:=by
 unfold Yi at h;apply g0 (o:=aD);obtain⟨r1,h1,h⟩:=bS h;refine gC 5 (aQv h1) ?_;obtain⟨o3,h5,h⟩:=bS h;refine gl (aEx none h5) ?_;replace h:=AK h;rcases h with⟨o4,rfl,h⟩|⟨o5,rfl,h⟩
 obtain⟨r6,h6,h⟩:=bS h;refine gQ (aSu h6) ?_;cases r6;replace h:=CF h;refine gW 19 (.ret (.d (D.b false))) ?_;exact lf h;replace h:=CG h;refine gW 19 (.ret (.d (D.b true))) ?_;exact lf h;exact lf h
def VL(s0:List Xd)(s1:List UInt8)(s5:Int):St:=⟨sp 20 0 [sD 0 (D.l Xd.D) s0,sD 1 D.s s1,sI 5 s5],[],[]⟩
def VM(s0:List Xd)(s1:List UInt8)(o:Unit⊕Int):Ex×St:=match o with
 | .inl o=>(.exit 0,⟨sp 20 0 [],[],[]⟩)
 | .inr o=>(.ret,⟨sp 20 0 [sI 4 o],[],[]⟩)
theorem aFj(rd:Option Nat)(h:aKy aE aC a8=some aF):Lq 61 rd 26 (VL aE aC a8) ((VM aE aC) aF):=
 lL (fun s:Int=>VL aE aC s) (VM aE aC) a8 (fun a8 o h=>by
 unfold KU at h
 refine gN 8 Xd.D aE ?_
 refine iB 9 h (fun h=> ?_) fun h=> ?_
 refine xX 14 Xd.D h fun x1 h=> ?_
 refine iB 18 h (fun h=> ?_) fun h=> ?_
 exact lb h
 exact lb h
 exact lb h) h
theorem aS3(h:Yz aE aC=some a8):AL Tryz.prog 61 [.d ((D.l Xd.D) aE),.d (D.s aC)] [] (dI a8) []:=by
 unfold Yz at h;apply g0 (o:=a8);obtain⟨o2,h4,h⟩:=bS h;refine gl (aFj none h4) ?_;replace h:=AK h;rcases h with⟨o3,rfl,h⟩|⟨o4,rfl,h⟩
 exact lf h;exact lf h
def T0(s0:List Xd)(s4 s5:Int):St:=⟨sp 72 0 [sD 0 (D.l Xd.D) s0,sI 4 s4,sI 5 s5],[],[]⟩
def T3(s0:List Xd)(s4:Int)(o:Unit⊕Unit):Ex×St:=match o with
 | .inl o=>(.exit 2,⟨sp 72 0 [sD 0 (D.l Xd.D) s0,sI 4 s4],[],[]⟩)
 | .inr o=>(.ret,⟨sp 72 0 [sI 2 8,sI 3 s4],[],[]⟩)
theorem aCz(rd:Option Nat)(h:aCy aE a8 aA=some a9):Lq 77 rd 29854 (T0 aE a8 aA) ((T3 aE a8) a9):=
 lL (fun s:Int=>T0 aE a8 s) (T3 aE a8) aA (fun aA o h=>by
 unfold En at h
 refine xX 44 Xd.D h fun x6 h=> ?_
 refine gN 47 dZ x6.types ?_
 refine iB 48 h (fun h=> ?_) fun h=> ?_
 refine xX 53 Xd.D h fun x7 h=> ?_
 refine xX 57 dZ h fun x8 h=> ?_
 refine iB 60 h (fun h=> ?_) fun h=> ?_
 exact lb h
 refine xX 63 Xd.D h fun x9 h=> ?_
 refine xX 67 dZ h fun x10 h=> ?_
 refine iB 70 h (fun h=> ?_) fun h=> ?_
 exact lb h
 exact lb h
 exact lb h) h
def Ty(s0:List Xd)(s4:Int):St:=⟨sp 72 0 [sD 0 (D.l Xd.D) s0,sI 4 s4],[],[]⟩
def Tz(s0:List Xd)(o:Unit⊕(Int×Int)):Ex×St:=match o with
 | .inl o=>(.exit 0,⟨sp 72 0 [],[],[]⟩)
 | .inr o=>(.ret,⟨sp 72 0 [sI 2 o.1,sI 3 o.2],[],[]⟩)
theorem aCx(rd:Option Nat)(h:aCw aE a8=some aG):Lq 77 rd 58 (Ty aE a8) ((Tz aE) aG):=
 lL (fun s:Int=>Ty aE s) (Tz aE) a8 (fun a8 o h=>by
 unfold Em at h
 refine gN 11 Xd.D aE ?_
 refine iB 12 h (fun h=> ?_) fun h=> ?_
 refine xX 17 Xd.D h fun x1 h=> ?_
 obtain⟨r2,h4,h⟩:=bS h
 refine gC 20 (aEy h4) ?_
 refine iB 21 h (fun h=> ?_) fun h=> ?_
 exact lb h
 refine xX 26 Xd.D h fun x3 h=> ?_
 obtain⟨r4,h7,h⟩:=bS h
 refine gC 29 (aS3 h7) ?_
 refine iB 31 h (fun h=> ?_) fun h=> ?_
 exact lb h
 refine xX 35 Xd.D h fun x5 h=> ?_
 refine gN 38 dZ x5.types ?_
 refine iB 39 h (fun h=> ?_) fun h=> ?_
 exact lb h
 obtain⟨o11,h19,h⟩:=bS h
 refine gl (aCz rd h19) ?_
 replace h:=AK h
 rcases h with⟨o12,rfl,h⟩|⟨o13,rfl,h⟩
 exact lb h
 exact lb h
 exact lb h) h
theorem aR2(h:Xx aE=some aH):AL Tryz.prog 77 [.d ((D.l Xd.D) aE)] [] (.tup [dI aH.1,dI aH.2]) []:=by
 unfold Xx at h;apply g0 (o:=aH);refine gN 7 Xd.D aE ?_;refine iB 8 h (fun h=> ?_) fun h=> ?_;exact lf h;obtain⟨o14,h20,h⟩:=bS h;refine gl (aCx none h20) ?_;replace h:=AK h;rcases h with⟨o15,rfl,h⟩|⟨o16,rfl,h⟩
 exact lf h;exact lf h
theorem aF2(h:Zi aI=some aD):AL Tryz.prog 62 [.d (X0.D aI)] [] (.d (D.b aD)) []:=by unfold Zi at h;apply g0 (o:=aD);refine iB 5 h (fun h=> ?_) fun h=> ?_;refine iB 9 h (fun h=> ?_) fun h=> ?_;exact lf h;exact lf h;refine iB 16 h (fun h=> ?_) fun h=> ?_;refine iB 20 h (fun h=> ?_) fun h=> ?_;refine iB 25 h (fun h=> ?_) fun h=> ?_;refine gG 28 (.int (aI.str.length:Int)) (CS aI.str) ?_;exact lf h;exact lf h;exact lf h;refine iB 34 h (fun h=> ?_) fun h=> ?_;refine iB 39 h (fun h=> ?_) fun h=> ?_;exact lf h;exact lf h;exact lf h
def VN(s0:List (List UInt8))(s1 s5:Int):St:=⟨sp 20 0 [sD 0 (D.l D.s) s0,sI 1 s1,sI 5 s5],[],[]⟩
def VO(s0:List (List UInt8))(s1:Int)(o:Unit⊕Unit):Ex×St:=match o with
 | .inl o=>(.exit 0,⟨sp 20 0 [],[],[]⟩)
 | .inr o=>(.ret,⟨sp 20 0 [sD 4 D.b true],[],[]⟩)
theorem aFk(rd:Option Nat)(h:aOd aB a8 aA=some a9):Lq 110 rd 26 (VN aB a8 aA) ((VO aB a8) a9):=
 lL (fun s:Int=>VN aB a8 s) (VO aB a8) aA (fun aA o h=>by
 unfold IW at h
 refine iB 8 h (fun h=> ?_) fun h=> ?_
 refine xX 13 D.s h fun x1 h=> ?_
 refine xX 17 D.s h fun x2 h=> ?_
 refine iB 19 h (fun h=> ?_) fun h=> ?_
 exact lb h
 exact lb h
 exact lb h) h
theorem aOe(h:Z0 aB a8=some aD):AL Tryz.prog 110 [.d ((D.l D.s) aB),dI a8] [] (.d (D.b aD)) []:=by
 unfold Z0 at h;apply g0 (o:=aD);obtain⟨o3,h5,h⟩:=bS h;refine gl (aFk none h5) ?_;replace h:=AK h;rcases h with⟨o4,rfl,h⟩|⟨o5,rfl,h⟩
 exact lf h;exact lf h
def Si(w1:AD)(s4:Int)(w3:List (List UInt8)):St:=⟨sp 112 0 [bx 1,rx 3,sI 4 s4],[cL 1 AD.D w1,(3,.row 9 1 (w3.map D.s))],[]⟩
def Sj(w1:AD)(o:(List (List UInt8))⊕Unit):Ex×St:=match o with
 | .inl o=>(.exit 0,⟨sp 112 0 [bx 1,rx 3],[cL 1 AD.D w1,(3,.row 9 1 (o.map D.s))],[]⟩)
 | .inr o=>(.ret,⟨sp 112 0 [sD 2 D.b false],[],[]⟩)
theorem aA4(rd:Option Nat)(h:aNx a7 a8 aB=some aJ):Lq 78 rd 58 (Si a7 a8 aB) ((Sj a7) aJ):=
 lL (fun s:Int×List (List UInt8)=>Si a7 s.1 s.2) (Sj a7) (a8,aB) (fun⟨a8,aB⟩ o h=>by
 unfold Hm at h
 refine gN 12 Yc.D a7.quants ?_
 refine iB 13 h (fun h=> ?_) fun h=> ?_
 refine xX 20 Yc.D h fun x4 h=> ?_
 refine gQ (Ar D.s [x4.name])<|gG 24 (.sl ((aB++[x4.name]).map D.s)) (Ar D.s [x4.name]) ?_
 obtain⟨h10,h⟩:=cS h
 refine gQ (A6 D.s h10)<|gQ (A5 D.s aB [x4.name])<|xX 28 Yc.D h fun x5 h=> ?_
 refine iB 32 h (fun h=> ?_) fun h=> ?_
 exact lb h
 refine xX 36 Yc.D h fun x6 h=> ?_
 refine iB 40 h (fun h=> ?_) fun h=> ?_
 exact lb h
 exact lB h [.live [1,3,4],.keep [1,24],.ren 24 3,.sort]
 exact lb h) h
def Sk(w1:AD)(s5:Int)(w3:List (List UInt8)):St:=⟨sp 112 0 [bx 1,rx 3,sI 5 s5],[cL 1 AD.D w1,(3,.row 9 1 (w3.map D.s))],[]⟩
def Sl(w1:AD)(o:(List (List UInt8))⊕Unit):Ex×St:=match o with
 | .inl o=>(.exit 2,⟨sp 112 0 [bx 1,rx 3],[cL 1 AD.D w1,(3,.row 9 1 (o.map D.s))],[]⟩)
 | .inr o=>(.ret,⟨sp 112 0 [sD 2 D.b false],[],[]⟩)
theorem aA5(rd:Option Nat)(h:aNy a7 a8 aB=some aJ):Lq 78 rd 122 (Sk a7 a8 aB) ((Sl a7) aJ):=
 lL (fun s:Int×List (List UInt8)=>Sk a7 s.1 s.2) (Sl a7) (a8,aB) (fun⟨a8,aB⟩ o h=>by
 unfold Hn at h
 refine gN 44 Ye.D a7.frees ?_
 refine iB 45 h (fun h=> ?_) fun h=> ?_
 refine xX 52 Ye.D h fun x10 h=> ?_
 refine gQ (Ar D.s [x10.name])<|gG 56 (.sl ((aB++[x10.name]).map D.s)) (Ar D.s [x10.name]) ?_
 obtain⟨h18,h⟩:=cS h
 refine gQ (A6 D.s h18)<|gQ (A5 D.s aB [x10.name])<|xX 60 Ye.D h fun x11 h=> ?_
 obtain⟨r12,h20,h⟩:=bS h
 refine gC 63 (aF2 h20) ?_
 refine iB 64 h (fun h=> ?_) fun h=> ?_
 exact lb h
 exact lB h [.live [1,3,5],.keep [1,56],.ren 56 3,.sort]
 exact lb h) h
def Sm(w1:AD)(w3:List (List UInt8))(s6:Int):St:=⟨sp 112 0 [bx 1,rx 3,sI 6 s6],[cL 1 AD.D w1,(3,.row 9 1 (w3.map D.s))],[]⟩
def Sn(w1:AD)(w3:List (List UInt8))(o:Unit⊕Unit):Ex×St:=match o with
 | .inl o=>(.exit 4,⟨sp 112 0 [bx 1],[cL 1 AD.D w1],[]⟩)
 | .inr o=>(.ret,⟨sp 112 0 [sD 2 D.b false],[],[]⟩)
theorem aA6(rd:Option Nat)(h:aNz a7 aB a8=some a9):Lq 78 rd 250 (Sm a7 aB a8) ((Sn a7 aB) a9):=
 lL (fun s:Int=>Sm a7 aB s) (Sn a7 aB) a8 (fun a8 o h=>by
 unfold Ho at h
 refine gN 67 D.s aB ?_
 refine iB 68 h (fun h=> ?_) fun h=> ?_
 refine xX 73 D.s h fun x16 h=> ?_
 obtain⟨r17,h25,h⟩:=bS h
 refine gC 75 (aEy h25) ?_
 refine iB 77 h (fun h=> ?_) fun h=> ?_
 exact lb h
 obtain⟨r18,h27,h⟩:=bS h
 refine gQ (aOe h27) ?_
 cases r18
 replace h:=CF h
 refine gW 80 (.ret (.d (D.b false))) ?_
 exact lb h
 replace h:=CG h
 refine gW 80 (.ret (.d (D.b true))) ?_
 exact lb h
 exact lb h) h
def Sp(w1:AD)(s8:Int)(w7:List (List UInt8)):St:=⟨sp 112 0 [bx 1,rx 7,sI 8 s8],[cL 1 AD.D w1,(7,.row 9 1 (w7.map D.s))],[]⟩
def Sq(w1:AD)(o:Unit⊕Unit):Ex×St:=match o with
 | .inl o=>(.exit 6,⟨sp 112 0 [bx 1],[cL 1 AD.D w1],[]⟩)
 | .inr o=>(.ret,⟨sp 112 0 [sD 2 D.b false],[],[]⟩)
theorem aA7(rd:Option Nat)(h:aN0 a7 a8 aB=some a9):Lq 78 rd 1018 (Sp a7 a8 aB) ((Sq a7) a9):=
 lL (fun s:Int×List (List UInt8)=>Sp a7 s.1 s.2) (Sq a7) (a8,aB) (fun⟨a8,aB⟩ o h=>by
 unfold Hq at h
 refine gN 85 Xb.D a7.states ?_
 refine iB 86 h (fun h=> ?_) fun h=> ?_
 refine xX 93 Xb.D h fun x26 h=> ?_
 refine gQ (Ar D.s [x26.name])<|gG 97 (.sl ((aB++[x26.name]).map D.s)) (Ar D.s [x26.name]) ?_
 obtain⟨h40,h⟩:=cS h
 refine gQ (A6 D.s h40)<|gQ (A5 D.s aB [x26.name])<|xX 100 D.s h fun x27 h=> ?_
 obtain⟨r28,h42,h⟩:=bS h
 refine gC 102 (aEy h42) ?_
 refine iB 104 h (fun h=> ?_) fun h=> ?_
 exact lb h
 obtain⟨r29,h44,h⟩:=bS h
 refine gQ (aOe h44) ?_
 cases r29
 replace h:=CF h
 refine gW 107 (.ret (.d (D.b false))) ?_
 exact lB h [.live [1,7,8],.keep [1,97],.ren 97 7,.sort]
 replace h:=CG h
 refine gW 107 (.ret (.d (D.b true))) ?_
 exact lb h
 exact lb h) h
theorem aRi(h:Xh a7=some aD):AL Tryz.prog 78 [.d (AD.D a7)] [] (.d (D.b aD)) []:=by
 unfold Xh at h;apply g0 (o:=aD);obtain⟨o7,h15,h⟩:=bS h;refine gL [.live [1,3,4],.keep [1],.nil 3 3 9 1,.sort] (aA4 none h15) ?_;replace h:=AK h;rcases h with⟨o8,rfl,h⟩|⟨o9,rfl,h⟩
 obtain⟨o13,h22,h⟩:=bS h;refine gl (aA5 none h22) ?_;replace h:=AK h;rcases h with⟨o14,rfl,h⟩|⟨o15,rfl,h⟩
 obtain⟨o19,h29,h⟩:=bS h;refine gl (aA6 none h29) ?_;replace h:=AK h;rcases h with⟨o20,rfl,h⟩|⟨o21,rfl,h⟩
 obtain⟨o30,h46,h⟩:=bS h;refine gL [.live [1,7,8],.keep [1],.nil 7 7 9 1,.sort] (aA7 none h46) ?_;replace h:=AK h;rcases h with⟨o31,rfl,h⟩|⟨o32,rfl,h⟩
 obtain⟨r33,h47,h⟩:=bS h;refine gC 111 (aEy h47) ?_;exact lf h;exact lf h;exact lf h;exact lf h;exact lf h
theorem KX(h:Zh aD=some aK):AL Tryz.prog 185 [.d (D.b aD)] [] (.tup [.d (X0.D aK.1),dI aK.2]) []:=by unfold Zh at h;apply g0 (o:=aK);exact lf h
theorem aQi(h:Qf a8 aA=some aL):AL Tryz.prog 189 [dI a8,dI aA] [] (.tup [dI aL.1,.d (D.b aL.2)]) []:=by unfold Qf at h;apply g0 (o:=aL);refine iB 8 h (fun h=> ?_) fun h=> ?_;refine iB 14 h (fun h=> ?_) fun h=> ?_;exact lf h;refine iB 17 h (fun h=> ?_) fun h=> ?_;refine iB 23 h (fun h=> ?_) fun h=> ?_;exact lf h;exact lf h;exact lf h;refine iB 17 h (fun h=> ?_) fun h=> ?_;refine iB 23 h (fun h=> ?_) fun h=> ?_;exact lf h;exact lf h;exact lf h
theorem aF8(h:Zs a8 aD=some aK):AL Tryz.prog 190 [dI a8,.d (D.b aD)] [] (.tup [.d (X0.D aK.1),dI aK.2]) []:=by unfold Zs at h;apply g0 (o:=aK);refine iB 7 h (fun h=> ?_) fun h=> ?_;exact lf h;exact lf h
theorem aF7(h:Zo a8 aA=some aL):AL Tryz.prog 191 [dI a8,dI aA] [] (.tup [dI aL.1,.d (D.b aL.2)]) []:=by unfold Zo at h;apply g0 (o:=aL);refine iB 8 h (fun h=> ?_) fun h=> ?_;refine iB 14 h (fun h=> ?_) fun h=> ?_;exact lf h;refine iB 17 h (fun h=> ?_) fun h=> ?_;refine iB 23 h (fun h=> ?_) fun h=> ?_;exact lf h;exact lf h;exact lf h;refine iB 17 h (fun h=> ?_) fun h=> ?_;refine iB 23 h (fun h=> ?_) fun h=> ?_;exact lf h;exact lf h;exact lf h
theorem aQj(h:Qg a8 aA=some aL):AL Tryz.prog 192 [dI a8,dI aA] [] (.tup [dI aL.1,.d (D.b aL.2)]) []:=by
 unfold Qg at h;apply g0 (o:=aL);refine iB 8 h (fun h=> ?_) fun h=> ?_;exact lf h;refine iB 11 h (fun h=> ?_) fun h=> ?_;exact lf h;refine iB 13 h (fun h=> ?_) fun h=> ?_;obtain⟨r1,h4,h⟩:=bS h;refine gC 15 (aF7 h4) ?_;exact lf h;refine iB 19 h (fun h=> ?_) fun h=> ?_;obtain⟨r2,h6,h⟩:=bS h;refine gC 21 (aF7 h6) ?_;exact lf h;rcases iS h with⟨h7,h⟩|⟨h7,h⟩
 refine gT 26 h7 ?_;rcases iS h with⟨h8,h⟩|⟨h8,h⟩
 refine gT 30 h8 ?_;obtain⟨h9,h⟩:=cS h;refine gQ h9 ?_;refine iB 36 h (fun h=> ?_) fun h=> ?_;exact lf h;refine gT 39 h7 ?_;rcases iS h with⟨h11,h⟩|⟨h11,h⟩
 refine gT 43 h11 ?_;obtain⟨h12,h⟩:=cS h;refine gQ h12 ?_;refine iB 50 h (fun h=> ?_) fun h=> ?_;exact lf h;rcases iS h with⟨h14,h⟩|⟨h14,h⟩
 refine gT 53 h14<|gT 57 h8 ?_;obtain⟨h15,h⟩:=cS h;refine gQ h15 ?_;refine iB 64 h (fun h=> ?_) fun h=> ?_;exact lf h;refine gT 67 h14<|gT 71 h11 ?_;obtain⟨h17,h⟩:=cS h;refine gQ h17 ?_;refine iB 77 h (fun h=> ?_) fun h=> ?_;exact lf h;exact lf h;refine gF 53 h14<|gF 67 h14 ?_;exact lf h;refine gF 43 h11 ?_;rcases iS h with⟨h19,h⟩|⟨h19,h⟩
 refine gT 53 h19<|gT 57 h8 ?_;obtain⟨h20,h⟩:=cS h;refine gQ h20 ?_;refine iB 64 h (fun h=> ?_) fun h=> ?_;exact lf h;refine gT 67 h19<|gF 71 h11 ?_;exact lf h;refine gF 53 h19<|gF 67 h19 ?_;exact lf h;refine gF 30 h8<|gT 39 h7 ?_;rcases iS h with⟨h22,h⟩|⟨h22,h⟩
 refine gT 43 h22 ?_;obtain⟨h23,h⟩:=cS h;refine gQ h23 ?_;refine iB 50 h (fun h=> ?_) fun h=> ?_;exact lf h;rcases iS h with⟨h25,h⟩|⟨h25,h⟩
 refine gT 53 h25<|gF 57 h8<|gT 67 h25<|gT 71 h22 ?_;obtain⟨h26,h⟩:=cS h;refine gQ h26 ?_;refine iB 77 h (fun h=> ?_) fun h=> ?_;exact lf h;exact lf h;refine gF 53 h25<|gF 67 h25 ?_;exact lf h;refine gF 43 h22 ?_;rcases iS h with⟨h28,h⟩|⟨h28,h⟩
 refine gT 53 h28<|gF 57 h8<|gT 67 h28<|gF 71 h22 ?_;exact lf h;refine gF 53 h28<|gF 67 h28 ?_;exact lf h;refine gF 26 h7<|gF 39 h7 ?_;rcases iS h with⟨h29,h⟩|⟨h29,h⟩
 refine gT 53 h29 ?_;refine iB 57 h (fun h=> ?_) fun h=> ?_;obtain⟨h31,h⟩:=cS h;refine gQ h31 ?_;refine iB 64 h (fun h=> ?_) fun h=> ?_;exact lf h;refine gT 67 h29 ?_;refine iB 71 h (fun h=> ?_) fun h=> ?_;obtain⟨h34,h⟩:=cS h;refine gQ h34 ?_;refine iB 77 h (fun h=> ?_) fun h=> ?_;exact lf h;exact lf h;exact lf h;refine gT 67 h29 ?_;refine iB 71 h (fun h=> ?_) fun h=> ?_;obtain⟨h37,h⟩:=cS h;refine gQ h37 ?_;refine iB 77 h (fun h=> ?_) fun h=> ?_;exact lf h;exact lf h;exact lf h;refine gF 53 h29<|gF 67 h29 ?_;exact lf h
theorem aQk(h:Qh a8 aA=some aM):AL Tryz.prog 193 [dI a8,dI aA] [] (.tup [dI aM.1,dI aM.2.1,dI aM.2.2]) []:=by unfold Qh at h;apply g0 (o:=aM);refine iB 10 h (fun h=> ?_) fun h=> ?_;exact lf h;refine iB 12 h (fun h=> ?_) fun h=> ?_;obtain⟨r1,h3,h⟩:=bS h;refine gC 15 (aF7 h3) ?_;refine iB 19 h (fun h=> ?_) fun h=> ?_;exact lf h;exact lf h;obtain⟨h5,h⟩:=cS h;refine gQ h5 ?_;obtain⟨h6,h⟩:=cS h;refine gQ h6 ?_;exact lf h
theorem aOl(h:Zp a8 aA aN=some aK):AL Tryz.prog 186 [dI a8,dI aA,dI aN] [] (.tup [.d (X0.D aK.1),dI aK.2]) []:=by unfold Zp at h;apply g0 (o:=aK);refine iB 18 h (fun h=> ?_) fun h=> ?_;obtain⟨r1,h2,h⟩:=bS h;refine gC 22 (aQi h2) ?_;obtain⟨r2,h3,h⟩:=bS h;refine gC 27 (aF8 h3) ?_;exact lf h;refine iB 31 h (fun h=> ?_) fun h=> ?_;obtain⟨r3,h5,h⟩:=bS h;refine gC 35 (aF7 h5) ?_;obtain⟨r4,h6,h⟩:=bS h;refine gC 40 (aF8 h6) ?_;exact lf h;refine iB 44 h (fun h=> ?_) fun h=> ?_;obtain⟨r5,h8,h⟩:=bS h;refine gC 48 (aQj h8) ?_;obtain⟨r6,h9,h⟩:=bS h;refine gC 53 (aF8 h9) ?_;exact lf h;obtain⟨r7,h10,h⟩:=bS h;refine gC 59 (aQk h10) ?_;refine iB 64 h (fun h=> ?_) fun h=> ?_;exact lf h;refine iB 67 h (fun h=> ?_) fun h=> ?_;exact lf h;obtain⟨r8,h13,h⟩:=bS h;refine gC 73 (aF8 h13) ?_;exact lf h
def Uu(s0 s1:List UInt8)(s5:Int):St:=⟨sp 37 0 [sD 0 D.s s0,sD 1 D.s s1,sI 5 s5],[],[]⟩
def Uv(s0 s1:List UInt8)(o:Unit⊕Bool):Ex×St:=match o with
 | .inl o=>(.exit 0,⟨sp 37 0 [sD 0 D.s s0,sD 1 D.s s1],[],[]⟩)
 | .inr o=>(.ret,⟨sp 37 0 [sD 4 D.b o],[],[]⟩)
theorem aE2(rd:Option Nat)(h:aE1 aC aO a8=some aP):Lq 144 rd 26 (Uu aC aO a8) ((Uv aC aO) aP):=
 lL (fun s:Int=>Uu aC aO s) (Uv aC aO) a8 (fun a8 o h=>by
 unfold Ge at h
 refine gG 8 (.int (aC.length:Int)) (CS aC) ?_
 refine iB 10 h (fun h=> ?_) fun h=> ?_
 refine gG 13 (.int (aO.length:Int)) (CS aO) ?_
 refine iB 15 h (fun h=> ?_) fun h=> ?_
 obtain⟨x1,h3,h⟩:=xS h
 refine gG 20 (.int x1.toNat) (Gh h3) ?_
 obtain⟨x2,h4,h⟩:=xS h
 refine gG 23 (.int x2.toNat) (Gh h4) ?_
 refine iB 24 h (fun h=> ?_) fun h=> ?_
 obtain⟨x3,h6,h⟩:=xS h
 refine gG 27 (.int x3.toNat) (Gh h6) ?_
 obtain⟨x4,h7,h⟩:=xS h
 refine gG 30 (.int x4.toNat) (Gh h7) ?_
 exact lb h
 exact lb h
 exact lb h
 exact lb h) h
theorem aSo(h:Ym aC aO=some aD):AL Tryz.prog 144 [.d (D.s aC),.d (D.s aO)] [] (.d (D.b aD)) []:=by
 unfold Ym at h;apply g0 (o:=aD);obtain⟨o5,h8,h⟩:=bS h;refine gl (aE2 none h8) ?_;replace h:=AK h;rcases h with⟨o6,rfl,h⟩|⟨o7,rfl,h⟩
 refine gG 33 (.int (aC.length:Int)) (CS aC)<|gG 35 (.int (aO.length:Int)) (CS aO) ?_;exact lf h;exact lf h
theorem aLe(h:Zk aI aQ=some aD):AL Tryz.prog 116 [.d (X0.D aI),.d (X0.D aQ)] [] (.d (D.b aD)) []:=by unfold Zk at h;apply g0 (o:=aD);refine iB 9 h (fun h=> ?_) fun h=> ?_;exact lf h;refine iB 17 h (fun h=> ?_) fun h=> ?_;exact lf h;refine iB 25 h (fun h=> ?_) fun h=> ?_;obtain⟨r1,h4,h⟩:=bS h;refine gC 30 (aSo h4) ?_;exact lf h;refine iB 34 h (fun h=> ?_) fun h=> ?_;exact lf h;exact lf h
theorem aQb(h:Q7 a8 aI aQ=some aK):AL Tryz.prog 179 [dI a8,.d (X0.D aI),.d (X0.D aQ)] [] (.tup [.d (X0.D aK.1),dI aK.2]) []:=by unfold Q7 at h;apply g0 (o:=aK);refine iB 10 h (fun h=> ?_) fun h=> ?_;exact lf h;refine iB 13 h (fun h=> ?_) fun h=> ?_;exact lf h;refine iB 16 h (fun h=> ?_) fun h=> ?_;refine iB 19 h (fun h=> ?_) fun h=> ?_;exact lf h;obtain⟨r1,h5,h⟩:=bS h;refine gC 24 (KX h5) ?_;exact lf h;refine iB 28 h (fun h=> ?_) fun h=> ?_;refine iB 31 h (fun h=> ?_) fun h=> ?_;exact lf h;obtain⟨r2,h8,h⟩:=bS h;refine gC 35 (aOl h8) ?_;exact lf h;refine iB 42 h (fun h=> ?_) fun h=> ?_;exact lf h;refine iB 45 h (fun h=> ?_) fun h=> ?_;obtain⟨r3,h11,h⟩:=bS h;refine gC 49 (KX h11) ?_;exact lf h;refine iB 53 h (fun h=> ?_) fun h=> ?_;obtain⟨r4,h13,h⟩:=bS h;refine gC 57 (KX h13) ?_;exact lf h;refine iB 62 h (fun h=> ?_) fun h=> ?_;refine iB 64 h (fun h=> ?_) fun h=> ?_;refine iB 67 h (fun h=> ?_) fun h=> ?_;obtain⟨r5,h17,h⟩:=bS h;refine gC 71 (KX h17) ?_;exact lf h;obtain⟨r6,h18,h⟩:=bS h;refine gC 71 (KX h18) ?_;exact lf h;refine iB 75 h (fun h=> ?_) fun h=> ?_;refine iB 78 h (fun h=> ?_) fun h=> ?_;obtain⟨r7,h21,h⟩:=bS h;refine gC 82 (KX h21) ?_;exact lf h;obtain⟨r8,h22,h⟩:=bS h;refine gC 82 (KX h22) ?_;exact lf h;exact lf h;refine iB 87 h (fun h=> ?_) fun h=> ?_;obtain⟨r9,h24,h⟩:=bS h;refine gC 90 (aLe h24) ?_;obtain⟨r10,h25,h⟩:=bS h;refine gC 91 (KX h25) ?_;exact lf h;refine iB 95 h (fun h=> ?_) fun h=> ?_;obtain⟨r11,h27,h⟩:=bS h;refine gC 98 (aLe h27) ?_;obtain⟨r12,h28,h⟩:=bS h;refine gC 100 (KX h28) ?_;exact lf h;refine iB 106 h (fun h=> ?_) fun h=> ?_;refine iB 110 h (fun h=> ?_) fun h=> ?_;refine iB 113 h (fun h=> ?_) fun h=> ?_;obtain⟨r13,h32,h⟩:=bS h;refine gC 119 (aOl h32) ?_;exact lf h;refine iB 125 h (fun h=> ?_) fun h=> ?_;refine iB 128 h (fun h=> ?_) fun h=> ?_;refine gG 131 (.int (aI.str.length:Int)) (CS aI.str)<|gG 134 (.int (aQ.str.length:Int)) (CS aQ.str) ?_;refine iB 136 h (fun h=> ?_) fun h=> ?_;exact lf h;refine gW 142 (.str (aI.str++aQ.str)) ?_;obtain⟨h36,h⟩:=cS h;refine gQ (JL h36) ?_;exact lf h;exact lf h;exact lf h;refine iB 125 h (fun h=> ?_) fun h=> ?_;refine iB 128 h (fun h=> ?_) fun h=> ?_;refine gG 131 (.int (aI.str.length:Int)) (CS aI.str)<|gG 134 (.int (aQ.str.length:Int)) (CS aQ.str) ?_;refine iB 136 h (fun h=> ?_) fun h=> ?_;exact lf h;refine gW 142 (.str (aI.str++aQ.str)) ?_;obtain⟨h40,h⟩:=cS h;refine gQ (JL h40) ?_;exact lf h;exact lf h;exact lf h;refine iB 125 h (fun h=> ?_) fun h=> ?_;refine iB 128 h (fun h=> ?_) fun h=> ?_;refine gG 131 (.int (aI.str.length:Int)) (CS aI.str)<|gG 134 (.int (aQ.str.length:Int)) (CS aQ.str) ?_;refine iB 136 h (fun h=> ?_) fun h=> ?_;exact lf h;refine gW 142 (.str (aI.str++aQ.str)) ?_;obtain⟨h44,h⟩:=cS h;refine gQ (JL h44) ?_;exact lf h;exact lf h;exact lf h
theorem aOn(h:Zt a8 aA aN=some aR):AL Tryz.prog 165 [dI a8,dI aA,dI aN] [] (dI aR) []:=by unfold Zt at h;apply g0 (o:=aR);refine iB 11 h (fun h=> ?_) fun h=> ?_;exact lf h;refine iB 15 h (fun h=> ?_) fun h=> ?_;exact lf h;obtain⟨r1,h3,h⟩:=bS h;refine gC 22 (aQb h3) ?_;refine iB 26 h (fun h=> ?_) fun h=> ?_;exact lf h;refine iB 28 h (fun h=> ?_) fun h=> ?_;exact lf h;exact lf h
theorem aKt(self:AD->Int->Option (Int×Int×Int))(hs: ∀(a0:AD) (a1:Int) (r:Int×Int×Int),self a0 a1=some r->AL Tryz.prog 142 [.d (AD.D a0),dI a1] [] (.tup [dI r.1,dI r.2.1,dI r.2.2]) [])(a0:AD)(a1:Int)(r:Int×Int×Int)(h:aKs self a0 a1=some r):AL Tryz.prog 142 [.d (AD.D a0),dI a1] [] (.tup [dI r.1,dI r.2.1,dI r.2.2]) []:=by unfold aKs at h;apply g0 (o:=r);refine iB 17 h (fun h=> ?_) fun h=> ?_;exact lf h;refine gN 21 Yj.D a0.nodes ?_;refine iB 23 h (fun h=> ?_) fun h=> ?_;exact lf h;refine xX 27 Yj.D h fun x1 h=> ?_;refine iB 32 h (fun h=> ?_) fun h=> ?_;refine iB 36 h (fun h=> ?_) fun h=> ?_;exact lf h;refine iB 41 h (fun h=> ?_) fun h=> ?_;exact lf h;obtain⟨r2,h7,h⟩:=bS h;refine gC 44 (aF2 h7) ?_;refine iB 46 h (fun h=> ?_) fun h=> ?_;exact lf h;exact lf h;refine iB 54 h (fun h=> ?_) fun h=> ?_;exact lf h;refine iB 57 h (fun h=> ?_) fun h=> ?_;refine iB 61 h (fun h=> ?_) fun h=> ?_;exact lf h;refine gN 66 Yc.D a0.quants ?_;refine iB 69 h (fun h=> ?_) fun h=> ?_;exact lf h;refine iB 73 h (fun h=> ?_) fun h=> ?_;exact lf h;refine xX 78 Yc.D h fun x3 h=> ?_;exact lf h;refine iB 84 h (fun h=> ?_) fun h=> ?_;refine iB 88 h (fun h=> ?_) fun h=> ?_;exact lf h;refine gN 93 Ye.D a0.frees ?_;refine iB 96 h (fun h=> ?_) fun h=> ?_;exact lf h;refine iB 100 h (fun h=> ?_) fun h=> ?_;exact lf h;refine xX 105 Ye.D h fun x4 h=> ?_;exact lf h;refine iB 113 h (fun h=> ?_) fun h=> ?_;exact lf h;refine iB 117 h (fun h=> ?_) fun h=> ?_;exact lf h;obtain⟨r5,h22,h⟩:=bS h;refine gG 122 (.ret (.tup [dI r5.1,dI r5.2.1,dI r5.2.2])) (hs a0 (AA .sub .i64 a1 1) r5 h22) ?_;refine iB 128 h (fun h=> ?_) fun h=> ?_;refine iB 131 h (fun h=> ?_) fun h=> ?_;exact lf h;refine iB 138 h (fun h=> ?_) fun h=> ?_;exact lf h;refine iB 142 h (fun h=> ?_) fun h=> ?_;exact lf h;obtain⟨r6,h27,h⟩:=bS h;refine gC 147 (aOn h27) ?_;exact lf h;refine iB 153 h (fun h=> ?_) fun h=> ?_;exact lf h;refine iB 160 h (fun h=> ?_) fun h=> ?_;exact lf h;refine iB 166 h (fun h=> ?_) fun h=> ?_;exact lf h;obtain⟨r7,h31,h⟩:=bS h;refine gG 171 (.ret (.tup [dI r7.1,dI r7.2.1,dI r7.2.2])) (hs a0 (AA .sub .i64 r5.2.2 1) r7 h31)<|gW 182 (.int (aP3 r5.2.1 r7.2.1)) ?_;obtain⟨r8,h32,h⟩:=bS h;refine gC 179 (aOn h32)<|gQ (rfl:aP3 r5.2.1 r7.2.1=aP3 r5.2.1 r7.2.1) ?_;exact lf h
theorem VA: ∀(n:Nat) (a0:AD) (a1:Int) (r:Int×Int×Int),aH5 n a0 a1=some r->AL Tryz.prog 142 [.d (AD.D a0),dI a1] [] (.tup [dI r.1,dI r.2.1,dI r.2.2]) []
 |0,a0,a1,r,h=>by simp [aH5]at h
 |n+1,a0,a1,r,h=>aKt _ (VA n) a0 a1 r h
theorem aSv(h:Yt a7 a8=some aM):AL Tryz.prog 142 [.d (AD.D a7),dI a8] [] (.tup [dI aM.1,dI aM.2.1,dI aM.2.2]) []:=VA 100000 a7 a8 aM h
theorem aOt(h:Zy a7 a8 aA=some aH):AL Tryz.prog 111 [.d (AD.D a7),dI a8,dI aA] [] (.tup [dI aH.1,dI aH.2]) []:=by unfold Zy at h;apply g0 (o:=aH);obtain⟨r1,h1,h⟩:=bS h;refine gC 14 (aSv h1) ?_;refine iB 20 h (fun h=> ?_) fun h=> ?_;exact lf h;refine iB 24 h (fun h=> ?_) fun h=> ?_;exact lf h;exact lf h
def U6(s1:Int)(w2:X3)(s5:Int):St:=⟨sp 30 0 [sI 1 s1,bx 2,sI 5 s5],[cL 2 X3.D w2],[]⟩
def U7(s1:Int)(w2:X3)(o:Unit⊕Unit):Ex×St:=match o with
 | .inl o=>(.exit 0,⟨sp 30 0 [],[],[]⟩)
 | .inr o=>(.ret,⟨sp 30 0 [sD 4 D.b true],[],[]⟩)
theorem aE8(rd:Option Nat)(h:aKq a8 aS aA=some a9):Lq 115 rd 26 (U6 a8 aS aA) ((U7 a8 aS) a9):=
 lL (fun s:Int=>U6 a8 aS s) (U7 a8 aS) aA (fun aA o h=>by
 unfold IQ at h
 refine gN 9 CE.D aS.args ?_
 refine iB 10 h (fun h=> ?_) fun h=> ?_
 refine xX 16 CE.D h fun x1 h=> ?_
 refine iB 20 h (fun h=> ?_) fun h=> ?_
 refine xX 24 CE.D h fun x2 h=> ?_
 refine iB 29 h (fun h=> ?_) fun h=> ?_
 exact lb h
 exact lb h
 exact lb h
 exact lb h) h
theorem aOa(h:Yq aS a8=some aD):AL Tryz.prog 115 [.d (X3.D aS),dI a8] [] (.d (D.b aD)) []:=by
 unfold Yq at h;apply g0 (o:=aD);obtain⟨o3,h6,h⟩:=bS h;refine gl (aE8 none h6) ?_;replace h:=AK h;rcases h with⟨o4,rfl,h⟩|⟨o5,rfl,h⟩
 exact lf h;exact lf h
def VW(s3:Int)(w4:AD)(w5:X3)(s9:Int):St:=⟨sp 34 0 [sI 3 s3,bx 4,bx 5,sI 9 s9],[cL 4 AD.D w4,cL 5 X3.D w5],[]⟩
def VX(s3:Int)(w4:AD)(w5:X3)(o:Unit⊕Unit):Ex×St:=match o with
 | .inl o=>(.exit 0,⟨sp 34 0 [],[],[]⟩)
 | .inr o=>(.ret,⟨sp 34 0 [sD 8 D.b false],[],[]⟩)
theorem aFo(rd:Option Nat)(h:aK1 a8 a7 aS aA=some a9):Lq 112 rd 26 (VW a8 a7 aS aA) ((VX a8 a7 aS) a9):=
 lL (fun s:Int=>VW a8 a7 aS s) (VX a8 a7 aS) aA (fun aA o h=>by
 unfold IY at h
 refine iB 13 h (fun h=> ?_) fun h=> ?_
 refine xX 19 Yj.D h fun x1 h=> ?_
 refine iB 23 h (fun h=> ?_) fun h=> ?_
 refine xX 28 Yj.D h fun x2 h=> ?_
 obtain⟨r3,h5,h⟩:=bS h
 refine gC 31 (aOa h5) ?_
 refine iB 33 h (fun h=> ?_) fun h=> ?_
 exact lb h
 exact lb h
 exact lb h
 exact lb h) h
theorem aTa(h:Z4 a7 aS a8 aA=some aD):AL Tryz.prog 112 [.d (AD.D a7),.d (X3.D aS),dI a8,dI aA] [] (.d (D.b aD)) []:=by
 unfold Z4 at h;apply g0 (o:=aD);obtain⟨o4,h7,h⟩:=bS h;refine gl (aFo none h7) ?_;replace h:=AK h;rcases h with⟨o5,rfl,h⟩|⟨o6,rfl,h⟩
 exact lf h;exact lf h
theorem aC0(rd:Option Nat)(h:T4 a8 aA aD a7 aT=some aU):Lq 79 rd 61 ⟨sp 153 0 [sI 2 a8,bx 3,bx 4,sI 8 aA,sD 56 D.b aD],[cL 3 AD.D a7,cL 4 Xc.D aT],[]⟩ (match (generalizing:=false) aU with
 | .inl aU=>(.normal,⟨sp 153 0 [sI 2 a8,bx 3,bx 4,sI 8 aU],[cL 3 AD.D a7,cL 4 Xc.D aT],[]⟩)
 | .inr aU=>(.ret,⟨sp 153 0 [sI 6 0,sD 7 D.b false],[],[]⟩)):=by
 unfold T4 at h
 apply g0 (o:=aU)
 cases aD
 replace h:=CF h
 exact lp h
 replace h:=CG h
 obtain⟨r1,h8,h⟩:=bS h
 refine gC 62 (aOt h8) ?_
 refine iB 67 h (fun h=> ?_) fun h=> ?_
 exact lp h
 refine iB 70 h (fun h=> ?_) fun h=> ?_
 exact lp h
 exact lp h
def T7(s2 s11:Int)(w3:AD)(w4:Xc)(w12:FV)(s15:Int):St:=⟨sp 153 0 [sI 2 s2,bx 3,bx 4,sI 11 s11,bx 12,sI 15 s15],[cL 3 AD.D w3,cL 4 Xc.D w4,cL 12 FV.D w12],[]⟩
def T8(s2 s11:Int)(w3:AD)(w4:Xc)(w12:FV)(o:Unit⊕Unit):Ex×St:=match o with
 | .inl o=>(.exit 2,⟨sp 153 0 [sI 2 s2,bx 3,bx 4,sI 11 s11,bx 12],[cL 3 AD.D w3,cL 4 Xc.D w4,cL 12 FV.D w12],[]⟩)
 | .inr o=>(.ret,⟨sp 153 0 [sI 6 0,sD 7 D.b false],[],[]⟩)
theorem aC2(rd:Option Nat)(h:aKa a8 aA a7 aT aV aN=some a9):Lq 79 rd 256314 (T7 a8 aA a7 aT aV aN) ((T8 a8 aA a7 aT aV) a9):=
 lL (fun s:Int=>T7 a8 aA a7 aT aV s) (T8 a8 aA a7 aT aV) aN (fun aN o h=>by
 unfold H8 at h
 refine iB 127 h (fun h=> ?_) fun h=> ?_
 refine xX 133 FV.D h fun x8 h=> ?_
 refine iB 138 h (fun h=> ?_) fun h=> ?_
 exact lb h
 exact lb h
 exact lb h) h
def T5(s2:Int)(w3:AD)(w4:Xc)(s8 s11:Int):St:=⟨sp 153 0 [sI 2 s2,bx 3,bx 4,sI 8 s8,sI 11 s11],[cL 3 AD.D w3,cL 4 Xc.D w4],[]⟩
def T6(s2:Int)(w3:AD)(w4:Xc)(o:Int⊕Unit):Ex×St:=match o with
 | .inl o=>(.exit 0,⟨sp 153 0 [sI 2 s2,bx 3,bx 4,sI 8 o],[cL 3 AD.D w3,cL 4 Xc.D w4],[]⟩)
 | .inr o=>(.ret,⟨sp 153 0 [sI 6 0,sD 7 D.b false],[],[]⟩)
theorem aC1(rd:Option Nat)(h:aJ9 a8 a7 aT aA aN=some aU):Lq 79 rd 250 (T5 a8 a7 aT aA aN) ((T6 a8 a7 aT) aU):=
 lL (fun s:Int×Int=>T5 a8 a7 aT s.1 s.2) (T6 a8 a7 aT) (aA,aN) (fun⟨aA,aN⟩ o h=>by
 unfold H7 at h
 refine gN 77 FV.D aT.sets ?_
 refine iB 78 h (fun h=> ?_) fun h=> ?_
 refine xX 84 FV.D h fun x5 h=> ?_
 obtain⟨r6,h14,h⟩:=bS h
 refine gC 91 (aOt h14) ?_
 refine iB 97 h (fun h=> ?_) fun h=> ?_
 exact lb h
 refine gN 102 Ye.D a7.frees ?_
 refine iB 105 h (fun h=> ?_) fun h=> ?_
 exact lb h
 refine iB 109 h (fun h=> ?_) fun h=> ?_
 exact lb h
 refine iB 113 h (fun h=> ?_) fun h=> ?_
 exact lb h
 refine xX 119 Ye.D h fun x7 h=> ?_
 refine iB 124 h (fun h=> ?_) fun h=> ?_
 exact lb h
 obtain⟨o9,h24,h⟩:=bS h
 refine gl (aC2 rd h24) ?_
 replace h:=AK h
 rcases h with⟨o10,rfl,h⟩|⟨o11,rfl,h⟩
 exact lb h
 exact lb h
 exact lb h) h
theorem aR3(h:Xy a7 aT a8=some aL):AL Tryz.prog 79 [.d (AD.D a7),.d (Xc.D aT),dI a8] [] (.tup [dI aL.1,.d (D.b aL.2)]) []:=by
 unfold Xy at h;apply g0 (o:=aL);refine iB 19 h (fun h=> ?_) fun h=> ?_;exact lf h;refine gN 24 Xb.D a7.states ?_;refine iB 27 h (fun h=> ?_) fun h=> ?_;exact lf h;refine iB 32 h (fun h=> ?_) fun h=> ?_;exact lf h;refine gN 37 Xb.D a7.states ?_;refine iB 40 h (fun h=> ?_) fun h=> ?_;exact lf h;refine iB 45 h (fun h=> ?_) fun h=> ?_;exact lf h;refine gN 50 X3.D a7.symbols ?_;refine iB 52 h (fun h=> ?_) fun h=> ?_;exact lf h;obtain⟨o2,h11,h⟩:=bS h;refine gl (aC0 none h11) ?_;replace h:=AK h;rcases h with⟨o3,rfl,h⟩|⟨o4,rfl,h⟩
 obtain⟨o12,h25,h⟩:=bS h;refine gl (aC1 none h25) ?_;replace h:=AK h;rcases h with⟨o13,rfl,h⟩|⟨o14,rfl,h⟩
 refine xX 148 X3.D h fun x15 h=> ?_;obtain⟨r16,h27,h⟩:=bS h;refine gC 152 (aTa h27) ?_;exact lf h;exact lf h;exact lf h
theorem aQd(h:Q8 a7 aW a8=some aD):AL Tryz.prog 143 [.d (AD.D a7),.d (CE.D aW),dI a8] [] (.d (D.b aD)) []:=by unfold Q8 at h;apply g0 (o:=aD);refine iB 11 h (fun h=> ?_) fun h=> ?_;refine iB 15 h (fun h=> ?_) fun h=> ?_;obtain⟨r1,h3,h⟩:=bS h;refine gQ (aF2 h3) ?_;cases r1;replace h:=CF h;refine gW 18 (.ret (.d (D.b false))) ?_;exact lf h;replace h:=CG h;refine gW 18 (.ret (.d (D.b true))) ?_;exact lf h;exact lf h;refine iB 30 h (fun h=> ?_) fun h=> ?_;exact lf h;refine iB 33 h (fun h=> ?_) fun h=> ?_;refine iB 37 h (fun h=> ?_) fun h=> ?_;refine gN 42 Yc.D a7.quants ?_;refine iB 45 h (fun h=> ?_) fun h=> ?_;refine xX 50 Yc.D h fun x2 h=> ?_;exact lf h;exact lf h;exact lf h;refine iB 58 h (fun h=> ?_) fun h=> ?_;refine iB 62 h (fun h=> ?_) fun h=> ?_;refine gN 67 Ye.D a7.frees ?_;refine iB 70 h (fun h=> ?_) fun h=> ?_;refine xX 75 Ye.D h fun x3 h=> ?_;exact lf h;exact lf h;exact lf h;refine iB 85 h (fun h=> ?_) fun h=> ?_;exact lf h;exact lf h
def VP(w2:AD)(w3:X3)(s5:Int):St:=⟨sp 56 0 [bx 2,bx 3,sI 5 s5],[cL 2 AD.D w2,cL 3 X3.D w3],[]⟩
def VQ(w2:AD)(w3:X3)(o:Unit⊕Unit):Ex×St:=match o with
 | .inl o=>(.exit 0,⟨sp 56 0 [],[],[]⟩)
 | .inr o=>(.ret,⟨sp 56 0 [sD 4 D.b false],[],[]⟩)
theorem aFl(rd:Option Nat)(h:aOf a7 aS a8=some a9):Lq 113 rd 58 (VP a7 aS a8) ((VQ a7 aS) a9):=
 lL (fun s:Int=>VP a7 aS s) (VQ a7 aS) a8 (fun a8 o h=>by
 unfold IX at h
 refine gN 34 CE.D aS.args ?_
 refine iB 35 h (fun h=> ?_) fun h=> ?_
 refine xX 42 CE.D h fun x2 h=> ?_
 refine xX 48 Xd.D h fun x3 h=> ?_
 refine xX 52 dZ h fun x4 h=> ?_
 obtain⟨r5,h9,h⟩:=bS h
 refine gC 54 (aQd h9) ?_
 refine iB 55 h (fun h=> ?_) fun h=> ?_
 exact lb h
 exact lb h
 exact lb h) h
theorem aS5(h:Z1 a7 aS=some aD):AL Tryz.prog 113 [.d (AD.D a7),.d (X3.D aS)] [] (.d (D.b aD)) []:=by
 unfold Z1 at h;apply g0 (o:=aD);refine iB 9 h (fun h=> ?_) fun h=> ?_;exact lf h;refine gN 14 Xd.D a7.decls ?_;refine iB 17 h (fun h=> ?_) fun h=> ?_;exact lf h;refine gN 20 CE.D aS.args<|xX 25 Xd.D h fun x1 h=> ?_;refine gN 28 dZ x1.types ?_;refine iB 30 h (fun h=> ?_) fun h=> ?_;exact lf h;obtain⟨o6,h11,h⟩:=bS h;refine gl (aFl none h11) ?_;replace h:=AK h;rcases h with⟨o7,rfl,h⟩|⟨o8,rfl,h⟩
 exact lf h;exact lf h
def Vm(w2 w3:X3)(s5:Int):St:=⟨sp 38 0 [bx 2,bx 3,sI 5 s5],[cL 2 X3.D w2,cL 3 X3.D w3],[]⟩
def Vn(w2 w3:X3)(o:Unit⊕Unit):Ex×St:=match o with
 | .inl o=>(.exit 0,⟨sp 38 0 [],[],[]⟩)
 | .inr o=>(.ret,⟨sp 38 0 [sD 4 D.b false],[],[]⟩)
theorem aFx(rd:Option Nat)(h:aOg aS aX a8=some a9):Lq 114 rd 58 (Vm aS aX a8) ((Vn aS aX) a9):=
 lL (fun s:Int=>Vm aS aX s) (Vn aS aX) a8 (fun a8 o h=>by
 unfold Ig at h
 refine gN 23 CE.D aS.args ?_
 refine iB 24 h (fun h=> ?_) fun h=> ?_
 refine xX 30 CE.D h fun x1 h=> ?_
 refine xX 35 CE.D h fun x2 h=> ?_
 refine iB 37 h (fun h=> ?_) fun h=> ?_
 exact lb h
 exact lb h
 exact lb h) h
theorem aTi(h:Zc aS aX=some aD):AL Tryz.prog 114 [.d (X3.D aS),.d (X3.D aX)] [] (.d (D.b aD)) []:=by
 unfold Zc at h;apply g0 (o:=aD);refine iB 11 h (fun h=> ?_) fun h=> ?_;exact lf h;refine gN 14 CE.D aS.args<|gN 17 CE.D aX.args ?_;refine iB 19 h (fun h=> ?_) fun h=> ?_;exact lf h;obtain⟨o3,h7,h⟩:=bS h;refine gl (aFx none h7) ?_;replace h:=AK h;rcases h with⟨o4,rfl,h⟩|⟨o5,rfl,h⟩
 exact lf h;exact lf h
theorem ZV(rd:Option Nat)(h:Ry a8 aA aD a7 aY aZ=some b6):Lq 80 rd 15653 ⟨sp 118 0 [bx 1,rx 3,rx 4,sI 5 a8,sI 6 aA,sD 34 D.b aD],[cL 1 AD.D a7,(3,.buf true 4 1 (aY.map D.b)),(4,.row 3 1 (aZ.map dZ))],[]⟩ (.normal,⟨sp 118 0 [bx 1,rx 3,rx 4,sI 5 a8,sI 6 aA],[cL 1 AD.D a7,(3,.buf true 4 1 (aY.map D.b)),(4,.row 3 1 (b6.map dZ))],[]⟩):=by unfold Ry at h;apply g0 (o:=b6);cases aD;replace h:=CF h;exact lp h;replace h:=CG h;refine gQ (Ar dZ [aA])<|gG 38 (.sl ((aZ++[aA]).map dZ)) (Ar dZ [aA]) ?_;obtain⟨h17,h⟩:=cS h;refine gQ (A6 dZ h17)<|gQ (A5 dZ aZ [aA]) ?_;exact lP h [.live [1,3,4,5,6],.keep [1,3,38],.ren 38 4,.sort]
theorem ZU(rd:Option Nat)(h:ZT a8 a7 aY aZ=some b7):Lq 80 rd 978 ⟨sp 118 0 [bx 1,rx 3,rx 4,sI 5 a8],[cL 1 AD.D a7,(3,.buf true 4 1 (aY.map D.b)),(4,.row 3 1 (aZ.map dZ))],[]⟩ (.normal,⟨sp 118 0 [bx 1,rx 3,rx 4,sI 5 a8],[cL 1 AD.D a7,(3,.buf true 4 1 (b7.1.map D.b)),(4,.row 3 1 (b7.2.map dZ))],[]⟩):=by unfold ZT at h;apply g0 (o:=b7);refine xX 27 Xc.D h fun x5 h=> ?_;refine gW 10041 (.sl ((aY.set x5.symbol.toNat true).map D.b)) ?_;obtain⟨h14,h⟩:=cS h;refine gQ h14.1<|gQ (AF D.b h14.2) ?_;obtain⟨x6,h15,h⟩:=xS h;refine gG 33 (.el (D.b x6)) (AG D.b h15) ?_;obtain⟨o7,h18,h⟩:=bS h;refine gl (ZV rd h18) ?_;obtain⟨h19,h⟩:=cS h;refine gQ h19.1<|gQ (AF D.b h19.2) ?_;obtain⟨h20,h⟩:=cS h;refine gQ (A9 D.b h20)<|gQ (AT D.b aY x5.symbol true) ?_;exact lp h
def R1(w1:AD)(s5:Int)(w3:List Bool)(w4:List Int):St:=⟨sp 118 0 [bx 1,rx 3,rx 4,sI 5 s5],[cL 1 AD.D w1,(3,.buf true 4 1 (w3.map D.b)),(4,.row 3 1 (w4.map dZ))],[]⟩
def R2(w1:AD)(o:(List Int)):Ex×St:=(.exit 0,⟨sp 118 0 [bx 1,rx 4],[cL 1 AD.D w1,(4,.row 3 1 (o.map dZ))],[]⟩)
theorem ZW(rd:Option Nat)(h:aNt a7 a8 aY aZ=some b6):Lq 80 rd 122 (R1 a7 a8 aY aZ) ((R2 a7) b6):=
 lL (fun s:Int×List Bool×List Int=>R1 a7 s.1 s.2.1 s.2.2) (R2 a7) (a8,aY,aZ) (fun⟨a8,aY,aZ⟩ o h=>by
 unfold HX at h
 refine gN 20 Xc.D a7.trans ?_
 refine iB 21 h (fun h=> ?_) fun h=> ?_
 obtain⟨o8,h21,h⟩:=bS h
 refine gl (ZU rd h21) ?_
 exact lb h
 exact lb h) h
def R3(w1:AD)(w4:List Int)(s7:Int):St:=⟨sp 118 0 [bx 1,rx 4,sI 7 s7],[cL 1 AD.D w1,(4,.row 3 1 (w4.map dZ))],[]⟩
def R4(w1:AD)(w4:List Int)(o:Unit⊕Unit):Ex×St:=match o with
 | .inl o=>(.exit 2,⟨sp 118 0 [bx 1],[cL 1 AD.D w1],[]⟩)
 | .inr o=>(.ret,⟨sp 118 0 [sD 2 D.b false],[],[]⟩)
theorem ZX(rd:Option Nat)(h:aNu a7 aZ a8=some a9):Lq 80 rd 250 (R3 a7 aZ a8) ((R4 a7 aZ) a9):=
 lL (fun s:Int=>R3 a7 aZ s) (R4 a7 aZ) a8 (fun a8 o h=>by
 unfold HY at h
 refine gN 44 dZ aZ ?_
 refine iB 45 h (fun h=> ?_) fun h=> ?_
 refine gW 54 (.int (a7.symbols.length:Int))<|gW 56 (.int (aZ.length:Int))<|xX 50 dZ h fun x10 h=> ?_
 refine gQ (ET X3.D a7.symbols)<|gQ (ET dZ aZ) ?_
 refine iB 60 h (fun h=> ?_) fun h=> ?_
 exact lb h
 exact lb h
 exact lb h) h
def R7(s8:Int)(w1:AD)(s9:Int):St:=⟨sp 118 0 [bx 1,sI 8 s8,sI 9 s9],[cL 1 AD.D w1],[]⟩
def R8(s8:Int)(w1:AD)(o:Unit⊕Unit):Ex×St:=match o with
 | .inl o=>(.exit 6,⟨sp 118 0 [bx 1,sI 8 s8],[cL 1 AD.D w1],[]⟩)
 | .inr o=>(.ret,⟨sp 118 0 [sD 2 D.b false],[],[]⟩)
theorem ZZ(rd:Option Nat)(h:aJj a8 a7 aA=some a9):Lq 80 rd 64806 (R7 a8 a7 aA) ((R8 a8 a7) a9):=
 lL (fun s:Int=>R7 a8 a7 s) (R8 a8 a7) aA (fun aA o h=>by
 unfold Ha at h
 refine iB 78 h (fun h=> ?_) fun h=> ?_
 refine xX 84 X3.D h fun x16 h=> ?_
 refine xX 89 X3.D h fun x17 h=> ?_
 obtain⟨r18,h34,h⟩:=bS h
 refine gQ (aTi h34) ?_
 cases r18
 replace h:=CF h
 refine gW 91 (.ret (.d (D.b false))) ?_
 exact lb h
 replace h:=CG h
 refine gW 91 (.ret (.d (D.b true))) ?_
 exact lb h
 exact lb h) h
def R5(w1:AD)(s8:Int):St:=⟨sp 118 0 [bx 1,sI 8 s8],[cL 1 AD.D w1],[]⟩
def R6(w1:AD)(o:Unit⊕Unit):Ex×St:=match o with
 | .inl o=>(.exit 4,⟨sp 118 0 [bx 1],[cL 1 AD.D w1],[]⟩)
 | .inr o=>(.ret,⟨sp 118 0 [sD 2 D.b false],[],[]⟩)
theorem ZY(rd:Option Nat)(h:aNv a7 a8=some a9):Lq 80 rd 506 (R5 a7 a8) ((R6 a7) a9):=
 lL (fun s:Int=>R5 a7 s) (R6 a7) a8 (fun a8 o h=>by
 unfold HZ at h
 refine gN 64 X3.D a7.symbols ?_
 refine iB 65 h (fun h=> ?_) fun h=> ?_
 refine xX 72 X3.D h fun x14 h=> ?_
 obtain⟨r15,h29,h⟩:=bS h
 refine gC 74 (aS5 h29) ?_
 refine iB 75 h (fun h=> ?_) fun h=> ?_
 exact lb h
 obtain⟨o19,h36,h⟩:=bS h
 refine gl (ZZ rd h36) ?_
 replace h:=AK h
 rcases h with⟨o20,rfl,h⟩|⟨o21,rfl,h⟩
 exact lb h
 exact lb h
 exact lb h) h
def N6(s10:Int)(w1:AD)(s11:Bool)(s12:Int):St:=⟨sp 118 0 [bx 1,sI 10 s10,sD 11 D.b s11,sI 12 s12],[cL 1 AD.D w1],[]⟩
def N7(s10:Int)(w1:AD)(o:Bool):Ex×St:=(.exit 10,⟨sp 118 0 [bx 1,sI 10 s10,sD 11 D.b o],[cL 1 AD.D w1],[]⟩)
theorem R0(rd:Option Nat)(h:Rz a8 a7 aD aA=some b8):Lq 80 rd 260682 (N6 a8 a7 aD aA) ((N7 a8 a7) b8):=
 lL (fun s:Bool×Int=>N6 a8 a7 s.1 s.2) (N7 a8 a7) (aD,aA) (fun⟨aD,aA⟩ o h=>by
 unfold E1 at h
 refine gN 102 X3.D a7.symbols ?_
 refine iB 103 h (fun h=> ?_) fun h=> ?_
 refine iB 107 h (fun h=> ?_) fun h=> ?_
 exact lb h
 refine xX 111 X3.D h fun x25 h=> ?_
 obtain⟨r26,h42,h⟩:=bS h
 refine gC 114 (aOa h42) ?_
 exact lb h
 exact lb h) h
def R9(w1:AD)(s10:Int):St:=⟨sp 118 0 [bx 1,sI 10 s10],[cL 1 AD.D w1],[]⟩
def SA(w1:AD)(o:Unit⊕Unit):Ex×St:=match o with
 | .inl o=>(.exit 8,⟨sp 118 0 [],[],[]⟩)
 | .inr o=>(.ret,⟨sp 118 0 [sD 2 D.b false],[],[]⟩)
theorem aAa(rd:Option Nat)(h:aNw a7 a8=some a9):Lq 80 rd 1018 (R9 a7 a8) ((SA a7) a9):=
 lL (fun s:Int=>R9 a7 s) (SA a7) a8 (fun a8 o h=>by
 unfold Hb at h
 refine gN 95 Yc.D a7.quants ?_
 refine iB 96 h (fun h=> ?_) fun h=> ?_
 obtain⟨o27,h43,h⟩:=bS h
 refine gl (R0 rd h43) ?_
 refine iB 117 h (fun h=> ?_) fun h=> ?_
 exact lb h
 exact lb h
 exact lb h) h
theorem aRa(h:X7 a7=some aD):AL Tryz.prog 80 [.d (AD.D a7)] [] (.d (D.b aD)) []:=by
 unfold X7 at h;apply g0 (o:=aD);refine gN 15 X3.D a7.symbols<|gW 16 (.sl ((List.replicate (a7.symbols.length:Int).toNat false).map D.b)) ?_;obtain⟨h1,h⟩:=cS h;refine gQ h1.1<|gQ (Int.le_refl (a7.symbols.length:Int))<|gQ (Int.le_refl (a7.symbols.length:Int))<|gQ (aPc D.b false h1.2)<|gQ (aPb D.b (a7.symbols.length:Int) false) ?_;obtain⟨o9,h22,h⟩:=bS h;refine gL [.live [1,3,4,5],.keep [1,16],.ren 16 3,.nil 4 4 3 1,.sort] (ZW none h22) ?_;obtain⟨o11,h26,h⟩:=bS h;refine gl (ZX none h26) ?_;replace h:=AK h;rcases h with⟨o12,rfl,h⟩|⟨o13,rfl,h⟩
 obtain⟨o22,h37,h⟩:=bS h;refine gl (ZY none h37) ?_;replace h:=AK h;rcases h with⟨o23,rfl,h⟩|⟨o24,rfl,h⟩
 obtain⟨o28,h45,h⟩:=bS h;refine gl (aAa none h45) ?_;replace h:=AK h;rcases h with⟨o29,rfl,h⟩|⟨o30,rfl,h⟩
 exact lf h;exact lf h;exact lf h;exact lf h
def Uw(w1:AD)(s5 s6:Int):St:=⟨sp 101 0 [bx 1,sI 5 s5,sI 6 s6],[cL 1 AD.D w1],[]⟩
def Ux(w1:AD)(o:Int⊕Unit):Ex×St:=match o with
 | .inl o=>(.exit 0,⟨sp 101 0 [bx 1,sI 5 o],[cL 1 AD.D w1],[]⟩)
 | .inr o=>(.ret,⟨sp 101 0 [sD 2 D.b false],[],[]⟩)
theorem aE3(rd:Option Nat)(h:aN9 a7 a8 aA=some aU):Lq 44 rd 250 (Uw a7 a8 aA) ((Ux a7) aU):=
 lL (fun s:Int×Int=>Uw a7 s.1 s.2) (Ux a7) (a8,aA) (fun⟨a8,aA⟩ o h=>by
 unfold IO at h
 refine gN 74 Xc.D a7.trans ?_
 refine iB 75 h (fun h=> ?_) fun h=> ?_
 refine xX 83 Xc.D h fun x3 h=> ?_
 obtain⟨r4,h15,h⟩:=bS h
 refine gC 86 (aR3 h15) ?_
 refine iB 90 h (fun h=> ?_) fun h=> ?_
 exact lb h
 exact lb h
 exact lb h) h
theorem aSq(h:Yn a7=some aD):AL Tryz.prog 44 [.d (AD.D a7)] [] (.d (D.b aD)) []:=by
 unfold Yn at h;apply g0 (o:=aD);obtain⟨r1,h1,h⟩:=bS h;refine gC 12 (aR2 h1) ?_;refine iB 17 h (fun h=> ?_) fun h=> ?_;exact lf h;refine gN 20 Yc.D a7.quants ?_;refine iB 23 h (fun h=> ?_) fun h=> ?_;exact lf h;refine gN 26 Ye.D a7.frees ?_;refine iB 29 h (fun h=> ?_) fun h=> ?_;exact lf h;refine gN 32 Xb.D a7.states ?_;refine iB 35 h (fun h=> ?_) fun h=> ?_;exact lf h;refine gN 38 X3.D a7.symbols ?_;refine iB 41 h (fun h=> ?_) fun h=> ?_;exact lf h;refine gN 44 Yj.D a7.nodes ?_;refine iB 47 h (fun h=> ?_) fun h=> ?_;exact lf h;refine gN 50 Xc.D a7.trans ?_;refine iB 53 h (fun h=> ?_) fun h=> ?_;exact lf h;refine iB 58 h (fun h=> ?_) fun h=> ?_;exact lf h;refine gN 63 Xb.D a7.states ?_;refine iB 66 h (fun h=> ?_) fun h=> ?_;exact lf h;obtain⟨r2,h11,h⟩:=bS h;refine gC 68 (aRi h11) ?_;refine iB 70 h (fun h=> ?_) fun h=> ?_;exact lf h;obtain⟨o5,h17,h⟩:=bS h;refine gl (aE3 none h17) ?_;replace h:=AK h;rcases h with⟨o6,rfl,h⟩|⟨o7,rfl,h⟩
 refine gN 95 Yj.D a7.nodes ?_;refine iB 97 h (fun h=> ?_) fun h=> ?_;obtain⟨r8,h19,h⟩:=bS h;refine gC 99 (aRa h19) ?_;exact lf h;exact lf h;exact lf h
def VY(w1:AD)(s3:Int):St:=⟨sp 27 0 [bx 1,sI 3 s3],[cL 1 AD.D w1],[]⟩
def VZ(w1:AD)(o:Unit⊕Unit):Ex×St:=match o with
 | .inl o=>(.exit 0,⟨sp 27 0 [],[],[]⟩)
 | .inr o=>(.ret,⟨sp 27 0 [sD 2 D.b false],[],[]⟩)
theorem aFp(rd:Option Nat)(h:aK2 a7 a8=some a9):Lq 14 rd 58 (VY a7 a8) ((VZ a7) a9):=
 lL (fun s:Int=>VY a7 s) (VZ a7) a8 (fun a8 o h=>by
 unfold IZ at h
 refine gN 15 Xd.D a7.decls ?_
 refine iB 16 h (fun h=> ?_) fun h=> ?_
 refine xX 22 Xd.D h fun x3 h=> ?_
 refine gN 25 dZ x3.types ?_
 refine iB 26 h (fun h=> ?_) fun h=> ?_
 exact lb h
 exact lb h
 exact lb h) h
theorem aTb(h:Z5 a7=some aD):AL Tryz.prog 14 [.d (AD.D a7)] [] (.d (D.b aD)) []:=by
 unfold Z5 at h;apply g0 (o:=aD);obtain⟨r1,h1,h⟩:=bS h;refine gC 5 (aRd h1) ?_;refine iB 7 h (fun h=> ?_) fun h=> ?_;exact lf h;obtain⟨r2,h3,h⟩:=bS h;refine gC 9 (aSq h3) ?_;refine iB 11 h (fun h=> ?_) fun h=> ?_;exact lf h;obtain⟨o4,h8,h⟩:=bS h;refine gl (aFp none h8) ?_;replace h:=AK h;rcases h with⟨o5,rfl,h⟩|⟨o6,rfl,h⟩
 exact lf h;exact lf h
def VB(w1:AD)(s3:Int):St:=⟨sp 40 0 [bx 1,sI 3 s3],[cL 1 AD.D w1],[]⟩
def VC(w1:AD)(o:Unit⊕Unit):Ex×St:=match o with
 | .inl o=>(.exit 0,⟨sp 40 0 [],[],[]⟩)
 | .inr o=>(.ret,⟨sp 40 0 [sD 2 D.b false],[],[]⟩)
theorem aFc(rd:Option Nat)(h:aKu a7 a8=some a9):Lq 26 rd 58 (VB a7 a8) ((VC a7) a9):=
 lL (fun s:Int=>VB a7 s) (VC a7) a8 (fun a8 o h=>by
 unfold IS at h
 refine gN 29 Xc.D a7.trans ?_
 refine iB 30 h (fun h=> ?_) fun h=> ?_
 refine xX 36 Xc.D h fun x1 h=> ?_
 refine iB 39 h (fun h=> ?_) fun h=> ?_
 exact lb h
 exact lb h
 exact lb h) h
theorem aSx(h:Yu a7=some aD):AL Tryz.prog 26 [.d (AD.D a7)] [] (.d (D.b aD)) []:=by
 unfold Yu at h;apply g0 (o:=aD);refine gN 6 Ye.D a7.frees ?_;refine iB 8 h (fun h=> ?_) fun h=> ?_;exact lf h;refine gN 11 Yc.D a7.quants ?_;refine iB 14 h (fun h=> ?_) fun h=> ?_;exact lf h;refine gN 17 Xb.D a7.states ?_;refine iB 20 h (fun h=> ?_) fun h=> ?_;exact lf h;refine gN 23 X3.D a7.symbols ?_;refine iB 25 h (fun h=> ?_) fun h=> ?_;exact lf h;obtain⟨o2,h8,h⟩:=bS h;refine gl (aFc none h8) ?_;replace h:=AK h;rcases h with⟨o3,rfl,h⟩|⟨o4,rfl,h⟩
 exact lf h;exact lf h
def Va(s0:List X2)(s3:Int):St:=⟨sp 51 0 [sD 0 (D.l X2.D) s0,sI 3 s3],[],[]⟩
def Vb(s0:List X2)(o:Unit⊕Unit):Ex×St:=match o with
 | .inl o=>(.exit 0,⟨sp 51 0 [],[],[]⟩)
 | .inr o=>(.ret,⟨sp 51 0 [sD 2 D.b false],[],[]⟩)
theorem aFq(rd:Option Nat)(h:aK3 b9 a8=some a9):Lq 59 rd 26 (Va b9 a8) ((Vb b9) a9):=
 lL (fun s:Int=>Va b9 s) (Vb b9) a8 (fun a8 o h=>by
 unfold Ia at h
 refine gN 6 X2.D b9 ?_
 refine iB 7 h (fun h=> ?_) fun h=> ?_
 refine xX 12 X2.D h fun x1 h=> ?_
 refine iB 16 h (fun h=> ?_) fun h=> ?_
 exact lb h
 refine xX 19 X2.D h fun x2 h=> ?_
 refine iB 24 h (fun h=> ?_) fun h=> ?_
 exact lb h
 refine xX 27 X2.D h fun x3 h=> ?_
 obtain⟨r4,h7,h⟩:=bS h
 refine gC 30 (aF2 h7) ?_
 refine iB 33 h (fun h=> ?_) fun h=> ?_
 exact lb h
 refine iB 36 h (fun h=> ?_) fun h=> ?_
 refine xX 39 X2.D h fun x5 h=> ?_
 refine xX 45 X2.D h fun x6 h=> ?_
 refine iB 50 h (fun h=> ?_) fun h=> ?_
 exact lb h
 exact lb h
 exact lb h
 exact lb h) h
theorem aTc(h:Z6 b9=some aD):AL Tryz.prog 59 [.d ((D.l X2.D) b9)] [] (.d (D.b aD)) []:=by
 unfold Z6 at h;apply g0 (o:=aD);obtain⟨o7,h13,h⟩:=bS h;refine gl (aFq none h13) ?_;replace h:=AK h;rcases h with⟨o8,rfl,h⟩|⟨o9,rfl,h⟩
 exact lf h;exact lf h
theorem aQf(h:Q9 a7 b9=some aD):AL Tryz.prog 27 [.d (AD.D a7),.d ((D.l X2.D) b9)] [] (.d (D.b aD)) []:=by unfold Q9 at h;apply g0 (o:=aD);refine gN 6 X2.D b9 ?_;refine iB 7 h (fun h=> ?_) fun h=> ?_;exact lf h;refine gN 9 X2.D b9 ?_;refine iB 11 h (fun h=> ?_) fun h=> ?_;refine gN 14 Yc.D a7.quants ?_;refine iB 17 h (fun h=> ?_) fun h=> ?_;refine xX 19 X2.D h fun x1 h=> ?_;refine iB 24 h (fun h=> ?_) fun h=> ?_;refine xX 26 X2.D h fun x2 h=> ?_;refine xX 32 Yc.D h fun x3 h=> ?_;refine iB 37 h (fun h=> ?_) fun h=> ?_;obtain⟨r4,h9,h⟩:=bS h;refine gC 39 (aTc h9) ?_;exact lf h;exact lf h;exact lf h;exact lf h;exact lf h
theorem aQl(h:Qi a7 b9=some aD):AL Tryz.prog 8 [.d (AD.D a7),.d ((D.l X2.D) b9)] [] (.d (D.b aD)) []:=by unfold Qi at h;apply g0 (o:=aD);obtain⟨r1,h1,h⟩:=bS h;refine gC 6 (aTb h1) ?_;refine iB 8 h (fun h=> ?_) fun h=> ?_;exact lf h;obtain⟨r2,h3,h⟩:=bS h;refine gC 10 (aSx h3) ?_;refine iB 13 h (fun h=> ?_) fun h=> ?_;exact lf h;obtain⟨r3,h5,h⟩:=bS h;refine gC 16 (aQf h5) ?_;refine iB 19 h (fun h=> ?_) fun h=> ?_;exact lf h;refine gN 21 X2.D b9<|gN 24 Yc.D a7.quants ?_;refine iB 26 h (fun h=> ?_) fun h=> ?_;exact lf h;refine gN 28 X2.D b9 ?_;refine iB 30 h (fun h=> ?_) fun h=> ?_;exact lf h;refine xX 32 X2.D h fun x4 h=> ?_;refine gG 36 (.int (x4.value.str.length:Int)) (CS x4.value.str) ?_;exact lf h
def Vc(s0:List Int)(s1 s7 s8:Int):St:=⟨sp 19 0 [sD 0 (D.l dZ) s0,sI 1 s1,sI 7 s7,sI 8 s8],[],[]⟩
def Vd(s0:List Int)(s1 s7:Int)(o:Unit⊕Int):Ex×St:=match o with
 | .inl o=>(.exit 0,⟨sp 19 0 [],[],[]⟩)
 | .inr o=>(.ret,⟨sp 19 0 [sI 4 o],[],[]⟩)
theorem aFr(rd:Option Nat)(h:aK4 aZ a8 aA aN=some aF):Lq 117 rd 26 (Vc aZ a8 aA aN) ((Vd aZ a8 aA) aF):=
 lL (fun s:Int=>Vc aZ a8 aA s) (Vd aZ a8 aA) aN (fun aN o h=>by
 unfold Ib at h
 refine iB 9 h (fun h=> ?_) fun h=> ?_
 refine xX 14 dZ h fun x1 h=> ?_
 refine iB 16 h (fun h=> ?_) fun h=> ?_
 exact lb h
 exact lb h
 exact lb h) h
theorem aTd(h:Z7 aZ a8=some aA):AL Tryz.prog 117 [.d ((D.l dZ) aZ),dI a8] [] (dI aA) []:=by
 unfold Z7 at h;apply g0 (o:=aA);refine gN 7 dZ aZ ?_;obtain⟨o2,h4,h⟩:=bS h;refine gl (aFr none h4) ?_;replace h:=AK h;rcases h with⟨o3,rfl,h⟩|⟨o4,rfl,h⟩
 exact lf h;exact lf h
theorem aQm(h:Qj aZ a8=some aD):AL Tryz.prog 83 [.d ((D.l dZ) aZ),dI a8] [] (.d (D.b aD)) []:=by unfold Qj at h;apply g0 (o:=aD);obtain⟨r1,h1,h⟩:=bS h;refine gC 7 (aTd h1) ?_;exact lf h
theorem ON(rd:Option Nat)(h:Tc a8 bA aA aN aD a7 aZ aT=some b6):Lq 47 rd 477491 ⟨sp 45 0 [bx 2,rx 5,sI 6 a8,bx 8,sD 18 (D.l Xc.D) bA,sI 19 aA,sI 20 aN,sD 37 D.b aD],[cL 2 AD.D a7,(5,.row 3 1 (aZ.map dZ)),cL 8 Xc.D aT],[]⟩ (.normal,⟨sp 45 0 [bx 2,rx 5,sI 6 a8,sD 18 (D.l Xc.D) bA,sI 19 aA,sI 20 aN],[cL 2 AD.D a7,(5,.row 3 1 (b6.map dZ))],[]⟩):=by unfold Tc at h;apply g0 (o:=b6);cases aD;replace h:=CF h;exact lp h;replace h:=CG h;refine gQ (Ar dZ [aT.to])<|gG 42 (.sl ((aZ++[aT.to]).map dZ)) (Ar dZ [aT.to]) ?_;obtain⟨h8,h⟩:=cS h;refine gQ (A6 dZ h8)<|gQ (A5 dZ aZ [aT.to]) ?_;exact lP h [.live [2,5,6,18,19,20],.keep [2,42],.ren 42 5,.sort]
theorem aCd(rd:Option Nat)(h:aCc a8 bA aA aN a7 aZ=some b6):Lq 47 rd 59686 ⟨sp 45 0 [bx 2,rx 5,sI 6 a8,sD 18 (D.l Xc.D) bA,sI 19 aA,sI 20 aN],[cL 2 AD.D a7,(5,.row 3 1 (aZ.map dZ))],[]⟩ (.normal,⟨sp 45 0 [bx 2,rx 5,sI 6 a8,sD 18 (D.l Xc.D) bA,sI 19 aA,sI 20 aN],[cL 2 AD.D a7,(5,.row 3 1 (b6.map dZ))],[]⟩):=by unfold aCc at h;apply g0 (o:=b6);refine xX 22 Xc.D h fun x1 h=> ?_;refine xX 28 dZ h fun x2 h=> ?_;refine iB 31 h (fun h=> ?_) fun h=> ?_;obtain⟨r3,h6,h⟩:=bS h;refine gC 35 (aQm h6) ?_;obtain⟨o4,h9,h⟩:=bS h;refine gl (ON rd h9) ?_;exact lp h;obtain⟨o5,h10,h⟩:=bS h;refine gl (ON rd h10) ?_;exact lp h
def Tf(s6:Int)(s18:List Xc)(s19:Int)(w2:AD)(s20:Int)(w5:List Int):St:=⟨sp 45 0 [bx 2,rx 5,sI 6 s6,sD 18 (D.l Xc.D) s18,sI 19 s19,sI 20 s20],[cL 2 AD.D w2,(5,.row 3 1 (w5.map dZ))],[]⟩
def Tg(s6:Int)(s18:List Xc)(s19:Int)(w2:AD)(o:(List Int)):Ex×St:=(.exit 2,⟨sp 45 0 [bx 2,rx 5,sI 6 s6],[cL 2 AD.D w2,(5,.row 3 1 (o.map dZ))],[]⟩)
theorem aCf(rd:Option Nat)(h:aJ5 a8 bA aA a7 aN aZ=some b6):Lq 47 rd 3730 (Tf a8 bA aA a7 aN aZ) ((Tg a8 bA aA a7) b6):=
 lL (fun s:Int×List Int=>Tf a8 bA aA a7 s.1 s.2) (Tg a8 bA aA a7) (aN,aZ) (fun⟨aN,aZ⟩ o h=>by
 unfold H4 at h
 refine iB 21 h (fun h=> ?_) fun h=> ?_
 obtain⟨o6,h11,h⟩:=bS h
 refine gl (aCd rd h11) ?_
 exact lb h
 exact lb h) h
def Td(w2:AD)(s6:Int)(w5:List Int):St:=⟨sp 45 0 [bx 2,rx 5,sI 6 s6],[cL 2 AD.D w2,(5,.row 3 1 (w5.map dZ))],[]⟩
def Te(w2:AD)(o:(List Int)):Ex×St:=(.exit 0,⟨sp 45 0 [rx 5],[(5,.row 3 1 (o.map dZ))],[]⟩)
theorem aCe(rd:Option Nat)(h:aJ4 a7 a8 aZ=some b6):Lq 47 rd 58 (Td a7 a8 aZ) ((Te a7) b6):=
 lL (fun s:Int×List Int=>Td a7 s.1 s.2) (Te a7) (a8,aZ) (fun⟨a8,aZ⟩ o h=>by
 unfold H3 at h
 refine gN 13 dZ aZ ?_
 refine iB 14 h (fun h=> ?_) fun h=> ?_
 refine gN 19 Xc.D a7.trans ?_
 obtain⟨o7,h12,h⟩:=bS h
 refine gl (aCf rd h12) ?_
 exact lb h
 exact lb h) h
theorem aRu(h:Xs a7 a8=some aZ):AL Tryz.prog 47 [.d (AD.D a7),dI a8] [] (.d ((D.l dZ) aZ)) []:=by unfold Xs at h;apply g0 (o:=aZ);refine gQ (Ar dZ [a8]) ?_;obtain⟨o8,h13,h⟩:=bS h;refine gL [.live [2,5,6],.keep [2,10],.ren 10 5,.sort] (aCe none h13) ?_;exact lf h
theorem aQn(h:Qk a8 a7=some aD):AL Tryz.prog 49 [dI a8,.eptr (D.cells (AD.D a7))] [] (.d (D.b aD)) []:=by unfold Qk at h;apply g0 (o:=aD);refine xX 7 Xb.D h fun x1 h=> ?_;refine iB 11 h (fun h=> ?_) fun h=> ?_;exact lf h;refine xX 15 Xb.D h fun x2 h=> ?_;exact lf h
def Vo(s0:List Int)(s1:AD)(s7 s8:Int):St:=⟨sp 19 0 [sD 0 (D.l dZ) s0,(1,.clo (.func 49) [] [.eptr (D.cells (AD.D s1))]),sI 7 s7,sI 8 s8],[],[]⟩
def Vp(s0:List Int)(s1:AD)(s7:Int)(o:Unit⊕Int):Ex×St:=match o with
 | .inl o=>(.exit 0,⟨sp 19 0 [],[],[]⟩)
 | .inr o=>(.ret,⟨sp 19 0 [sI 4 o],[],[]⟩)
theorem aFy(rd:Option Nat)(h:aK8 aZ a7 a8 aA=some aF):Lq 84 rd 26 (Vo aZ a7 a8 aA) ((Vp aZ a7 a8) aF):=
 lL (fun s:Int=>Vo aZ a7 a8 s) (Vp aZ a7 a8) aA (fun aA o h=>by
 unfold Ih at h
 refine iB 9 h (fun h=> ?_) fun h=> ?_
 refine xX 14 dZ h fun x1 h=> ?_
 obtain⟨r2,h3,h⟩:=bS h
 refine gQ (aQn h3) ?_
 cases r2
 replace h:=CF h
 refine gW 16 (.ret (.d (D.b false))) ?_
 exact lb h
 replace h:=CG h
 refine gW 16 (.ret (.d (D.b true))) ?_
 exact lb h
 exact lb h) h
theorem aTj(h:Zd aZ a7=some a8):AL Tryz.prog 84 [.d ((D.l dZ) aZ),.clo (.func 49) [] [.eptr (D.cells (AD.D a7))]] [] (dI a8) []:=by
 unfold Zd at h;apply g0 (o:=a8);refine gN 7 dZ aZ ?_;obtain⟨o3,h5,h⟩:=bS h;refine gl (aFy none h5) ?_;replace h:=AK h;rcases h with⟨o4,rfl,h⟩|⟨o5,rfl,h⟩
 exact lf h;exact lf h
theorem aQo(h:Ql aZ a7=some aD):AL Tryz.prog 48 [.d ((D.l dZ) aZ),.clo (.func 49) [] [.eptr (D.cells (AD.D a7))]] [] (.d (D.b aD)) []:=by unfold Ql at h;apply g0 (o:=aD);obtain⟨r1,h1,h⟩:=bS h;refine gC 7 (aTj h1) ?_;exact lf h
theorem aQp(h:Qm a8 a7=some aD):AL Tryz.prog 50 [dI a8,.eptr (D.cells (AD.D a7))] [] (.d (D.b aD)) []:=by unfold Qm at h;apply g0 (o:=aD);refine xX 7 Xb.D h fun x1 h=> ?_;exact lf h
def Vq(s0:List Int)(s1:AD)(s7 s8:Int):St:=⟨sp 19 0 [sD 0 (D.l dZ) s0,(1,.clo (.func 50) [] [.eptr (D.cells (AD.D s1))]),sI 7 s7,sI 8 s8],[],[]⟩
def Vr(s0:List Int)(s1:AD)(s7:Int)(o:Unit⊕Int):Ex×St:=match o with
 | .inl o=>(.exit 0,⟨sp 19 0 [],[],[]⟩)
 | .inr o=>(.ret,⟨sp 19 0 [sI 4 o],[],[]⟩)
theorem aFz(rd:Option Nat)(h:aK9 aZ a7 a8 aA=some aF):Lq 84 rd 26 (Vq aZ a7 a8 aA) ((Vr aZ a7 a8) aF):=
 lL (fun s:Int=>Vq aZ a7 a8 s) (Vr aZ a7 a8) aA (fun aA o h=>by
 unfold Ii at h
 refine iB 9 h (fun h=> ?_) fun h=> ?_
 refine xX 14 dZ h fun x1 h=> ?_
 obtain⟨r2,h3,h⟩:=bS h
 refine gQ (aQp h3) ?_
 cases r2
 replace h:=CF h
 refine gW 16 (.ret (.d (D.b false))) ?_
 exact lb h
 replace h:=CG h
 refine gW 16 (.ret (.d (D.b true))) ?_
 exact lb h
 exact lb h) h
theorem aTk(h:Ze aZ a7=some a8):AL Tryz.prog 84 [.d ((D.l dZ) aZ),.clo (.func 50) [] [.eptr (D.cells (AD.D a7))]] [] (dI a8) []:=by
 unfold Ze at h;apply g0 (o:=a8);refine gN 7 dZ aZ ?_;obtain⟨o3,h5,h⟩:=bS h;refine gl (aFz none h5) ?_;replace h:=AK h;rcases h with⟨o4,rfl,h⟩|⟨o5,rfl,h⟩
 exact lf h;exact lf h
theorem aQq(h:Qn aZ a7=some aD):AL Tryz.prog 48 [.d ((D.l dZ) aZ),.clo (.func 50) [] [.eptr (D.cells (AD.D a7))]] [] (.d (D.b aD)) []:=by unfold Qn at h;apply g0 (o:=aD);obtain⟨r1,h1,h⟩:=bS h;refine gC 7 (aTk h1) ?_;exact lf h
theorem aLd(h:Zj a7 a8=some aA):AL Tryz.prog 18 [.d (AD.D a7),dI a8] [] (dI aA) []:=by unfold Zj at h;apply g0 (o:=aA);refine gW 2 .frz ?_;refine iB 8 h (fun h=> ?_) fun h=> ?_;exact lf h;refine gN 12 Xb.D a7.states ?_;refine iB 14 h (fun h=> ?_) fun h=> ?_;exact lf h;obtain⟨r1,h3,h⟩:=bS h;refine gC 17 (aRu h3) ?_;obtain⟨r2,h4,h⟩:=bS h;refine gC 21 (aQo h4) ?_;refine iB 18 h (fun h=> ?_) fun h=> ?_;exact lf h;obtain⟨r3,h6,h⟩:=bS h;refine gC 26 (aQq h6) ?_;refine iB 23 h (fun h=> ?_) fun h=> ?_;exact lf h;exact lf h
theorem aCk(rd:Option Nat)(h:aCj a8 bB aA aN aD a7=some aR):Lq 19 rd 119607 ⟨sp 24 0 [bx 2,sI 5 a8,sD 8 (D.l Yk.D) bB,sI 9 aA,sI 10 aN,sD 20 D.b aD],[cL 2 AD.D a7],[]⟩ (.normal,⟨sp 24 0 [bx 2,sI 5 aR,sD 8 (D.l Yk.D) bB,sI 9 aA,sI 10 aN],[cL 2 AD.D a7],[]⟩):=by unfold aCj at h;apply g0 (o:=aR);cases aD;replace h:=CF h;exact lp h;replace h:=CG h;exact lp h
theorem aCi(rd:Option Nat)(h:Tj a8 bB aA aN aR aD a7=some aU):Lq 19 rd 29901 ⟨sp 24 0 [bx 2,sI 5 a8,sD 8 (D.l Yk.D) bB,sI 9 aA,sI 10 aN,sI 17 aR,sD 18 D.b aD],[cL 2 AD.D a7],[]⟩ (match (generalizing:=false) aU with
 | .inl aU=>(.normal,⟨sp 24 0 [bx 2,sI 5 aU,sD 8 (D.l Yk.D) bB,sI 9 aA,sI 10 aN],[cL 2 AD.D a7],[]⟩)
 | .inr aU=>(.ret,⟨sp 24 0 [sI 4 1],[],[]⟩)):=by
 unfold Tj at h
 apply g0 (o:=aU)
 cases aD
 replace h:=CF h
 obtain⟨o3,h6,h⟩:=bS h
 refine gl (aCk rd h6) ?_
 exact lp h
 replace h:=CG h
 exact lp h
theorem aCh(rd:Option Nat)(h:Ti a8 bB aA aN aR a7=some aU):Lq 19 rd 7475 ⟨sp 24 0 [bx 2,sI 5 a8,sD 8 (D.l Yk.D) bB,sI 9 aA,sI 10 aN,sI 17 aR],[cL 2 AD.D a7],[]⟩ (match (generalizing:=false) aU with
 | .inl aU=>(.normal,⟨sp 24 0 [bx 2,sI 5 aU,sD 8 (D.l Yk.D) bB,sI 9 aA,sI 10 aN],[cL 2 AD.D a7],[]⟩)
 | .inr aU=>(.ret,⟨sp 24 0 [sI 4 1],[],[]⟩)):=by
 unfold Ti at h
 apply g0 (o:=aU)
 obtain⟨o4,h7,h⟩:=bS h
 refine gl (aCi rd h7) ?_
 replace h:=AK h
 rcases h with⟨o5,rfl,h⟩|⟨o6,rfl,h⟩
 exact lp h
 exact lp h
theorem aCg(rd:Option Nat)(h:Th a8 bB aA aN a7=some aU):Lq 19 rd 934 ⟨sp 24 0 [bx 2,sI 5 a8,sD 8 (D.l Yk.D) bB,sI 9 aA,sI 10 aN],[cL 2 AD.D a7],[]⟩ (match (generalizing:=false) aU with
 | .inl aU=>(.normal,⟨sp 24 0 [bx 2,sI 5 aU,sD 8 (D.l Yk.D) bB,sI 9 aA,sI 10 aN],[cL 2 AD.D a7],[]⟩)
 | .inr aU=>(.ret,⟨sp 24 0 [sI 4 1],[],[]⟩)):=by
 unfold Th at h
 apply g0 (o:=aU)
 refine xX 12 Yk.D h fun x1 h=> ?_
 obtain⟨r2,h3,h⟩:=bS h
 refine gC 17 (aLd h3) ?_
 obtain⟨o7,h8,h⟩:=bS h
 refine gl (aCh rd h8) ?_
 replace h:=AK h
 rcases h with⟨o8,rfl,h⟩|⟨o9,rfl,h⟩
 exact lp h
 exact lp h
def Tk(s8:List Yk)(s9:Int)(w2:AD)(s5 s10:Int):St:=⟨sp 24 0 [bx 2,sI 5 s5,sD 8 (D.l Yk.D) s8,sI 9 s9,sI 10 s10],[cL 2 AD.D w2],[]⟩
def Tl(s8:List Yk)(s9:Int)(w2:AD)(o:Int⊕Unit):Ex×St:=match o with
 | .inl o=>(.exit 0,⟨sp 24 0 [sI 5 o],[],[]⟩)
 | .inr o=>(.ret,⟨sp 24 0 [sI 4 1],[],[]⟩)
theorem aCl(rd:Option Nat)(h:aJ6 bB a8 a7 aA aN=some aU):Lq 19 rd 58 (Tk bB a8 a7 aA aN) ((Tl bB a8 a7) aU):=
 lL (fun s:Int×Int=>Tk bB a8 a7 s.1 s.2) (Tl bB a8 a7) (aA,aN) (fun⟨aA,aN⟩ o h=>by
 unfold GZ at h
 refine iB 11 h (fun h=> ?_) fun h=> ?_
 obtain⟨o10,h9,h⟩:=bS h
 refine gl (aCg rd h9) ?_
 replace h:=AK h
 rcases h with⟨o11,rfl,h⟩|⟨o12,rfl,h⟩
 exact lb h
 exact lb h
 exact lb h) h
theorem aRw(h:Xt a7 bB=some a8):AL Tryz.prog 19 [.d (AD.D a7),.d ((D.l Yk.D) bB)] [] (dI a8) []:=by
 unfold Xt at h;apply g0 (o:=a8);refine gN 9 Yk.D bB ?_;obtain⟨o13,h10,h⟩:=bS h;refine gl (aCl none h10) ?_;replace h:=AK h;rcases h with⟨o14,rfl,h⟩|⟨o15,rfl,h⟩
 exact lf h;exact lf h
theorem aEo(rd:Option Nat)(h:aEn a8 aA aN bC aR bD aD=some bE):Lq 91 rd 7475 ⟨sp 27 0 [sI 1 a8,sD 5 dU aA,sI 6 aN,sD 9 (D.l X3.D) bC,sI 10 aR,sI 11 bD,sD 19 D.b aD],[],[]⟩ (.normal,⟨sp 27 0 [sI 1 a8,sD 5 dU bE,sD 9 (D.l X3.D) bC,sI 10 aR,sI 11 bD],[],[]⟩):=by unfold aEn at h;apply g0 (o:=bE);cases aD;replace h:=CF h;exact lp h;replace h:=CG h;obtain⟨h4,h⟩:=cS h;refine gQ h4 ?_;exact lp h
theorem aEm(rd:Option Nat)(h:aEl a8 aA bC aN aR=some bD):Lq 91 rd 934 ⟨sp 27 0 [sI 1 a8,sD 5 dU aA,sD 9 (D.l X3.D) bC,sI 10 aN,sI 11 aR],[],[]⟩ (.normal,⟨sp 27 0 [sI 1 a8,sD 5 dU bD,sD 9 (D.l X3.D) bC,sI 10 aN,sI 11 aR],[],[]⟩):=by unfold aEl at h;apply g0 (o:=bD);refine xX 14 X3.D h fun x1 h=> ?_;obtain⟨o2,h5,h⟩:=bS h;refine gl (aEo rd h5) ?_;exact lp h
def Uj(s1:Int)(s9:List X3)(s10 s5 s11:Int):St:=⟨sp 27 0 [sI 1 s1,sD 5 dU s5,sD 9 (D.l X3.D) s9,sI 10 s10,sI 11 s11],[],[]⟩
def Uk(s1:Int)(s9:List X3)(s10 o:Int):Ex×St:=(.exit 0,⟨sp 27 0 [sD 5 dU o],[],[]⟩)
theorem aEp(rd:Option Nat)(h:aKl a8 bC aA aN aR=some bD):Lq 91 rd 58 (Uj a8 bC aA aN aR) ((Uk a8 bC aA) bD):=
 lL (fun s:Int×Int=>Uj a8 bC aA s.1 s.2) (Uk a8 bC aA) (aN,aR) (fun⟨aN,aR⟩ o h=>by
 unfold IL at h
 refine iB 12 h (fun h=> ?_) fun h=> ?_
 obtain⟨o3,h6,h⟩:=bS h
 refine gl (aEm rd h6) ?_
 exact lb h
 exact lb h) h
theorem aSk(h:Yf a7 a8=some aA):AL Tryz.prog 91 [.d (AD.D a7),dI a8] [] (.d (dU aA)) []:=by unfold Yf at h;apply g0 (o:=aA);refine gN 10 X3.D a7.symbols ?_;obtain⟨o4,h7,h⟩:=bS h;refine gl (aEp none h7) ?_;exact lf h
theorem aQw(h:Qt=some bG):AL Tryz.prog 167 [.clo (.func 168) [] []] [] (.box 0 0) [(0,.cells ([.nil,.clo (.func 168) [] []]))]:=by unfold Qt at h;refine XG.call (ks:=[]) mixed fun us=> ?_;apply g0 (o:=bG);exact lX h [.live [2],.keep [5,997],.ren 5 0,.sort]
theorem aNp(h:Qa aD=some aI):AL Tryz.prog 170 [.d (D.b aD)] [] (.d (X0.D aI)) []:=by unfold Qa at h;apply g0 (o:=aI);exact lf h
theorem aOp(h:Zu aI aQ=some aD):AL Tryz.prog 168 [.d (X0.D aI),.d (X0.D aQ)] [] (.d (D.b aD)) []:=by unfold Zu at h;apply g0 (o:=aD);refine iB 5 h (fun h=> ?_) fun h=> ?_;exact lf h;refine iB 16 h (fun h=> ?_) fun h=> ?_;exact lf h;refine iB 25 h (fun h=> ?_) fun h=> ?_;exact lf h;refine iB 37 h (fun h=> ?_) fun h=> ?_;exact lf h;exact lf h
theorem aOu(h:Zz aI aQ bH=some a8):AL Tryz.prog 181 [.d (X0.D aI),.d (X0.D aQ),.eptr [.ptr ((D.cells ((D.l X0.D) bH))++[.v (.func (.func 168) #[] #[])])]] [] (dI a8) []:=by unfold Zz at h;apply g0 (o:=a8);obtain⟨r1,h1,h⟩:=bS h;refine gQ (aOp h1) ?_;cases r1;replace h:=CF h;refine gW 13 (.ret (.d (D.b false))) ?_;obtain⟨r2,h3,h⟩:=bS h;refine gQ (aOp h3) ?_;cases r2;replace h:=CF h;refine gW 21 (.ret (.d (D.b false))) ?_;exact lf h;replace h:=CG h;refine gW 21 (.ret (.d (D.b true))) ?_;exact lf h;replace h:=CG h;refine gW 13 (.ret (.d (D.b true))) ?_;exact lf h
theorem aDn(rd:Option Nat)(h:UM bH bI a8 aA aN aR aD aI=some bJ):Lq 180 rd 1931 ⟨sp 49 0 [sD 0 (D.l X0.D) bH,(2,.clo (.func 181) [] [.eptr [.ptr ((D.cells ((D.l X0.D) bI))++[.v (.func (.func 168) #[] #[])])]]),bx 4,sI 8 a8,sI 9 aA,sI 10 aN,sI 11 aR,sD 31 D.b aD],[cL 4 X0.D aI],[]⟩ (.normal,⟨sp 49 0 [sD 0 (D.l X0.D) bH,(2,.clo (.func 181) [] [.eptr [.ptr ((D.cells ((D.l X0.D) bI))++[.v (.func (.func 168) #[] #[])])]]),bx 4,sI 8 a8,sI 9 bJ.1,sI 10 bJ.2],[cL 4 X0.D aI],[]⟩):=by unfold UM at h;apply g0 (o:=bJ);cases aD;replace h:=CF h;exact lp h;replace h:=CG h;exact lp h
theorem aDm(rd:Option Nat)(h:aDl bH bI a8 aA aN aI=some bJ):Lq 180 rd 241 ⟨sp 49 0 [sD 0 (D.l X0.D) bH,(2,.clo (.func 181) [] [.eptr [.ptr ((D.cells ((D.l X0.D) bI))++[.v (.func (.func 168) #[] #[])])]]),bx 4,sI 8 a8,sI 9 aA,sI 10 aN],[cL 4 X0.D aI],[]⟩ (.normal,⟨sp 49 0 [sD 0 (D.l X0.D) bH,(2,.clo (.func 181) [] [.eptr [.ptr ((D.cells ((D.l X0.D) bI))++[.v (.func (.func 168) #[] #[])])]]),bx 4,sI 8 a8,sI 9 bJ.1,sI 10 bJ.2],[cL 4 X0.D aI],[]⟩):=by unfold aDl at h;apply g0 (o:=bJ);refine gQ (of_decide_eq_true rfl:(0:Int)<=1)<|xX 27 X0.D h fun x1 h=> ?_;obtain⟨r2,h3,h⟩:=bS h;refine gC 30 (aOu h3) ?_;obtain⟨o3,h5,h⟩:=bS h;refine gl (aDn rd h5) ?_;exact lp h
def UN(s0 s2:List X0)(s8:Int)(w4:X0)(s9 s10:Int):St:=⟨sp 49 0 [sD 0 (D.l X0.D) s0,(2,.clo (.func 181) [] [.eptr [.ptr ((D.cells ((D.l X0.D) s2))++[.v (.func (.func 168) #[] #[])])]]),bx 4,sI 8 s8,sI 9 s9,sI 10 s10],[cL 4 X0.D w4],[]⟩
def UO(s0 s2:List X0)(s8:Int)(w4:X0)(o:Int):Ex×St:=(.exit 0,⟨sp 49 0 [sD 0 (D.l X0.D) s0,(2,.clo (.func 181) [] [.eptr [.ptr ((D.cells ((D.l X0.D) s2))++[.v (.func (.func 168) #[] #[])])]]),bx 4,sI 8 s8,sI 9 o],[cL 4 X0.D w4],[]⟩)
theorem aDp(rd:Option Nat)(h:aDo bH bI a8 aI aA aN=some aR):Lq 180 rd 60 (UN bH bI a8 aI aA aN) ((UO bH bI a8 aI) aR):=
 lL (fun s:Int×Int=>UN bH bI a8 aI s.1 s.2) (UO bH bI a8 aI) (aA,aN) (fun⟨aA,aN⟩ o h=>by
 unfold Gd at h
 refine iB 17 h (fun h=> ?_) fun h=> ?_
 obtain⟨o4,h6,h⟩:=bS h
 refine gl (aDm rd h6) ?_
 exact lb h
 exact lb h) h
theorem aN7(h:Y3 bH aI bI=some aL):AL Tryz.prog 180 [.d ((D.l X0.D) bH),.d (X0.D aI),.clo (.func 181) [] [.eptr [.ptr ((D.cells ((D.l X0.D) bI))++[.v (.func (.func 168) #[] #[])])]]] [] (.tup [dI aL.1,.d (D.b aL.2)]) []:=by unfold Y3 at h;apply g0 (o:=aL);refine gN 13 X0.D bH ?_;obtain⟨o5,h7,h⟩:=bS h;refine gl (aDp none h7) ?_;refine iB 39 h (fun h=> ?_) fun h=> ?_;refine xX 43 X0.D h fun x6 h=> ?_;obtain⟨r7,h10,h⟩:=bS h;refine gC 46 (aOu h10) ?_;exact lf h;exact lf h
theorem aQ3(h:U0 a8 bH=some bI):AL Tryz.prog 182 [.nil,.d (D.i .i64 a8),.row 0] [(0,.row 62 4 (bH.map X0.D))] (.row 1) [rW 1 62 4 X0.D bI]:=
 aMi (ρ:=⟨fun n=>if n=22 then 182 else if n=29 then 187 else 188,fun n=>if n=0 then 0 else if n=3 then 3 else if n=4 then 4 else if n=24 then 44 else 62,id⟩) (by_:=40) X0.D mixed rfl ⟨ "slices.Insert[[]proctor/api.Value,proctor/api.Value]",by decide,(Tryz.func182).trans (by kernel_rfl)⟩ Tryz.underlying3 Tryz.underlying4 Tryz.underlying44 (by kernel_rfl) (by decide) a8 bH bI h
theorem aF6(rd:Option Nat)(us:List Value)(h:aF5 a8 aD b8 aI=some bK):Lq 169 rd 61 ⟨sp 34 0 [bx 2,bx 3,sI 5 a8,sD 6 D.b aD,sD 20 D.b b8],[(0,.cells ([.nil,.clo (.func 168) [] []])),(2,.cells ([.box 0 0])),cL 3 X0.D aI,(997,.vals [.box 0 0] us)],[]⟩ (.normal,⟨sp 34 0 [sD 6 D.b aD],[(0,.cells ([.row 529,.clo (.func 168) [] []])),rW 529 62 4 X0.D bK,(997,.vals [.box 0 0] us)],[]⟩):=by unfold aF5 at h;apply g0 (o:=bK);cases b8;replace h:=CF h;exact lP h [.live [6],.keep [0,997],.nilc 0 0 529 62 4,.sort];replace h:=CG h;refine gQ (Ar X0.D [aI]) ?_;obtain⟨r2,h3,h⟩:=bS h;refine gG 29 (.cx true [(0,28)] [(1,29)] (.row 1) [rW 1 62 4 X0.D r2]) (aQ3 h3) ?_;exact lP h [.live [6],.keep [0,29,997],.ren 29 529,.sort]
theorem aTo(h:Zm aI=some bL):AL Tryz.prog 169 [.box 0 0,.d (X0.D aI)] [(0,.cells ([.nil,.clo (.func 168) [] []]))] (.d (D.b bL.1)) [(0,.cells ([.row 1,.clo (.func 168) [] []])),rW 1 62 4 X0.D bL.2]:=by unfold Zm at h;refine XG.call (ks:=[0]) mixed fun us=> ?_;apply g0 (o:=bL);obtain⟨r1,h1,h⟩:=bS h;refine gG 16 (.lend [0,2] (.tup [dI r1.1,.d (D.b r1.2)])) (aN7 h1) ?_;obtain⟨o3,h4,h⟩:=bS h;refine gl (aF6 none us h4) ?_;exact lX h [.live [4],.keep [0,529,997],.ren 529 1,.sort]
theorem aQx(h:Qu a8 bH bI=some bM):AL Tryz.prog 182 [.row 0,.d (D.i .i64 a8),.row 1] [rW 0 62 4 X0.D bH,(1,.row 62 4 (bI.map X0.D))] (.row 2) [rW 2 62 4 X0.D bM]:=
 aMh (ρ:=⟨fun n=>if n=22 then 182 else if n=29 then 187 else 188,fun n=>if n=0 then 0 else if n=3 then 3 else if n=4 then 4 else if n=24 then 44 else 62,id⟩) (by_:=40) X0.D mixed rfl ⟨ "slices.Insert[[]proctor/api.Value,proctor/api.Value]",by decide,(Tryz.func182).trans (by kernel_rfl)⟩ Tryz.underlying3 Tryz.underlying4 Tryz.underlying44 (by kernel_rfl) (by decide) (by decide)
  (fun args w=>run_callFunc_extern Tryz.func187 (by kernel_rfl) (by kernel_rfl) (by kernel_rfl) (e:=Go.Extern.SlicesOverlaps.overlaps #[44,44] #[4]) (by kernel_rfl) args w) a8 bH bI bM h
theorem aF4(rd:Option Nat)(us:List Value)(h:aF3 a8 aD b8 aI bH=some bK):Lq 169 rd 61 ⟨sp 34 0 [bx 2,bx 3,sI 5 a8,sD 6 D.b aD,sD 20 D.b b8],[(0,.cells ([.row 501,.clo (.func 168) [] []])),(2,.cells ([.box 0 0])),cL 3 X0.D aI,rW 501 62 4 X0.D bH,(997,.vals [.box 0 0] us)],[]⟩ (.normal,⟨sp 34 0 [sD 6 D.b aD],[(0,.cells ([.row 529,.clo (.func 168) [] []])),rW 529 62 4 X0.D bK,(997,.vals [.box 0 0] us)],[]⟩):=by unfold aF3 at h;apply g0 (o:=bK);cases b8;replace h:=CF h;exact lP h [.live [6],.keep [0,501,997],.ren 501 529,.sort];replace h:=CG h;refine gQ (Ar X0.D [aI]) ?_;obtain⟨r2,h3,h⟩:=bS h;refine gG 29 (.cx true [(0,501),(1,28)] [(2,29)] (.row 2) [rW 2 62 4 X0.D r2]) (aQx h3) ?_;exact lP h [.live [6],.keep [0,29,997],.ren 29 529,.sort]
theorem aOi(h:Zl aI bH=some bL):AL Tryz.prog 169 [.box 0 0,.d (X0.D aI)] [(0,.cells ([.row 1,.clo (.func 168) [] []])),rW 1 62 4 X0.D bH] (.d (D.b bL.1)) [(0,.cells ([.row 2,.clo (.func 168) [] []])),rW 2 62 4 X0.D bL.2]:=by unfold Zl at h;refine XG.call (ks:=[0]) mixed fun us=> ?_;apply g0 (o:=bL);obtain⟨r1,h1,h⟩:=bS h;refine gG 16 (.lend [0,1,2] (.tup [dI r1.1,.d (D.b r1.2)])) (aN7 h1) ?_;obtain⟨o3,h4,h⟩:=bS h;refine gL [.live [2,3,5,6,20],.keep [0,1,2,3,997],.ren 1 501,.sort] (aF4 none us h4) ?_;exact lX h [.live [4],.keep [0,529,997],.ren 529 2,.sort]
theorem aQ4(h:U1 bH=some bI):AL Tryz.prog 183 [.row 0] [rW 0 62 4 X0.D bH] (.row 1) [rW 0 62 4 X0.D bH,rW 1 62 4 X0.D bI]:=
 WU (ρ:=⟨fun _=>183,fun n=>if n=4 then 4 else if n=22 then 44 else 62,id⟩) (by_:=40) X0.D rfl rfl (aO1 mixed ⟨ "slices.Clone[[]proctor/api.Value,proctor/api.Value]",by decide,(Tryz.func183).trans (by kernel_rfl)⟩ Tryz.underlying4 Tryz.underlying44 (by kernel_rfl) (by kernel_rfl) (by kernel_rfl) (by kernel_rfl)) (by kernel_rfl) (by decide) bH bI h
theorem aQg(h:Qb bH=some bN):AL Tryz.prog 171 [.box 0 0] [(0,.cells ([.row 1,.clo (.func 168) [] []])),rW 1 62 4 X0.D bH] (.row 2) [(0,.cells ([.row 3,.clo (.func 168) [] []])),rW 2 62 4 X0.D bN.1,rW 3 62 4 X0.D bN.2]:=by unfold Qb at h;refine XG.call (ks:=[0]) mixed fun us=> ?_;apply g0 (o:=bN);obtain⟨r1,h1,h⟩:=bS h;refine gG 9 (.cx true [(0,1)] [(1,9)] (.row 1) [rW 0 62 4 X0.D bH,rW 1 62 4 X0.D r1]) (aQ4 h1) ?_;exact lX h [.live [2],.keep [0,1,9,997],.ren 1 3,.ren 9 2,.sort]
theorem aBi(rd:Option Nat)(us:List Value)(h:S9 a8 aD a7=some bK):Lq 150 rd 29 ⟨sp 51 0 [sI 1 a8,bx 2,bx 5,sD 12 D.b aD],[cL 2 AD.D a7,(5,.cells ([.nil,.clo (.func 168) [] []])),(997,.vals [] us)],[]⟩ (.normal,⟨sp 51 0 [sI 1 a8,bx 2,bx 5],[cL 2 AD.D a7,(5,.cells ([.row 518,.clo (.func 168) [] []])),rW 518 62 4 X0.D bK,(997,.vals [] us)],[]⟩):=by unfold S9 at h;apply g0 (o:=bK);cases aD;replace h:=CF h;exact lP h [.live [1,2,5],.keep [2,5,997],.nilc 5 0 518 62 4,.sort];replace h:=CG h;obtain⟨r2,h3,h⟩:=bS h;refine gC 14 (aNp h3) ?_;obtain⟨r3,h4,h⟩:=bS h;refine gG 15 (.cx false [(0,5)] [(1,15)] (.d (D.b r3.1)) [(0,.cells ([.row 1,.clo (.func 168) [] []])),rW 1 62 4 X0.D r3.2]) (aTo h4) ?_;obtain⟨r4,h5,h⟩:=bS h;refine gC 17 (aNp h5) ?_;obtain⟨r5,h6,h⟩:=bS h;refine gG 18 (.cx false [(0,5),(1,15)] [(2,18)] (.d (D.b r5.1)) [(0,.cells ([.row 2,.clo (.func 168) [] []])),rW 2 62 4 X0.D r5.2]) (aOi h6) ?_;exact lP h [.live [1,2,5],.keep [2,5,18,997],.ren 18 518,.sort]
theorem OF(rd:Option Nat)(us:List Value)(h:TA a8 bC aA aN bO aR bD aD aW bH=some bK):Lq 150 rd 4010803 ⟨sp 51 0 [sI 1 a8,bx 5,bx 9,sD 20 (D.l X3.D) bC,sI 21 aA,sI 22 aN,sD 27 (D.l CE.D) bO,sI 28 aR,sI 29 bD,sD 42 D.b aD],[(5,.cells ([.row 518,.clo (.func 168) [] []])),cL 9 CE.D aW,rW 518 62 4 X0.D bH,(997,.vals [] us)],[]⟩ (.normal,⟨sp 51 0 [sI 1 a8,bx 5,sD 20 (D.l X3.D) bC,sI 21 aA,sI 22 aN,sD 27 (D.l CE.D) bO,sI 28 aR,sI 29 bD],[(5,.cells ([.row 546,.clo (.func 168) [] []])),rW 546 62 4 X0.D bK,(997,.vals [] us)],[]⟩):=by unfold TA at h;apply g0 (o:=bK);cases aD;replace h:=CF h;exact lP h [.live [1,5,20,21,22,27,28,29],.keep [5,518,997],.ren 518 546,.sort];replace h:=CG h;obtain⟨r9,h14,h⟩:=bS h;refine gG 46 (.cx false [(0,5),(1,518)] [(2,46)] (.d (D.b r9.1)) [(0,.cells ([.row 2,.clo (.func 168) [] []])),rW 2 62 4 X0.D r9.2]) (aOi h14) ?_;exact lP h [.live [1,5,20,21,22,27,28,29],.keep [5,46,997],.ren 46 546,.sort]
theorem aBk(rd:Option Nat)(us:List Value)(h:aBj a8 bC aA aN bO aR bD bH=some bK):Lq 150 rd 501350 ⟨sp 51 0 [sI 1 a8,bx 5,sD 20 (D.l X3.D) bC,sI 21 aA,sI 22 aN,sD 27 (D.l CE.D) bO,sI 28 aR,sI 29 bD],[(5,.cells ([.row 518,.clo (.func 168) [] []])),rW 518 62 4 X0.D bH,(997,.vals [] us)],[]⟩ (.normal,⟨sp 51 0 [sI 1 a8,bx 5,sD 20 (D.l X3.D) bC,sI 21 aA,sI 22 aN,sD 27 (D.l CE.D) bO,sI 28 aR,sI 29 bD],[(5,.cells ([.row 546,.clo (.func 168) [] []])),rW 546 62 4 X0.D bK,(997,.vals [] us)],[]⟩):=by unfold aBj at h;apply g0 (o:=bK);refine xX 31 CE.D h fun x8 h=> ?_;refine iB 36 h (fun h=> ?_) fun h=> ?_;obtain⟨o10,h15,h⟩:=bS h;refine gl (OF rd us h15) ?_;exact lp h;obtain⟨o11,h16,h⟩:=bS h;refine gl (OF rd us h16) ?_;exact lp h
def TD(us:List Value)(s1:Int)(s20:List X3)(s21 s22:Int)(s27:List CE)(s28 s29:Int)(w518:List X0):St:=⟨sp 51 0 [sI 1 s1,bx 5,sD 20 (D.l X3.D) s20,sI 21 s21,sI 22 s22,sD 27 (D.l CE.D) s27,sI 28 s28,sI 29 s29],[(5,.cells ([.row 518,.clo (.func 168) [] []])),rW 518 62 4 X0.D w518,(997,.vals [] us)],[]⟩
def TE(us:List Value)(s1:Int)(s20:List X3)(s21 s22:Int)(s27:List CE)(s28:Int)(o:(List X0)):Ex×St:=(.exit 2,⟨sp 51 0 [sI 1 s1,bx 5,sD 20 (D.l X3.D) s20,sI 21 s21,sI 22 s22],[(5,.cells ([.row 518,.clo (.func 168) [] []])),rW 518 62 4 X0.D o,(997,.vals [] us)],[]⟩)
theorem aBn(rd:Option Nat)(us:List Value)(h:aBm a8 bC aA aN bO aR bD bH=some bK):Lq 150 rd 31334 (TD us a8 bC aA aN bO aR bD bH) ((TE us a8 bC aA aN bO aR) bK):=
 lL (fun s:Int×List X0=>TD us a8 bC aA aN bO aR s.1 s.2) (TE us a8 bC aA aN bO aR) (bD,bH) (fun⟨bD,bH⟩ o h=>by
 unfold Hu at h
 refine iB 30 h (fun h=> ?_) fun h=> ?_
 obtain⟨o12,h17,h⟩:=bS h
 refine gl (aBk rd us h17) ?_
 exact lB h [.live [1,5,20,21,22,27,28,29],.keep [5,546,997],.ren 546 518,.sort]
 exact lb h) h
def TB(us:List Value)(s1:Int)(s20:List X3)(s21 s22:Int)(w518:List X0):St:=⟨sp 51 0 [sI 1 s1,bx 5,sD 20 (D.l X3.D) s20,sI 21 s21,sI 22 s22],[(5,.cells ([.row 518,.clo (.func 168) [] []])),rW 518 62 4 X0.D w518,(997,.vals [] us)],[]⟩
def TC(us:List Value)(s1:Int)(s20:List X3)(s21:Int)(o:(List X0)):Ex×St:=(.exit 0,⟨sp 51 0 [bx 5],[(5,.cells ([.row 518,.clo (.func 168) [] []])),rW 518 62 4 X0.D o,(997,.vals [] us)],[]⟩)
theorem aBl(rd:Option Nat)(us:List Value)(h:aJw a8 bC aA aN bH=some bK):Lq 150 rd 122 (TB us a8 bC aA aN bH) ((TC us a8 bC aA) bK):=
 lL (fun s:Int×List X0=>TB us a8 bC aA s.1 s.2) (TC us a8 bC aA) (aN,bH) (fun⟨aN,bH⟩ o h=>by
 unfold Ht at h
 refine iB 23 h (fun h=> ?_) fun h=> ?_
 refine xX 24 X3.D h fun x7 h=> ?_
 refine gN 28 CE.D x7.args ?_
 obtain⟨o13,h18,h⟩:=bS h
 refine gl (aBn rd us h18) ?_
 exact lb h
 exact lb h) h
theorem aRm(h:Xk a7 a8=some bH):AL Tryz.prog 150 [.d (AD.D a7),dI a8] [] (.row 0) [rW 0 62 4 X0.D bH]:=by unfold Xk at h;refine XG.call (ks:=[]) mixed fun us=> ?_;apply g0 (o:=bH);refine gW 10 (.cx false [] [(0,417)] (.box 0 0) [(0,.cells ([.nil,.clo (.func 168) [] []]))])<|gW 21 (.int (a7.symbols.length:Int)) ?_;obtain⟨r1,h1,h⟩:=bS h;refine gQ (aQw h1) ?_;obtain⟨o6,h7,h⟩:=bS h;refine gL [.live [1,2,5,12],.keep [2,417,997],.ren 417 5,.sort] (aBi none us h7)<|gQ (ET X3.D a7.symbols) ?_;obtain⟨o14,h19,h⟩:=bS h;refine gl (aBl none us h19) ?_;obtain⟨r15,h20,h⟩:=bS h;refine gG 50 (.cx false [(0,5),(1,518)] [(2,50),(3,457)] (.row 2) [(0,.cells ([.row 3,.clo (.func 168) [] []])),rW 2 62 4 X0.D r15.1,rW 3 62 4 X0.D r15.2]) (aQg h20) ?_;exact lX h [.live [4],.keep [50,997],.ren 50 0,.sort]
def Ve(s0:List X0)(s7:Int)(w3:X0)(s8:Int):St:=⟨sp 19 0 [sD 0 (D.l X0.D) s0,bx 3,sI 7 s7,sI 8 s8],[cL 3 X0.D w3],[]⟩
def Vf(s0:List X0)(s7:Int)(w3:X0)(o:Unit⊕Int):Ex×St:=match o with
 | .inl o=>(.exit 0,⟨sp 19 0 [],[],[]⟩)
 | .inr o=>(.ret,⟨sp 19 0 [sI 4 o],[],[]⟩)
theorem aFt(rd:Option Nat)(h:aFs bH a8 aI aA=some aF):Lq 172 rd 26 (Ve bH a8 aI aA) ((Vf bH a8 aI) aF):=
 lL (fun s:Int=>Ve bH a8 aI s) (Vf bH a8 aI) aA (fun aA o h=>by
 unfold Ic at h
 refine iB 9 h (fun h=> ?_) fun h=> ?_
 refine xX 14 X0.D h fun x1 h=> ?_
 refine iB 16 h (fun h=> ?_) fun h=> ?_
 exact lb h
 exact lb h
 exact lb h) h
theorem aTe(h:Z8 bH aI=some a8):AL Tryz.prog 172 [.d ((D.l X0.D) bH),.d (X0.D aI)] [] (dI a8) []:=by
 unfold Z8 at h;apply g0 (o:=a8);refine gN 7 X0.D bH ?_;obtain⟨o2,h4,h⟩:=bS h;refine gl (aFt none h4) ?_;replace h:=AK h;rcases h with⟨o3,rfl,h⟩|⟨o4,rfl,h⟩
 exact lf h;exact lf h
theorem aNn(h:Q0 bH aI=some aD):AL Tryz.prog 151 [.d ((D.l X0.D) bH),.d (X0.D aI)] [] (.d (D.b aD)) []:=by unfold Q0 at h;apply g0 (o:=aD);obtain⟨r1,h1,h⟩:=bS h;refine gC 7 (aTe h1) ?_;exact lf h
theorem aQy(h:Qv a8=some bH):AL Tryz.prog 173 [.nil,.d (D.i .i64 a8)] [] (.row 0) [rW 0 62 4 X0.D bH]:=
 aGt (ρ:=⟨fun _=>173,fun a8=>if a8=0 then 0 else if a8=3 then 3 else if a8=4 then 4 else if a8=9 then 9 else if a8=20 then 20 else if a8=22 then 44 else 62,id⟩) (by_:=40) X0.D rfl rfl (aTx mixed ⟨ "slices.Grow[[]proctor/api.Value,proctor/api.Value]",by decide,(Tryz.func173).trans (by kernel_rfl)⟩ Tryz.underlying0 Tryz.underlying3 Tryz.underlying4 Tryz.underlying9 Tryz.underlying20 Tryz.underlying44 (by kernel_rfl) (by kernel_rfl) (by kernel_rfl) (by kernel_rfl) (by kernel_rfl) (by kernel_rfl) (by kernel_rfl) (by kernel_rfl) (by kernel_rfl) (by kernel_rfl) (by kernel_rfl) (by kernel_rfl)) (by kernel_rfl) (by decide) a8 bH h
theorem aA9(rd:Option Nat)(h:Ss bP a8 bQ aA aN aD=some bG):Lq 153 rd 14951 ⟨sp 36 0 [sD 0 (D.l (D.l X0.D)) bP,sI 3 a8,sD 9 (D.l (D.l X0.D)) bQ,sI 10 aA,sI 11 aN,sD 20 D.b aD],[],[]⟩ (.normal,⟨sp 36 0 [sD 0 (D.l (D.l X0.D)) bP,sI 3 a8,sD 9 (D.l (D.l X0.D)) bQ,sI 10 aA,sI 11 aN],[],[]⟩):=by unfold Ss at h;apply g0 (o:=bG);cases aD;replace h:=CF h;exact lp h;replace h:=CG h;cases h
theorem aA8(rd:Option Nat)(h:Sr bP a8 bQ aA aN=some aR):Lq 153 rd 934 ⟨sp 36 0 [sD 0 (D.l (D.l X0.D)) bP,sI 3 a8,sD 9 (D.l (D.l X0.D)) bQ,sI 10 aA,sI 11 aN],[],[]⟩ (.normal,⟨sp 36 0 [sD 0 (D.l (D.l X0.D)) bP,sI 3 aR,sD 9 (D.l (D.l X0.D)) bQ,sI 10 aA,sI 11 aN],[],[]⟩):=by unfold Sr at h;apply g0 (o:=aR);refine xX 13 (D.l X0.D) h fun x1 h=> ?_;refine gN 17 X0.D x1 ?_;obtain⟨o2,h4,h⟩:=bS h;refine gl (aA9 rd h4) ?_;exact lp h
def Sv(s0 s9:List (List X0))(s10 s3 s11:Int):St:=⟨sp 36 0 [sD 0 (D.l (D.l X0.D)) s0,sI 3 s3,sD 9 (D.l (D.l X0.D)) s9,sI 10 s10,sI 11 s11],[],[]⟩
def Sw(s0 s9:List (List X0))(s10 o:Int):Ex×St:=(.exit 0,⟨sp 36 0 [sD 0 (D.l (D.l X0.D)) s0,sI 3 o],[],[]⟩)
theorem aBa(rd:Option Nat)(h:Su bP bQ a8 aA aN=some aR):Lq 153 rd 58 (Sv bP bQ a8 aA aN) ((Sw bP bQ a8) aR):=
 lL (fun s:Int×Int=>Sv bP bQ a8 s.1 s.2) (Sw bP bQ a8) (aA,aN) (fun⟨aA,aN⟩ o h=>by
 unfold GS at h
 refine iB 12 h (fun h=> ?_) fun h=> ?_
 obtain⟨o3,h5,h⟩:=bS h
 refine gl (aA8 rd h5) ?_
 exact lb h
 exact lb h) h
def Sy(s25:List (List X0))(s26 s27:Int)(w6:List X0):St:=⟨sp 36 0 [rx 6,sD 25 (D.l (D.l X0.D)) s25,sI 26 s26,sI 27 s27],[rW 6 62 4 X0.D w6],[]⟩
def Sz(s25:List (List X0))(s26:Int)(o:(List X0)):Ex×St:=(.exit 2,⟨sp 36 0 [rx 6],[rW 6 62 4 X0.D o],[]⟩)
theorem aBb(rd:Option Nat)(h:Sx bP a8 aA bH=some bK):Lq 153 rd 250 (Sy bP a8 aA bH) ((Sz bP a8) bK):=
 lL (fun s:Int×List X0=>Sy bP a8 s.1 s.2) (Sz bP a8) (aA,bH) (fun⟨aA,bH⟩ o h=>by
 unfold GT at h
 refine iB 28 h (fun h=> ?_) fun h=> ?_
 refine xX 29 (D.l X0.D) h fun x6 h=> ?_
 refine gG 33 (.rwl ((bH++x6).map X0.D)) (Ar X0.D x6) ?_
 obtain⟨h10,h⟩:=cS h
 refine gQ (A6 X0.D h10)<|gQ (A5 X0.D bH x6) ?_
 exact lB h [.live [6,25,26,27],.keep [33],.ren 33 6,.sort]
 exact lb h) h
theorem aRj(h:Xi bP=some bH):AL Tryz.prog 153 [.d ((D.l (D.l X0.D)) bP)] [] (.d ((D.l X0.D) bH)) []:=by unfold Xi at h;apply g0 (o:=bH);refine gN 10 (D.l X0.D) bP<|gW 26 (.int (bP.length:Int)) ?_;obtain⟨o4,h6,h⟩:=bS h;refine gl (aBa none h6) ?_;obtain⟨r5,h7,h⟩:=bS h;refine gG 24 (.cx true [] [(0,24)] (.row 0) [rW 0 62 4 X0.D r5]) (aQy h7)<|gQ (ET (D.l X0.D) bP) ?_;obtain⟨o7,h11,h⟩:=bS h;refine gL [.live [6,25,26,27],.keep [24],.ren 24 6,.sort] (aBb none h11) ?_;exact lF h [.frz 6]
theorem aDd(rd:Option Nat)(h:aDc a8 bH aD aI aQ=some bR):Lq 152 rd 965 ⟨sp 30 0 [sI 0 a8,sD 1 (D.l X0.D) bH,bx 4,bx 6,sD 20 D.b aD],[cL 4 X0.D aI,cL 6 X0.D aQ],[]⟩ (.normal,⟨sp 30 0 [sI 0 a8,sD 1 (D.l X0.D) bH,bx 4,bx 6],[cL 4 X0.D aI,cL 6 X0.D bR],[]⟩):=by unfold aDc at h;apply g0 (o:=bR);cases aD;replace h:=CF h;refine gW 27 (.str (aQ.str++([97]:List UInt8))) ?_;obtain⟨h6,h⟩:=cS h;refine gQ (JL h6) ?_;exact lp h;replace h:=CG h;exact lp h
theorem aDb(rd:Option Nat)(h:UH a8 bH aI aQ=some bR):Lq 152 rd 241 ⟨sp 30 0 [sI 0 a8,sD 1 (D.l X0.D) bH,bx 4,bx 6],[cL 4 X0.D aI,cL 6 X0.D aQ],[]⟩ (.normal,⟨sp 30 0 [sI 0 a8,sD 1 (D.l X0.D) bH,bx 4,bx 6],[cL 4 X0.D aI,cL 6 X0.D bR],[]⟩):=by unfold UH at h;apply g0 (o:=bR);obtain⟨o2,h7,h⟩:=bS h;refine gl (aDd rd h7) ?_;exact lp h
def UI(s0:Int)(s1:List X0)(w4 w6:X0):St:=⟨sp 30 0 [sI 0 s0,sD 1 (D.l X0.D) s1,bx 4,bx 6],[cL 4 X0.D w4,cL 6 X0.D w6],[]⟩
def UJ(s0:Int)(s1:List X0)(w4 o:X0):Ex×St:=(.exit 0,⟨sp 30 0 [bx 4,bx 6],[cL 4 X0.D w4,cL 6 X0.D o],[]⟩)
theorem OU(rd:Option Nat)(h:Pq a8 bH aI aQ=some bR):Lq 152 rd 60 (UI a8 bH aI aQ) ((UJ a8 bH aI) bR):=
 lL (fun s:X0=>UI a8 bH aI s) (UJ a8 bH aI) aQ (fun aQ o h=>by
 unfold IC at h
 obtain⟨r1,h3,h⟩:=bS h
 refine gQ (aNn h3) ?_
 cases r1
 replace h:=CF h
 refine gW 18 (.ret (.d (D.b false))) ?_
 exact lb h
 replace h:=CG h
 refine gW 18 (.ret (.d (D.b true))) ?_
 obtain⟨o3,h8,h⟩:=bS h
 refine gl (aDb rd h8) ?_
 exact lb h) h
theorem aR7(h:Y1 a8 bH=some bU):AL Tryz.prog 152 [dI a8,.d ((D.l X0.D) bH)] [] (.tup [.d (X0.D bU.1),.d (D.b bU.2)]) []:=by unfold Y1 at h;apply g0 (o:=bU);refine iB 9 h (fun h=> ?_) fun h=> ?_;refine iB 12 h (fun h=> ?_) fun h=> ?_;exact lf h;obtain⟨o4,h9,h⟩:=bS h;refine gl (OU none h9) ?_;exact lf h;obtain⟨o5,h10,h⟩:=bS h;refine gl (OU none h10) ?_;exact lf h
theorem OS(rd:Option Nat)(h:UE bH a8 b9 aA aN aD bI bV=some bK):Lq 130 rd 15667 ⟨sp 67 0 [sD 1 (D.l X0.D) bH,sI 5 a8,rx 6,bx 8,sD 28 (D.l X2.D) b9,sI 29 aA,sI 30 aN,sD 45 D.b aD],[rW 6 62 4 X0.D bI,cL 8 X2.D bV],[]⟩ (.normal,⟨sp 67 0 [sD 1 (D.l X0.D) bH,sI 5 a8,rx 6,sD 28 (D.l X2.D) b9,sI 29 aA,sI 30 aN],[rW 6 62 4 X0.D bK],[]⟩):=by unfold UE at h;apply g0 (o:=bK);cases aD;replace h:=CF h;exact lp h;replace h:=CG h;refine gQ (Ar X0.D [bV.value])<|gG 50 (.rwl ((bI++[bV.value]).map X0.D)) (Ar X0.D [bV.value]) ?_;obtain⟨h9,h⟩:=cS h;refine gQ (A6 X0.D h9)<|gQ (A5 X0.D bI [bV.value]) ?_;exact lP h [.live [1,5,6,28,29,30],.keep [50],.ren 50 6,.sort]
theorem aC7(rd:Option Nat)(h:aC6 bH a8 b9 aA aN bI=some bK):Lq 130 rd 1958 ⟨sp 67 0 [sD 1 (D.l X0.D) bH,sI 5 a8,rx 6,sD 28 (D.l X2.D) b9,sI 29 aA,sI 30 aN],[rW 6 62 4 X0.D bI],[]⟩ (.normal,⟨sp 67 0 [sD 1 (D.l X0.D) bH,sI 5 a8,rx 6,sD 28 (D.l X2.D) b9,sI 29 aA,sI 30 aN],[rW 6 62 4 X0.D bK],[]⟩):=by unfold aC6 at h;apply g0 (o:=bK);refine xX 32 X2.D h fun x4 h=> ?_;refine iB 39 h (fun h=> ?_) fun h=> ?_;obtain⟨r5,h7,h⟩:=bS h;refine gG 43 (.lend [6] (.d (D.b r5))) (aNn h7) ?_;obtain⟨o6,h10,h⟩:=bS h;refine gl (OS rd h10) ?_;exact lp h;obtain⟨o7,h11,h⟩:=bS h;refine gl (OS rd h11) ?_;exact lp h
def UF(s1:List X0)(s5:Int)(s28:List X2)(s29 s30:Int)(w6:List X0):St:=⟨sp 67 0 [sD 1 (D.l X0.D) s1,sI 5 s5,rx 6,sD 28 (D.l X2.D) s28,sI 29 s29,sI 30 s30],[rW 6 62 4 X0.D w6],[]⟩
def UG(s1:List X0)(s5:Int)(s28:List X2)(s29:Int)(o:(List X0)):Ex×St:=(.exit 0,⟨sp 67 0 [sD 1 (D.l X0.D) s1,sI 5 s5,rx 6],[rW 6 62 4 X0.D o],[]⟩)
theorem aDa(rd:Option Nat)(h:aC9 bH a8 b9 aA aN bI=some bK):Lq 130 rd 122 (UF bH a8 b9 aA aN bI) ((UG bH a8 b9 aA) bK):=
 lL (fun s:Int×List X0=>UF bH a8 b9 aA s.1 s.2) (UG bH a8 b9 aA) (aN,bI) (fun⟨aN,bI⟩ o h=>by
 unfold IB at h
 refine iB 31 h (fun h=> ?_) fun h=> ?_
 obtain⟨o8,h12,h⟩:=bS h
 refine gl (aC7 rd h12) ?_
 exact lb h
 exact lb h) h
theorem aC8(rd:Option Nat)(h:Pp aD bH aI=some bK):Lq 130 rd 251 ⟨sp 67 0 [rx 6,bx 9,sD 61 D.b aD],[(6,.row 62 4 (bH.map X0.D)),cL 9 X0.D aI],[]⟩ (.normal,⟨sp 67 0 [rx 6],[(6,.row 62 4 (bK.map X0.D))],[]⟩):=by unfold Pp at h;apply g0 (o:=bK);cases aD;replace h:=CF h;exact lp h;replace h:=CG h;refine gQ (Ar X0.D [aI])<|gG 65 (.sl ((bH++[aI]).map X0.D)) (Ar X0.D [aI]) ?_;obtain⟨h17,h⟩:=cS h;refine gQ (A6 X0.D h17)<|gQ (A5 X0.D bH [aI]) ?_;exact lP h [.live [6],.keep [65],.ren 65 6,.sort]
theorem aR6(h:Y0 bW bH=some bI):AL Tryz.prog 130 [.d (Xp.D bW),.d ((D.l X0.D) bH)] [] (.d ((D.l X0.D) bI)) []:=by unfold Y0 at h;apply g0 (o:=bI);refine gW 29 (.int (bW.b.length:Int))<|gW 54 (.fzn 6)<|xX 16 Xd.D h fun x1 h=> ?_;refine xX 21 dZ h fun x2 h=> ?_;obtain⟨r3,h3,h⟩:=bS h;refine gG 26 (.cx false [] [(0,26)] (.row 0) [rW 0 62 4 X0.D r3]) (aRm h3)<|gQ (ET X2.D bW.b) ?_;obtain⟨o9,h13,h⟩:=bS h;refine gL [.live [1,5,6,28,29,30],.keep [26],.ren 26 6,.sort] (aDa none h13)<|gQ (Ar (D.l X0.D) [o9,bH]) ?_;obtain⟨r10,h14,h⟩:=bS h;refine gC 57 (aRj h14) ?_;obtain⟨r11,h15,h⟩:=bS h;refine gC 58 (aR7 h15) ?_;obtain⟨o12,h18,h⟩:=bS h;refine gl (aC8 none h18) ?_;exact lf h
def Vg(s1:Int)(s8:List X2)(s9:Int)(w4:X0)(s10:Int):St:=⟨sp 22 0 [sI 1 s1,bx 4,sD 8 (D.l X2.D) s8,sI 9 s9,sI 10 s10],[cL 4 X0.D w4],[]⟩
def Vh(s1:Int)(s8:List X2)(s9:Int)(w4:X0)(o:Unit⊕X0):Ex×St:=match o with
 | .inl o=>(.exit 0,⟨sp 22 0 [bx 4],[cL 4 X0.D w4],[]⟩)
 | .inr o=>(.ret,⟨sp 22 0 [bx 4,sD 5 D.b true],[cL 4 X0.D o],[]⟩)
theorem aFu(rd:Option Nat)(h:aK5 a8 b9 aA aI aN=some bX):Lq 174 rd 26 (Vg a8 b9 aA aI aN) ((Vh a8 b9 aA aI) bX):=
 lL (fun s:Int=>Vg a8 b9 aA aI s) (Vh a8 b9 aA aI) aN (fun aN o h=>by
 unfold Id at h
 refine iB 11 h (fun h=> ?_) fun h=> ?_
 refine xX 12 X2.D h fun x1 h=> ?_
 refine iB 17 h (fun h=> ?_) fun h=> ?_
 exact lb h
 exact lb h
 exact lb h) h
theorem aTf(h:Z9 b9 a8=some bU):AL Tryz.prog 174 [.d ((D.l X2.D) b9),dI a8] [] (.tup [.d (X0.D bU.1),.d (D.b bU.2)]) []:=by
 unfold Z9 at h;apply g0 (o:=bU);refine gN 9 X2.D b9 ?_;obtain⟨o2,h4,h⟩:=bS h;refine gl (aFu none h4) ?_;replace h:=AK h;rcases h with⟨o3,rfl,h⟩|⟨o4,rfl,h⟩
 exact lf h;exact lf h
theorem aQr(h:Qo bW aW aI=some aD):AL Tryz.prog 154 [.d (Xp.D bW),.d (CE.D aW),.d (X0.D aI)] [] (.d (D.b aD)) []:=by unfold Qo at h;apply g0 (o:=aD);refine iB 11 h (fun h=> ?_) fun h=> ?_;exact lf h;refine iB 17 h (fun h=> ?_) fun h=> ?_;obtain⟨r1,h3,h⟩:=bS h;refine gC 24 (aTf h3) ?_;refine iB 28 h (fun h=> ?_) fun h=> ?_;exact lf h;exact lf h;exact lf h
theorem OW(rd:Option Nat)(h:Ua a8 aA bC aN aR aD bW aI=some bD):Lq 131 rd 15667 ⟨sp 42 0 [bx 2,bx 3,(5,.clo (.func 154) [] []),sD 6 dU a8,sI 7 aA,sD 11 (D.l X3.D) bC,sI 12 aN,sI 13 aR,sD 34 D.b aD],[cL 2 Xp.D bW,cL 3 X0.D aI],[]⟩ (.normal,⟨sp 42 0 [bx 2,bx 3,(5,.clo (.func 154) [] []),sD 6 dU bD,sD 11 (D.l X3.D) bC,sI 12 aN,sI 13 aR],[cL 2 Xp.D bW,cL 3 X0.D aI],[]⟩):=by unfold Ua at h;apply g0 (o:=bD);cases aD;replace h:=CF h;exact lp h;replace h:=CG h;obtain⟨h7,h⟩:=cS h;refine gQ h7 ?_;exact lp h
theorem aD7(rd:Option Nat)(h:aD6 a8 bC aA aN bW aI=some aR):Lq 131 rd 1958 ⟨sp 42 0 [bx 2,bx 3,(5,.clo (.func 154) [] []),sD 6 dU a8,sD 11 (D.l X3.D) bC,sI 12 aA,sI 13 aN],[cL 2 Xp.D bW,cL 3 X0.D aI],[]⟩ (.normal,⟨sp 42 0 [bx 2,bx 3,(5,.clo (.func 154) [] []),sD 6 dU aR,sD 11 (D.l X3.D) bC,sI 12 aA,sI 13 aN],[cL 2 Xp.D bW,cL 3 X0.D aI],[]⟩):=by unfold aD6 at h;apply g0 (o:=aR);refine xX 16 X3.D h fun x1 h=> ?_;refine iB 23 h (fun h=> ?_) fun h=> ?_;refine xX 30 CE.D h fun x2 h=> ?_;obtain⟨r3,h5,h⟩:=bS h;refine gC 33 (aQr h5) ?_;obtain⟨o4,h8,h⟩:=bS h;refine gl (OW rd h8) ?_;exact lp h;obtain⟨o5,h9,h⟩:=bS h;refine gl (OW rd h9) ?_;exact lp h
def Ub(s11:List X3)(s12:Int)(w2:Xp)(w3:X0)(s6 s13:Int):St:=⟨sp 42 0 [bx 2,bx 3,(5,.clo (.func 154) [] []),sD 6 dU s6,sD 11 (D.l X3.D) s11,sI 12 s12,sI 13 s13],[cL 2 Xp.D w2,cL 3 X0.D w3],[]⟩
def Uc(s11:List X3)(s12:Int)(w2:Xp)(w3:X0)(o:Int):Ex×St:=(.exit 0,⟨sp 42 0 [sD 6 dU o],[],[]⟩)
theorem aD8(rd:Option Nat)(h:aKh bC a8 bW aI aA aN=some aR):Lq 131 rd 122 (Ub bC a8 bW aI aA aN) ((Uc bC a8 bW aI) aR):=
 lL (fun s:Int×Int=>Ub bC a8 bW aI s.1 s.2) (Uc bC a8 bW aI) (aA,aN) (fun⟨aA,aN⟩ o h=>by
 unfold II at h
 refine iB 14 h (fun h=> ?_) fun h=> ?_
 obtain⟨o6,h10,h⟩:=bS h
 refine gl (aD7 rd h10) ?_
 exact lb h
 exact lb h) h
theorem aSf(h:Y9 bW aI=some a8):AL Tryz.prog 131 [.d (Xp.D bW),.d (X0.D aI)] [] (.d (dU a8)) []:=by unfold Y9 at h;apply g0 (o:=a8);refine gN 12 X3.D bW.q.symbols ?_;obtain⟨o7,h11,h⟩:=bS h;refine gl (aD8 none h11) ?_;exact lf h
def GU(clk:Nat)(es:List (Nat×Int×Bool))(us:List Value)(s8:Int)(s12:List X0)(s13 s14:Int)(w0:List (Int×Bool))(w3:Xp)(w5:List (Int×Bool))(sn:List Nat):St:=⟨sp 33 0 [rx 0,bx 3,rx 5,sD 8 dU s8,sD 12 (D.l X0.D) s12,sI 13 s13,sI 14 s14,bx 22],[(0,.map clk (dl dU D.b es)),cL 3 Xp.D w3,(5,.mapS (ms dU D.b w5)),(22,.mit 0 clk sn),(997,.vals [] us)],[]⟩
def GV(clk:Nat)(es:List (Nat×Int×Bool))(us:List Value)(s8:Int)(s12:List X0)(s13 s14:Int)(w0:List (Int×Bool))(w3:Xp)(o:(List (Int×Bool))):Ex×St:=(.exit 2,⟨sp 33 0 [rx 0,bx 3,rx 5,sD 12 (D.l X0.D) s12,sI 13 s13,sI 14 s14],[(0,.map clk (dl dU D.b es)),cL 3 Xp.D w3,(5,.mapS (ms dU D.b o)),(997,.vals [] us)],[]⟩)
def aJz(clk:Nat)(es:List (Nat×Int×Bool))(us:List Value)(s8:Int)(s12:List X0)(s13 s14:Int)(w0:List (Int×Bool))(w3:Xp)(w5:List (Int×Bool)):St:=⟨sp 33 0 [rx 0,bx 3,rx 5,sD 12 (D.l X0.D) s12,sI 13 s13,sI 14 s14],[(0,.map clk (dl dU D.b es)),cL 3 Xp.D w3,(5,.mapS (ms dU D.b w5)),(997,.vals [] us)],[]⟩
set_option maxRecDepth 100000 in
theorem TJ(rd:Option Nat)(us:List Value)(clk:Nat)(es:List (Nat×Int×Bool))(s8:Int)(s12:List X0)(s13 s14:Int)(w0:List (Int×Bool))(w3:Xp)(k:Int)(v:Bool)(w5:List (Int×Bool))(sn:List Nat)(st:Nat)(hm:(st,k,v)∈es)(o:(List (Int×Bool)))(h:GW s8 s12 s13 s14 w0 w3 k v w5=some o):Mf Tryz.prog rd (EE Tryz.prog 92) [0,1,1,1,0,0,1,1,0,0,1,0,1,1] ((⟨(GU clk es us s8 s12 s13 s14 w0 w3 w5 sn).E,Bt (GU clk es us s8 s12 s13 s14 w0 w3 w5 sn).B 22 (.mit 0 clk (sn++[st])),[]⟩:St).put (some 23) (.tup [bo true,.d (dU k),.d (D.b v)])) fun zx zs=>zx= .normal/\Wk zs ((fun s:(List (Int×Bool))=>GU clk es us s8 s12 s13 s14 w0 w3 s (sn++[st])) o):=by unfold GW at h;obtain rfl:=si h;exact FL mixed [(25,.en (dU k) (D.b v)),(10027,.ms (ms dU D.b (F4 (AA .and .u64 k s8) true w5)))] [] [.live [0,3,5,8,12,13,14,22],.keep [0,3,5,22,997]] (ai (Nf (fk:=dU) (fv:=D.b) (clk:=clk) (sn:=sn) hm) (ai (Nm (aIn Tryz.underlying56) D.b w5 (AA .and .u64 k s8) true) (ti))) (by kernel_rfl)
set_option maxRecDepth 100000 in
theorem TH(rd:Option Nat)(us:List Value)(clk:Nat)(es:List (Nat×Int×Bool))(s8:Int)(s12:List X0)(s13 s14:Int)(w0:List (Int×Bool))(w3:Xp)(w5:List (Int×Bool))(sn:List Nat):Mf Tryz.prog rd (EE Tryz.prog 92) [0,1,1,1,0,0,1,1,0,0,1,0,1,1] ((GU clk es us s8 s12 s13 s14 w0 w3 w5 sn).put (some 23) (.tup [bo false])) fun zx zs=>zx=(GV clk es us s8 s12 s13 s14 w0 w3 (KN s8 s12 s13 s14 w0 w3 w5)).1/\Wk zs (GV clk es us s8 s12 s13 s14 w0 w3 (KN s8 s12 s13 s14 w0 w3 w5)).2:=by refine Mf.wk (e:= .exit 2) (s1:=aJz clk es us s8 s12 s13 s14 w0 w3 w5) (FL mixed [] [] [.live [0,3,5,12,13,14],.keep [0,3,5,997]] (ti) (by kernel_rfl)) ?_;exact(Wk.canS 5 (by kernel_rfl) rfl)
set_option maxRecDepth 100000 in
theorem aBr(rd:Option Nat)(us:List Value)(clk:Nat)(es:List (Nat×Int×Bool))(s8:Int)(s12:List X0)(s13 s14:Int)(w0:List (Int×Bool))(w3:Xp)(w5:List (Int×Bool))(hp:(es.map (·.2)).Perm w0)(o:(List (Int×Bool)))(h:aJy s8 s12 s13 s14 w0 w3 w5=some o):FT Tryz.prog rd (EE Tryz.prog 92) [0,1,1,1,0,0,1,1,0,0,1,0,1,1] (GU clk es us s8 s12 s13 s14 w0 w3 w5 []) ((GV clk es us s8 s12 s13 s14 w0 w3) o).1 ((GV clk es us s8 s12 s13 s14 w0 w3) o).2:=
 Nb (fk:=dU) (fv:=D.b) (step:=(fun(x:Int×Bool) (s:(List (Int×Bool)))=>GW s8 s12 s13 s14 w0 w3 x.1 x.2 s)) (s0:=w5) 22 23 22 0 clk es (fun(sn:List Nat) (s:(List (Int×Bool)))=>GU clk es us s8 s12 s13 s14 w0 w3 s sn) (GV clk es us s8 s12 s13 s14 w0 w3) (by kernel_rfl) (Oz (by rfl)) (fun _ _=>by kernel_rfl) (fun _ _=>by kernel_rfl) (fun _ _=>by kernel_rfl) hp
  (fun sn s k v st a hm h=>TJ rd us clk es s8 s12 s13 s14 w0 w3 k v s sn st hm a h) (fun sn s hc=>hc▸TH rd us clk es s8 s12 s13 s14 w0 w3 s sn) h
theorem aBp(rd:Option Nat)(us:List Value)(h:aBo a8 bH aA aN bY bW bZ=some c9):Lq 92 rd 7475 ⟨sp 33 0 [rx 0,bx 3,rx 5,sD 8 dU a8,sD 12 (D.l X0.D) bH,sI 13 aA,sI 14 aN],[(0,.mapS (ms dU D.b bY)),cL 3 Xp.D bW,(5,.mapS (ms dU D.b bZ)),(997,.vals [] us)],[]⟩ (.normal,⟨sp 33 0 [rx 0,bx 3,rx 5,sD 12 (D.l X0.D) bH,sI 13 aA,sI 14 aN],[(0,.mapS (ms dU D.b bY)),cL 3 Xp.D bW,(5,.mapS (ms dU D.b c9)),(997,.vals [] us)],[]⟩):=by unfold aBo at h;obtain⟨o4,h5,h⟩:=bS h;obtain rfl:=si h;exact Arr.lp (Arr.exact (fk:=dU) (fv:=D.b) (S:=bY) 0 (by kernel_rfl) fun clk es hp=>Arr.setm (fk:=dU) (fv:=D.b) (S:=bY) (clk:=clk) (es:=es) 0 hp (by kernel_rfl) (by kernel_rfl) (F5 mixed [] [⟨[0,1,1,1,0,0,1,1,0,0,1,0,1,1],[.live [0,3,5,8,12,13,14,22],.keep [0,3,5,22,997]],.exit 2,(GV clk es us a8 bH aA aN bY bW o4).2⟩] [.live [0,3,5,12,13,14],.keep [0,3,5,997]] (ai (aBr rd us clk es a8 bH aA aN bY bW bZ hp o4 h5) (ti)) (by kernel_rfl)))
def TF(us:List Value)(s12:List X0)(s13:Int)(w0:List (Int×Bool))(w3:Xp)(s14:Int)(w5:List (Int×Bool)):St:=⟨sp 33 0 [rx 0,bx 3,rx 5,sD 12 (D.l X0.D) s12,sI 13 s13,sI 14 s14],[(0,.mapS (ms dU D.b w0)),cL 3 Xp.D w3,(5,.mapS (ms dU D.b w5)),(997,.vals [] us)],[]⟩
def TG(us:List Value)(s12:List X0)(s13:Int)(w0:List (Int×Bool))(w3:Xp)(o:(List (Int×Bool))):Ex×St:=(.exit 0,⟨sp 33 0 [rx 5],[(5,.mapS (ms dU D.b o)),(997,.vals [] us)],[]⟩)
theorem aBq(rd:Option Nat)(us:List Value)(h:aJx bH a8 bY bW aA bZ=some c9):Lq 92 rd 58 (TF us bH a8 bY bW aA bZ) ((TG us bH a8 bY bW) c9):=
 lL (fun s:Int×(List (Int×Bool))=>TF us bH a8 bY bW s.1 s.2) (TG us bH a8 bY bW) (aA,bZ) (fun⟨aA,bZ⟩ o h=>by
 unfold Hv at h
 refine iB 15 h (fun h=> ?_) fun h=> ?_
 refine xX 16 X0.D h fun x2 h=> ?_
 obtain⟨r3,h4,h⟩:=bS h
 refine gC 20 (aSf h4) ?_
 obtain⟨o5,h6,h⟩:=bS h
 refine gl (aBp rd us h6) ?_
 exact lb h
 exact lb h) h
theorem aRn(h:Xl bW bY=some c9):AL Tryz.prog 92 [.row 0,.d (Xp.D bW)] [(0,.mapS (ms dU D.b bY))] (.row 1) [(1,.mapS (ms dU D.b c9))]:=by unfold Xl at h;refine XG.call (ks:=[]) mixed fun us=> ?_;apply g0 (o:=c9);refine gW 10 .frz ?_;obtain⟨r1,h1,h⟩:=bS h;refine gC 12 (aR6 h1)<|gN 13 X0.D r1 ?_;obtain⟨o6,h7,h⟩:=bS h;refine gL [.live [0,3,5,12,13,14],.keep [0,3,10,997],.ren 10 5,.sort] (aBq none us h7) ?_;exact lX h [.live [4],.keep [5,997],.ren 5 1,.sort]
theorem aE4(rd:Option Nat)(h:Uy a8 aA aD=some bJ):Lq 107 rd 13 ⟨sp 25 0 [sD 0 dU a8,sI 2 aA,sD 4 D.b aD],[],[]⟩ (.normal,⟨sp 25 0 [sD 0 dU bJ.1,sI 2 bJ.2],[],[]⟩):=by unfold Uy at h;apply g0 (o:=bJ);cases aD;replace h:=CF h;exact lp h;replace h:=CG h;refine gQ (of_decide_eq_true rfl:(0:Int)<=32) ?_;exact lp h
theorem aE5(rd:Option Nat)(h:Uz a8 aA aD=some bJ):Lq 107 rd 29 ⟨sp 25 0 [sD 0 dU a8,sI 2 aA,sD 8 D.b aD],[],[]⟩ (.normal,⟨sp 25 0 [sD 0 dU bJ.1,sI 2 bJ.2],[],[]⟩):=by unfold Uz at h;apply g0 (o:=bJ);cases aD;replace h:=CF h;exact lp h;replace h:=CG h;refine gQ (of_decide_eq_true rfl:(0:Int)<=16) ?_;exact lp h
theorem aE6(rd:Option Nat)(h:U2 a8 aA aD=some bJ):Lq 107 rd 61 ⟨sp 25 0 [sD 0 dU a8,sI 2 aA,sD 14 D.b aD],[],[]⟩ (.normal,⟨sp 25 0 [sD 0 dU bJ.1,sI 2 bJ.2],[],[]⟩):=by unfold U2 at h;apply g0 (o:=bJ);cases aD;replace h:=CF h;exact lp h;replace h:=CG h;refine gQ (of_decide_eq_true rfl:(0:Int)<=8) ?_;exact lp h
theorem aSr(h:Yo a8=some aA):AL Tryz.prog 107 [.d (dU a8)] [] (dI aA) []:=by unfold Yo at h;apply g0 (o:=aA);obtain⟨o1,h2,h⟩:=bS h;refine gl (aE4 none h2) ?_;obtain⟨o2,h4,h⟩:=bS h;refine gl (aE5 none h4) ?_;obtain⟨o3,h6,h⟩:=bS h;refine gl (aE6 none h6)<|gG 21 (.int (u8w o3.1).toNat) (aI0 o3.1) ?_;obtain⟨x4,h7,h⟩:=xS h;refine gG 22 (.int x4.toNat) (Gh h7)<|gG 23 (.int x4.toNat) (Nu x4) ?_;exact lf h
theorem aJa(h:Q3 a8=some aA):AL Tryz.prog 73 [.d (dU a8)] [] (dI aA) []:=by unfold Q3 at h;apply g0 (o:=aA);obtain⟨r1,h1,h⟩:=bS h;refine gC 7 (aSr h1) ?_;exact lf h
theorem aNo(h:Q4 a8=some aD):AL Tryz.prog 178 [.d (dU a8)] [] (.d (D.b aD)) []:=by unfold Q4 at h;apply g0 (o:=aD);exact lf h
theorem Eo(h:Y6 a8 aA=some aD):AL Tryz.prog 161 [.d (dU a8),.d (dU aA)] [] (.d (D.b aD)) []:=by unfold Y6 at h;apply g0 (o:=aD);obtain⟨r1,h1,h⟩:=bS h;refine gQ (aNo h1) ?_;cases r1;replace h:=CF h;refine gW 6 (.ret (.d (D.b false))) ?_;exact lf h;replace h:=CG h;refine gW 6 (.ret (.d (D.b true))) ?_;obtain⟨r2,h3,h⟩:=bS h;refine gC 9 (aNo h3) ?_;refine iB 12 h (fun h=> ?_) fun h=> ?_;exact lf h;exact lf h
def To(us:List Value)(s1 s2:Int)(s6 s7:Int)(w0:List Int):St:=⟨sp 49 0 [rx 0,sI 1 s1,sI 2 s2,sI 6 s6,sI 7 s7],[rW 0 56 1 dU w0,(997,.vals [.row 0] us)],[]⟩
def Tp(us:List Value)(s1 s2 s6:Int)(o:(List Int)):Ex×St:=(.exit 2,⟨sp 49 0 [rx 0,sI 1 s1,sI 2 s2,sI 6 s6],[rW 0 56 1 dU o,(997,.vals [.row 0] us)],[]⟩)
theorem aCn(rd:Option Nat)(us:List Value)(h:Pl a8 aA aN aR aZ=some b6):Lq 155 rd 402 (To us a8 aA aN aR aZ) ((Tp us a8 aA aN) b6):=
 lL (fun s:Int×List Int=>To us a8 aA aN s.1 s.2) (Tp us a8 aA aN) (aR,aZ) (fun⟨aR,aZ⟩ o h=>by
 unfold El at h
 refine iB 19 h (fun h=> ?_) fun h=> ?_
 obtain⟨h3,h⟩:=cS h
 refine gQ h3.1<|gQ (AF dU h3.2) ?_
 obtain⟨x1,h4,h⟩:=xS h
 refine gG 23 (.el (dU x1)) (AG dU h4) ?_
 obtain⟨h5,h⟩:=cS h
 refine gQ h5.1<|gQ (AF dU h5.2) ?_
 obtain⟨x2,h6,h⟩:=xS h
 refine gG 28 (.el (dU x2)) (AG dU h6) ?_
 obtain⟨r3,h7,h⟩:=bS h
 refine gQ (Eo h7) ?_
 cases r3
 replace h:=CF h
 refine gW 29 (.ret (.d (D.b false))) ?_
 exact lb h
 replace h:=CG h
 refine gW 29 (.ret (.d (D.b true))) ?_
 obtain⟨h9,h⟩:=cS h
 refine gQ h9.1<|gQ (AF dU h9.2) ?_
 obtain⟨x4,h10,h⟩:=xS h
 refine gG 42 (.el (dU x4)) (AG dU h10)<|gW 10047 (.sl ((aZ.set aR.toNat x4).map dU)) ?_
 obtain⟨h11,h⟩:=cS h
 refine gQ h11.1<|gQ (AF dU h11.2) ?_
 obtain⟨x5,h12,h⟩:=xS h
 refine gG 46 (.el (dU x5)) (AG dU h12)<|gW 10048 (.sl (((aZ.set aR.toNat x4).set (AA .sub .i64 aR 1).toNat x5).map dU)) ?_
 obtain⟨h13,h⟩:=cS h
 refine gQ h13.1<|gQ (AF dU h13.2) ?_
 obtain⟨h14,h⟩:=cS h
 refine gQ (A9 dU h14)<|gQ (AT dU aZ aR x4) ?_
 obtain⟨h15,h⟩:=cS h
 refine gQ h15.1<|gQ (AF dU h15.2) ?_
 obtain⟨h16,h⟩:=cS h
 refine gQ (A9 dU h16)<|gQ (AT dU (aZ.set aR.toNat x4) (AA .sub .i64 aR 1) x5) ?_
 exact lb h
 exact lb h) h
def Tm(us:List Value)(s1 s2 s6:Int)(w0:List Int):St:=⟨sp 49 0 [rx 0,sI 1 s1,sI 2 s2,sI 6 s6],[rW 0 56 1 dU w0,(997,.vals [.row 0] us)],[]⟩
def Tn(us:List Value)(s1 s2:Int)(o:(List Int)):Ex×St:=(.exit 0,⟨sp 49 0 [],[rW 0 56 1 dU o,(997,.vals [.row 0] us)],[]⟩)
theorem aCm(rd:Option Nat)(us:List Value)(h:Pk a8 aA aN aZ=some b6):Lq 155 rd 6 (Tm us a8 aA aN aZ) ((Tn us a8 aA) b6):=
 lL (fun s:Int×List Int=>Tm us a8 aA s.1 s.2) (Tn us a8 aA) (aN,aZ) (fun⟨aN,aZ⟩ o h=>by
 unfold Ga at h
 refine iB 12 h (fun h=> ?_) fun h=> ?_
 obtain⟨o6,h17,h⟩:=bS h
 refine gl (aCn rd us h17) ?_
 exact lb h
 exact lb h) h
theorem aRx(h:Xu a8 aA aZ=some cA):AL Tryz.prog 155 [.row 0,dI a8,dI aA] [rW 0 56 1 dU aZ] (.tup []) [rW 0 56 1 dU cA]:=by unfold Xu at h;refine XG.call (ks:=[0]) mixed fun us=> ?_;apply g0 (o:=cA);obtain⟨o7,h18,h⟩:=bS h;refine gl (aCm none us h18) ?_;exact lX h (lv [] [0,997])
theorem OG(rd:Option Nat)(us:List Value)(h:KO a8 aA aN aR aD aZ=some bD):Lq 175 rd 397 ⟨sp 76 0 [rx 0,sI 2 a8,sI 3 aA,sI 8 aN,sI 9 aR,sD 36 D.b aD],[rW 0 56 1 dU aZ,(997,.vals [.row 0] us)],[]⟩ (.normal,⟨sp 76 0 [rx 0,sI 2 a8,sI 3 aA,sI 8 aN,sI 9 bD],[rW 0 56 1 dU aZ,(997,.vals [.row 0] us)],[]⟩):=by unfold KO at h;apply g0 (o:=bD);cases aD;replace h:=CF h;exact lp h;replace h:=CG h;exact lp h
theorem aBs(rd:Option Nat)(us:List Value)(h:JT a8 aA aN aZ=some cB):Lq 175 rd 12 ⟨sp 76 0 [rx 0,sI 2 a8,sI 3 aA,sI 8 aN],[rW 0 56 1 dU aZ,(997,.vals [.row 0] us)],[]⟩ (match (generalizing:=false) cB with
 | .inl cB=>(.normal,⟨sp 76 0 [rx 0,sI 2 a8,sI 3 aA,sI 8 cB.1],[rW 0 56 1 dU cB.2,(997,.vals [.row 0] us)],[]⟩)
 | .inr cB=>match (generalizing:=false) cB with
 | .inl cB=>(.exit 0,⟨sp 76 0 [],[rW 0 56 1 dU aZ,(997,.vals [.row 0] us)],[]⟩)
 | .inr cB=>(.ret,⟨sp 76 0 [],[rW 0 56 1 dU aZ,(997,.vals [.row 0] us)],[]⟩)):=by
 unfold JT at h
 apply g0 (o:=cB)
 refine iB 16 h (fun h=> ?_) fun h=> ?_
 exact lp h
 refine iB 21 h (fun h=> ?_) fun h=> ?_
 obtain⟨h3,h⟩:=cS h
 refine gQ h3.1<|gQ (AF dU h3.2) ?_
 obtain⟨x1,h4,h⟩:=xS h
 refine gG 27 (.el (dU x1)) (AG dU h4) ?_
 obtain⟨h5,h⟩:=cS h
 refine gQ h5.1<|gQ (AF dU h5.2) ?_
 obtain⟨x2,h6,h⟩:=xS h
 refine gG 34 (.el (dU x2)) (AG dU h6) ?_
 obtain⟨r3,h7,h⟩:=bS h
 refine gC 35 (Eo h7) ?_
 obtain⟨o4,h9,h⟩:=bS h
 refine gl (OG rd us h9) ?_
 obtain⟨h10,h⟩:=cS h
 refine gQ h10.1<|gQ (AF dU h10.2) ?_
 obtain⟨x5,h11,h⟩:=xS h
 refine gG 44 (.el (dU x5)) (AG dU h11) ?_
 obtain⟨h12,h⟩:=cS h
 refine gQ h12.1<|gQ (AF dU h12.2) ?_
 obtain⟨x6,h13,h⟩:=xS h
 refine gG 50 (.el (dU x6)) (AG dU h13) ?_
 obtain⟨r7,h14,h⟩:=bS h
 refine gC 51 (Eo h14) ?_
 refine iB 52 h (fun h=> ?_) fun h=> ?_
 exact lp h
 obtain⟨h16,h⟩:=cS h
 refine gQ h16.1<|gQ (AF dU h16.2) ?_
 obtain⟨x8,h17,h⟩:=xS h
 refine gG 66 (.el (dU x8)) (AG dU h17)<|gW 10073 (.sl ((aZ.set (AA .add .i64 aA aN).toNat x8).map dU)) ?_
 obtain⟨h18,h⟩:=cS h
 refine gQ h18.1<|gQ (AF dU h18.2) ?_
 obtain⟨x9,h19,h⟩:=xS h
 refine gG 72 (.el (dU x9)) (AG dU h19)<|gW 10074 (.sl (((aZ.set (AA .add .i64 aA aN).toNat x8).set (AA .add .i64 aA o4).toNat x9).map dU)) ?_
 obtain⟨h20,h⟩:=cS h
 refine gQ h20.1<|gQ (AF dU h20.2) ?_
 obtain⟨h21,h⟩:=cS h
 refine gQ (A9 dU h21)<|gQ (AT dU aZ (AA .add .i64 aA aN) x8) ?_
 obtain⟨h22,h⟩:=cS h
 refine gQ h22.1<|gQ (AF dU h22.2) ?_
 obtain⟨h23,h⟩:=cS h
 refine gQ (A9 dU h23)<|gQ (AT dU (aZ.set (AA .add .i64 aA aN).toNat x8) (AA .add .i64 aA o4) x9) ?_
 exact lp h
 obtain⟨o10,h24,h⟩:=bS h
 refine gl (OG rd us h24) ?_
 obtain⟨h25,h⟩:=cS h
 refine gQ h25.1<|gQ (AF dU h25.2) ?_
 obtain⟨x11,h26,h⟩:=xS h
 refine gG 44 (.el (dU x11)) (AG dU h26) ?_
 obtain⟨h27,h⟩:=cS h
 refine gQ h27.1<|gQ (AF dU h27.2) ?_
 obtain⟨x12,h28,h⟩:=xS h
 refine gG 50 (.el (dU x12)) (AG dU h28) ?_
 obtain⟨r13,h29,h⟩:=bS h
 refine gC 51 (Eo h29) ?_
 refine iB 52 h (fun h=> ?_) fun h=> ?_
 exact lp h
 obtain⟨h31,h⟩:=cS h
 refine gQ h31.1<|gQ (AF dU h31.2) ?_
 obtain⟨x14,h32,h⟩:=xS h
 refine gG 66 (.el (dU x14)) (AG dU h32)<|gW 10073 (.sl ((aZ.set (AA .add .i64 aA aN).toNat x14).map dU)) ?_
 obtain⟨h33,h⟩:=cS h
 refine gQ h33.1<|gQ (AF dU h33.2) ?_
 obtain⟨x15,h34,h⟩:=xS h
 refine gG 72 (.el (dU x15)) (AG dU h34)<|gW 10074 (.sl (((aZ.set (AA .add .i64 aA aN).toNat x14).set (AA .add .i64 aA o10).toNat x15).map dU)) ?_
 obtain⟨h35,h⟩:=cS h
 refine gQ h35.1<|gQ (AF dU h35.2) ?_
 obtain⟨h36,h⟩:=cS h
 refine gQ (A9 dU h36)<|gQ (AT dU aZ (AA .add .i64 aA aN) x14) ?_
 obtain⟨h37,h⟩:=cS h
 refine gQ h37.1<|gQ (AF dU h37.2) ?_
 obtain⟨h38,h⟩:=cS h
 refine gQ (A9 dU h38)<|gQ (AT dU (aZ.set (AA .add .i64 aA aN).toNat x14) (AA .add .i64 aA o10) x15) ?_
 exact lp h
def TK(us:List Value)(s2 s3 s8:Int)(w0:List Int):St:=⟨sp 76 0 [rx 0,sI 2 s2,sI 3 s3,sI 8 s8],[rW 0 56 1 dU w0,(997,.vals [.row 0] us)],[]⟩
def TL(us:List Value)(s2 s3:Int)(o:(List Int)⊕(List Int)):Ex×St:=match o with
 | .inl o=>(.exit 0,⟨sp 76 0 [],[rW 0 56 1 dU o,(997,.vals [.row 0] us)],[]⟩)
 | .inr o=>(.ret,⟨sp 76 0 [],[rW 0 56 1 dU o,(997,.vals [.row 0] us)],[]⟩)
theorem aBt(rd:Option Nat)(us:List Value)(h:Pe a8 aA aN aZ=some cC):Lq 175 rd 6 (TK us a8 aA aN aZ) ((TL us a8 aA) cC):=
 lL (fun s:Int×List Int=>TK us a8 aA s.1 s.2) (TL us a8 aA) (aN,aZ) (fun⟨aN,aZ⟩ o h=>by
 unfold EP at h
 obtain⟨o16,h39,h⟩:=bS h
 refine gl (aBs rd us h39) ?_
 replace h:=AK h
 rcases h with⟨o17,rfl,h⟩|⟨o18,rfl,h⟩
 exact lb h
 replace h:=AK h
 rcases h with⟨o19,rfl,h⟩|⟨o20,rfl,h⟩
 exact lb h
 exact lb h) h
theorem aN3(h:Xm a8 aA aN aZ=some cA):AL Tryz.prog 175 [.row 0,dI a8,dI aA,dI aN] [rW 0 56 1 dU aZ] (.tup []) [rW 0 56 1 dU cA]:=by
 unfold Xm at h;refine XG.call (ks:=[0]) mixed fun us=> ?_;apply g0 (o:=cA);obtain⟨o21,h40,h⟩:=bS h;refine gl (aBt none us h40) ?_;replace h:=AK h;rcases h with⟨o22,rfl,h⟩|⟨o23,rfl,h⟩
 exact lX h (lv [] [0,997]);exact lX h (lv [] [0,997])
def Tq(us:List Value)(s6 s7:Int)(s8 s9:Int)(w0:List Int):St:=⟨sp 56 0 [rx 0,sI 6 s6,sI 7 s7,sI 8 s8,sI 9 s9],[rW 0 56 1 dU w0,(997,.vals [.row 0] us)],[]⟩
def Tr(us:List Value)(s6 s7 s8:Int)(o:(List Int)):Ex×St:=(.exit 0,⟨sp 56 0 [rx 0,sI 6 s6,sI 7 s7,sI 8 s8],[rW 0 56 1 dU o,(997,.vals [.row 0] us)],[]⟩)
theorem aCo(rd:Option Nat)(us:List Value)(h:Pn a8 aA aN aR aZ=some b6):Lq 156 rd 122 (Tq us a8 aA aN aR aZ) ((Tr us a8 aA aN) b6):=
 lL (fun s:Int×List Int=>Tq us a8 aA aN s.1 s.2) (Tr us a8 aA aN) (aR,aZ) (fun⟨aR,aZ⟩ o h=>by
 unfold Gb at h
 refine iB 19 h (fun h=> ?_) fun h=> ?_
 obtain⟨r1,h2,h⟩:=bS h
 refine gG 26 (.cx false [(0,0)] [] (.tup []) [rW 0 56 1 dU r1]) (aN3 h2) ?_
 exact lb h
 exact lb h) h
def Ts(us:List Value)(s6 s7 s10:Int)(w0:List Int):St:=⟨sp 56 0 [rx 0,sI 6 s6,sI 7 s7,sI 10 s10],[rW 0 56 1 dU w0,(997,.vals [.row 0] us)],[]⟩
def Tt(us:List Value)(s6 s7:Int)(o:(List Int)):Ex×St:=(.exit 2,⟨sp 56 0 [],[rW 0 56 1 dU o,(997,.vals [.row 0] us)],[]⟩)
theorem aCp(rd:Option Nat)(us:List Value)(h:Po a8 aA aN aZ=some b6):Lq 156 rd 126 (Ts us a8 aA aN aZ) ((Tt us a8 aA) b6):=
 lL (fun s:Int×List Int=>Ts us a8 aA s.1 s.2) (Tt us a8 aA) (aN,aZ) (fun⟨aN,aZ⟩ o h=>by
 unfold Gc at h
 refine iB 30 h (fun h=> ?_) fun h=> ?_
 obtain⟨h5,h⟩:=cS h
 refine gQ h5.1<|gQ (AF dU h5.2) ?_
 obtain⟨x3,h6,h⟩:=xS h
 refine gG 44 (.el (dU x3)) (AG dU h6)<|gW 10049 (.sl ((aZ.set a8.toNat x3).map dU)) ?_
 obtain⟨h7,h⟩:=cS h
 refine gQ h7.1<|gQ (AF dU h7.2) ?_
 obtain⟨x4,h8,h⟩:=xS h
 refine gG 48 (.el (dU x4)) (AG dU h8)<|gW 10050 (.sl (((aZ.set a8.toNat x3).set (AA .add .i64 a8 aN).toNat x4).map dU)) ?_
 obtain⟨h9,h⟩:=cS h
 refine gQ h9.1<|gQ (AF dU h9.2) ?_
 obtain⟨h10,h⟩:=cS h
 refine gQ (A9 dU h10)<|gQ (AT dU aZ a8 x3) ?_
 obtain⟨h11,h⟩:=cS h
 refine gQ h11.1<|gQ (AF dU h11.2) ?_
 obtain⟨h12,h⟩:=cS h
 refine gQ (A9 dU h12)<|gQ (AT dU (aZ.set a8.toNat x3) (AA .add .i64 a8 aN) x4) ?_
 obtain⟨r5,h13,h⟩:=bS h
 refine gG 55 (.cx false [(0,0)] [] (.tup []) [rW 0 56 1 dU r5]) (aN3 h13) ?_
 exact lb h
 exact lb h) h
theorem aRy(h:Xv a8 aA aZ=some cA):AL Tryz.prog 156 [.row 0,dI a8,dI aA] [rW 0 56 1 dU aZ] (.tup []) [rW 0 56 1 dU cA]:=by unfold Xv at h;refine XG.call (ks:=[0]) mixed fun us=> ?_;apply g0 (o:=cA);refine gQ (of_decide_eq_true rfl:(2:Int)≠0) ?_;obtain⟨o2,h3,h⟩:=bS h;refine gl (aCo none us h3) ?_;obtain⟨o6,h14,h⟩:=bS h;refine gl (aCp none us h14) ?_;exact lX h (lv [] [0,997])
theorem aNq(h:Qc a8=some aA):AL Tryz.prog 135 [dI a8] [] (.d (dU aA)) []:=by unfold Qc at h;apply g0 (o:=aA);obtain⟨r1,h1,h⟩:=bS h;refine gC 5 (aJa h1) ?_;obtain⟨h2,h⟩:=cS h;refine gQ h2 ?_;exact lf h
theorem aNr(h:Qd a8=some aH):AL Tryz.prog 136 [.box 0 0] [(0,.cells ([.d (dU a8)]))] (.d (dU aH.1)) [(0,.cells ([.d (dU aH.2)]))]:=by unfold Qd at h;refine XG.call (ks:=[0]) mixed fun us=> ?_;apply g0 (o:=aH);refine gQ (of_decide_eq_true rfl:(0:Int)<=13)<|gQ (of_decide_eq_true rfl:(0:Int)<=7)<|gQ (of_decide_eq_true rfl:(0:Int)<=17) ?_;exact lX h (lv [2] [0,997])
theorem aB4(rd:Option Nat)(us:List Value)(h:Mz a8 aA aN aR bD aD aZ bE=some cD):Lq 157 rd 30501 ⟨sp 65 0 [rx 0,sI 1 a8,sI 6 aA,bx 7,sD 8 dU aN,sI 9 aR,sI 10 bD,sD 43 D.b aD],[rW 0 56 1 dU aZ,(7,.cells ([.d (dU bE)])),(997,.vals [.row 0] us)],[]⟩ (.normal,⟨sp 65 0 [rx 0,sI 1 a8,sI 6 aA,bx 7,sD 8 dU aN,sI 9 aR,sI 10 cD],[rW 0 56 1 dU aZ,(7,.cells ([.d (dU bE)])),(997,.vals [.row 0] us)],[]⟩):=by unfold Mz at h;apply g0 (o:=cD);cases aD;replace h:=CF h;exact lp h;replace h:=CG h;exact lp h
theorem aB3(rd:Option Nat)(us:List Value)(h:Pi a8 aA aN aR aZ bD=some cE):Lq 157 rd 1906 ⟨sp 65 0 [rx 0,sI 1 a8,sI 6 aA,bx 7,sD 8 dU aN,sI 9 aR],[rW 0 56 1 dU aZ,(7,.cells ([.d (dU bD)])),(997,.vals [.row 0] us)],[]⟩ (.normal,⟨sp 65 0 [rx 0,sI 1 a8,sI 6 aA,bx 7,sD 8 dU aN,sI 9 aR],[rW 0 56 1 dU cE.1,(7,.cells ([.d (dU cE.2)])),(997,.vals [.row 0] us)],[]⟩):=by unfold Pi at h;apply g0 (o:=cE);obtain⟨r2,h4,h⟩:=bS h;refine gG 36 (.cx false [(0,7)] [] (.d (dU r2.1)) [(0,.cells ([.d (dU r2.2)]))]) (aNr h4) ?_;obtain⟨o3,h6,h⟩:=bS h;refine gl (aB4 rd us h6) ?_;obtain⟨h7,h⟩:=cS h;refine gQ h7.1<|gQ (AF dU h7.2) ?_;obtain⟨x4,h8,h⟩:=xS h;refine gG 58 (.el (dU x4)) (AG dU h8)<|gW 10063 (.sl ((aZ.set aR.toNat x4).map dU)) ?_;obtain⟨h9,h⟩:=cS h;refine gQ h9.1<|gQ (AF dU h9.2) ?_;obtain⟨x5,h10,h⟩:=xS h;refine gG 62 (.el (dU x5)) (AG dU h10)<|gW 10064 (.sl (((aZ.set aR.toNat x4).set (AA .add .i64 a8 o3).toNat x5).map dU)) ?_;obtain⟨h11,h⟩:=cS h;refine gQ h11.1<|gQ (AF dU h11.2) ?_;obtain⟨h12,h⟩:=cS h;refine gQ (A9 dU h12)<|gQ (AT dU aZ aR x4) ?_;obtain⟨h13,h⟩:=cS h;refine gQ h13.1<|gQ (AF dU h13.2) ?_;obtain⟨h14,h⟩:=cS h;refine gQ (A9 dU h14)<|gQ (AT dU (aZ.set aR.toNat x4) (AA .add .i64 a8 o3) x5) ?_;exact lp h
def TW(us:List Value)(s1 s6:Int)(s8 s9:Int)(w0:List Int)(w7:Int):St:=⟨sp 65 0 [rx 0,sI 1 s1,sI 6 s6,bx 7,sD 8 dU s8,sI 9 s9],[rW 0 56 1 dU w0,(7,.cells ([.d (dU w7)])),(997,.vals [.row 0] us)],[]⟩
def TX(us:List Value)(s1 s6 s8:Int)(o:(List Int)):Ex×St:=(.exit 0,⟨sp 65 0 [],[rW 0 56 1 dU o,(997,.vals [.row 0] us)],[]⟩)
theorem aB5(rd:Option Nat)(us:List Value)(h:Pj a8 aA aN aR aZ bD=some b6):Lq 157 rd 238 (TW us a8 aA aN aR aZ bD) ((TX us a8 aA aN) b6):=
 lL (fun s:Int×List Int×Int=>TW us a8 aA aN s.1 s.2.1 s.2.2) (TX us a8 aA aN) (aR,aZ,bD) (fun⟨aR,aZ,bD⟩ o h=>by
 unfold GY at h
 refine gQ (of_decide_eq_true rfl:(4:Int)≠0) ?_
 refine iB 33 h (fun h=> ?_) fun h=> ?_
 obtain⟨o6,h15,h⟩:=bS h
 refine gl (aB3 rd us h15) ?_
 exact lb h
 exact lb h) h
theorem aB2(rd:Option Nat)(us:List Value)(h:Ph a8 aA aD aZ=some b6):Lq 157 rd 7 ⟨sp 65 0 [rx 0,sI 1 a8,sI 6 aA,sD 15 D.b aD],[rW 0 56 1 dU aZ,(997,.vals [.row 0] us)],[]⟩ (.normal,⟨sp 65 0 [],[rW 0 56 1 dU b6,(997,.vals [.row 0] us)],[]⟩):=by unfold Ph at h;apply g0 (o:=b6);cases aD;replace h:=CF h;exact lp h;replace h:=CG h;obtain⟨r1,h2,h⟩:=bS h;refine gC 19 (aNq h2)<|gQ (of_decide_eq_true rfl:(4:Int)≠0) ?_;obtain⟨o7,h16,h⟩:=bS h;refine gl (aB5 rd us h16) ?_;exact lp h
theorem aRs(h:Xq a8 aA aZ=some cA):AL Tryz.prog 157 [.row 0,dI a8,dI aA] [rW 0 56 1 dU aZ] (.tup []) [rW 0 56 1 dU cA]:=by unfold Xq at h;refine XG.call (ks:=[0]) mixed fun us=> ?_;apply g0 (o:=cA);obtain⟨o8,h17,h⟩:=bS h;refine gl (aB2 none us h17) ?_;exact lX h (lv [] [0,997])
theorem aLf(h:Zq aZ a8 aA aN=some aM):AL Tryz.prog 184 [.d ((D.l dU) aZ),dI a8,dI aA,.box 0 0] [(0,.cells ([dI aN]))] (.tup [dI aM.1,dI aM.2.1]) [(0,.cells ([dI aM.2.2]))]:=by unfold Zq at h;refine XG.call (ks:=[3]) mixed fun us=> ?_;apply g0 (o:=aM);refine xX 12 dU h fun x1 h=> ?_;refine xX 16 dU h fun x2 h=> ?_;obtain⟨r3,h3,h⟩:=bS h;refine gQ (Eo h3) ?_;cases r3;replace h:=CF h;refine gW 18 (.ret (.d (D.b false))) ?_;exact lX h (lv [8,9] [0,997]);replace h:=CG h;refine gW 18 (.ret (.d (D.b true))) ?_;exact lX h (lv [8,9] [0,997])
theorem aOs(h:Zx aZ a8 aA aN aR=some aH):AL Tryz.prog 177 [.d ((D.l dU) aZ),dI a8,dI aA,dI aN,.box 0 0] [(0,.cells ([dI aR]))] (dI aH.1) [(0,.cells ([dI aH.2]))]:=by unfold Zx at h;refine XG.call (ks:=[4]) mixed fun us=> ?_;apply g0 (o:=aH);obtain⟨r1,h1,h⟩:=bS h;refine gG 16 (.cx false [(0,0)] [] (.tup [dI r1.1,dI r1.2.1]) [(0,.cells ([dI r1.2.2]))]) (aLf h1) ?_;obtain⟨r2,h2,h⟩:=bS h;refine gG 24 (.cx false [(0,0)] [] (.tup [dI r2.1,dI r2.2.1]) [(0,.cells ([dI r2.2.2]))]) (aLf h2) ?_;obtain⟨r3,h3,h⟩:=bS h;refine gG 32 (.cx false [(0,0)] [] (.tup [dI r3.1,dI r3.2.1]) [(0,.cells ([dI r3.2.2]))]) (aLf h3) ?_;exact lX h (lv [10] [0,997])
theorem aLg(h:Zr aZ a8 aA=some aH):AL Tryz.prog 176 [.d ((D.l dU) aZ),dI a8,.box 0 0] [(0,.cells ([dI aA]))] (dI aH.1) [(0,.cells ([dI aH.2]))]:=by unfold Zr at h;refine XG.call (ks:=[2]) mixed fun us=> ?_;apply g0 (o:=aH);obtain⟨r1,h1,h⟩:=bS h;refine gG 14 (.cx false [(0,0)] [] (dI r1.1) [(0,.cells ([dI r1.2]))]) (aOs h1) ?_;exact lX h (lv [6] [0,997])
theorem aFa(rd:Option Nat)(h:M1 aZ a8 aA aN aD aR=some cF):Lq 158 rd 4073 ⟨sp 57 0 [sD 0 (D.l dU) aZ,bx 9,sI 10 a8,sI 11 aA,sI 12 aN,sD 34 D.b aD],[(9,.cells ([dI aR]))],[]⟩ (.normal,⟨sp 57 0 [sD 0 (D.l dU) aZ,bx 9,sI 10 cF.1,sI 11 cF.2.1,sI 12 cF.2.2.1],[(9,.cells ([dI cF.2.2.2]))],[]⟩):=by unfold M1 at h;apply g0 (o:=cF);cases aD;replace h:=CF h;exact lp h;replace h:=CG h;obtain⟨r1,h3,h⟩:=bS h;refine gG 37 (.cx false [(0,9)] [] (dI r1.1) [(0,.cells ([dI r1.2]))]) (aLg h3) ?_;obtain⟨r2,h4,h⟩:=bS h;refine gG 40 (.cx false [(0,9)] [] (dI r2.1) [(0,.cells ([dI r2.2]))]) (aLg h4) ?_;obtain⟨r3,h5,h⟩:=bS h;refine gG 43 (.cx false [(0,9)] [] (dI r3.1) [(0,.cells ([dI r3.2]))]) (aLg h5) ?_;exact lp h
theorem aE9(rd:Option Nat)(h:Pt aZ a8 aA aN aR aD bD=some bJ):Lq 158 rd 509 ⟨sp 57 0 [sD 0 (D.l dU) aZ,sI 8 a8,bx 9,sI 10 aA,sI 11 aN,sI 12 aR,sD 32 D.b aD],[(9,.cells ([dI bD]))],[]⟩ (.normal,⟨sp 57 0 [bx 9,sI 11 bJ.1],[(9,.cells ([dI bJ.2]))],[]⟩):=by unfold Pt at h;apply g0 (o:=bJ);cases aD;replace h:=CF h;exact lp h;replace h:=CG h;obtain⟨o4,h6,h⟩:=bS h;refine gl (aFa rd h6) ?_;obtain⟨r5,h7,h⟩:=bS h;refine gG 48 (.cx false [(0,9)] [] (dI r5.1) [(0,.cells ([dI r5.2]))]) (aOs h7) ?_;exact lp h
theorem aSt(h:Yr aZ a8 aA=some aH):AL Tryz.prog 158 [.d ((D.l dU) aZ),dI a8,dI aA] [] (.tup [dI aH.1,dI aH.2]) []:=by unfold Yr at h;apply g0 (o:=aH);refine gQ (of_decide_eq_true rfl:(4:Int)≠0)<|gQ (of_decide_eq_true rfl:(4:Int)≠0)<|gQ (of_decide_eq_true rfl:(4:Int)≠0) ?_;obtain⟨o6,h8,h⟩:=bS h;refine gl (aE9 none h8) ?_;refine iB 51 h (fun h=> ?_) fun h=> ?_;exact lf h;refine iB 54 h (fun h=> ?_) fun h=> ?_;exact lf h;exact lf h
def Us(us:List Value)(s6 s7:Int)(w0:List Int):St:=⟨sp 32 0 [rx 0,sI 6 s6,sI 7 s7],[rW 0 56 1 dU w0,(997,.vals [.row 0] us)],[]⟩
def Ut(us:List Value)(o:(List Int)):Ex×St:=(.exit 0,⟨sp 32 0 [],[rW 0 56 1 dU o,(997,.vals [.row 0] us)],[]⟩)
theorem aE0(rd:Option Nat)(us:List Value)(h:Ps a8 aA aZ=some b6):Lq 159 rd 14 (Us us a8 aA aZ) ((Ut us) b6):=
 lL (fun s:Int×Int×List Int=>Us us s.1 s.2.1 s.2.2) (Ut us) (a8,aA,aZ) (fun⟨a8,aA,aZ⟩ o h=>by
 unfold IN at h
 refine iB 13 h (fun h=> ?_) fun h=> ?_
 obtain⟨h2,h⟩:=cS h
 refine gQ h2.1<|gQ (AF dU h2.2) ?_
 obtain⟨x1,h3,h⟩:=xS h
 refine gG 21 (.el (dU x1)) (AG dU h3)<|gW 10026 (.sl ((aZ.set a8.toNat x1).map dU)) ?_
 obtain⟨h4,h⟩:=cS h
 refine gQ h4.1<|gQ (AF dU h4.2) ?_
 obtain⟨x2,h5,h⟩:=xS h
 refine gG 25 (.el (dU x2)) (AG dU h5)<|gW 10027 (.sl (((aZ.set a8.toNat x1).set aA.toNat x2).map dU)) ?_
 obtain⟨h6,h⟩:=cS h
 refine gQ h6.1<|gQ (AF dU h6.2) ?_
 obtain⟨h7,h⟩:=cS h
 refine gQ (A9 dU h7)<|gQ (AT dU aZ a8 x1) ?_
 obtain⟨h8,h⟩:=cS h
 refine gQ h8.1<|gQ (AF dU h8.2) ?_
 obtain⟨h9,h⟩:=cS h
 refine gQ (A9 dU h9)<|gQ (AT dU (aZ.set a8.toNat x1) aA x2) ?_
 exact lb h
 exact lb h) h
theorem aSm(h:Yl a8 aA aZ=some cA):AL Tryz.prog 159 [.row 0,dI a8,dI aA] [rW 0 56 1 dU aZ] (.tup []) [rW 0 56 1 dU cA]:=by unfold Yl at h;refine XG.call (ks:=[0]) mixed fun us=> ?_;apply g0 (o:=cA);obtain⟨o3,h10,h⟩:=bS h;refine gl (aE0 none us h10) ?_;exact lX h (lv [] [0,997])
def Ri(us:List Value)(s1 s2 s8:Int)(w0:List Int)(s7:Int):St:=⟨sp 133 0 [rx 0,sI 1 s1,sI 2 s2,sI 7 s7,sI 8 s8],[rW 0 56 1 dU w0,(997,.vals [.row 0] us)],[]⟩
def Rj(us:List Value)(s1 s2 s8:Int)(w0:List Int)(o:Int):Ex×St:=(.exit 2,⟨sp 133 0 [rx 0,sI 1 s1,sI 2 s2,sI 7 o,sI 8 s8],[rW 0 56 1 dU w0,(997,.vals [.row 0] us)],[]⟩)
theorem ZI(rd:Option Nat)(us:List Value)(h:PV a8 aA aN aZ aR=some bD):Lq 160 rd 3728 (Ri us a8 aA aN aZ aR) ((Rj us a8 aA aN aZ) bD):=
 lL (fun s:Int=>Ri us a8 aA aN aZ s) (Rj us a8 aA aN aZ) aR (fun aR o h=>by
 unfold GJ at h
 refine iB 20 h (fun h=> ?_) fun h=> ?_
 obtain⟨h3,h⟩:=cS h
 refine gQ h3.1<|gQ (AF dU h3.2) ?_
 obtain⟨x1,h4,h⟩:=xS h
 refine gG 24 (.el (dU x1)) (AG dU h4) ?_
 obtain⟨h5,h⟩:=cS h
 refine gQ h5.1<|gQ (AF dU h5.2) ?_
 obtain⟨x2,h6,h⟩:=xS h
 refine gG 29 (.el (dU x2)) (AG dU h6) ?_
 obtain⟨r3,h7,h⟩:=bS h
 refine gC 30 (Eo h7) ?_
 refine iB 32 h (fun h=> ?_) fun h=> ?_
 exact lb h
 exact lb h
 exact lb h) h
def Rk(us:List Value)(s1 s2:Int)(s7 s8 s9:Int)(w0:List Int):St:=⟨sp 133 0 [rx 0,sI 1 s1,sI 2 s2,sI 7 s7,sI 8 s8,sI 9 s9],[rW 0 56 1 dU w0,(997,.vals [.row 0] us)],[]⟩
def Rl(us:List Value)(s1 s2:Int)(s7 s8:Int)(o:(List Int)):Ex×St:=(.exit 4,⟨sp 133 0 [rx 0,sI 1 s1,sI 2 s2,sI 7 s7,sI 8 s8],[rW 0 56 1 dU o,(997,.vals [.row 0] us)],[]⟩)
theorem ZJ(rd:Option Nat)(us:List Value)(h:PW a8 aA aN aR bD aZ=some b6):Lq 160 rd 477674 (Rk us a8 aA aN aR bD aZ) ((Rl us a8 aA aN aR) b6):=
 lL (fun s:Int×List Int=>Rk us a8 aA aN aR s.1 s.2) (Rl us a8 aA aN aR) (bD,aZ) (fun⟨bD,aZ⟩ o h=>by
 unfold GK at h
 refine iB 65 h (fun h=> ?_) fun h=> ?_
 obtain⟨h22,h⟩:=cS h
 refine gQ h22.1<|gQ (AF dU h22.2) ?_
 obtain⟨x7,h23,h⟩:=xS h
 refine gG 71 (.el (dU x7)) (AG dU h23) ?_
 obtain⟨h24,h⟩:=cS h
 refine gQ h24.1<|gQ (AF dU h24.2) ?_
 obtain⟨x8,h25,h⟩:=xS h
 refine gG 76 (.el (dU x8)) (AG dU h25) ?_
 obtain⟨r9,h26,h⟩:=bS h
 refine gC 77 (Eo h26) ?_
 refine iB 78 h (fun h=> ?_) fun h=> ?_
 exact lb h
 obtain⟨h28,h⟩:=cS h
 refine gQ h28.1<|gQ (AF dU h28.2) ?_
 obtain⟨x10,h29,h⟩:=xS h
 refine gG 88 (.el (dU x10)) (AG dU h29)<|gW 10093 (.sl ((aZ.set bD.toNat x10).map dU)) ?_
 obtain⟨h30,h⟩:=cS h
 refine gQ h30.1<|gQ (AF dU h30.2) ?_
 obtain⟨x11,h31,h⟩:=xS h
 refine gG 92 (.el (dU x11)) (AG dU h31)<|gW 10094 (.sl (((aZ.set bD.toNat x10).set (AA .sub .i64 bD 1).toNat x11).map dU)) ?_
 obtain⟨h32,h⟩:=cS h
 refine gQ h32.1<|gQ (AF dU h32.2) ?_
 obtain⟨h33,h⟩:=cS h
 refine gQ (A9 dU h33)<|gQ (AT dU aZ bD x10) ?_
 obtain⟨h34,h⟩:=cS h
 refine gQ h34.1<|gQ (AF dU h34.2) ?_
 obtain⟨h35,h⟩:=cS h
 refine gQ (A9 dU h35)<|gQ (AT dU (aZ.set bD.toNat x10) (AA .sub .i64 bD 1) x11) ?_
 exact lb h
 exact lb h) h
theorem ZF(rd:Option Nat)(us:List Value)(h:Mn a8 aA aN aR aD aZ=some b6):Lq 160 rd 59709 ⟨sp 133 0 [rx 0,sI 1 a8,sI 2 aA,sI 7 aN,sI 8 aR,sD 61 D.b aD],[rW 0 56 1 dU aZ,(997,.vals [.row 0] us)],[]⟩ (.normal,⟨sp 133 0 [rx 0,sI 1 a8,sI 2 aA,sI 7 aN,sI 8 aR],[rW 0 56 1 dU b6,(997,.vals [.row 0] us)],[]⟩):=by unfold Mn at h;apply g0 (o:=b6);cases aD;replace h:=CF h;exact lp h;replace h:=CG h;obtain⟨o12,h36,h⟩:=bS h;refine gl (ZJ rd us h36) ?_;exact lp h
def Rm(us:List Value)(s1 s2:Int)(s7 s8 s10:Int)(w0:List Int):St:=⟨sp 133 0 [rx 0,sI 1 s1,sI 2 s2,sI 7 s7,sI 8 s8,sI 10 s10],[rW 0 56 1 dU w0,(997,.vals [.row 0] us)],[]⟩
def Rn(us:List Value)(s1 s2:Int)(s7 s8:Int)(o:(List Int)):Ex×St:=(.exit 6,⟨sp 133 0 [rx 0,sI 1 s1,sI 2 s2,sI 7 s7,sI 8 s8],[rW 0 56 1 dU o,(997,.vals [.row 0] us)],[]⟩)
theorem ZK(rd:Option Nat)(us:List Value)(h:PX a8 aA aN aR bD aZ=some b6):Lq 160 rd 477690 (Rm us a8 aA aN aR bD aZ) ((Rn us a8 aA aN aR) b6):=
 lL (fun s:Int×List Int=>Rm us a8 aA aN aR s.1 s.2) (Rn us a8 aA aN aR) (bD,aZ) (fun⟨bD,aZ⟩ o h=>by
 unfold GL at h
 refine iB 103 h (fun h=> ?_) fun h=> ?_
 obtain⟨h40,h⟩:=cS h
 refine gQ h40.1<|gQ (AF dU h40.2) ?_
 obtain⟨x14,h41,h⟩:=xS h
 refine gG 109 (.el (dU x14)) (AG dU h41) ?_
 obtain⟨h42,h⟩:=cS h
 refine gQ h42.1<|gQ (AF dU h42.2) ?_
 obtain⟨x15,h43,h⟩:=xS h
 refine gG 114 (.el (dU x15)) (AG dU h43) ?_
 obtain⟨r16,h44,h⟩:=bS h
 refine gC 115 (Eo h44) ?_
 refine iB 116 h (fun h=> ?_) fun h=> ?_
 exact lb h
 obtain⟨h46,h⟩:=cS h
 refine gQ h46.1<|gQ (AF dU h46.2) ?_
 obtain⟨x17,h47,h⟩:=xS h
 refine gG 126 (.el (dU x17)) (AG dU h47)<|gW 10131 (.sl ((aZ.set bD.toNat x17).map dU)) ?_
 obtain⟨h48,h⟩:=cS h
 refine gQ h48.1<|gQ (AF dU h48.2) ?_
 obtain⟨x18,h49,h⟩:=xS h
 refine gG 130 (.el (dU x18)) (AG dU h49)<|gW 10132 (.sl (((aZ.set bD.toNat x17).set (AA .sub .i64 bD 1).toNat x18).map dU)) ?_
 obtain⟨h50,h⟩:=cS h
 refine gQ h50.1<|gQ (AF dU h50.2) ?_
 obtain⟨h51,h⟩:=cS h
 refine gQ (A9 dU h51)<|gQ (AT dU aZ bD x17) ?_
 obtain⟨h52,h⟩:=cS h
 refine gQ h52.1<|gQ (AF dU h52.2) ?_
 obtain⟨h53,h⟩:=cS h
 refine gQ (A9 dU h53)<|gQ (AT dU (aZ.set bD.toNat x17) (AA .sub .i64 bD 1) x18) ?_
 exact lb h
 exact lb h) h
theorem ZG(rd:Option Nat)(us:List Value)(h:Mo a8 aA aN aR aD aZ=some b6):Lq 160 rd 59711 ⟨sp 133 0 [rx 0,sI 1 a8,sI 2 aA,sI 7 aN,sI 8 aR,sD 98 D.b aD],[rW 0 56 1 dU aZ,(997,.vals [.row 0] us)],[]⟩ (.normal,⟨sp 133 0 [rx 0,sI 1 a8,sI 2 aA,sI 7 aN,sI 8 aR],[rW 0 56 1 dU b6,(997,.vals [.row 0] us)],[]⟩):=by unfold Mo at h;apply g0 (o:=b6);cases aD;replace h:=CF h;exact lp h;replace h:=CG h;obtain⟨o19,h54,h⟩:=bS h;refine gl (ZK rd us h54) ?_;exact lp h
end Go.Ac
