/- Own work, printed: the functions compute these. -/
import Derived.Test.YtaacajciajkodaaGreatSh36a
import Derived.Test.YtaacajciajkodaaGreatProg
set_option linter.unusedVariables false
set_option linter.unusedSimpArgs false
namespace Go.Ac
open Go.Proofs
variable {a7:AD}
variable {a8 aA aN aR bB bC cB:Int}
variable {a9:Unit⊕Unit}
variable {aB:List (List UInt8)}
variable {aC aO:List UInt8}
variable {aD b8:Bool}
variable {aE:List Xl}
variable {aF:Unit⊕Int}
variable {aG:Unit⊕(Int×Int)}
variable {aH:Int×Int}
variable {aI aQ bP:X0}
variable {aJ:(List (List UInt8))⊕Unit}
variable {aK:X0×Int}
variable {aL:Int×Bool}
variable {aM:Int×Int×Int}
variable {aP:Unit⊕Bool}
variable {aS aX:X5}
variable {aT:Xr}
variable {aU:Int⊕Unit}
variable {aV:Fk}
variable {aW:Bz}
variable {aY:List Bool}
variable {aZ bZ:List Int}
variable {b6:(List Int)}
variable {b7:(List Bool×List Int)}
variable {b9:List X2}
variable {bA:List X5}
variable {bD:Unit}
variable {bE bG bK:List X0}
variable {bH:(Int×Int)}
variable {bI:(List X0)}
variable {bJ:Bool×List X0}
variable {bL:List X0×List X0}
variable {bM:List Bz}
variable {bN bO:List (List X0)}
variable {bQ:X0×Bool}
variable {bR:X2}
variable {bU:Xq}
variable {bV:Unit⊕X0}
variable {bW bX:List (Int×Bool)}
variable {bY:(List (Int×Bool))}
variable {c9:(Int×List Int)⊕(Unit⊕Unit)}
variable {cA:(List Int)⊕(List Int)}
variable {cC:(List Int×Int)}
variable {cD:(Int×Int×Int×Int)}
variable {cE:(Int×List Int)⊕Bool}
variable {cF:(List Int)⊕(Bool×List Int)}
variable {cG:Bool×List Int}
variable {cH:(Int×List Int)}
variable {cI:Int×List Int}
theorem mixed:Tryz.prog.follows .mixedOrders=true:=by kernel_rfl
theorem lB{β:Type}{ws:List (Nat×W)}{lw:List Lw}{Q:List Prop}{o v:β}{rd:Option Nat}{root:Code}{q:List Nat}{s:St}{E:β->Ex}{S:β->St}(h:some v=some o)(l:List Ws)(he:(cj Q True/\(E v=E v/\S v=S v))=TH Tryz.prog rd root ws lw q l s (E v) (S v):=by kernel_rfl):Gl ws lw Q (fun o=>Arr Tryz.prog rd root q s (E o) (S o)) o:=lB_ mixed h l he
theorem lP{β:Type}{ws:List (Nat×W)}{lw:List Lw}{Q:List Prop}{o v:β}{rd:Option Nat}{root:Code}{q:List Nat}{s:St}{E:β->Ex}{S:β->St}(h:some v=some o)(l:List Ws)(he:(cj Q True/\(E v=E v/\S v=S v))=TH Tryz.prog rd root ws lw q l s (E v) (S v):=by kernel_rfl):Gl ws lw Q (fun o=>Fi Tryz.prog rd root q s (E o) (S o)) o:=lP_ mixed h l he
theorem lb{β:Type}{ws:List (Nat×W)}{lw:List Lw}{Q:List Prop}{o v:β}{rd:Option Nat}{root:Code}{q:List Nat}{s:St}{E:β->Ex}{S:β->St}(h:some v=some o)(he:(cj Q True/\(E v=E v/\S v=S v))=TH Tryz.prog rd root ws lw q (lvS (S v)) s (E v) (S v):=by kernel_rfl):Gl ws lw Q (fun o=>Arr Tryz.prog rd root q s (E o) (S o)) o:=lB_ mixed h _ he
theorem lp{β:Type}{ws:List (Nat×W)}{lw:List Lw}{Q:List Prop}{o v:β}{rd:Option Nat}{root:Code}{q:List Nat}{s:St}{E:β->Ex}{S:β->St}(h:some v=some o)(he:(cj Q True/\(E v=E v/\S v=S v))=TH Tryz.prog rd root ws lw q (lvS (S v)) s (E v) (S v):=by kernel_rfl):Gl ws lw Q (fun o=>Fi Tryz.prog rd root q s (E o) (S o)) o:=lP_ mixed h _ he
theorem lF{β:Type}{ws:List (Nat×W)}{lw:List Lw}{Q:List Prop}{o v:β}{f:FuncId}{args:List A}{R:β->A}(h:some v=some o)(l:List Ws)(he:(cj Q True/\(R v=R v/\true=true))=aDa Tryz.prog f ws lw l args (R v):=by kernel_rfl):Gl ws lw Q (fun o=>AM Tryz.prog f args [] (R o) []) o:=lF_ mixed h l he
theorem lf{β:Type}{ws:List (Nat×W)}{lw:List Lw}{Q:List Prop}{o v:β}{f:FuncId}{args:List A}{R:β->A}(h:some v=some o)(he:(cj Q True/\(R v=R v/\true=true))=aDa Tryz.prog f ws lw [] args (R v):=by kernel_rfl):Gl ws lw Q (fun o=>AM Tryz.prog f args [] (R o) []) o:=lF_ mixed h [] he
abbrev Lq(n:Nat)(rd:Option Nat)(p:Nat)(s:St)(x:Ex×St):Prop:=Fi Tryz.prog rd (EN Tryz.prog n) (pth p) s x.1 x.2
theorem lI{β:Type}{ws:List (Nat×W)}{lw:List Lw}{Q:List Prop}{o v:β}{f:FuncId}{args:List A}{F0:Bx}(hF:Far F0){r:A}{F:β->Bx}(hc:∀f,∀p∈F f,∀m,p.2.has m=true->m∈AO (F f))(h:some v=some o)(l:List Ws)(he:(cj Q True/\(r=r/\F v=F v/\true=true))=aM8 Tryz.prog f ws lw l args F0 r (F v):=by kernel_rfl):Gl ws lw Q (fun o=>Lx Tryz.prog f args F0 r (F o)) o:=lI_ mixed hF hc h l he
theorem lX{β:Type}{ws:List (Nat×W)}{lw:List Lw}{Q:List Prop}{o v:β}{f:FuncId}{args:List A}{X:Bx}{ks:List Nat}{us:List Value}{R:β->A}{X1:β->Bx}(h:some v=some o)(l:List Ws)(he:(cj Q True/\(R v=R v/\X1 v++[(vx,.vals (JR args ks) us)]=X1 v++[(vx,.vals (JR args ks) us)]/\true=true))=aM9 Tryz.prog f ws lw l args X ks us (R v) (X1 v):=by kernel_rfl):Gl ws lw Q (fun o=>XG Tryz.prog f args X ks us (R o) (X1 o)) o:=lX_ h l he
theorem B0:NH Tryz.prog 73 X3.D:=bAk (x:=fun v=>v.a) (y:=fun v=>v.b) Tryz.underlying73 (by kernel_rfl) Tryz.underlying32 Tryz.underlying32 (by decide) (by decide) rfl rfl (fun _=>rfl) (fun a b h1 h2=>by cases a;cases b;simp only at h1 h2;subst h1;subst h2;rfl)
def Um(w1:AD)(s3:Int):St:=⟨sp 166 0 [bx 1,sI 3 s3],[cL 1 AD.D w1],[]⟩
def Un(w1:AD)(o:Unit⊕Unit):Ex×St:=match o with
 | .inl o=>(.exit 0,⟨sp 166 0 [bx 1],[cL 1 AD.D w1],[]⟩)
 | .inr o=>(.ret,⟨sp 166 0 [sI 2 0],[],[]⟩)
theorem aFo(rd:Option Nat)(h:aOt a7 a8=some a9):Lq 17 rd 58 (Um a7 a8) ((Un a7) a9):=
 lL (fun s:Int=>Um a7 s) (Un a7) a8 (fun a8 o h=>by
 unfold IE at h
 refine gN 58 Xl.D a7.decls ?_
 refine iB 59 h (fun h=>?_) fun h=>?_
 refine xX 65 Xl.D h fun x1 h=>?_
 refine gN 68 dZ x1.types ?_
 refine iB 70 h (fun h=>?_) fun h=>?_
 exact lb h
 refine xX 74 Xl.D h fun x2 h=>?_
 refine gG 77 (.int (x2.name.length:Int)) (CZ x2.name) ?_
 refine iB 79 h (fun h=>?_) fun h=>?_
 exact lb h
 exact lb h
 exact lb h) h
def Uq(s4:Int)(w1:AD)(s5:Int):St:=⟨sp 166 0 [bx 1,sI 4 s4,sI 5 s5],[cL 1 AD.D w1],[]⟩
def Ur(s4:Int)(w1:AD)(o:Unit⊕Unit):Ex×St:=match o with
 | .inl o=>(.exit 4,⟨sp 166 0 [bx 1,sI 4 s4],[cL 1 AD.D w1],[]⟩)
 | .inr o=>(.ret,⟨sp 166 0 [sI 2 0],[],[]⟩)
theorem aFq(rd:Option Nat)(h:aOv a8 a7 aA=some a9):Lq 17 rd 15654 (Uq a8 a7 aA) ((Ur a8 a7) a9):=
 lL (fun s:Int=>Uq a8 a7 s) (Ur a8 a7) aA (fun aA o h=>by
 unfold IG at h
 refine xX 99 X5.D h fun x7 h=>?_
 refine gN 102 Bz.D x7.args ?_
 refine iB 103 h (fun h=>?_) fun h=>?_
 refine xX 109 X5.D h fun x8 h=>?_
 refine xX 113 Bz.D h fun x9 h=>?_
 refine gG 117 (.int (x9.value.str.length:Int)) (CZ x9.value.str) ?_
 refine iB 118 h (fun h=>?_) fun h=>?_
 exact lb h
 exact lb h
 exact lb h) h
def Uo(w1:AD)(s4:Int):St:=⟨sp 166 0 [bx 1,sI 4 s4],[cL 1 AD.D w1],[]⟩
def Up(w1:AD)(o:Unit⊕Unit):Ex×St:=match o with
 | .inl o=>(.exit 2,⟨sp 166 0 [bx 1],[cL 1 AD.D w1],[]⟩)
 | .inr o=>(.ret,⟨sp 166 0 [sI 2 0],[],[]⟩)
theorem aFp(rd:Option Nat)(h:aOu a7 a8=some a9):Lq 17 rd 122 (Uo a7 a8) ((Up a7) a9):=
 lL (fun s:Int=>Uo a7 s) (Up a7) a8 (fun a8 o h=>by
 unfold IF at h
 refine gN 83 X5.D a7.symbols ?_
 refine iB 84 h (fun h=>?_) fun h=>?_
 refine xX 90 X5.D h fun x6 h=>?_
 refine gN 93 Bz.D x6.args ?_
 refine iB 94 h (fun h=>?_) fun h=>?_
 exact lb h
 obtain⟨o10,h23,h⟩:=bS h
 refine gl (aFq rd h23) ?_
 replace h:=AL h
 rcases h with⟨o11,rfl,h⟩|⟨o12,rfl,h⟩
 exact lb h
 exact lb h
 exact lb h) h
def Us(w1:AD)(s6:Int):St:=⟨sp 166 0 [bx 1,sI 6 s6],[cL 1 AD.D w1],[]⟩
def Ut(w1:AD)(o:Unit⊕Unit):Ex×St:=match o with
 | .inl o=>(.exit 6,⟨sp 166 0 [bx 1],[cL 1 AD.D w1],[]⟩)
 | .inr o=>(.ret,⟨sp 166 0 [sI 2 0],[],[]⟩)
theorem aFr(rd:Option Nat)(h:aOw a7 a8=some a9):Lq 17 rd 250 (Us a7 a8) ((Ut a7) a9):=
 lL (fun s:Int=>Us a7 s) (Ut a7) a8 (fun a8 o h=>by
 unfold IH at h
 refine gN 122 Yn.D a7.frees ?_
 refine iB 123 h (fun h=>?_) fun h=>?_
 refine xX 129 Yn.D h fun x16 h=>?_
 refine gG 133 (.int (x16.init_.str.length:Int)) (CZ x16.init_.str) ?_
 refine iB 134 h (fun h=>?_) fun h=>?_
 exact lb h
 exact lb h
 exact lb h) h
def Uu(w1:AD)(s7:Int):St:=⟨sp 166 0 [bx 1,sI 7 s7],[cL 1 AD.D w1],[]⟩
def Uv(w1:AD)(o:Unit⊕Unit):Ex×St:=match o with
 | .inl o=>(.exit 8,⟨sp 166 0 [bx 1],[cL 1 AD.D w1],[]⟩)
 | .inr o=>(.ret,⟨sp 166 0 [sI 2 0],[],[]⟩)
theorem aFs(rd:Option Nat)(h:aOx a7 a8=some a9):Lq 17 rd 506 (Uu a7 a8) ((Uv a7) a9):=
 lL (fun s:Int=>Uu a7 s) (Uv a7) a8 (fun a8 o h=>by
 unfold II at h
 refine gN 138 Yu.D a7.nodes ?_
 refine iB 139 h (fun h=>?_) fun h=>?_
 refine xX 145 Yu.D h fun x20 h=>?_
 refine gG 149 (.int (x20.value.str.length:Int)) (CZ x20.value.str) ?_
 refine iB 150 h (fun h=>?_) fun h=>?_
 exact lb h
 exact lb h
 exact lb h) h
def Uw(w1:AD)(s8:Int):St:=⟨sp 166 0 [bx 1,sI 8 s8],[cL 1 AD.D w1],[]⟩
def Ux(w1:AD)(o:Unit⊕Unit):Ex×St:=match o with
 | .inl o=>(.exit 10,⟨sp 166 0 [],[],[]⟩)
 | .inr o=>(.ret,⟨sp 166 0 [sI 2 0],[],[]⟩)
theorem aFt(rd:Option Nat)(h:aOy a7 a8=some a9):Lq 17 rd 1018 (Uw a7 a8) ((Ux a7) a9):=
 lL (fun s:Int=>Uw a7 s) (Ux a7) a8 (fun a8 o h=>by
 unfold IJ at h
 refine gN 154 Xr.D a7.trans ?_
 refine iB 155 h (fun h=>?_) fun h=>?_
 refine xX 161 Xr.D h fun x24 h=>?_
 refine gN 164 Fk.D x24.sets ?_
 refine iB 165 h (fun h=>?_) fun h=>?_
 exact lb h
 exact lb h
 exact lb h) h
theorem aVz(h:Xh a7=some a8):AM Tryz.prog 17 [.d (AD.D a7)] [] (dI a8) []:=by
 unfold Xh at h;apply g0 (o:=a8);refine gN 11 Xl.D a7.decls ?_;refine iB 13 h (fun h=>?_) fun h=>?_;exact lf h;refine gN 16 Yl.D a7.quants ?_;refine iB 19 h (fun h=>?_) fun h=>?_;exact lf h;refine gN 22 Yn.D a7.frees ?_;refine iB 25 h (fun h=>?_) fun h=>?_;exact lf h;refine gN 28 Xg.D a7.states ?_;refine iB 31 h (fun h=>?_) fun h=>?_;exact lf h;refine gN 34 X5.D a7.symbols ?_;refine iB 37 h (fun h=>?_) fun h=>?_;exact lf h;refine gN 40 Xr.D a7.trans ?_;refine iB 43 h (fun h=>?_) fun h=>?_;exact lf h;refine gN 46 Yu.D a7.nodes ?_;refine iB 49 h (fun h=>?_) fun h=>?_;exact lf h;refine gG 52 (.int (a7.name.length:Int)) (CZ a7.name) ?_;refine iB 54 h (fun h=>?_) fun h=>?_;exact lf h;obtain⟨o3,h14,h⟩:=bS h;refine gl (aFo none h14) ?_;replace h:=AL h;rcases h with⟨o4,rfl,h⟩|⟨o5,rfl,h⟩
 obtain⟨o13,h24,h⟩:=bS h;refine gl (aFp none h24) ?_;replace h:=AL h;rcases h with⟨o14,rfl,h⟩|⟨o15,rfl,h⟩
 obtain⟨o17,h28,h⟩:=bS h;refine gl (aFr none h28) ?_;replace h:=AL h;rcases h with⟨o18,rfl,h⟩|⟨o19,rfl,h⟩
 obtain⟨o21,h32,h⟩:=bS h;refine gl (aFs none h32) ?_;replace h:=AL h;rcases h with⟨o22,rfl,h⟩|⟨o23,rfl,h⟩
 obtain⟨o25,h36,h⟩:=bS h;refine gl (aFt none h36) ?_;replace h:=AL h;rcases h with⟨o26,rfl,h⟩|⟨o27,rfl,h⟩
 exact lf h;exact lf h;exact lf h;exact lf h;exact lf h;exact lf h
theorem aVd(h:Qn=some aB):AM Tryz.prog 75 [] [] (.d ((D.l D.s) aB)) []:=by unfold Qn at h;apply g0 (o:=aB);refine gQ (An D.s ([([97,99,99,101,112,116]:List UInt8),([97,108,115,111]:List UInt8),([97,110,100]:List UInt8),([98,111,111,108]:List UInt8),([100,111]:List UInt8),([101,118,101,110,116]:List UInt8),([101,120,105,115,116,115]:List UInt8),([102,97,108,115,101]:List UInt8),([102,111,114,97,108,108]:List UInt8),([102,114,101,101]:List UInt8),([105,102]:List UInt8),([105,110,116]:List UInt8),([110,101,120,116]:List UInt8),([110,111,116]:List UInt8),([111,110]:List UInt8),([111,114]:List UInt8),([113,101,97]:List UInt8),([115,107,105,112]:List UInt8),([115,116,97,114,116]:List UInt8),([115,116,114,105,110,103]:List UInt8),([116,111]:List UInt8),([116,114,117,101]:List UInt8)])) ?_;exact lf h
def YA(s0:List UInt8)(s3:Int):St:=⟨sp 55 0 [sD 0 D.s s0,sI 3 s3],[],[]⟩
def YB(s0:List UInt8)(o:Unit⊕Unit):Ex×St:=match o with
 | .inl o=>(.exit 0,⟨sp 55 0 [],[],[]⟩)
 | .inr o=>(.ret,⟨sp 55 0 [sD 2 D.b false],[],[]⟩)
theorem aKq(rd:Option Nat)(h:aPp aC a8=some a9):Lq 76 rd 58 (YA aC a8) ((YB aC) a9):=
 lL (fun s:Int=>YA aC s) (YB aC) a8 (fun a8 o h=>by
 unfold It at h
 refine gG 16 (.int (aC.length:Int)) (CZ aC) ?_
 refine iB 17 h (fun h=>?_) fun h=>?_
 obtain⟨x1,h4,h⟩:=xS h
 refine gG 22 (.int x1.toNat) (HB h4) ?_
 refine iB 25 h (fun h=>?_) fun h=>?_
 refine iB 29 h (fun h=>?_) fun h=>?_
 exact lb h
 refine iB 32 h (fun h=>?_) fun h=>?_
 refine iB 37 h (fun h=>?_) fun h=>?_
 exact lb h
 refine iB 43 h (fun h=>?_) fun h=>?_
 refine iB 46 h (fun h=>?_) fun h=>?_
 exact lb h
 refine iB 50 h (fun h=>?_) fun h=>?_
 exact lb h
 refine iB 54 h (fun h=>?_) fun h=>?_
 exact lb h
 exact lb h
 exact lb h
 refine iB 43 h (fun h=>?_) fun h=>?_
 refine iB 46 h (fun h=>?_) fun h=>?_
 exact lb h
 refine iB 50 h (fun h=>?_) fun h=>?_
 exact lb h
 refine iB 54 h (fun h=>?_) fun h=>?_
 exact lb h
 exact lb h
 exact lb h
 refine iB 32 h (fun h=>?_) fun h=>?_
 refine iB 37 h (fun h=>?_) fun h=>?_
 exact lb h
 refine iB 43 h (fun h=>?_) fun h=>?_
 refine iB 46 h (fun h=>?_) fun h=>?_
 exact lb h
 refine iB 50 h (fun h=>?_) fun h=>?_
 exact lb h
 refine iB 54 h (fun h=>?_) fun h=>?_
 exact lb h
 exact lb h
 exact lb h
 refine iB 43 h (fun h=>?_) fun h=>?_
 refine iB 46 h (fun h=>?_) fun h=>?_
 exact lb h
 refine iB 50 h (fun h=>?_) fun h=>?_
 exact lb h
 refine iB 54 h (fun h=>?_) fun h=>?_
 exact lb h
 exact lb h
 exact lb h
 exact lb h) h
theorem aX3(h:Z2 aC=some aD):AM Tryz.prog 76 [.d (D.s aC)] [] (.d (D.b aD)) []:=by
 unfold Z2 at h;apply g0 (o:=aD);refine gG 7 (.int (aC.length:Int)) (CZ aC) ?_;refine iB 9 h (fun h=>?_) fun h=>?_;exact lf h;refine gG 11 (.int (aC.length:Int)) (CZ aC) ?_;refine iB 13 h (fun h=>?_) fun h=>?_;exact lf h;obtain⟨o2,h27,h⟩:=bS h;refine gl (aKq none h27) ?_;replace h:=AL h;rcases h with⟨o3,rfl,h⟩|⟨o4,rfl,h⟩
 exact lf h;exact lf h
def XI(s0:List UInt8)(s3:List (List UInt8))(s4:Int):St:=⟨sp 24 0 [sD 0 D.s s0,sD 3 (D.l D.s) s3,sI 4 s4],[],[]⟩
def XJ(s0:List UInt8)(s3:List (List UInt8))(o:Unit⊕Unit):Ex×St:=match o with
 | .inl o=>(.exit 0,⟨sp 24 0 [sD 0 D.s s0],[],[]⟩)
 | .inr o=>(.ret,⟨sp 24 0 [sD 2 D.b false],[],[]⟩)
theorem aJ9(rd:Option Nat)(h:aPn aC aB a8=some a9):Lq 52 rd 58 (XI aC aB a8) ((XJ aC aB) a9):=
 lL (fun s:Int=>XI aC aB s) (XJ aC aB) a8 (fun a8 o h=>by
 unfold Io at h
 refine gN 8 D.s aB ?_
 refine iB 9 h (fun h=>?_) fun h=>?_
 refine xX 14 D.s h fun x2 h=>?_
 refine iB 17 h (fun h=>?_) fun h=>?_
 exact lb h
 exact lb h
 exact lb h) h
theorem aKa(h:Ys aC=some aD):AM Tryz.prog 52 [.d (D.s aC)] [] (.d (D.b aD)) []:=by
 unfold Ys at h;apply g0 (o:=aD);obtain⟨r1,h1,h⟩:=bS h;refine gC 5 (aVd h1) ?_;obtain⟨o3,h5,h⟩:=bS h;refine gl (aJ9 none h5) ?_;replace h:=AL h;rcases h with⟨o4,rfl,h⟩|⟨o5,rfl,h⟩
 obtain⟨r6,h6,h⟩:=bS h;refine gQ (aX3 h6) ?_;cases r6;replace h:=CJ h;refine gW 19 (.ret (.d (D.b false))) ?_;exact lf h;replace h:=CK h;refine gW 19 (.ret (.d (D.b true))) ?_;exact lf h;exact lf h
def YM(s0:List Xl)(s1:List UInt8)(s5:Int):St:=⟨sp 20 0 [sD 0 (D.l Xl.D) s0,sD 1 D.s s1,sI 5 s5],[],[]⟩
def YN(s0:List Xl)(s1:List UInt8)(o:Unit⊕Int):Ex×St:=match o with
 | .inl o=>(.exit 0,⟨sp 20 0 [],[],[]⟩)
 | .inr o=>(.ret,⟨sp 20 0 [sI 4 o],[],[]⟩)
theorem aKy(rd:Option Nat)(h:aPv aE aC a8=some aF):Lq 53 rd 26 (YM aE aC a8) ((YN aE aC) aF):=
 lL (fun s:Int=>YM aE aC s) (YN aE aC) a8 (fun a8 o h=>by
 unfold K4 at h
 refine gN 8 Xl.D aE ?_
 refine iB 9 h (fun h=>?_) fun h=>?_
 refine xX 14 Xl.D h fun x1 h=>?_
 refine iB 18 h (fun h=>?_) fun h=>?_
 exact lb h
 exact lb h
 exact lb h) h
theorem aYc(h:Z9 aE aC=some a8):AM Tryz.prog 53 [.d ((D.l Xl.D) aE),.d (D.s aC)] [] (dI a8) []:=by
 unfold Z9 at h;apply g0 (o:=a8);obtain⟨o2,h4,h⟩:=bS h;refine gl (aKy none h4) ?_;replace h:=AL h;rcases h with⟨o3,rfl,h⟩|⟨o4,rfl,h⟩
 exact lf h;exact lf h
def WR(s0:List Xl)(s4 s5:Int):St:=⟨sp 72 0 [sD 0 (D.l Xl.D) s0,sI 4 s4,sI 5 s5],[],[]⟩
def WS(s0:List Xl)(s4:Int)(o:Unit⊕Unit):Ex×St:=match o with
 | .inl o=>(.exit 2,⟨sp 72 0 [sD 0 (D.l Xl.D) s0,sI 4 s4],[],[]⟩)
 | .inr o=>(.ret,⟨sp 72 0 [sI 2 8,sI 3 s4],[],[]⟩)
theorem aIi(rd:Option Nat)(h:aIh aE a8 aA=some a9):Lq 37 rd 29854 (WR aE a8 aA) ((WS aE a8) a9):=
 lL (fun s:Int=>WR aE a8 s) (WS aE a8) aA (fun aA o h=>by
 unfold E0 at h
 refine xX 44 Xl.D h fun x6 h=>?_
 refine gN 47 dZ x6.types ?_
 refine iB 48 h (fun h=>?_) fun h=>?_
 refine xX 53 Xl.D h fun x7 h=>?_
 refine xX 57 dZ h fun x8 h=>?_
 refine iB 60 h (fun h=>?_) fun h=>?_
 exact lb h
 refine xX 63 Xl.D h fun x9 h=>?_
 refine xX 67 dZ h fun x10 h=>?_
 refine iB 70 h (fun h=>?_) fun h=>?_
 exact lb h
 exact lb h
 exact lb h) h
def WP(s0:List Xl)(s4:Int):St:=⟨sp 72 0 [sD 0 (D.l Xl.D) s0,sI 4 s4],[],[]⟩
def WQ(s0:List Xl)(o:Unit⊕(Int×Int)):Ex×St:=match o with
 | .inl o=>(.exit 0,⟨sp 72 0 [],[],[]⟩)
 | .inr o=>(.ret,⟨sp 72 0 [sI 2 o.1,sI 3 o.2],[],[]⟩)
theorem aIg(rd:Option Nat)(h:aIf aE a8=some aG):Lq 37 rd 58 (WP aE a8) ((WQ aE) aG):=
 lL (fun s:Int=>WP aE s) (WQ aE) a8 (fun a8 o h=>by
 unfold Ez at h
 refine gN 11 Xl.D aE ?_
 refine iB 12 h (fun h=>?_) fun h=>?_
 refine xX 17 Xl.D h fun x1 h=>?_
 obtain⟨r2,h4,h⟩:=bS h
 refine gC 20 (aKa h4) ?_
 refine iB 21 h (fun h=>?_) fun h=>?_
 exact lb h
 refine xX 26 Xl.D h fun x3 h=>?_
 obtain⟨r4,h7,h⟩:=bS h
 refine gC 29 (aYc h7) ?_
 refine iB 31 h (fun h=>?_) fun h=>?_
 exact lb h
 refine xX 35 Xl.D h fun x5 h=>?_
 refine gN 38 dZ x5.types ?_
 refine iB 39 h (fun h=>?_) fun h=>?_
 exact lb h
 obtain⟨o11,h19,h⟩:=bS h
 refine gl (aIi rd h19) ?_
 replace h:=AL h
 rcases h with⟨o12,rfl,h⟩|⟨o13,rfl,h⟩
 exact lb h
 exact lb h
 exact lb h) h
theorem aWy(h:Y6 aE=some aH):AM Tryz.prog 37 [.d ((D.l Xl.D) aE)] [] (.tup [dI aH.1,dI aH.2]) []:=by
 unfold Y6 at h;apply g0 (o:=aH);refine gN 7 Xl.D aE ?_;refine iB 8 h (fun h=>?_) fun h=>?_;exact lf h;obtain⟨o14,h20,h⟩:=bS h;refine gl (aIg none h20) ?_;replace h:=AL h;rcases h with⟨o15,rfl,h⟩|⟨o16,rfl,h⟩
 exact lf h;exact lf h
theorem aK9(h:Zn aI=some aD):AM Tryz.prog 54 [.d (X0.D aI)] [] (.d (D.b aD)) []:=by unfold Zn at h;apply g0 (o:=aD);refine iB 5 h (fun h=>?_) fun h=>?_;refine iB 9 h (fun h=>?_) fun h=>?_;exact lf h;exact lf h;refine iB 16 h (fun h=>?_) fun h=>?_;refine iB 20 h (fun h=>?_) fun h=>?_;refine iB 25 h (fun h=>?_) fun h=>?_;refine gG 28 (.int (aI.str.length:Int)) (CZ aI.str) ?_;exact lf h;exact lf h;exact lf h;refine iB 34 h (fun h=>?_) fun h=>?_;refine iB 39 h (fun h=>?_) fun h=>?_;exact lf h;exact lf h;exact lf h
def YO(s0:List (List UInt8))(s1 s5:Int):St:=⟨sp 20 0 [sD 0 (D.l D.s) s0,sI 1 s1,sI 5 s5],[],[]⟩
def YP(s0:List (List UInt8))(s1:Int)(o:Unit⊕Unit):Ex×St:=match o with
 | .inl o=>(.exit 0,⟨sp 20 0 [],[],[]⟩)
 | .inr o=>(.ret,⟨sp 20 0 [sD 4 D.b true],[],[]⟩)
theorem aKz(rd:Option Nat)(h:aS6 aB a8 aA=some a9):Lq 55 rd 26 (YO aB a8 aA) ((YP aB a8) a9):=
 lL (fun s:Int=>YO aB a8 s) (YP aB a8) aA (fun aA o h=>by
 unfold Ix at h
 refine iB 8 h (fun h=>?_) fun h=>?_
 refine xX 13 D.s h fun x1 h=>?_
 refine xX 17 D.s h fun x2 h=>?_
 refine iB 19 h (fun h=>?_) fun h=>?_
 exact lb h
 exact lb h
 exact lb h) h
theorem aS7(h:Za aB a8=some aD):AM Tryz.prog 55 [.d ((D.l D.s) aB),dI a8] [] (.d (D.b aD)) []:=by
 unfold Za at h;apply g0 (o:=aD);obtain⟨o3,h5,h⟩:=bS h;refine gl (aKz none h5) ?_;replace h:=AL h;rcases h with⟨o4,rfl,h⟩|⟨o5,rfl,h⟩
 exact lf h;exact lf h
def VT(w1:AD)(s4:Int)(w3:List (List UInt8)):St:=⟨sp 112 0 [bx 1,rx 3,sI 4 s4],[cL 1 AD.D w1,(3,.row 9 1 (w3.map D.s))],[]⟩
def VU(w1:AD)(o:(List (List UInt8))⊕Unit):Ex×St:=match o with
 | .inl o=>(.exit 0,⟨sp 112 0 [bx 1,rx 3],[cL 1 AD.D w1,(3,.row 9 1 (o.map D.s))],[]⟩)
 | .inr o=>(.ret,⟨sp 112 0 [sD 2 D.b false],[],[]⟩)
theorem aGx(rd:Option Nat)(h:aSm a7 a8 aB=some aJ):Lq 38 rd 58 (VT a7 a8 aB) ((VU a7) aJ):=
 lL (fun s:Int×List (List UInt8)=>VT a7 s.1 s.2) (VU a7) (a8,aB) (fun⟨a8,aB⟩ o h=>by
 unfold IR at h
 refine gN 12 Yl.D a7.quants ?_
 refine iB 13 h (fun h=>?_) fun h=>?_
 refine xX 20 Yl.D h fun x4 h=>?_
 refine gQ (An D.s [x4.name])<|gG 24 (.sl ((aB++[x4.name]).map D.s)) (An D.s [x4.name]) ?_
 obtain⟨h10,h⟩:=cS h
 refine gQ (Au D.s h10)<|gQ (At D.s aB [x4.name])<|xX 28 Yl.D h fun x5 h=>?_
 refine iB 32 h (fun h=>?_) fun h=>?_
 exact lb h
 refine xX 36 Yl.D h fun x6 h=>?_
 refine iB 40 h (fun h=>?_) fun h=>?_
 exact lb h
 exact lB h [.live [1,3,4],.keep [1,24],.ren 24 3,.sort]
 exact lb h) h
def VV(w1:AD)(s5:Int)(w3:List (List UInt8)):St:=⟨sp 112 0 [bx 1,rx 3,sI 5 s5],[cL 1 AD.D w1,(3,.row 9 1 (w3.map D.s))],[]⟩
def VW(w1:AD)(o:(List (List UInt8))⊕Unit):Ex×St:=match o with
 | .inl o=>(.exit 2,⟨sp 112 0 [bx 1,rx 3],[cL 1 AD.D w1,(3,.row 9 1 (o.map D.s))],[]⟩)
 | .inr o=>(.ret,⟨sp 112 0 [sD 2 D.b false],[],[]⟩)
theorem aGy(rd:Option Nat)(h:aSn a7 a8 aB=some aJ):Lq 38 rd 122 (VV a7 a8 aB) ((VW a7) aJ):=
 lL (fun s:Int×List (List UInt8)=>VV a7 s.1 s.2) (VW a7) (a8,aB) (fun⟨a8,aB⟩ o h=>by
 unfold IS at h
 refine gN 44 Yn.D a7.frees ?_
 refine iB 45 h (fun h=>?_) fun h=>?_
 refine xX 52 Yn.D h fun x10 h=>?_
 refine gQ (An D.s [x10.name])<|gG 56 (.sl ((aB++[x10.name]).map D.s)) (An D.s [x10.name]) ?_
 obtain⟨h18,h⟩:=cS h
 refine gQ (Au D.s h18)<|gQ (At D.s aB [x10.name])<|xX 60 Yn.D h fun x11 h=>?_
 obtain⟨r12,h20,h⟩:=bS h
 refine gC 63 (aK9 h20) ?_
 refine iB 64 h (fun h=>?_) fun h=>?_
 exact lb h
 exact lB h [.live [1,3,5],.keep [1,56],.ren 56 3,.sort]
 exact lb h) h
def VX(w1:AD)(w3:List (List UInt8))(s6:Int):St:=⟨sp 112 0 [bx 1,rx 3,sI 6 s6],[cL 1 AD.D w1,(3,.row 9 1 (w3.map D.s))],[]⟩
def VY(w1:AD)(w3:List (List UInt8))(o:Unit⊕Unit):Ex×St:=match o with
 | .inl o=>(.exit 4,⟨sp 112 0 [bx 1],[cL 1 AD.D w1],[]⟩)
 | .inr o=>(.ret,⟨sp 112 0 [sD 2 D.b false],[],[]⟩)
theorem aGz(rd:Option Nat)(h:aSo a7 aB a8=some a9):Lq 38 rd 250 (VX a7 aB a8) ((VY a7 aB) a9):=
 lL (fun s:Int=>VX a7 aB s) (VY a7 aB) a8 (fun a8 o h=>by
 unfold IT at h
 refine gN 67 D.s aB ?_
 refine iB 68 h (fun h=>?_) fun h=>?_
 refine xX 73 D.s h fun x16 h=>?_
 obtain⟨r17,h25,h⟩:=bS h
 refine gC 75 (aKa h25) ?_
 refine iB 77 h (fun h=>?_) fun h=>?_
 exact lb h
 obtain⟨r18,h27,h⟩:=bS h
 refine gQ (aS7 h27) ?_
 cases r18
 replace h:=CJ h
 refine gW 80 (.ret (.d (D.b false))) ?_
 exact lb h
 replace h:=CK h
 refine gW 80 (.ret (.d (D.b true))) ?_
 exact lb h
 exact lb h) h
def VZ(w1:AD)(s8:Int)(w7:List (List UInt8)):St:=⟨sp 112 0 [bx 1,rx 7,sI 8 s8],[cL 1 AD.D w1,(7,.row 9 1 (w7.map D.s))],[]⟩
def Va(w1:AD)(o:Unit⊕Unit):Ex×St:=match o with
 | .inl o=>(.exit 6,⟨sp 112 0 [bx 1],[cL 1 AD.D w1],[]⟩)
 | .inr o=>(.ret,⟨sp 112 0 [sD 2 D.b false],[],[]⟩)
theorem aG0(rd:Option Nat)(h:aSp a7 a8 aB=some a9):Lq 38 rd 1018 (VZ a7 a8 aB) ((Va a7) a9):=
 lL (fun s:Int×List (List UInt8)=>VZ a7 s.1 s.2) (Va a7) (a8,aB) (fun⟨a8,aB⟩ o h=>by
 unfold IU at h
 refine gN 85 Xg.D a7.states ?_
 refine iB 86 h (fun h=>?_) fun h=>?_
 refine xX 93 Xg.D h fun x26 h=>?_
 refine gQ (An D.s [x26.name])<|gG 97 (.sl ((aB++[x26.name]).map D.s)) (An D.s [x26.name]) ?_
 obtain⟨h40,h⟩:=cS h
 refine gQ (Au D.s h40)<|gQ (At D.s aB [x26.name])<|xX 100 D.s h fun x27 h=>?_
 obtain⟨r28,h42,h⟩:=bS h
 refine gC 102 (aKa h42) ?_
 refine iB 104 h (fun h=>?_) fun h=>?_
 exact lb h
 obtain⟨r29,h44,h⟩:=bS h
 refine gQ (aS7 h44) ?_
 cases r29
 replace h:=CJ h
 refine gW 107 (.ret (.d (D.b false))) ?_
 exact lB h [.live [1,7,8],.keep [1,97],.ren 97 7,.sort]
 replace h:=CK h
 refine gW 107 (.ret (.d (D.b true))) ?_
 exact lb h
 exact lb h) h
theorem aWd(h:Xs a7=some aD):AM Tryz.prog 38 [.d (AD.D a7)] [] (.d (D.b aD)) []:=by
 unfold Xs at h;apply g0 (o:=aD);obtain⟨o7,h15,h⟩:=bS h;refine gL [.live [1,3,4],.keep [1],.nil 3 3 9 1,.sort] (aGx none h15) ?_;replace h:=AL h;rcases h with⟨o8,rfl,h⟩|⟨o9,rfl,h⟩
 obtain⟨o13,h22,h⟩:=bS h;refine gl (aGy none h22) ?_;replace h:=AL h;rcases h with⟨o14,rfl,h⟩|⟨o15,rfl,h⟩
 obtain⟨o19,h29,h⟩:=bS h;refine gl (aGz none h29) ?_;replace h:=AL h;rcases h with⟨o20,rfl,h⟩|⟨o21,rfl,h⟩
 obtain⟨o30,h46,h⟩:=bS h;refine gL [.live [1,7,8],.keep [1],.nil 7 7 9 1,.sort] (aG0 none h46) ?_;replace h:=AL h;rcases h with⟨o31,rfl,h⟩|⟨o32,rfl,h⟩
 obtain⟨r33,h47,h⟩:=bS h;refine gC 111 (aKa h47) ?_;exact lf h;exact lf h;exact lf h;exact lf h;exact lf h
theorem K7(h:Zl aD=some aK):AM Tryz.prog 133 [.d (D.b aD)] [] (.tup [.d (X0.D aK.1),dI aK.2]) []:=by unfold Zl at h;apply g0 (o:=aK);exact lf h
theorem aU7(h:Qh a8 aA=some aL):AM Tryz.prog 137 [dI a8,dI aA] [] (.tup [dI aL.1,.d (D.b aL.2)]) []:=by unfold Qh at h;apply g0 (o:=aL);refine iB 8 h (fun h=>?_) fun h=>?_;refine iB 14 h (fun h=>?_) fun h=>?_;exact lf h;refine iB 17 h (fun h=>?_) fun h=>?_;refine iB 23 h (fun h=>?_) fun h=>?_;exact lf h;exact lf h;exact lf h;refine iB 17 h (fun h=>?_) fun h=>?_;refine iB 23 h (fun h=>?_) fun h=>?_;exact lf h;exact lf h;exact lf h
theorem aLb(h:Zx a8 aD=some aK):AM Tryz.prog 138 [dI a8,.d (D.b aD)] [] (.tup [.d (X0.D aK.1),dI aK.2]) []:=by unfold Zx at h;apply g0 (o:=aK);refine iB 7 h (fun h=>?_) fun h=>?_;exact lf h;exact lf h
theorem aLa(h:Zr a8 aA=some aL):AM Tryz.prog 139 [dI a8,dI aA] [] (.tup [dI aL.1,.d (D.b aL.2)]) []:=by unfold Zr at h;apply g0 (o:=aL);refine iB 8 h (fun h=>?_) fun h=>?_;refine iB 14 h (fun h=>?_) fun h=>?_;exact lf h;refine iB 17 h (fun h=>?_) fun h=>?_;refine iB 23 h (fun h=>?_) fun h=>?_;exact lf h;exact lf h;exact lf h;refine iB 17 h (fun h=>?_) fun h=>?_;refine iB 23 h (fun h=>?_) fun h=>?_;exact lf h;exact lf h;exact lf h
theorem aU8(h:Qi a8 aA=some aL):AM Tryz.prog 140 [dI a8,dI aA] [] (.tup [dI aL.1,.d (D.b aL.2)]) []:=by
 unfold Qi at h;apply g0 (o:=aL);refine iB 8 h (fun h=>?_) fun h=>?_;exact lf h;refine iB 11 h (fun h=>?_) fun h=>?_;exact lf h;refine iB 13 h (fun h=>?_) fun h=>?_;obtain⟨r1,h4,h⟩:=bS h;refine gC 15 (aLa h4) ?_;exact lf h;refine iB 19 h (fun h=>?_) fun h=>?_;obtain⟨r2,h6,h⟩:=bS h;refine gC 21 (aLa h6) ?_;exact lf h;rcases iS h with⟨h7,h⟩|⟨h7,h⟩
 refine gT 26 h7 ?_;rcases iS h with⟨h8,h⟩|⟨h8,h⟩
 refine gT 30 h8 ?_;obtain⟨h9,h⟩:=cS h;refine gQ h9 ?_;refine iB 36 h (fun h=>?_) fun h=>?_;exact lf h;refine gT 39 h7 ?_;rcases iS h with⟨h11,h⟩|⟨h11,h⟩
 refine gT 43 h11 ?_;obtain⟨h12,h⟩:=cS h;refine gQ h12 ?_;refine iB 50 h (fun h=>?_) fun h=>?_;exact lf h;rcases iS h with⟨h14,h⟩|⟨h14,h⟩
 refine gT 53 h14<|gT 57 h8 ?_;obtain⟨h15,h⟩:=cS h;refine gQ h15 ?_;refine iB 64 h (fun h=>?_) fun h=>?_;exact lf h;refine gT 67 h14<|gT 71 h11 ?_;obtain⟨h17,h⟩:=cS h;refine gQ h17 ?_;refine iB 77 h (fun h=>?_) fun h=>?_;exact lf h;exact lf h;refine gF 53 h14<|gF 67 h14 ?_;exact lf h;refine gF 43 h11 ?_;rcases iS h with⟨h19,h⟩|⟨h19,h⟩
 refine gT 53 h19<|gT 57 h8 ?_;obtain⟨h20,h⟩:=cS h;refine gQ h20 ?_;refine iB 64 h (fun h=>?_) fun h=>?_;exact lf h;refine gT 67 h19<|gF 71 h11 ?_;exact lf h;refine gF 53 h19<|gF 67 h19 ?_;exact lf h;refine gF 30 h8<|gT 39 h7 ?_;rcases iS h with⟨h22,h⟩|⟨h22,h⟩
 refine gT 43 h22 ?_;obtain⟨h23,h⟩:=cS h;refine gQ h23 ?_;refine iB 50 h (fun h=>?_) fun h=>?_;exact lf h;rcases iS h with⟨h25,h⟩|⟨h25,h⟩
 refine gT 53 h25<|gF 57 h8<|gT 67 h25<|gT 71 h22 ?_;obtain⟨h26,h⟩:=cS h;refine gQ h26 ?_;refine iB 77 h (fun h=>?_) fun h=>?_;exact lf h;exact lf h;refine gF 53 h25<|gF 67 h25 ?_;exact lf h;refine gF 43 h22 ?_;rcases iS h with⟨h28,h⟩|⟨h28,h⟩
 refine gT 53 h28<|gF 57 h8<|gT 67 h28<|gF 71 h22 ?_;exact lf h;refine gF 53 h28<|gF 67 h28 ?_;exact lf h;refine gF 26 h7<|gF 39 h7 ?_;rcases iS h with⟨h29,h⟩|⟨h29,h⟩
 refine gT 53 h29 ?_;refine iB 57 h (fun h=>?_) fun h=>?_;obtain⟨h31,h⟩:=cS h;refine gQ h31 ?_;refine iB 64 h (fun h=>?_) fun h=>?_;exact lf h;refine gT 67 h29 ?_;refine iB 71 h (fun h=>?_) fun h=>?_;obtain⟨h34,h⟩:=cS h;refine gQ h34 ?_;refine iB 77 h (fun h=>?_) fun h=>?_;exact lf h;exact lf h;exact lf h;refine gT 67 h29 ?_;refine iB 71 h (fun h=>?_) fun h=>?_;obtain⟨h37,h⟩:=cS h;refine gQ h37 ?_;refine iB 77 h (fun h=>?_) fun h=>?_;exact lf h;exact lf h;exact lf h;refine gF 53 h29<|gF 67 h29 ?_;exact lf h
theorem aU9(h:Qj a8 aA=some aM):AM Tryz.prog 141 [dI a8,dI aA] [] (.tup [dI aM.1,dI aM.2.1,dI aM.2.2]) []:=by unfold Qj at h;apply g0 (o:=aM);refine iB 10 h (fun h=>?_) fun h=>?_;exact lf h;refine iB 12 h (fun h=>?_) fun h=>?_;obtain⟨r1,h3,h⟩:=bS h;refine gC 15 (aLa h3) ?_;refine iB 19 h (fun h=>?_) fun h=>?_;exact lf h;exact lf h;obtain⟨h5,h⟩:=cS h;refine gQ h5 ?_;obtain⟨h6,h⟩:=cS h;refine gQ h6 ?_;exact lf h
theorem aTd(h:Zs a8 aA aN=some aK):AM Tryz.prog 134 [dI a8,dI aA,dI aN] [] (.tup [.d (X0.D aK.1),dI aK.2]) []:=by unfold Zs at h;apply g0 (o:=aK);refine iB 18 h (fun h=>?_) fun h=>?_;obtain⟨r1,h2,h⟩:=bS h;refine gC 22 (aU7 h2) ?_;obtain⟨r2,h3,h⟩:=bS h;refine gC 27 (aLb h3) ?_;exact lf h;refine iB 31 h (fun h=>?_) fun h=>?_;obtain⟨r3,h5,h⟩:=bS h;refine gC 35 (aLa h5) ?_;obtain⟨r4,h6,h⟩:=bS h;refine gC 40 (aLb h6) ?_;exact lf h;refine iB 44 h (fun h=>?_) fun h=>?_;obtain⟨r5,h8,h⟩:=bS h;refine gC 48 (aU8 h8) ?_;obtain⟨r6,h9,h⟩:=bS h;refine gC 53 (aLb h9) ?_;exact lf h;obtain⟨r7,h10,h⟩:=bS h;refine gC 59 (aU9 h10) ?_;refine iB 64 h (fun h=>?_) fun h=>?_;exact lf h;refine iB 67 h (fun h=>?_) fun h=>?_;exact lf h;obtain⟨r8,h13,h⟩:=bS h;refine gC 73 (aLb h13) ?_;exact lf h
def XO(s0 s1:List UInt8)(s5:Int):St:=⟨sp 37 0 [sD 0 D.s s0,sD 1 D.s s1,sI 5 s5],[],[]⟩
def XP(s0 s1:List UInt8)(o:Unit⊕Bool):Ex×St:=match o with
 | .inl o=>(.exit 0,⟨sp 37 0 [sD 0 D.s s0,sD 1 D.s s1],[],[]⟩)
 | .inr o=>(.ret,⟨sp 37 0 [sD 4 D.b o],[],[]⟩)
theorem aKh(rd:Option Nat)(h:aKg aC aO a8=some aP):Lq 125 rd 26 (XO aC aO a8) ((XP aC aO) aP):=
 lL (fun s:Int=>XO aC aO s) (XP aC aO) a8 (fun a8 o h=>by
 unfold G8 at h
 refine gG 8 (.int (aC.length:Int)) (CZ aC) ?_
 refine iB 10 h (fun h=>?_) fun h=>?_
 refine gG 13 (.int (aO.length:Int)) (CZ aO) ?_
 refine iB 15 h (fun h=>?_) fun h=>?_
 obtain⟨x1,h3,h⟩:=xS h
 refine gG 20 (.int x1.toNat) (HB h3) ?_
 obtain⟨x2,h4,h⟩:=xS h
 refine gG 23 (.int x2.toNat) (HB h4) ?_
 refine iB 24 h (fun h=>?_) fun h=>?_
 obtain⟨x3,h6,h⟩:=xS h
 refine gG 27 (.int x3.toNat) (HB h6) ?_
 obtain⟨x4,h7,h⟩:=xS h
 refine gG 30 (.int x4.toNat) (HB h7) ?_
 exact lb h
 exact lb h
 exact lb h
 exact lb h) h
theorem aXx(h:Yw aC aO=some aD):AM Tryz.prog 125 [.d (D.s aC),.d (D.s aO)] [] (.d (D.b aD)) []:=by
 unfold Yw at h;apply g0 (o:=aD);obtain⟨o5,h8,h⟩:=bS h;refine gl (aKh none h8) ?_;replace h:=AL h;rcases h with⟨o6,rfl,h⟩|⟨o7,rfl,h⟩
 refine gG 33 (.int (aC.length:Int)) (CZ aC)<|gG 35 (.int (aO.length:Int)) (CZ aO) ?_;exact lf h;exact lf h
theorem aP3(h:Zp aI aQ=some aD):AM Tryz.prog 104 [.d (X0.D aI),.d (X0.D aQ)] [] (.d (D.b aD)) []:=by unfold Zp at h;apply g0 (o:=aD);refine iB 9 h (fun h=>?_) fun h=>?_;exact lf h;refine iB 17 h (fun h=>?_) fun h=>?_;exact lf h;refine iB 25 h (fun h=>?_) fun h=>?_;obtain⟨r1,h4,h⟩:=bS h;refine gC 30 (aXx h4) ?_;exact lf h;refine iB 34 h (fun h=>?_) fun h=>?_;exact lf h;exact lf h
theorem aU0(h:Qa a8 aI aQ=some aK):AM Tryz.prog 126 [dI a8,.d (X0.D aI),.d (X0.D aQ)] [] (.tup [.d (X0.D aK.1),dI aK.2]) []:=by unfold Qa at h;apply g0 (o:=aK);refine iB 10 h (fun h=>?_) fun h=>?_;exact lf h;refine iB 13 h (fun h=>?_) fun h=>?_;exact lf h;refine iB 16 h (fun h=>?_) fun h=>?_;refine iB 19 h (fun h=>?_) fun h=>?_;exact lf h;obtain⟨r1,h5,h⟩:=bS h;refine gC 24 (K7 h5) ?_;exact lf h;refine iB 28 h (fun h=>?_) fun h=>?_;refine iB 31 h (fun h=>?_) fun h=>?_;exact lf h;obtain⟨r2,h8,h⟩:=bS h;refine gC 35 (aTd h8) ?_;exact lf h;refine iB 42 h (fun h=>?_) fun h=>?_;exact lf h;refine iB 45 h (fun h=>?_) fun h=>?_;obtain⟨r3,h11,h⟩:=bS h;refine gC 49 (K7 h11) ?_;exact lf h;refine iB 53 h (fun h=>?_) fun h=>?_;obtain⟨r4,h13,h⟩:=bS h;refine gC 57 (K7 h13) ?_;exact lf h;refine iB 62 h (fun h=>?_) fun h=>?_;refine iB 64 h (fun h=>?_) fun h=>?_;refine iB 67 h (fun h=>?_) fun h=>?_;obtain⟨r5,h17,h⟩:=bS h;refine gC 71 (K7 h17) ?_;exact lf h;obtain⟨r6,h18,h⟩:=bS h;refine gC 71 (K7 h18) ?_;exact lf h;refine iB 75 h (fun h=>?_) fun h=>?_;refine iB 78 h (fun h=>?_) fun h=>?_;obtain⟨r7,h21,h⟩:=bS h;refine gC 82 (K7 h21) ?_;exact lf h;obtain⟨r8,h22,h⟩:=bS h;refine gC 82 (K7 h22) ?_;exact lf h;exact lf h;refine iB 87 h (fun h=>?_) fun h=>?_;obtain⟨r9,h24,h⟩:=bS h;refine gC 90 (aP3 h24) ?_;obtain⟨r10,h25,h⟩:=bS h;refine gC 91 (K7 h25) ?_;exact lf h;refine iB 95 h (fun h=>?_) fun h=>?_;obtain⟨r11,h27,h⟩:=bS h;refine gC 98 (aP3 h27) ?_;obtain⟨r12,h28,h⟩:=bS h;refine gC 100 (K7 h28) ?_;exact lf h;refine iB 106 h (fun h=>?_) fun h=>?_;refine iB 110 h (fun h=>?_) fun h=>?_;refine iB 113 h (fun h=>?_) fun h=>?_;obtain⟨r13,h32,h⟩:=bS h;refine gC 119 (aTd h32) ?_;exact lf h;refine iB 125 h (fun h=>?_) fun h=>?_;refine iB 128 h (fun h=>?_) fun h=>?_;refine gG 131 (.int (aI.str.length:Int)) (CZ aI.str)<|gG 134 (.int (aQ.str.length:Int)) (CZ aQ.str) ?_;refine iB 136 h (fun h=>?_) fun h=>?_;exact lf h;refine gW 142 (.str (aI.str++aQ.str)) ?_;obtain⟨h36,h⟩:=cS h;refine gQ (Jl h36) ?_;exact lf h;exact lf h;exact lf h;refine iB 125 h (fun h=>?_) fun h=>?_;refine iB 128 h (fun h=>?_) fun h=>?_;refine gG 131 (.int (aI.str.length:Int)) (CZ aI.str)<|gG 134 (.int (aQ.str.length:Int)) (CZ aQ.str) ?_;refine iB 136 h (fun h=>?_) fun h=>?_;exact lf h;refine gW 142 (.str (aI.str++aQ.str)) ?_;obtain⟨h40,h⟩:=cS h;refine gQ (Jl h40) ?_;exact lf h;exact lf h;exact lf h;refine iB 125 h (fun h=>?_) fun h=>?_;refine iB 128 h (fun h=>?_) fun h=>?_;refine gG 131 (.int (aI.str.length:Int)) (CZ aI.str)<|gG 134 (.int (aQ.str.length:Int)) (CZ aQ.str) ?_;refine iB 136 h (fun h=>?_) fun h=>?_;exact lf h;refine gW 142 (.str (aI.str++aQ.str)) ?_;obtain⟨h44,h⟩:=cS h;refine gQ (Jl h44) ?_;exact lf h;exact lf h;exact lf h
theorem aTf(h:Zy a8 aA aN=some aR):AM Tryz.prog 106 [dI a8,dI aA,dI aN] [] (dI aR) []:=by unfold Zy at h;apply g0 (o:=aR);refine iB 11 h (fun h=>?_) fun h=>?_;exact lf h;refine iB 15 h (fun h=>?_) fun h=>?_;exact lf h;obtain⟨r1,h3,h⟩:=bS h;refine gC 22 (aU0 h3) ?_;refine iB 26 h (fun h=>?_) fun h=>?_;exact lf h;refine iB 28 h (fun h=>?_) fun h=>?_;exact lf h;exact lf h
theorem aPr(self:AD->Int->Option (Int×Int×Int))(hs:∀(a0:AD) (a1:Int) (r:Int×Int×Int),self a0 a1=some r->AM Tryz.prog 77 [.d (AD.D a0),dI a1] [] (.tup [dI r.1,dI r.2.1,dI r.2.2]) [])(a0:AD)(a1:Int)(r:Int×Int×Int)(h:aPq self a0 a1=some r):AM Tryz.prog 77 [.d (AD.D a0),dI a1] [] (.tup [dI r.1,dI r.2.1,dI r.2.2]) []:=by unfold aPq at h;apply g0 (o:=r);refine iB 17 h (fun h=>?_) fun h=>?_;exact lf h;refine gN 21 Yu.D a0.nodes ?_;refine iB 23 h (fun h=>?_) fun h=>?_;exact lf h;refine xX 27 Yu.D h fun x1 h=>?_;refine iB 32 h (fun h=>?_) fun h=>?_;refine iB 36 h (fun h=>?_) fun h=>?_;exact lf h;refine iB 41 h (fun h=>?_) fun h=>?_;exact lf h;obtain⟨r2,h7,h⟩:=bS h;refine gC 44 (aK9 h7) ?_;refine iB 46 h (fun h=>?_) fun h=>?_;exact lf h;exact lf h;refine iB 54 h (fun h=>?_) fun h=>?_;exact lf h;refine iB 57 h (fun h=>?_) fun h=>?_;refine iB 61 h (fun h=>?_) fun h=>?_;exact lf h;refine gN 66 Yl.D a0.quants ?_;refine iB 69 h (fun h=>?_) fun h=>?_;exact lf h;refine iB 73 h (fun h=>?_) fun h=>?_;exact lf h;refine xX 78 Yl.D h fun x3 h=>?_;exact lf h;refine iB 84 h (fun h=>?_) fun h=>?_;refine iB 88 h (fun h=>?_) fun h=>?_;exact lf h;refine gN 93 Yn.D a0.frees ?_;refine iB 96 h (fun h=>?_) fun h=>?_;exact lf h;refine iB 100 h (fun h=>?_) fun h=>?_;exact lf h;refine xX 105 Yn.D h fun x4 h=>?_;exact lf h;refine iB 113 h (fun h=>?_) fun h=>?_;exact lf h;refine iB 117 h (fun h=>?_) fun h=>?_;exact lf h;obtain⟨r5,h22,h⟩:=bS h;refine gG 122 (.ret (.tup [dI r5.1,dI r5.2.1,dI r5.2.2])) (hs a0 (AA .sub .i64 a1 1) r5 h22) ?_;refine iB 128 h (fun h=>?_) fun h=>?_;refine iB 131 h (fun h=>?_) fun h=>?_;exact lf h;refine iB 138 h (fun h=>?_) fun h=>?_;exact lf h;refine iB 142 h (fun h=>?_) fun h=>?_;exact lf h;obtain⟨r6,h27,h⟩:=bS h;refine gC 147 (aTf h27) ?_;exact lf h;refine iB 153 h (fun h=>?_) fun h=>?_;exact lf h;refine iB 160 h (fun h=>?_) fun h=>?_;exact lf h;refine iB 166 h (fun h=>?_) fun h=>?_;exact lf h;obtain⟨r7,h31,h⟩:=bS h;refine gG 171 (.ret (.tup [dI r7.1,dI r7.2.1,dI r7.2.2])) (hs a0 (AA .sub .i64 r5.2.2 1) r7 h31)<|gW 182 (.int (aNy r5.2.1 r7.2.1)) ?_;obtain⟨r8,h32,h⟩:=bS h;refine gC 179 (aTf h32)<|gQ (rfl:aNy r5.2.1 r7.2.1=aNy r5.2.1 r7.2.1) ?_;exact lf h
theorem YC:∀(n:Nat) (a0:AD) (a1:Int) (r:Int×Int×Int),aNd n a0 a1=some r->AM Tryz.prog 77 [.d (AD.D a0),dI a1] [] (.tup [dI r.1,dI r.2.1,dI r.2.2]) []
 |0,a0,a1,r,h=>by simp[aNd]at h
 |n+1,a0,a1,r,h=>aPr _ (YC n) a0 a1 r h
theorem aX4(h:Z3 a7 a8=some aM):AM Tryz.prog 77 [.d (AD.D a7),dI a8] [] (.tup [dI aM.1,dI aM.2.1,dI aM.2.2]) []:=YC 100000 a7 a8 aM h
theorem aR9(h:Q5 a7 a8 aA=some aH):AM Tryz.prog 56 [.d (AD.D a7),dI a8,dI aA] [] (.tup [dI aH.1,dI aH.2]) []:=by unfold Q5 at h;apply g0 (o:=aH);obtain⟨r1,h1,h⟩:=bS h;refine gC 14 (aX4 h1) ?_;refine iB 20 h (fun h=>?_) fun h=>?_;exact lf h;refine iB 24 h (fun h=>?_) fun h=>?_;exact lf h;exact lf h
def XY(s1:Int)(w2:X5)(s5:Int):St:=⟨sp 30 0 [sI 1 s1,bx 2,sI 5 s5],[cL 2 X5.D w2],[]⟩
def XZ(s1:Int)(w2:X5)(o:Unit⊕Unit):Ex×St:=match o with
 | .inl o=>(.exit 0,⟨sp 30 0 [],[],[]⟩)
 | .inr o=>(.ret,⟨sp 30 0 [sD 4 D.b true],[],[]⟩)
theorem aKn(rd:Option Nat)(h:aPo a8 aS aA=some a9):Lq 60 rd 26 (XY a8 aS aA) ((XZ a8 aS) a9):=
 lL (fun s:Int=>XY a8 aS s) (XZ a8 aS) aA (fun aA o h=>by
 unfold Is at h
 refine gN 9 Bz.D aS.args ?_
 refine iB 10 h (fun h=>?_) fun h=>?_
 refine xX 16 Bz.D h fun x1 h=>?_
 refine iB 20 h (fun h=>?_) fun h=>?_
 refine xX 24 Bz.D h fun x2 h=>?_
 refine iB 29 h (fun h=>?_) fun h=>?_
 exact lb h
 exact lb h
 exact lb h
 exact lb h) h
theorem aS2(h:Z0 aS a8=some aD):AM Tryz.prog 60 [.d (X5.D aS),dI a8] [] (.d (D.b aD)) []:=by
 unfold Z0 at h;apply g0 (o:=aD);obtain⟨o3,h6,h⟩:=bS h;refine gl (aKn none h6) ?_;replace h:=AL h;rcases h with⟨o4,rfl,h⟩|⟨o5,rfl,h⟩
 exact lf h;exact lf h
def YW(s3:Int)(w4:AD)(w5:X5)(s9:Int):St:=⟨sp 34 0 [sI 3 s3,bx 4,bx 5,sI 9 s9],[cL 4 AD.D w4,cL 5 X5.D w5],[]⟩
def YX(s3:Int)(w4:AD)(w5:X5)(o:Unit⊕Unit):Ex×St:=match o with
 | .inl o=>(.exit 0,⟨sp 34 0 [],[],[]⟩)
 | .inr o=>(.ret,⟨sp 34 0 [sD 8 D.b false],[],[]⟩)
theorem aK3(rd:Option Nat)(h:aPy a8 a7 aS aA=some a9):Lq 57 rd 26 (YW a8 a7 aS aA) ((YX a8 a7 aS) a9):=
 lL (fun s:Int=>YW a8 a7 aS s) (YX a8 a7 aS) aA (fun aA o h=>by
 unfold Iz at h
 refine iB 13 h (fun h=>?_) fun h=>?_
 refine xX 19 Yu.D h fun x1 h=>?_
 refine iB 23 h (fun h=>?_) fun h=>?_
 refine xX 28 Yu.D h fun x2 h=>?_
 obtain⟨r3,h5,h⟩:=bS h
 refine gC 31 (aS2 h5) ?_
 refine iB 33 h (fun h=>?_) fun h=>?_
 exact lb h
 exact lb h
 exact lb h
 exact lb h) h
theorem aYj(h:Ze a7 aS a8 aA=some aD):AM Tryz.prog 57 [.d (AD.D a7),.d (X5.D aS),dI a8,dI aA] [] (.d (D.b aD)) []:=by
 unfold Ze at h;apply g0 (o:=aD);obtain⟨o4,h7,h⟩:=bS h;refine gl (aK3 none h7) ?_;replace h:=AL h;rcases h with⟨o5,rfl,h⟩|⟨o6,rfl,h⟩
 exact lf h;exact lf h
theorem aIj(rd:Option Nat)(h:WT a8 aA aD a7 aT=some aU):Lq 39 rd 61 ⟨sp 153 0 [sI 2 a8,bx 3,bx 4,sI 8 aA,sD 56 D.b aD],[cL 3 AD.D a7,cL 4 Xr.D aT],[]⟩ (match (generalizing:=false) aU with
 | .inl aU=>(.normal,⟨sp 153 0 [sI 2 a8,bx 3,bx 4,sI 8 aU],[cL 3 AD.D a7,cL 4 Xr.D aT],[]⟩)
 | .inr aU=>(.ret,⟨sp 153 0 [sI 6 0,sD 7 D.b false],[],[]⟩)):=by
 unfold WT at h
 apply g0 (o:=aU)
 cases aD
 replace h:=CJ h
 exact lp h
 replace h:=CK h
 obtain⟨r1,h8,h⟩:=bS h
 refine gC 62 (aR9 h8) ?_
 refine iB 67 h (fun h=>?_) fun h=>?_
 exact lp h
 refine iB 70 h (fun h=>?_) fun h=>?_
 exact lp h
 exact lp h
def WW(s2 s11:Int)(w3:AD)(w4:Xr)(w12:Fk)(s15:Int):St:=⟨sp 153 0 [sI 2 s2,bx 3,bx 4,sI 11 s11,bx 12,sI 15 s15],[cL 3 AD.D w3,cL 4 Xr.D w4,cL 12 Fk.D w12],[]⟩
def WX(s2 s11:Int)(w3:AD)(w4:Xr)(w12:Fk)(o:Unit⊕Unit):Ex×St:=match o with
 | .inl o=>(.exit 2,⟨sp 153 0 [sI 2 s2,bx 3,bx 4,sI 11 s11,bx 12],[cL 3 AD.D w3,cL 4 Xr.D w4,cL 12 Fk.D w12],[]⟩)
 | .inr o=>(.ret,⟨sp 153 0 [sI 6 0,sD 7 D.b false],[],[]⟩)
theorem aIl(rd:Option Nat)(h:aO9 a8 aA a7 aT aV aN=some a9):Lq 39 rd 256314 (WW a8 aA a7 aT aV aN) ((WX a8 aA a7 aT aV) a9):=
 lL (fun s:Int=>WW a8 aA a7 aT aV s) (WX a8 aA a7 aT aV) aN (fun aN o h=>by
 unfold If at h
 refine iB 127 h (fun h=>?_) fun h=>?_
 refine xX 133 Fk.D h fun x8 h=>?_
 refine iB 138 h (fun h=>?_) fun h=>?_
 exact lb h
 exact lb h
 exact lb h) h
def WU(s2:Int)(w3:AD)(w4:Xr)(s8 s11:Int):St:=⟨sp 153 0 [sI 2 s2,bx 3,bx 4,sI 8 s8,sI 11 s11],[cL 3 AD.D w3,cL 4 Xr.D w4],[]⟩
def WV(s2:Int)(w3:AD)(w4:Xr)(o:Int⊕Unit):Ex×St:=match o with
 | .inl o=>(.exit 0,⟨sp 153 0 [sI 2 s2,bx 3,bx 4,sI 8 o],[cL 3 AD.D w3,cL 4 Xr.D w4],[]⟩)
 | .inr o=>(.ret,⟨sp 153 0 [sI 6 0,sD 7 D.b false],[],[]⟩)
theorem aIk(rd:Option Nat)(h:aO8 a8 a7 aT aA aN=some aU):Lq 39 rd 250 (WU a8 a7 aT aA aN) ((WV a8 a7 aT) aU):=
 lL (fun s:Int×Int=>WU a8 a7 aT s.1 s.2) (WV a8 a7 aT) (aA,aN) (fun⟨aA,aN⟩ o h=>by
 unfold Ie at h
 refine gN 77 Fk.D aT.sets ?_
 refine iB 78 h (fun h=>?_) fun h=>?_
 refine xX 84 Fk.D h fun x5 h=>?_
 obtain⟨r6,h14,h⟩:=bS h
 refine gC 91 (aR9 h14) ?_
 refine iB 97 h (fun h=>?_) fun h=>?_
 exact lb h
 refine gN 102 Yn.D a7.frees ?_
 refine iB 105 h (fun h=>?_) fun h=>?_
 exact lb h
 refine iB 109 h (fun h=>?_) fun h=>?_
 exact lb h
 refine iB 113 h (fun h=>?_) fun h=>?_
 exact lb h
 refine xX 119 Yn.D h fun x7 h=>?_
 refine iB 124 h (fun h=>?_) fun h=>?_
 exact lb h
 obtain⟨o9,h24,h⟩:=bS h
 refine gl (aIl rd h24) ?_
 replace h:=AL h
 rcases h with⟨o10,rfl,h⟩|⟨o11,rfl,h⟩
 exact lb h
 exact lb h
 exact lb h) h
theorem aWz(h:Y7 a7 aT a8=some aL):AM Tryz.prog 39 [.d (AD.D a7),.d (Xr.D aT),dI a8] [] (.tup [dI aL.1,.d (D.b aL.2)]) []:=by
 unfold Y7 at h;apply g0 (o:=aL);refine iB 19 h (fun h=>?_) fun h=>?_;exact lf h;refine gN 24 Xg.D a7.states ?_;refine iB 27 h (fun h=>?_) fun h=>?_;exact lf h;refine iB 32 h (fun h=>?_) fun h=>?_;exact lf h;refine gN 37 Xg.D a7.states ?_;refine iB 40 h (fun h=>?_) fun h=>?_;exact lf h;refine iB 45 h (fun h=>?_) fun h=>?_;exact lf h;refine gN 50 X5.D a7.symbols ?_;refine iB 52 h (fun h=>?_) fun h=>?_;exact lf h;obtain⟨o2,h11,h⟩:=bS h;refine gl (aIj none h11) ?_;replace h:=AL h;rcases h with⟨o3,rfl,h⟩|⟨o4,rfl,h⟩
 obtain⟨o12,h25,h⟩:=bS h;refine gl (aIk none h25) ?_;replace h:=AL h;rcases h with⟨o13,rfl,h⟩|⟨o14,rfl,h⟩
 refine xX 148 X5.D h fun x15 h=>?_;obtain⟨r16,h27,h⟩:=bS h;refine gC 152 (aYj h27) ?_;exact lf h;exact lf h;exact lf h
theorem aU2(h:Qb a7 aW a8=some aD):AM Tryz.prog 78 [.d (AD.D a7),.d (Bz.D aW),dI a8] [] (.d (D.b aD)) []:=by unfold Qb at h;apply g0 (o:=aD);refine iB 11 h (fun h=>?_) fun h=>?_;refine iB 15 h (fun h=>?_) fun h=>?_;obtain⟨r1,h3,h⟩:=bS h;refine gQ (aK9 h3) ?_;cases r1;replace h:=CJ h;refine gW 18 (.ret (.d (D.b false))) ?_;exact lf h;replace h:=CK h;refine gW 18 (.ret (.d (D.b true))) ?_;exact lf h;exact lf h;refine iB 30 h (fun h=>?_) fun h=>?_;exact lf h;refine iB 33 h (fun h=>?_) fun h=>?_;refine iB 37 h (fun h=>?_) fun h=>?_;refine gN 42 Yl.D a7.quants ?_;refine iB 45 h (fun h=>?_) fun h=>?_;refine xX 50 Yl.D h fun x2 h=>?_;exact lf h;exact lf h;exact lf h;refine iB 58 h (fun h=>?_) fun h=>?_;refine iB 62 h (fun h=>?_) fun h=>?_;refine gN 67 Yn.D a7.frees ?_;refine iB 70 h (fun h=>?_) fun h=>?_;refine xX 75 Yn.D h fun x3 h=>?_;exact lf h;exact lf h;exact lf h;refine iB 85 h (fun h=>?_) fun h=>?_;exact lf h;exact lf h
def YQ(w2:AD)(w3:X5)(s5:Int):St:=⟨sp 56 0 [bx 2,bx 3,sI 5 s5],[cL 2 AD.D w2,cL 3 X5.D w3],[]⟩
def YR(w2:AD)(w3:X5)(o:Unit⊕Unit):Ex×St:=match o with
 | .inl o=>(.exit 0,⟨sp 56 0 [],[],[]⟩)
 | .inr o=>(.ret,⟨sp 56 0 [sD 4 D.b false],[],[]⟩)
theorem aK0(rd:Option Nat)(h:aS8 a7 aS a8=some a9):Lq 58 rd 58 (YQ a7 aS a8) ((YR a7 aS) a9):=
 lL (fun s:Int=>YQ a7 aS s) (YR a7 aS) a8 (fun a8 o h=>by
 unfold Iy at h
 refine gN 34 Bz.D aS.args ?_
 refine iB 35 h (fun h=>?_) fun h=>?_
 refine xX 42 Bz.D h fun x2 h=>?_
 refine xX 48 Xl.D h fun x3 h=>?_
 refine xX 52 dZ h fun x4 h=>?_
 obtain⟨r5,h9,h⟩:=bS h
 refine gC 54 (aU2 h9) ?_
 refine iB 55 h (fun h=>?_) fun h=>?_
 exact lb h
 exact lb h
 exact lb h) h
theorem aYe(h:Zb a7 aS=some aD):AM Tryz.prog 58 [.d (AD.D a7),.d (X5.D aS)] [] (.d (D.b aD)) []:=by
 unfold Zb at h;apply g0 (o:=aD);refine iB 9 h (fun h=>?_) fun h=>?_;exact lf h;refine gN 14 Xl.D a7.decls ?_;refine iB 17 h (fun h=>?_) fun h=>?_;exact lf h;refine gN 20 Bz.D aS.args<|xX 25 Xl.D h fun x1 h=>?_;refine gN 28 dZ x1.types ?_;refine iB 30 h (fun h=>?_) fun h=>?_;exact lf h;obtain⟨o6,h11,h⟩:=bS h;refine gl (aK0 none h11) ?_;replace h:=AL h;rcases h with⟨o7,rfl,h⟩|⟨o8,rfl,h⟩
 exact lf h;exact lf h
def ZE(w2 w3:X5)(s5:Int):St:=⟨sp 38 0 [bx 2,bx 3,sI 5 s5],[cL 2 X5.D w2,cL 3 X5.D w3],[]⟩
def ZF(w2 w3:X5)(o:Unit⊕Unit):Ex×St:=match o with
 | .inl o=>(.exit 0,⟨sp 38 0 [],[],[]⟩)
 | .inr o=>(.ret,⟨sp 38 0 [sD 4 D.b false],[],[]⟩)
theorem aK7(rd:Option Nat)(h:aS9 aS aX a8=some a9):Lq 59 rd 58 (ZE aS aX a8) ((ZF aS aX) a9):=
 lL (fun s:Int=>ZE aS aX s) (ZF aS aX) a8 (fun a8 o h=>by
 unfold I3 at h
 refine gN 23 Bz.D aS.args ?_
 refine iB 24 h (fun h=>?_) fun h=>?_
 refine xX 30 Bz.D h fun x1 h=>?_
 refine xX 35 Bz.D h fun x2 h=>?_
 refine iB 37 h (fun h=>?_) fun h=>?_
 exact lb h
 exact lb h
 exact lb h) h
theorem aYn(h:Zi aS aX=some aD):AM Tryz.prog 59 [.d (X5.D aS),.d (X5.D aX)] [] (.d (D.b aD)) []:=by
 unfold Zi at h;apply g0 (o:=aD);refine iB 11 h (fun h=>?_) fun h=>?_;exact lf h;refine gN 14 Bz.D aS.args<|gN 17 Bz.D aX.args ?_;refine iB 19 h (fun h=>?_) fun h=>?_;exact lf h;obtain⟨o3,h7,h⟩:=bS h;refine gl (aK7 none h7) ?_;replace h:=AL h;rcases h with⟨o4,rfl,h⟩|⟨o5,rfl,h⟩
 exact lf h;exact lf h
theorem aFd(rd:Option Nat)(h:UW a8 aA aD a7 aY aZ=some b6):Lq 40 rd 15653 ⟨sp 118 0 [bx 1,rx 3,rx 4,sI 5 a8,sI 6 aA,sD 34 D.b aD],[cL 1 AD.D a7,(3,.buf true 4 1 (aY.map D.b)),(4,.row 3 1 (aZ.map dZ))],[]⟩ (.normal,⟨sp 118 0 [bx 1,rx 3,rx 4,sI 5 a8,sI 6 aA],[cL 1 AD.D a7,(3,.buf true 4 1 (aY.map D.b)),(4,.row 3 1 (b6.map dZ))],[]⟩):=by unfold UW at h;apply g0 (o:=b6);cases aD;replace h:=CJ h;exact lp h;replace h:=CK h;refine gQ (An dZ [aA])<|gG 38 (.sl ((aZ++[aA]).map dZ)) (An dZ [aA]) ?_;obtain⟨h17,h⟩:=cS h;refine gQ (Au dZ h17)<|gQ (At dZ aZ [aA]) ?_;exact lP h [.live [1,3,4,5,6],.keep [1,3,38],.ren 38 4,.sort]
theorem aFc(rd:Option Nat)(h:aFb a8 a7 aY aZ=some b7):Lq 40 rd 978 ⟨sp 118 0 [bx 1,rx 3,rx 4,sI 5 a8],[cL 1 AD.D a7,(3,.buf true 4 1 (aY.map D.b)),(4,.row 3 1 (aZ.map dZ))],[]⟩ (.normal,⟨sp 118 0 [bx 1,rx 3,rx 4,sI 5 a8],[cL 1 AD.D a7,(3,.buf true 4 1 (b7.1.map D.b)),(4,.row 3 1 (b7.2.map dZ))],[]⟩):=by unfold aFb at h;apply g0 (o:=b7);refine xX 27 Xr.D h fun x5 h=>?_;refine gW 10041 (.sl ((aY.set x5.symbol.toNat true).map D.b)) ?_;obtain⟨h14,h⟩:=cS h;refine gQ h14.1<|gQ (AF D.b h14.2) ?_;obtain⟨x6,h15,h⟩:=xS h;refine gG 33 (.el (D.b x6)) (AH D.b h15) ?_;obtain⟨o7,h18,h⟩:=bS h;refine gl (aFd rd h18) ?_;obtain⟨h19,h⟩:=cS h;refine gQ h19.1<|gQ (AF D.b h19.2) ?_;obtain⟨h20,h⟩:=cS h;refine gQ (Ax D.b h20)<|gQ (AS D.b aY x5.symbol true) ?_;exact lp h
def UZ(w1:AD)(s5:Int)(w3:List Bool)(w4:List Int):St:=⟨sp 118 0 [bx 1,rx 3,rx 4,sI 5 s5],[cL 1 AD.D w1,(3,.buf true 4 1 (w3.map D.b)),(4,.row 3 1 (w4.map dZ))],[]⟩
def Ua(w1:AD)(o:(List Int)):Ex×St:=(.exit 0,⟨sp 118 0 [bx 1,rx 4],[cL 1 AD.D w1,(4,.row 3 1 (o.map dZ))],[]⟩)
theorem aFe(rd:Option Nat)(h:aSi a7 a8 aY aZ=some b6):Lq 40 rd 122 (UZ a7 a8 aY aZ) ((Ua a7) b6):=
 lL (fun s:Int×List Bool×List Int=>UZ a7 s.1 s.2.1 s.2.2) (Ua a7) (a8,aY,aZ) (fun⟨a8,aY,aZ⟩ o h=>by
 unfold H8 at h
 refine gN 20 Xr.D a7.trans ?_
 refine iB 21 h (fun h=>?_) fun h=>?_
 obtain⟨o8,h21,h⟩:=bS h
 refine gl (aFc rd h21) ?_
 exact lb h
 exact lb h) h
def Ub(w1:AD)(w4:List Int)(s7:Int):St:=⟨sp 118 0 [bx 1,rx 4,sI 7 s7],[cL 1 AD.D w1,(4,.row 3 1 (w4.map dZ))],[]⟩
def Uc(w1:AD)(w4:List Int)(o:Unit⊕Unit):Ex×St:=match o with
 | .inl o=>(.exit 2,⟨sp 118 0 [bx 1],[cL 1 AD.D w1],[]⟩)
 | .inr o=>(.ret,⟨sp 118 0 [sD 2 D.b false],[],[]⟩)
theorem aFf(rd:Option Nat)(h:aSj a7 aZ a8=some a9):Lq 40 rd 250 (Ub a7 aZ a8) ((Uc a7 aZ) a9):=
 lL (fun s:Int=>Ub a7 aZ s) (Uc a7 aZ) a8 (fun a8 o h=>by
 unfold H9 at h
 refine gN 44 dZ aZ ?_
 refine iB 45 h (fun h=>?_) fun h=>?_
 refine gW 54 (.int (a7.symbols.length:Int))<|gW 56 (.int (aZ.length:Int))<|xX 50 dZ h fun x10 h=>?_
 refine gQ (D7 X5.D a7.symbols)<|gQ (D7 dZ aZ) ?_
 refine iB 60 h (fun h=>?_) fun h=>?_
 exact lb h
 exact lb h
 exact lb h) h
def Uf(s8:Int)(w1:AD)(s9:Int):St:=⟨sp 118 0 [bx 1,sI 8 s8,sI 9 s9],[cL 1 AD.D w1],[]⟩
def Ug(s8:Int)(w1:AD)(o:Unit⊕Unit):Ex×St:=match o with
 | .inl o=>(.exit 6,⟨sp 118 0 [bx 1,sI 8 s8],[cL 1 AD.D w1],[]⟩)
 | .inr o=>(.ret,⟨sp 118 0 [sD 2 D.b false],[],[]⟩)
theorem aFh(rd:Option Nat)(h:aOq a8 a7 aA=some a9):Lq 40 rd 64806 (Uf a8 a7 aA) ((Ug a8 a7) a9):=
 lL (fun s:Int=>Uf a8 a7 s) (Ug a8 a7) aA (fun aA o h=>by
 unfold IB at h
 refine iB 78 h (fun h=>?_) fun h=>?_
 refine xX 84 X5.D h fun x16 h=>?_
 refine xX 89 X5.D h fun x17 h=>?_
 obtain⟨r18,h34,h⟩:=bS h
 refine gQ (aYn h34) ?_
 cases r18
 replace h:=CJ h
 refine gW 91 (.ret (.d (D.b false))) ?_
 exact lb h
 replace h:=CK h
 refine gW 91 (.ret (.d (D.b true))) ?_
 exact lb h
 exact lb h) h
def Ud(w1:AD)(s8:Int):St:=⟨sp 118 0 [bx 1,sI 8 s8],[cL 1 AD.D w1],[]⟩
def Ue(w1:AD)(o:Unit⊕Unit):Ex×St:=match o with
 | .inl o=>(.exit 4,⟨sp 118 0 [bx 1],[cL 1 AD.D w1],[]⟩)
 | .inr o=>(.ret,⟨sp 118 0 [sD 2 D.b false],[],[]⟩)
theorem aFg(rd:Option Nat)(h:aSk a7 a8=some a9):Lq 40 rd 506 (Ud a7 a8) ((Ue a7) a9):=
 lL (fun s:Int=>Ud a7 s) (Ue a7) a8 (fun a8 o h=>by
 unfold IA at h
 refine gN 64 X5.D a7.symbols ?_
 refine iB 65 h (fun h=>?_) fun h=>?_
 refine xX 72 X5.D h fun x14 h=>?_
 obtain⟨r15,h29,h⟩:=bS h
 refine gC 74 (aYe h29) ?_
 refine iB 75 h (fun h=>?_) fun h=>?_
 exact lb h
 obtain⟨o19,h36,h⟩:=bS h
 refine gl (aFh rd h36) ?_
 replace h:=AL h
 rcases h with⟨o20,rfl,h⟩|⟨o21,rfl,h⟩
 exact lb h
 exact lb h
 exact lb h) h
def Pr(s10:Int)(w1:AD)(s11:Bool)(s12:Int):St:=⟨sp 118 0 [bx 1,sI 10 s10,sD 11 D.b s11,sI 12 s12],[cL 1 AD.D w1],[]⟩
def Ps(s10:Int)(w1:AD)(o:Bool):Ex×St:=(.exit 10,⟨sp 118 0 [bx 1,sI 10 s10,sD 11 D.b o],[cL 1 AD.D w1],[]⟩)
theorem UY(rd:Option Nat)(h:UX a8 a7 aD aA=some b8):Lq 40 rd 260682 (Pr a8 a7 aD aA) ((Ps a8 a7) b8):=
 lL (fun s:Bool×Int=>Pr a8 a7 s.1 s.2) (Ps a8 a7) (aD,aA) (fun⟨aD,aA⟩ o h=>by
 unfold FF at h
 refine gN 102 X5.D a7.symbols ?_
 refine iB 103 h (fun h=>?_) fun h=>?_
 refine iB 107 h (fun h=>?_) fun h=>?_
 exact lb h
 refine xX 111 X5.D h fun x25 h=>?_
 obtain⟨r26,h42,h⟩:=bS h
 refine gC 114 (aS2 h42) ?_
 exact lb h
 exact lb h) h
def Uh(w1:AD)(s10:Int):St:=⟨sp 118 0 [bx 1,sI 10 s10],[cL 1 AD.D w1],[]⟩
def Ui(w1:AD)(o:Unit⊕Unit):Ex×St:=match o with
 | .inl o=>(.exit 8,⟨sp 118 0 [],[],[]⟩)
 | .inr o=>(.ret,⟨sp 118 0 [sD 2 D.b false],[],[]⟩)
theorem aFi(rd:Option Nat)(h:aSl a7 a8=some a9):Lq 40 rd 1018 (Uh a7 a8) ((Ui a7) a9):=
 lL (fun s:Int=>Uh a7 s) (Ui a7) a8 (fun a8 o h=>by
 unfold IC at h
 refine gN 95 Yl.D a7.quants ?_
 refine iB 96 h (fun h=>?_) fun h=>?_
 obtain⟨o27,h43,h⟩:=bS h
 refine gl (UY rd h43) ?_
 refine iB 117 h (fun h=>?_) fun h=>?_
 exact lb h
 exact lb h
 exact lb h) h
theorem aVw(h:Xc a7=some aD):AM Tryz.prog 40 [.d (AD.D a7)] [] (.d (D.b aD)) []:=by
 unfold Xc at h;apply g0 (o:=aD);refine gN 15 X5.D a7.symbols<|gW 16 (.sl ((List.replicate (a7.symbols.length:Int).toNat false).map D.b)) ?_;obtain⟨h1,h⟩:=cS h;refine gQ h1.1<|gQ (Int.le_refl (a7.symbols.length:Int))<|gQ (Int.le_refl (a7.symbols.length:Int))<|gQ (aBi D.b false h1.2)<|gQ (aBh D.b (a7.symbols.length:Int) false) ?_;obtain⟨o9,h22,h⟩:=bS h;refine gL [.live [1,3,4,5],.keep [1,16],.ren 16 3,.nil 4 4 3 1,.sort] (aFe none h22) ?_;obtain⟨o11,h26,h⟩:=bS h;refine gl (aFf none h26) ?_;replace h:=AL h;rcases h with⟨o12,rfl,h⟩|⟨o13,rfl,h⟩
 obtain⟨o22,h37,h⟩:=bS h;refine gl (aFg none h37) ?_;replace h:=AL h;rcases h with⟨o23,rfl,h⟩|⟨o24,rfl,h⟩
 obtain⟨o28,h45,h⟩:=bS h;refine gl (aFi none h45) ?_;replace h:=AL h;rcases h with⟨o29,rfl,h⟩|⟨o30,rfl,h⟩
 exact lf h;exact lf h;exact lf h;exact lf h
def XQ(w1:AD)(s5 s6:Int):St:=⟨sp 101 0 [bx 1,sI 5 s5,sI 6 s6],[cL 1 AD.D w1],[]⟩
def XR(w1:AD)(o:Int⊕Unit):Ex×St:=match o with
 | .inl o=>(.exit 0,⟨sp 101 0 [bx 1,sI 5 o],[cL 1 AD.D w1],[]⟩)
 | .inr o=>(.ret,⟨sp 101 0 [sD 2 D.b false],[],[]⟩)
theorem aKi(rd:Option Nat)(h:aS1 a7 a8 aA=some aU):Lq 18 rd 250 (XQ a7 a8 aA) ((XR a7) aU):=
 lL (fun s:Int×Int=>XQ a7 s.1 s.2) (XR a7) (a8,aA) (fun⟨a8,aA⟩ o h=>by
 unfold Iq at h
 refine gN 74 Xr.D a7.trans ?_
 refine iB 75 h (fun h=>?_) fun h=>?_
 refine xX 83 Xr.D h fun x3 h=>?_
 obtain⟨r4,h15,h⟩:=bS h
 refine gC 86 (aWz h15) ?_
 refine iB 90 h (fun h=>?_) fun h=>?_
 exact lb h
 exact lb h
 exact lb h) h
theorem aXz(h:Yx a7=some aD):AM Tryz.prog 18 [.d (AD.D a7)] [] (.d (D.b aD)) []:=by
 unfold Yx at h;apply g0 (o:=aD);obtain⟨r1,h1,h⟩:=bS h;refine gC 12 (aWy h1) ?_;refine iB 17 h (fun h=>?_) fun h=>?_;exact lf h;refine gN 20 Yl.D a7.quants ?_;refine iB 23 h (fun h=>?_) fun h=>?_;exact lf h;refine gN 26 Yn.D a7.frees ?_;refine iB 29 h (fun h=>?_) fun h=>?_;exact lf h;refine gN 32 Xg.D a7.states ?_;refine iB 35 h (fun h=>?_) fun h=>?_;exact lf h;refine gN 38 X5.D a7.symbols ?_;refine iB 41 h (fun h=>?_) fun h=>?_;exact lf h;refine gN 44 Yu.D a7.nodes ?_;refine iB 47 h (fun h=>?_) fun h=>?_;exact lf h;refine gN 50 Xr.D a7.trans ?_;refine iB 53 h (fun h=>?_) fun h=>?_;exact lf h;refine iB 58 h (fun h=>?_) fun h=>?_;exact lf h;refine gN 63 Xg.D a7.states ?_;refine iB 66 h (fun h=>?_) fun h=>?_;exact lf h;obtain⟨r2,h11,h⟩:=bS h;refine gC 68 (aWd h11) ?_;refine iB 70 h (fun h=>?_) fun h=>?_;exact lf h;obtain⟨o5,h17,h⟩:=bS h;refine gl (aKi none h17) ?_;replace h:=AL h;rcases h with⟨o6,rfl,h⟩|⟨o7,rfl,h⟩
 refine gN 95 Yu.D a7.nodes ?_;refine iB 97 h (fun h=>?_) fun h=>?_;obtain⟨r8,h19,h⟩:=bS h;refine gC 99 (aVw h19) ?_;exact lf h;exact lf h;exact lf h
def YD(w1:AD)(s3:Int):St:=⟨sp 40 0 [bx 1,sI 3 s3],[cL 1 AD.D w1],[]⟩
def YE(w1:AD)(o:Unit⊕Unit):Ex×St:=match o with
 | .inl o=>(.exit 0,⟨sp 40 0 [],[],[]⟩)
 | .inr o=>(.ret,⟨sp 40 0 [sD 2 D.b false],[],[]⟩)
theorem aKr(rd:Option Nat)(h:aPs a7 a8=some a9):Lq 19 rd 58 (YD a7 a8) ((YE a7) a9):=
 lL (fun s:Int=>YD a7 s) (YE a7) a8 (fun a8 o h=>by
 unfold Iu at h
 refine gN 29 Xr.D a7.trans ?_
 refine iB 30 h (fun h=>?_) fun h=>?_
 refine xX 36 Xr.D h fun x1 h=>?_
 refine iB 39 h (fun h=>?_) fun h=>?_
 exact lb h
 exact lb h
 exact lb h) h
theorem aX6(h:Z4 a7=some aD):AM Tryz.prog 19 [.d (AD.D a7)] [] (.d (D.b aD)) []:=by
 unfold Z4 at h;apply g0 (o:=aD);refine gN 6 Yn.D a7.frees ?_;refine iB 8 h (fun h=>?_) fun h=>?_;exact lf h;refine gN 11 Yl.D a7.quants ?_;refine iB 14 h (fun h=>?_) fun h=>?_;exact lf h;refine gN 17 Xg.D a7.states ?_;refine iB 20 h (fun h=>?_) fun h=>?_;exact lf h;refine gN 23 X5.D a7.symbols ?_;refine iB 25 h (fun h=>?_) fun h=>?_;exact lf h;obtain⟨o2,h8,h⟩:=bS h;refine gl (aKr none h8) ?_;replace h:=AL h;rcases h with⟨o3,rfl,h⟩|⟨o4,rfl,h⟩
 exact lf h;exact lf h
def YY(s0:List X2)(s3:Int):St:=⟨sp 51 0 [sD 0 (D.l X2.D) s0,sI 3 s3],[],[]⟩
def YZ(s0:List X2)(o:Unit⊕Unit):Ex×St:=match o with
 | .inl o=>(.exit 0,⟨sp 51 0 [],[],[]⟩)
 | .inr o=>(.ret,⟨sp 51 0 [sD 2 D.b false],[],[]⟩)
theorem aK4(rd:Option Nat)(h:aPz b9 a8=some a9):Lq 41 rd 26 (YY b9 a8) ((YZ b9) a9):=
 lL (fun s:Int=>YY b9 s) (YZ b9) a8 (fun a8 o h=>by
 unfold I0 at h
 refine gN 6 X2.D b9 ?_
 refine iB 7 h (fun h=>?_) fun h=>?_
 refine xX 12 X2.D h fun x1 h=>?_
 refine iB 16 h (fun h=>?_) fun h=>?_
 exact lb h
 refine xX 19 X2.D h fun x2 h=>?_
 refine iB 24 h (fun h=>?_) fun h=>?_
 exact lb h
 refine xX 27 X2.D h fun x3 h=>?_
 obtain⟨r4,h7,h⟩:=bS h
 refine gC 30 (aK9 h7) ?_
 refine iB 33 h (fun h=>?_) fun h=>?_
 exact lb h
 refine iB 36 h (fun h=>?_) fun h=>?_
 refine xX 39 X2.D h fun x5 h=>?_
 refine xX 45 X2.D h fun x6 h=>?_
 refine iB 50 h (fun h=>?_) fun h=>?_
 exact lb h
 exact lb h
 exact lb h
 exact lb h) h
theorem aYk(h:Zf b9=some aD):AM Tryz.prog 41 [.d ((D.l X2.D) b9)] [] (.d (D.b aD)) []:=by
 unfold Zf at h;apply g0 (o:=aD);obtain⟨o7,h13,h⟩:=bS h;refine gl (aK4 none h13) ?_;replace h:=AL h;rcases h with⟨o8,rfl,h⟩|⟨o9,rfl,h⟩
 exact lf h;exact lf h
theorem aU4(h:Qc a7 b9=some aD):AM Tryz.prog 20 [.d (AD.D a7),.d ((D.l X2.D) b9)] [] (.d (D.b aD)) []:=by unfold Qc at h;apply g0 (o:=aD);refine gN 6 X2.D b9 ?_;refine iB 7 h (fun h=>?_) fun h=>?_;exact lf h;refine gN 9 X2.D b9 ?_;refine iB 11 h (fun h=>?_) fun h=>?_;refine gN 14 Yl.D a7.quants ?_;refine iB 17 h (fun h=>?_) fun h=>?_;refine xX 19 X2.D h fun x1 h=>?_;refine iB 24 h (fun h=>?_) fun h=>?_;refine xX 26 X2.D h fun x2 h=>?_;refine xX 32 Yl.D h fun x3 h=>?_;refine iB 37 h (fun h=>?_) fun h=>?_;obtain⟨r4,h9,h⟩:=bS h;refine gC 39 (aYk h9) ?_;exact lf h;exact lf h;exact lf h;exact lf h;exact lf h
def ZA(s1:List X2)(w2:AD)(s5:Int):St:=⟨sp 60 0 [sD 1 (D.l X2.D) s1,bx 2,sI 5 s5],[cL 2 AD.D w2],[]⟩
def ZB(s1:List X2)(w2:AD)(o:Unit⊕Unit):Ex×St:=match o with
 | .inl o=>(.exit 0,⟨sp 60 0 [sD 1 (D.l X2.D) s1],[],[]⟩)
 | .inr o=>(.ret,⟨sp 60 0 [sD 4 D.b false],[],[]⟩)
theorem aK5(rd:Option Nat)(h:aP0 b9 a7 a8=some a9):Lq 5 rd 58 (ZA b9 a7 a8) ((ZB b9 a7) a9):=
 lL (fun s:Int=>ZA b9 a7 s) (ZB b9 a7) a8 (fun a8 o h=>by
 unfold I1 at h
 refine gN 36 Xl.D a7.decls ?_
 refine iB 37 h (fun h=>?_) fun h=>?_
 refine xX 43 Xl.D h fun x5 h=>?_
 refine gN 46 dZ x5.types ?_
 refine iB 47 h (fun h=>?_) fun h=>?_
 exact lb h
 exact lb h
 exact lb h) h
theorem aYl(h:Zg a7 b9=some aD):AM Tryz.prog 5 [.d (AD.D a7),.d ((D.l X2.D) b9)] [] (.d (D.b aD)) []:=by
 unfold Zg at h;apply g0 (o:=aD);obtain⟨r1,h1,h⟩:=bS h;refine gC 7 (aVz h1) ?_;refine iB 9 h (fun h=>?_) fun h=>?_;exact lf h;obtain⟨r2,h3,h⟩:=bS h;refine gC 11 (aXz h3) ?_;refine iB 14 h (fun h=>?_) fun h=>?_;exact lf h;obtain⟨r3,h5,h⟩:=bS h;refine gC 16 (aX6 h5) ?_;refine iB 19 h (fun h=>?_) fun h=>?_;exact lf h;obtain⟨r4,h7,h⟩:=bS h;refine gC 22 (aU4 h7) ?_;refine iB 25 h (fun h=>?_) fun h=>?_;exact lf h;refine gN 27 X2.D b9<|gN 30 Yl.D a7.quants ?_;refine iB 32 h (fun h=>?_) fun h=>?_;exact lf h;obtain⟨o6,h13,h⟩:=bS h;refine gl (aK5 none h13) ?_;replace h:=AL h;rcases h with⟨o7,rfl,h⟩|⟨o8,rfl,h⟩
 refine gN 49 X2.D b9 ?_;refine iB 51 h (fun h=>?_) fun h=>?_;exact lf h;refine xX 53 X2.D h fun x9 h=>?_;refine gG 57 (.int (x9.value.str.length:Int)) (CZ x9.value.str) ?_;exact lf h;exact lf h
theorem aIc(rd:Option Nat)(h:aIb a8 aA aN bA aR bB aD=some bC):Lq 45 rd 7475 ⟨sp 27 0 [sI 1 a8,sD 5 dU aA,sI 6 aN,sD 9 (D.l X5.D) bA,sI 10 aR,sI 11 bB,sD 19 D.b aD],[],[]⟩ (.normal,⟨sp 27 0 [sI 1 a8,sD 5 dU bC,sD 9 (D.l X5.D) bA,sI 10 aR,sI 11 bB],[],[]⟩):=by unfold aIb at h;apply g0 (o:=bC);cases aD;replace h:=CJ h;exact lp h;replace h:=CK h;obtain⟨h4,h⟩:=cS h;refine gQ h4 ?_;exact lp h
theorem aIa(rd:Option Nat)(h:aH9 a8 aA bA aN aR=some bB):Lq 45 rd 934 ⟨sp 27 0 [sI 1 a8,sD 5 dU aA,sD 9 (D.l X5.D) bA,sI 10 aN,sI 11 aR],[],[]⟩ (.normal,⟨sp 27 0 [sI 1 a8,sD 5 dU bB,sD 9 (D.l X5.D) bA,sI 10 aN,sI 11 aR],[],[]⟩):=by unfold aH9 at h;apply g0 (o:=bB);refine xX 14 X5.D h fun x1 h=>?_;obtain⟨o2,h5,h⟩:=bS h;refine gl (aIc rd h5) ?_;exact lp h
def WN(s1:Int)(s9:List X5)(s10 s5 s11:Int):St:=⟨sp 27 0 [sI 1 s1,sD 5 dU s5,sD 9 (D.l X5.D) s9,sI 10 s10,sI 11 s11],[],[]⟩
def WO(s1:Int)(s9:List X5)(s10 o:Int):Ex×St:=(.exit 0,⟨sp 27 0 [sD 5 dU o],[],[]⟩)
theorem aIe(rd:Option Nat)(h:WM a8 bA aA aN aR=some bB):Lq 45 rd 58 (WN a8 bA aA aN aR) ((WO a8 bA aA) bB):=
 lL (fun s:Int×Int=>WN a8 bA aA s.1 s.2) (WO a8 bA aA) (aN,aR) (fun⟨aN,aR⟩ o h=>by
 unfold G3 at h
 refine iB 12 h (fun h=>?_) fun h=>?_
 obtain⟨o3,h6,h⟩:=bS h
 refine gl (aIa rd h6) ?_
 exact lb h
 exact lb h) h
theorem aWw(h:Y5 a7 a8=some aA):AM Tryz.prog 45 [.d (AD.D a7),dI a8] [] (.d (dU aA)) []:=by unfold Y5 at h;apply g0 (o:=aA);refine gN 10 X5.D a7.symbols ?_;obtain⟨o4,h7,h⟩:=bS h;refine gl (aIe none h7) ?_;exact lf h
theorem aVa(h:Qk=some bD):AM Tryz.prog 113 [.clo (.func 114) [] []] [] (.box 0 0) [(0,.cells ([.nil,.clo (.func 114) [] []]))]:=by unfold Qk at h;refine XG.call (ks:=[]) mixed fun us=>?_;apply g0 (o:=bD);exact lX h [.live [2],.keep [5,997],.ren 5 0,.sort]
theorem aSa(h:Q7 aD=some aI):AM Tryz.prog 116 [.d (D.b aD)] [] (.d (X0.D aI)) []:=by unfold Q7 at h;apply g0 (o:=aI);exact lf h
theorem aTh(h:Zz aI aQ=some aD):AM Tryz.prog 114 [.d (X0.D aI),.d (X0.D aQ)] [] (.d (D.b aD)) []:=by unfold Zz at h;apply g0 (o:=aD);refine iB 5 h (fun h=>?_) fun h=>?_;exact lf h;refine iB 16 h (fun h=>?_) fun h=>?_;exact lf h;refine iB 25 h (fun h=>?_) fun h=>?_;exact lf h;refine iB 37 h (fun h=>?_) fun h=>?_;exact lf h;exact lf h
theorem aR7(h:Q3 aI aQ bE=some a8):AM Tryz.prog 129 [.d (X0.D aI),.d (X0.D aQ),.eptr [.ptr ((D.cells ((D.l X0.D) bE))++[.v (.func (.func 114) #[] #[])])]] [] (dI a8) []:=by unfold Q3 at h;apply g0 (o:=a8);obtain⟨r1,h1,h⟩:=bS h;refine gQ (aTh h1) ?_;cases r1;replace h:=CJ h;refine gW 13 (.ret (.d (D.b false))) ?_;obtain⟨r2,h3,h⟩:=bS h;refine gQ (aTh h3) ?_;cases r2;replace h:=CJ h;refine gW 21 (.ret (.d (D.b false))) ?_;exact lf h;replace h:=CK h;refine gW 21 (.ret (.d (D.b true))) ?_;exact lf h;replace h:=CK h;refine gW 13 (.ret (.d (D.b true))) ?_;exact lf h
theorem aHr(rd:Option Nat)(h:Vy bE bG a8 aA aN aR aD aI=some bH):Lq 128 rd 1931 ⟨sp 49 0 [sD 0 (D.l X0.D) bE,(2,.clo (.func 129) [] [.eptr [.ptr ((D.cells ((D.l X0.D) bG))++[.v (.func (.func 114) #[] #[])])]]),bx 4,sI 8 a8,sI 9 aA,sI 10 aN,sI 11 aR,sD 31 D.b aD],[cL 4 X0.D aI],[]⟩ (.normal,⟨sp 49 0 [sD 0 (D.l X0.D) bE,(2,.clo (.func 129) [] [.eptr [.ptr ((D.cells ((D.l X0.D) bG))++[.v (.func (.func 114) #[] #[])])]]),bx 4,sI 8 a8,sI 9 bH.1,sI 10 bH.2],[cL 4 X0.D aI],[]⟩):=by unfold Vy at h;apply g0 (o:=bH);cases aD;replace h:=CJ h;exact lp h;replace h:=CK h;exact lp h
theorem aHq(rd:Option Nat)(h:aHp bE bG a8 aA aN aI=some bH):Lq 128 rd 241 ⟨sp 49 0 [sD 0 (D.l X0.D) bE,(2,.clo (.func 129) [] [.eptr [.ptr ((D.cells ((D.l X0.D) bG))++[.v (.func (.func 114) #[] #[])])]]),bx 4,sI 8 a8,sI 9 aA,sI 10 aN],[cL 4 X0.D aI],[]⟩ (.normal,⟨sp 49 0 [sD 0 (D.l X0.D) bE,(2,.clo (.func 129) [] [.eptr [.ptr ((D.cells ((D.l X0.D) bG))++[.v (.func (.func 114) #[] #[])])]]),bx 4,sI 8 a8,sI 9 bH.1,sI 10 bH.2],[cL 4 X0.D aI],[]⟩):=by unfold aHp at h;apply g0 (o:=bH);refine gQ (of_decide_eq_true rfl:(0:Int)<=1)<|xX 27 X0.D h fun x1 h=>?_;obtain⟨r2,h3,h⟩:=bS h;refine gC 30 (aR7 h3) ?_;obtain⟨o3,h5,h⟩:=bS h;refine gl (aHr rd h5) ?_;exact lp h
def Vz(s0 s2:List X0)(s8:Int)(w4:X0)(s9 s10:Int):St:=⟨sp 49 0 [sD 0 (D.l X0.D) s0,(2,.clo (.func 129) [] [.eptr [.ptr ((D.cells ((D.l X0.D) s2))++[.v (.func (.func 114) #[] #[])])]]),bx 4,sI 8 s8,sI 9 s9,sI 10 s10],[cL 4 X0.D w4],[]⟩
def V0(s0 s2:List X0)(s8:Int)(w4:X0)(o:Int):Ex×St:=(.exit 0,⟨sp 49 0 [sD 0 (D.l X0.D) s0,(2,.clo (.func 129) [] [.eptr [.ptr ((D.cells ((D.l X0.D) s2))++[.v (.func (.func 114) #[] #[])])]]),bx 4,sI 8 s8,sI 9 o],[cL 4 X0.D w4],[]⟩)
theorem aHt(rd:Option Nat)(h:SF bE bG a8 aI aA aN=some aR):Lq 128 rd 60 (Vz bE bG a8 aI aA aN) ((V0 bE bG a8 aI) aR):=
 lL (fun s:Int×Int=>Vz bE bG a8 aI s.1 s.2) (V0 bE bG a8 aI) (aA,aN) (fun⟨aA,aN⟩ o h=>by
 unfold Fz at h
 refine iB 17 h (fun h=>?_) fun h=>?_
 obtain⟨o4,h6,h⟩:=bS h
 refine gl (aHq rd h6) ?_
 exact lb h
 exact lb h) h
theorem aSv(h:Xz bE aI bG=some aL):AM Tryz.prog 128 [.d ((D.l X0.D) bE),.d (X0.D aI),.clo (.func 129) [] [.eptr [.ptr ((D.cells ((D.l X0.D) bG))++[.v (.func (.func 114) #[] #[])])]]] [] (.tup [dI aL.1,.d (D.b aL.2)]) []:=by unfold Xz at h;apply g0 (o:=aL);refine gN 13 X0.D bE ?_;obtain⟨o5,h7,h⟩:=bS h;refine gl (aHt none h7) ?_;refine iB 39 h (fun h=>?_) fun h=>?_;refine xX 43 X0.D h fun x6 h=>?_;obtain⟨r7,h10,h⟩:=bS h;refine gC 46 (aR7 h10) ?_;exact lf h;exact lf h
theorem aVg(h:Qq a8 bE=some bG):AM Tryz.prog 130 [.nil,.d (D.i .i64 a8),.row 0] [(0,.row 57 4 (bE.map X0.D))] (.row 1) [rW 1 57 4 X0.D bG]:=
 aQ4 (ρ:=⟨fun n=>if n=22 then 130 else if n=29 then 135 else 136,fun n=>if n=0 then 0 else if n=3 then 3 else if n=4 then 4 else if n=24 then 86 else 57,id⟩) (by_:=40) X0.D mixed rfl ⟨ "slices.Insert[[]proctor/api.Value,proctor/api.Value]",by decide,(Tryz.func130).trans (by kernel_rfl)⟩ Tryz.underlying3 Tryz.underlying4 Tryz.underlying86 (by kernel_rfl) (by decide) a8 bE bG h
theorem aK8(rd:Option Nat)(us:List Value)(h:ZH a8 aD b8 aI=some bI):Lq 115 rd 61 ⟨sp 34 0 [bx 2,bx 3,sI 5 a8,sD 6 D.b aD,sD 20 D.b b8],[(0,.cells ([.nil,.clo (.func 114) [] []])),(2,.cells ([.box 0 0])),cL 3 X0.D aI,(997,.vals [.box 0 0] us)],[]⟩ (.normal,⟨sp 34 0 [sD 6 D.b aD],[(0,.cells ([.row 529,.clo (.func 114) [] []])),rW 529 57 4 X0.D bI,(997,.vals [.box 0 0] us)],[]⟩):=by unfold ZH at h;apply g0 (o:=bI);cases b8;replace h:=CJ h;exact lP h [.live [6],.keep [0,997],.nilc 0 0 529 57 4,.sort];replace h:=CK h;refine gQ (An X0.D [aI]) ?_;obtain⟨r2,h3,h⟩:=bS h;refine gG 29 (.cx true [(0,28)] [(1,29)] (.row 1) [rW 1 57 4 X0.D r2]) (aVg h3) ?_;exact lP h [.live [6],.keep [0,29,997],.ren 29 529,.sort]
theorem aYs(h:Zk aI=some bJ):AM Tryz.prog 115 [.box 0 0,.d (X0.D aI)] [(0,.cells ([.nil,.clo (.func 114) [] []]))] (.d (D.b bJ.1)) [(0,.cells ([.row 1,.clo (.func 114) [] []])),rW 1 57 4 X0.D bJ.2]:=by unfold Zk at h;refine XG.call (ks:=[0]) mixed fun us=>?_;apply g0 (o:=bJ);obtain⟨r1,h1,h⟩:=bS h;refine gG 16 (.lend [0,2] (.tup [dI r1.1,.d (D.b r1.2)])) (aSv h1) ?_;obtain⟨o3,h4,h⟩:=bS h;refine gl (aK8 none us h4) ?_;exact lX h [.live [4],.keep [0,529,997],.ren 529 1,.sort]
theorem aVe(h:Qo a8 bE bG=some bK):AM Tryz.prog 130 [.row 0,.d (D.i .i64 a8),.row 1] [rW 0 57 4 X0.D bE,(1,.row 57 4 (bG.map X0.D))] (.row 2) [rW 2 57 4 X0.D bK]:=
 aQ3 (ρ:=⟨fun n=>if n=22 then 130 else if n=29 then 135 else 136,fun n=>if n=0 then 0 else if n=3 then 3 else if n=4 then 4 else if n=24 then 86 else 57,id⟩) (by_:=40) X0.D mixed rfl ⟨ "slices.Insert[[]proctor/api.Value,proctor/api.Value]",by decide,(Tryz.func130).trans (by kernel_rfl)⟩ Tryz.underlying3 Tryz.underlying4 Tryz.underlying86 (by kernel_rfl) (by decide) (by decide)
  (fun args w=>run_callFunc_extern Tryz.func135 (by kernel_rfl) (by kernel_rfl) (by kernel_rfl) (e:=Go.Extern.SlicesOverlaps.overlaps #[86,86] #[4]) (by kernel_rfl) args w) a8 bE bG bK h
theorem aKs(rd:Option Nat)(us:List Value)(h:YF a8 aD b8 aI bE=some bI):Lq 115 rd 61 ⟨sp 34 0 [bx 2,bx 3,sI 5 a8,sD 6 D.b aD,sD 20 D.b b8],[(0,.cells ([.row 501,.clo (.func 114) [] []])),(2,.cells ([.box 0 0])),cL 3 X0.D aI,rW 501 57 4 X0.D bE,(997,.vals [.box 0 0] us)],[]⟩ (.normal,⟨sp 34 0 [sD 6 D.b aD],[(0,.cells ([.row 529,.clo (.func 114) [] []])),rW 529 57 4 X0.D bI,(997,.vals [.box 0 0] us)],[]⟩):=by unfold YF at h;apply g0 (o:=bI);cases b8;replace h:=CJ h;exact lP h [.live [6],.keep [0,501,997],.ren 501 529,.sort];replace h:=CK h;refine gQ (An X0.D [aI]) ?_;obtain⟨r2,h3,h⟩:=bS h;refine gG 29 (.cx true [(0,501),(1,28)] [(2,29)] (.row 2) [rW 2 57 4 X0.D r2]) (aVe h3) ?_;exact lP h [.live [6],.keep [0,29,997],.ren 29 529,.sort]
theorem aS5(h:Z5 aI bE=some bJ):AM Tryz.prog 115 [.box 0 0,.d (X0.D aI)] [(0,.cells ([.row 1,.clo (.func 114) [] []])),rW 1 57 4 X0.D bE] (.d (D.b bJ.1)) [(0,.cells ([.row 2,.clo (.func 114) [] []])),rW 2 57 4 X0.D bJ.2]:=by unfold Z5 at h;refine XG.call (ks:=[0]) mixed fun us=>?_;apply g0 (o:=bJ);obtain⟨r1,h1,h⟩:=bS h;refine gG 16 (.lend [0,1,2] (.tup [dI r1.1,.d (D.b r1.2)])) (aSv h1) ?_;obtain⟨o3,h4,h⟩:=bS h;refine gL [.live [2,3,5,6,20],.keep [0,1,2,3,997],.ren 1 501,.sort] (aKs none us h4) ?_;exact lX h [.live [4],.keep [0,529,997],.ren 529 2,.sort]
theorem aVh(h:Qr bE=some bG):AM Tryz.prog 131 [.row 0] [rW 0 57 4 X0.D bE] (.row 1) [rW 0 57 4 X0.D bE,rW 1 57 4 X0.D bG]:=
 aAq (ρ:=⟨fun _=>131,fun n=>if n=4 then 4 else if n=22 then 86 else 57,id⟩) (by_:=40) X0.D rfl rfl (aTp mixed ⟨ "slices.Clone[[]proctor/api.Value,proctor/api.Value]",by decide,(Tryz.func131).trans (by kernel_rfl)⟩ Tryz.underlying4 Tryz.underlying86 (by kernel_rfl) (by kernel_rfl) (by kernel_rfl) (by kernel_rfl)) (by kernel_rfl) (by decide) bE bG h
theorem aU5(h:Qd bE=some bL):AM Tryz.prog 117 [.box 0 0] [(0,.cells ([.row 1,.clo (.func 114) [] []])),rW 1 57 4 X0.D bE] (.row 2) [(0,.cells ([.row 3,.clo (.func 114) [] []])),rW 2 57 4 X0.D bL.1,rW 3 57 4 X0.D bL.2]:=by unfold Qd at h;refine XG.call (ks:=[0]) mixed fun us=>?_;apply g0 (o:=bL);obtain⟨r1,h1,h⟩:=bS h;refine gG 9 (.cx true [(0,1)] [(1,9)] (.row 1) [rW 0 57 4 X0.D bE,rW 1 57 4 X0.D r1]) (aVh h1) ?_;exact lX h [.live [2],.keep [0,1,9,997],.ren 1 3,.ren 9 2,.sort]
theorem aEv(rd:Option Nat)(us:List Value)(h:Ns a8 aD a7=some bI):Lq 90 rd 29 ⟨sp 51 0 [sI 1 a8,bx 2,bx 5,sD 12 D.b aD],[cL 2 AD.D a7,(5,.cells ([.nil,.clo (.func 114) [] []])),(997,.vals [] us)],[]⟩ (.normal,⟨sp 51 0 [sI 1 a8,bx 2,bx 5],[cL 2 AD.D a7,(5,.cells ([.row 518,.clo (.func 114) [] []])),rW 518 57 4 X0.D bI,(997,.vals [] us)],[]⟩):=by unfold Ns at h;apply g0 (o:=bI);cases aD;replace h:=CJ h;exact lP h [.live [1,2,5],.keep [2,5,997],.nilc 5 0 518 57 4,.sort];replace h:=CK h;obtain⟨r2,h3,h⟩:=bS h;refine gC 14 (aSa h3) ?_;obtain⟨r3,h4,h⟩:=bS h;refine gG 15 (.cx false [(0,5)] [(1,15)] (.d (D.b r3.1)) [(0,.cells ([.row 1,.clo (.func 114) [] []])),rW 1 57 4 X0.D r3.2]) (aYs h4) ?_;obtain⟨r4,h5,h⟩:=bS h;refine gC 17 (aSa h5) ?_;obtain⟨r5,h6,h⟩:=bS h;refine gG 18 (.cx false [(0,5),(1,15)] [(2,18)] (.d (D.b r5.1)) [(0,.cells ([.row 2,.clo (.func 114) [] []])),rW 2 57 4 X0.D r5.2]) (aS5 h6) ?_;exact lP h [.live [1,2,5],.keep [2,5,18,997],.ren 18 518,.sort]
theorem Po(rd:Option Nat)(us:List Value)(h:Nv a8 bA aA aN bM aR bB aD aW bE=some bI):Lq 90 rd 4010803 ⟨sp 51 0 [sI 1 a8,bx 5,bx 9,sD 20 (D.l X5.D) bA,sI 21 aA,sI 22 aN,sD 27 (D.l Bz.D) bM,sI 28 aR,sI 29 bB,sD 42 D.b aD],[(5,.cells ([.row 518,.clo (.func 114) [] []])),cL 9 Bz.D aW,rW 518 57 4 X0.D bE,(997,.vals [] us)],[]⟩ (.normal,⟨sp 51 0 [sI 1 a8,bx 5,sD 20 (D.l X5.D) bA,sI 21 aA,sI 22 aN,sD 27 (D.l Bz.D) bM,sI 28 aR,sI 29 bB],[(5,.cells ([.row 546,.clo (.func 114) [] []])),rW 546 57 4 X0.D bI,(997,.vals [] us)],[]⟩):=by unfold Nv at h;apply g0 (o:=bI);cases aD;replace h:=CJ h;exact lP h [.live [1,5,20,21,22,27,28,29],.keep [5,518,997],.ren 518 546,.sort];replace h:=CK h;obtain⟨r9,h14,h⟩:=bS h;refine gG 46 (.cx false [(0,5),(1,518)] [(2,46)] (.d (D.b r9.1)) [(0,.cells ([.row 2,.clo (.func 114) [] []])),rW 2 57 4 X0.D r9.2]) (aS5 h14) ?_;exact lP h [.live [1,5,20,21,22,27,28,29],.keep [5,46,997],.ren 46 546,.sort]
theorem aEx(rd:Option Nat)(us:List Value)(h:Rr a8 bA aA aN bM aR bB bE=some bI):Lq 90 rd 501350 ⟨sp 51 0 [sI 1 a8,bx 5,sD 20 (D.l X5.D) bA,sI 21 aA,sI 22 aN,sD 27 (D.l Bz.D) bM,sI 28 aR,sI 29 bB],[(5,.cells ([.row 518,.clo (.func 114) [] []])),rW 518 57 4 X0.D bE,(997,.vals [] us)],[]⟩ (.normal,⟨sp 51 0 [sI 1 a8,bx 5,sD 20 (D.l X5.D) bA,sI 21 aA,sI 22 aN,sD 27 (D.l Bz.D) bM,sI 28 aR,sI 29 bB],[(5,.cells ([.row 546,.clo (.func 114) [] []])),rW 546 57 4 X0.D bI,(997,.vals [] us)],[]⟩):=by unfold Rr at h;apply g0 (o:=bI);refine xX 31 Bz.D h fun x8 h=>?_;refine iB 36 h (fun h=>?_) fun h=>?_;obtain⟨o10,h15,h⟩:=bS h;refine gl (Po rd us h15) ?_;exact lp h;obtain⟨o11,h16,h⟩:=bS h;refine gl (Po rd us h16) ?_;exact lp h
def UK(us:List Value)(s1:Int)(s20:List X5)(s21 s22:Int)(s27:List Bz)(s28 s29:Int)(w518:List X0):St:=⟨sp 51 0 [sI 1 s1,bx 5,sD 20 (D.l X5.D) s20,sI 21 s21,sI 22 s22,sD 27 (D.l Bz.D) s27,sI 28 s28,sI 29 s29],[(5,.cells ([.row 518,.clo (.func 114) [] []])),rW 518 57 4 X0.D w518,(997,.vals [] us)],[]⟩
def UL(us:List Value)(s1:Int)(s20:List X5)(s21 s22:Int)(s27:List Bz)(s28:Int)(o:(List X0)):Ex×St:=(.exit 2,⟨sp 51 0 [sI 1 s1,bx 5,sD 20 (D.l X5.D) s20,sI 21 s21,sI 22 s22],[(5,.cells ([.row 518,.clo (.func 114) [] []])),rW 518 57 4 X0.D o,(997,.vals [] us)],[]⟩)
theorem aE2(rd:Option Nat)(us:List Value)(h:Rt a8 bA aA aN bM aR bB bE=some bI):Lq 90 rd 31334 (UK us a8 bA aA aN bM aR bB bE) ((UL us a8 bA aA aN bM aR) bI):=
 lL (fun s:Int×List X0=>UK us a8 bA aA aN bM aR s.1 s.2) (UL us a8 bA aA aN bM aR) (bB,bE) (fun⟨bB,bE⟩ o h=>by
 unfold Fq at h
 refine iB 30 h (fun h=>?_) fun h=>?_
 obtain⟨o12,h17,h⟩:=bS h
 refine gl (aEx rd us h17) ?_
 exact lB h [.live [1,5,20,21,22,27,28,29],.keep [5,546,997],.ren 546 518,.sort]
 exact lb h) h
def UI(us:List Value)(s1:Int)(s20:List X5)(s21 s22:Int)(w518:List X0):St:=⟨sp 51 0 [sI 1 s1,bx 5,sD 20 (D.l X5.D) s20,sI 21 s21,sI 22 s22],[(5,.cells ([.row 518,.clo (.func 114) [] []])),rW 518 57 4 X0.D w518,(997,.vals [] us)],[]⟩
def UJ(us:List Value)(s1:Int)(s20:List X5)(s21:Int)(o:(List X0)):Ex×St:=(.exit 0,⟨sp 51 0 [bx 5],[(5,.cells ([.row 518,.clo (.func 114) [] []])),rW 518 57 4 X0.D o,(997,.vals [] us)],[]⟩)
theorem aE0(rd:Option Nat)(us:List Value)(h:UH a8 bA aA aN bE=some bI):Lq 90 rd 122 (UI us a8 bA aA aN bE) ((UJ us a8 bA aA) bI):=
 lL (fun s:Int×List X0=>UI us a8 bA aA s.1 s.2) (UJ us a8 bA aA) (aN,bE) (fun⟨aN,bE⟩ o h=>by
 unfold Fp at h
 refine iB 23 h (fun h=>?_) fun h=>?_
 refine xX 24 X5.D h fun x7 h=>?_
 refine gN 28 Bz.D x7.args ?_
 obtain⟨o13,h18,h⟩:=bS h
 refine gl (aE2 rd us h18) ?_
 exact lb h
 exact lb h) h
theorem aVu(h:Xa a7 a8=some bE):AM Tryz.prog 90 [.d (AD.D a7),dI a8] [] (.row 0) [rW 0 57 4 X0.D bE]:=by unfold Xa at h;refine XG.call (ks:=[]) mixed fun us=>?_;apply g0 (o:=bE);refine gW 10 (.cx false [] [(0,417)] (.box 0 0) [(0,.cells ([.nil,.clo (.func 114) [] []]))])<|gW 21 (.int (a7.symbols.length:Int)) ?_;obtain⟨r1,h1,h⟩:=bS h;refine gQ (aVa h1) ?_;obtain⟨o6,h7,h⟩:=bS h;refine gL [.live [1,2,5,12],.keep [2,417,997],.ren 417 5,.sort] (aEv none us h7)<|gQ (D7 X5.D a7.symbols) ?_;obtain⟨o14,h19,h⟩:=bS h;refine gl (aE0 none us h19) ?_;obtain⟨r15,h20,h⟩:=bS h;refine gG 50 (.cx false [(0,5),(1,518)] [(2,50),(3,457)] (.row 2) [(0,.cells ([.row 3,.clo (.func 114) [] []])),rW 2 57 4 X0.D r15.1,rW 3 57 4 X0.D r15.2]) (aU5 h20) ?_;exact lX h [.live [4],.keep [50,997],.ren 50 0,.sort]
def Wt(s0:List X0)(s7:Int)(w3:X0)(s8:Int):St:=⟨sp 19 0 [sD 0 (D.l X0.D) s0,bx 3,sI 7 s7,sI 8 s8],[cL 3 X0.D w3],[]⟩
def Wu(s0:List X0)(s7:Int)(w3:X0)(o:Unit⊕Int):Ex×St:=match o with
 | .inl o=>(.exit 0,⟨sp 19 0 [],[],[]⟩)
 | .inr o=>(.ret,⟨sp 19 0 [sI 4 o],[],[]⟩)
theorem aJe(rd:Option Nat)(h:SP bE a8 aI aA=some aF):Lq 118 rd 26 (Wt bE a8 aI aA) ((Wu bE a8 aI) aF):=
 lL (fun s:Int=>Wt bE a8 aI s) (Wu bE a8 aI) aA (fun aA o h=>by
 unfold G5 at h
 refine iB 9 h (fun h=>?_) fun h=>?_
 refine xX 14 X0.D h fun x1 h=>?_
 refine iB 16 h (fun h=>?_) fun h=>?_
 exact lb h
 exact lb h
 exact lb h) h
theorem aXf(h:Yf bE aI=some a8):AM Tryz.prog 118 [.d ((D.l X0.D) bE),.d (X0.D aI)] [] (dI a8) []:=by
 unfold Yf at h;apply g0 (o:=a8);refine gN 7 X0.D bE ?_;obtain⟨o2,h4,h⟩:=bS h;refine gl (aJe none h4) ?_;replace h:=AL h;rcases h with⟨o3,rfl,h⟩|⟨o4,rfl,h⟩
 exact lf h;exact lf h
theorem aTc(h:Zo bE aI=some aD):AM Tryz.prog 91 [.d ((D.l X0.D) bE),.d (X0.D aI)] [] (.d (D.b aD)) []:=by unfold Zo at h;apply g0 (o:=aD);obtain⟨r1,h1,h⟩:=bS h;refine gC 7 (aXf h1) ?_;exact lf h
theorem aVb(h:Ql a8=some bE):AM Tryz.prog 119 [.nil,.d (D.i .i64 a8)] [] (.row 0) [rW 0 57 4 X0.D bE]:=
 aLx (ρ:=⟨fun _=>119,fun a8=>if a8=0 then 0 else if a8=3 then 3 else if a8=4 then 4 else if a8=9 then 9 else if a8=20 then 20 else if a8=22 then 86 else 57,id⟩) (by_:=40) X0.D rfl rfl (aZb mixed ⟨ "slices.Grow[[]proctor/api.Value,proctor/api.Value]",by decide,(Tryz.func119).trans (by kernel_rfl)⟩ Tryz.underlying0 Tryz.underlying3 Tryz.underlying4 Tryz.underlying9 Tryz.underlying20 Tryz.underlying86 (by kernel_rfl) (by kernel_rfl) (by kernel_rfl) (by kernel_rfl) (by kernel_rfl) (by kernel_rfl) (by kernel_rfl) (by kernel_rfl) (by kernel_rfl) (by kernel_rfl) (by kernel_rfl) (by kernel_rfl)) (by kernel_rfl) (by decide) a8 bE h
theorem aF1(rd:Option Nat)(h:U5 bN a8 bO aA aN aD=some bD):Lq 93 rd 14951 ⟨sp 36 0 [sD 0 (D.l (D.l X0.D)) bN,sI 3 a8,sD 9 (D.l (D.l X0.D)) bO,sI 10 aA,sI 11 aN,sD 20 D.b aD],[],[]⟩ (.normal,⟨sp 36 0 [sD 0 (D.l (D.l X0.D)) bN,sI 3 a8,sD 9 (D.l (D.l X0.D)) bO,sI 10 aA,sI 11 aN],[],[]⟩):=by unfold U5 at h;apply g0 (o:=bD);cases aD;replace h:=CJ h;exact lp h;replace h:=CK h;cases h
theorem aF0(rd:Option Nat)(h:U4 bN a8 bO aA aN=some aR):Lq 93 rd 934 ⟨sp 36 0 [sD 0 (D.l (D.l X0.D)) bN,sI 3 a8,sD 9 (D.l (D.l X0.D)) bO,sI 10 aA,sI 11 aN],[],[]⟩ (.normal,⟨sp 36 0 [sD 0 (D.l (D.l X0.D)) bN,sI 3 aR,sD 9 (D.l (D.l X0.D)) bO,sI 10 aA,sI 11 aN],[],[]⟩):=by unfold U4 at h;apply g0 (o:=aR);refine xX 13 (D.l X0.D) h fun x1 h=>?_;refine gN 17 X0.D x1 ?_;obtain⟨o2,h4,h⟩:=bS h;refine gl (aF1 rd h4) ?_;exact lp h
def U6(s0 s9:List (List X0))(s10 s3 s11:Int):St:=⟨sp 36 0 [sD 0 (D.l (D.l X0.D)) s0,sI 3 s3,sD 9 (D.l (D.l X0.D)) s9,sI 10 s10,sI 11 s11],[],[]⟩
def U7(s0 s9:List (List X0))(s10 o:Int):Ex×St:=(.exit 0,⟨sp 36 0 [sD 0 (D.l (D.l X0.D)) s0,sI 3 o],[],[]⟩)
theorem aF3(rd:Option Nat)(h:OA bN bO a8 aA aN=some aR):Lq 93 rd 58 (U6 bN bO a8 aA aN) ((U7 bN bO a8) aR):=
 lL (fun s:Int×Int=>U6 bN bO a8 s.1 s.2) (U7 bN bO a8) (aA,aN) (fun⟨aA,aN⟩ o h=>by
 unfold Fu at h
 refine iB 12 h (fun h=>?_) fun h=>?_
 obtain⟨o3,h5,h⟩:=bS h
 refine gl (aF0 rd h5) ?_
 exact lb h
 exact lb h) h
def U8(s25:List (List X0))(s26 s27:Int)(w6:List X0):St:=⟨sp 36 0 [rx 6,sD 25 (D.l (D.l X0.D)) s25,sI 26 s26,sI 27 s27],[rW 6 57 4 X0.D w6],[]⟩
def U9(s25:List (List X0))(s26:Int)(o:(List X0)):Ex×St:=(.exit 2,⟨sp 36 0 [rx 6],[rW 6 57 4 X0.D o],[]⟩)
theorem aF5(rd:Option Nat)(h:OC bN a8 aA bE=some bI):Lq 93 rd 250 (U8 bN a8 aA bE) ((U9 bN a8) bI):=
 lL (fun s:Int×List X0=>U8 bN a8 s.1 s.2) (U9 bN a8) (aA,bE) (fun⟨aA,bE⟩ o h=>by
 unfold Fv at h
 refine iB 28 h (fun h=>?_) fun h=>?_
 refine xX 29 (D.l X0.D) h fun x6 h=>?_
 refine gG 33 (.rwl ((bE++x6).map X0.D)) (An X0.D x6) ?_
 obtain⟨h10,h⟩:=cS h
 refine gQ (Au X0.D h10)<|gQ (At X0.D bE x6) ?_
 exact lB h [.live [6,25,26,27],.keep [33],.ren 33 6,.sort]
 exact lb h) h
theorem aV5(h:Xj bN=some bE):AM Tryz.prog 93 [.d ((D.l (D.l X0.D)) bN)] [] (.d ((D.l X0.D) bE)) []:=by unfold Xj at h;apply g0 (o:=bE);refine gN 10 (D.l X0.D) bN<|gW 26 (.int (bN.length:Int)) ?_;obtain⟨o4,h6,h⟩:=bS h;refine gl (aF3 none h6) ?_;obtain⟨r5,h7,h⟩:=bS h;refine gG 24 (.cx true [] [(0,24)] (.row 0) [rW 0 57 4 X0.D r5]) (aVb h7)<|gQ (D7 (D.l X0.D) bN) ?_;obtain⟨o7,h11,h⟩:=bS h;refine gL [.live [6,25,26,27],.keep [24],.ren 24 6,.sort] (aF5 none h11) ?_;exact lF h [.frz 6]
theorem aG3(rd:Option Nat)(h:aG2 a8 bE aD aI aQ=some bP):Lq 92 rd 965 ⟨sp 30 0 [sI 0 a8,sD 1 (D.l X0.D) bE,bx 4,bx 6,sD 20 D.b aD],[cL 4 X0.D aI,cL 6 X0.D aQ],[]⟩ (.normal,⟨sp 30 0 [sI 0 a8,sD 1 (D.l X0.D) bE,bx 4,bx 6],[cL 4 X0.D aI,cL 6 X0.D bP],[]⟩):=by unfold aG2 at h;apply g0 (o:=bP);cases aD;replace h:=CJ h;refine gW 27 (.str (aQ.str++([97]:List UInt8))) ?_;obtain⟨h6,h⟩:=cS h;refine gQ (Jl h6) ?_;exact lp h;replace h:=CK h;exact lp h
theorem aG1(rd:Option Nat)(h:R8 a8 bE aI aQ=some bP):Lq 92 rd 241 ⟨sp 30 0 [sI 0 a8,sD 1 (D.l X0.D) bE,bx 4,bx 6],[cL 4 X0.D aI,cL 6 X0.D aQ],[]⟩ (.normal,⟨sp 30 0 [sI 0 a8,sD 1 (D.l X0.D) bE,bx 4,bx 6],[cL 4 X0.D aI,cL 6 X0.D bP],[]⟩):=by unfold R8 at h;apply g0 (o:=bP);obtain⟨o2,h7,h⟩:=bS h;refine gl (aG3 rd h7) ?_;exact lp h
def Vb(s0:Int)(s1:List X0)(w4 w6:X0):St:=⟨sp 30 0 [sI 0 s0,sD 1 (D.l X0.D) s1,bx 4,bx 6],[cL 4 X0.D w4,cL 6 X0.D w6],[]⟩
def Vc(s0:Int)(s1:List X0)(w4 o:X0):Ex×St:=(.exit 0,⟨sp 30 0 [bx 4,bx 6],[cL 4 X0.D w4,cL 6 X0.D o],[]⟩)
theorem Pz(rd:Option Nat)(h:L6 a8 bE aI aQ=some bP):Lq 92 rd 60 (Vb a8 bE aI aQ) ((Vc a8 bE aI) bP):=
 lL (fun s:X0=>Vb a8 bE aI s) (Vc a8 bE aI) aQ (fun aQ o h=>by
 unfold Fx at h
 obtain⟨r1,h3,h⟩:=bS h
 refine gQ (aTc h3) ?_
 cases r1
 replace h:=CJ h
 refine gW 18 (.ret (.d (D.b false))) ?_
 exact lb h
 replace h:=CK h
 refine gW 18 (.ret (.d (D.b true))) ?_
 obtain⟨o3,h8,h⟩:=bS h
 refine gl (aG1 rd h8) ?_
 exact lb h) h
theorem aWg(h:Xt a8 bE=some bQ):AM Tryz.prog 92 [dI a8,.d ((D.l X0.D) bE)] [] (.tup [.d (X0.D bQ.1),.d (D.b bQ.2)]) []:=by unfold Xt at h;apply g0 (o:=bQ);refine iB 9 h (fun h=>?_) fun h=>?_;refine iB 12 h (fun h=>?_) fun h=>?_;exact lf h;obtain⟨o4,h9,h⟩:=bS h;refine gl (Pz none h9) ?_;exact lf h;obtain⟨o5,h10,h⟩:=bS h;refine gl (Pz none h10) ?_;exact lf h
theorem Pv(rd:Option Nat)(h:OJ bE a8 b9 aA aN aD bG bR=some bI):Lq 63 rd 15667 ⟨sp 67 0 [sD 1 (D.l X0.D) bE,sI 5 a8,rx 6,bx 8,sD 28 (D.l X2.D) b9,sI 29 aA,sI 30 aN,sD 45 D.b aD],[rW 6 57 4 X0.D bG,cL 8 X2.D bR],[]⟩ (.normal,⟨sp 67 0 [sD 1 (D.l X0.D) bE,sI 5 a8,rx 6,sD 28 (D.l X2.D) b9,sI 29 aA,sI 30 aN],[rW 6 57 4 X0.D bI],[]⟩):=by unfold OJ at h;apply g0 (o:=bI);cases aD;replace h:=CJ h;exact lp h;replace h:=CK h;refine gQ (An X0.D [bR.value])<|gG 50 (.rwl ((bG++[bR.value]).map X0.D)) (An X0.D [bR.value]) ?_;obtain⟨h9,h⟩:=cS h;refine gQ (Au X0.D h9)<|gQ (At X0.D bG [bR.value]) ?_;exact lP h [.live [1,5,6,28,29,30],.keep [50],.ren 50 6,.sort]
theorem aGp(rd:Option Nat)(h:R2 bE a8 b9 aA aN bG=some bI):Lq 63 rd 1958 ⟨sp 67 0 [sD 1 (D.l X0.D) bE,sI 5 a8,rx 6,sD 28 (D.l X2.D) b9,sI 29 aA,sI 30 aN],[rW 6 57 4 X0.D bG],[]⟩ (.normal,⟨sp 67 0 [sD 1 (D.l X0.D) bE,sI 5 a8,rx 6,sD 28 (D.l X2.D) b9,sI 29 aA,sI 30 aN],[rW 6 57 4 X0.D bI],[]⟩):=by unfold R2 at h;apply g0 (o:=bI);refine xX 32 X2.D h fun x4 h=>?_;refine iB 39 h (fun h=>?_) fun h=>?_;obtain⟨r5,h7,h⟩:=bS h;refine gG 43 (.lend [6] (.d (D.b r5))) (aTc h7) ?_;obtain⟨o6,h10,h⟩:=bS h;refine gl (Pv rd h10) ?_;exact lp h;obtain⟨o7,h11,h⟩:=bS h;refine gl (Pv rd h11) ?_;exact lp h
def VK(s1:List X0)(s5:Int)(s28:List X2)(s29 s30:Int)(w6:List X0):St:=⟨sp 67 0 [sD 1 (D.l X0.D) s1,sI 5 s5,rx 6,sD 28 (D.l X2.D) s28,sI 29 s29,sI 30 s30],[rW 6 57 4 X0.D w6],[]⟩
def VL(s1:List X0)(s5:Int)(s28:List X2)(s29:Int)(o:(List X0)):Ex×St:=(.exit 0,⟨sp 67 0 [sD 1 (D.l X0.D) s1,sI 5 s5,rx 6],[rW 6 57 4 X0.D o],[]⟩)
theorem aGs(rd:Option Nat)(h:R3 bE a8 b9 aA aN bG=some bI):Lq 63 rd 122 (VK bE a8 b9 aA aN bG) ((VL bE a8 b9 aA) bI):=
 lL (fun s:Int×List X0=>VK bE a8 b9 aA s.1 s.2) (VL bE a8 b9 aA) (aN,bG) (fun⟨aN,bG⟩ o h=>by
 unfold Fw at h
 refine iB 31 h (fun h=>?_) fun h=>?_
 obtain⟨o8,h12,h⟩:=bS h
 refine gl (aGp rd h12) ?_
 exact lb h
 exact lb h) h
theorem aGq(rd:Option Nat)(h:OK aD bE aI=some bI):Lq 63 rd 251 ⟨sp 67 0 [rx 6,bx 9,sD 61 D.b aD],[(6,.row 57 4 (bE.map X0.D)),cL 9 X0.D aI],[]⟩ (.normal,⟨sp 67 0 [rx 6],[(6,.row 57 4 (bI.map X0.D))],[]⟩):=by unfold OK at h;apply g0 (o:=bI);cases aD;replace h:=CJ h;exact lp h;replace h:=CK h;refine gQ (An X0.D [aI])<|gG 65 (.sl ((bE++[aI]).map X0.D)) (An X0.D [aI]) ?_;obtain⟨h17,h⟩:=cS h;refine gQ (Au X0.D h17)<|gQ (At X0.D bE [aI]) ?_;exact lP h [.live [6],.keep [65],.ren 65 6,.sort]
theorem aWc(h:Xo bU bE=some bG):AM Tryz.prog 63 [.d (Xq.D bU),.d ((D.l X0.D) bE)] [] (.d ((D.l X0.D) bG)) []:=by unfold Xo at h;apply g0 (o:=bG);refine gW 29 (.int (bU.b.length:Int))<|gW 54 (.fzn 6)<|xX 16 Xl.D h fun x1 h=>?_;refine xX 21 dZ h fun x2 h=>?_;obtain⟨r3,h3,h⟩:=bS h;refine gG 26 (.cx false [] [(0,26)] (.row 0) [rW 0 57 4 X0.D r3]) (aVu h3)<|gQ (D7 X2.D bU.b) ?_;obtain⟨o9,h13,h⟩:=bS h;refine gL [.live [1,5,6,28,29,30],.keep [26],.ren 26 6,.sort] (aGs none h13)<|gQ (An (D.l X0.D) [o9,bE]) ?_;obtain⟨r10,h14,h⟩:=bS h;refine gC 57 (aV5 h14) ?_;obtain⟨r11,h15,h⟩:=bS h;refine gC 58 (aWg h15) ?_;obtain⟨o12,h18,h⟩:=bS h;refine gl (aGq none h18) ?_;exact lf h
def Ww(s1:Int)(s8:List X2)(s9:Int)(w4:X0)(s10:Int):St:=⟨sp 22 0 [sI 1 s1,bx 4,sD 8 (D.l X2.D) s8,sI 9 s9,sI 10 s10],[cL 4 X0.D w4],[]⟩
def Wx(s1:Int)(s8:List X2)(s9:Int)(w4:X0)(o:Unit⊕X0):Ex×St:=match o with
 | .inl o=>(.exit 0,⟨sp 22 0 [bx 4],[cL 4 X0.D w4],[]⟩)
 | .inr o=>(.ret,⟨sp 22 0 [bx 4,sD 5 D.b true],[cL 4 X0.D o],[]⟩)
theorem aJg(rd:Option Nat)(h:Wv a8 b9 aA aI aN=some bV):Lq 120 rd 26 (Ww a8 b9 aA aI aN) ((Wx a8 b9 aA aI) bV):=
 lL (fun s:Int=>Ww a8 b9 aA aI s) (Wx a8 b9 aA aI) aN (fun aN o h=>by
 unfold G6 at h
 refine iB 11 h (fun h=>?_) fun h=>?_
 refine xX 12 X2.D h fun x1 h=>?_
 refine iB 17 h (fun h=>?_) fun h=>?_
 exact lb h
 exact lb h
 exact lb h) h
theorem aXi(h:Yg b9 a8=some bQ):AM Tryz.prog 120 [.d ((D.l X2.D) b9),dI a8] [] (.tup [.d (X0.D bQ.1),.d (D.b bQ.2)]) []:=by
 unfold Yg at h;apply g0 (o:=bQ);refine gN 9 X2.D b9 ?_;obtain⟨o2,h4,h⟩:=bS h;refine gl (aJg none h4) ?_;replace h:=AL h;rcases h with⟨o3,rfl,h⟩|⟨o4,rfl,h⟩
 exact lf h;exact lf h
theorem aYx(h:Zq bU aW aI=some aD):AM Tryz.prog 94 [.d (Xq.D bU),.d (Bz.D aW),.d (X0.D aI)] [] (.d (D.b aD)) []:=by unfold Zq at h;apply g0 (o:=aD);refine iB 11 h (fun h=>?_) fun h=>?_;exact lf h;refine iB 17 h (fun h=>?_) fun h=>?_;obtain⟨r1,h3,h⟩:=bS h;refine gC 24 (aXi h3) ?_;refine iB 28 h (fun h=>?_) fun h=>?_;exact lf h;exact lf h;exact lf h
theorem P0(rd:Option Nat)(h:ON a8 aA bA aN aR aD bU aI=some bB):Lq 64 rd 15667 ⟨sp 42 0 [bx 2,bx 3,(5,.clo (.func 94) [] []),sD 6 dU a8,sI 7 aA,sD 11 (D.l X5.D) bA,sI 12 aN,sI 13 aR,sD 34 D.b aD],[cL 2 Xq.D bU,cL 3 X0.D aI],[]⟩ (.normal,⟨sp 42 0 [bx 2,bx 3,(5,.clo (.func 94) [] []),sD 6 dU bB,sD 11 (D.l X5.D) bA,sI 12 aN,sI 13 aR],[cL 2 Xq.D bU,cL 3 X0.D aI],[]⟩):=by unfold ON at h;apply g0 (o:=bB);cases aD;replace h:=CJ h;exact lp h;replace h:=CK h;obtain⟨h7,h⟩:=cS h;refine gQ h7 ?_;exact lp h
theorem aG6(rd:Option Nat)(h:SA a8 bA aA aN bU aI=some aR):Lq 64 rd 1958 ⟨sp 42 0 [bx 2,bx 3,(5,.clo (.func 94) [] []),sD 6 dU a8,sD 11 (D.l X5.D) bA,sI 12 aA,sI 13 aN],[cL 2 Xq.D bU,cL 3 X0.D aI],[]⟩ (.normal,⟨sp 42 0 [bx 2,bx 3,(5,.clo (.func 94) [] []),sD 6 dU aR,sD 11 (D.l X5.D) bA,sI 12 aA,sI 13 aN],[cL 2 Xq.D bU,cL 3 X0.D aI],[]⟩):=by unfold SA at h;apply g0 (o:=aR);refine xX 16 X5.D h fun x1 h=>?_;refine iB 23 h (fun h=>?_) fun h=>?_;refine xX 30 Bz.D h fun x2 h=>?_;obtain⟨r3,h5,h⟩:=bS h;refine gC 33 (aYx h5) ?_;obtain⟨o4,h8,h⟩:=bS h;refine gl (P0 rd h8) ?_;exact lp h;obtain⟨o5,h9,h⟩:=bS h;refine gl (P0 rd h9) ?_;exact lp h
def Ve(s11:List X5)(s12:Int)(w2:Xq)(w3:X0)(s6 s13:Int):St:=⟨sp 42 0 [bx 2,bx 3,(5,.clo (.func 94) [] []),sD 6 dU s6,sD 11 (D.l X5.D) s11,sI 12 s12,sI 13 s13],[cL 2 Xq.D w2,cL 3 X0.D w3],[]⟩
def Vf(s11:List X5)(s12:Int)(w2:Xq)(w3:X0)(o:Int):Ex×St:=(.exit 0,⟨sp 42 0 [sD 6 dU o],[],[]⟩)
theorem aG8(rd:Option Nat)(h:Vd bA a8 bU aI aA aN=some aR):Lq 64 rd 122 (Ve bA a8 bU aI aA aN) ((Vf bA a8 bU aI) aR):=
 lL (fun s:Int×Int=>Ve bA a8 bU aI s.1 s.2) (Vf bA a8 bU aI) (aA,aN) (fun⟨aA,aN⟩ o h=>by
 unfold Fy at h
 refine iB 14 h (fun h=>?_) fun h=>?_
 obtain⟨o6,h10,h⟩:=bS h
 refine gl (aG6 rd h10) ?_
 exact lb h
 exact lb h) h
theorem aWj(h:Xu bU aI=some a8):AM Tryz.prog 64 [.d (Xq.D bU),.d (X0.D aI)] [] (.d (dU a8)) []:=by unfold Xu at h;apply g0 (o:=a8);refine gN 12 X5.D bU.q.symbols ?_;obtain⟨o7,h11,h⟩:=bS h;refine gl (aG8 none h11) ?_;exact lf h
def Gs(clk:Nat)(es:List (Nat×Int×Bool))(us:List Value)(s8:Int)(s12:List X0)(s13 s14:Int)(w0:List (Int×Bool))(w3:Xq)(w5:List (Int×Bool))(sn:List Nat):St:=⟨sp 33 0 [rx 0,bx 3,rx 5,sD 8 dU s8,sD 12 (D.l X0.D) s12,sI 13 s13,sI 14 s14,bx 22],[(0,.map clk (dl dU D.b es)),cL 3 Xq.D w3,(5,.mapS (ms dU D.b w5)),(22,.mit 0 clk sn),(997,.vals [] us)],[]⟩
def Gt(clk:Nat)(es:List (Nat×Int×Bool))(us:List Value)(s8:Int)(s12:List X0)(s13 s14:Int)(w0:List (Int×Bool))(w3:Xq)(o:(List (Int×Bool))):Ex×St:=(.exit 2,⟨sp 33 0 [rx 0,bx 3,rx 5,sD 12 (D.l X0.D) s12,sI 13 s13,sI 14 s14],[(0,.map clk (dl dU D.b es)),cL 3 Xq.D w3,(5,.mapS (ms dU D.b o)),(997,.vals [] us)],[]⟩)
def aOz(clk:Nat)(es:List (Nat×Int×Bool))(us:List Value)(s8:Int)(s12:List X0)(s13 s14:Int)(w0:List (Int×Bool))(w3:Xq)(w5:List (Int×Bool)):St:=⟨sp 33 0 [rx 0,bx 3,rx 5,sD 12 (D.l X0.D) s12,sI 13 s13,sI 14 s14],[(0,.map clk (dl dU D.b es)),cL 3 Xq.D w3,(5,.mapS (ms dU D.b w5)),(997,.vals [] us)],[]⟩
set_option maxRecDepth 100000 in
theorem U3(rd:Option Nat)(us:List Value)(clk:Nat)(es:List (Nat×Int×Bool))(s8:Int)(s12:List X0)(s13 s14:Int)(w0:List (Int×Bool))(w3:Xq)(k:Int)(v:Bool)(w5:List (Int×Bool))(sn:List Nat)(st:Nat)(hm:(st,k,v)∈es)(o:(List (Int×Bool)))(h:Ft s8 s12 s13 s14 w0 w3 k v w5=some o):NN Tryz.prog rd (EN Tryz.prog 46) [0,1,1,1,0,0,1,1,0,0,1,0,1,1] ((⟨(Gs clk es us s8 s12 s13 s14 w0 w3 w5 sn).E,Bw (Gs clk es us s8 s12 s13 s14 w0 w3 w5 sn).B 22 (.mit 0 clk (sn++[st])),[]⟩:St).put (some 23) (.tup [bo true,.d (dU k),.d (D.b v)])) fun zx zs=>zx=.normal/\Wk zs ((fun s:(List (Int×Bool))=>Gs clk es us s8 s12 s13 s14 w0 w3 s (sn++[st])) o):=by unfold Ft at h;obtain rfl:=si h;exact FZ mixed [(25,.en (dU k) (D.b v)),(10027,.ms (ms dU D.b (GC (AA .and .u64 k s8) true w5)))] [] [.live [0,3,5,8,12,13,14,22],.keep [0,3,5,22,997]] (ai (PK (fk:=dU) (fv:=D.b) (clk:=clk) (sn:=sn) hm) (ai (PU (aCw Tryz.underlying49) D.b w5 (AA .and .u64 k s8) true) (ti))) (by kernel_rfl)
set_option maxRecDepth 100000 in
theorem U2(rd:Option Nat)(us:List Value)(clk:Nat)(es:List (Nat×Int×Bool))(s8:Int)(s12:List X0)(s13 s14:Int)(w0:List (Int×Bool))(w3:Xq)(w5:List (Int×Bool))(sn:List Nat):NN Tryz.prog rd (EN Tryz.prog 46) [0,1,1,1,0,0,1,1,0,0,1,0,1,1] ((Gs clk es us s8 s12 s13 s14 w0 w3 w5 sn).put (some 23) (.tup [bo false])) fun zx zs=>zx=(Gt clk es us s8 s12 s13 s14 w0 w3 (IL s8 s12 s13 s14 w0 w3 w5)).1/\Wk zs (Gt clk es us s8 s12 s13 s14 w0 w3 (IL s8 s12 s13 s14 w0 w3 w5)).2:=by refine NN.wk (e:=.exit 2) (s1:=aOz clk es us s8 s12 s13 s14 w0 w3 w5) (FZ mixed [] [] [.live [0,3,5,12,13,14],.keep [0,3,5,997]] (ti) (by kernel_rfl)) ?_;exact(Wk.canS 5 (by kernel_rfl) rfl)
set_option maxRecDepth 100000 in
theorem aFz(rd:Option Nat)(us:List Value)(clk:Nat)(es:List (Nat×Int×Bool))(s8:Int)(s12:List X0)(s13 s14:Int)(w0:List (Int×Bool))(w3:Xq)(w5:List (Int×Bool))(hp:(es.map (·.2)).Perm w0)(o:(List (Int×Bool)))(h:U1 s8 s12 s13 s14 w0 w3 w5=some o):Fi Tryz.prog rd (EN Tryz.prog 46) [0,1,1,1,0,0,1,1,0,0,1,0,1,1] (Gs clk es us s8 s12 s13 s14 w0 w3 w5 []) ((Gt clk es us s8 s12 s13 s14 w0 w3) o).1 ((Gt clk es us s8 s12 s13 s14 w0 w3) o).2:=
 PG (fk:=dU) (fv:=D.b) (step:=(fun(x:Int×Bool) (s:(List (Int×Bool)))=>Ft s8 s12 s13 s14 w0 w3 x.1 x.2 s)) (s0:=w5) 22 23 22 0 clk es (fun(sn:List Nat) (s:(List (Int×Bool)))=>Gs clk es us s8 s12 s13 s14 w0 w3 s sn) (Gt clk es us s8 s12 s13 s14 w0 w3) (by kernel_rfl) (Qu (by rfl)) (fun _ _=>by kernel_rfl) (fun _ _=>by kernel_rfl) (fun _ _=>by kernel_rfl) hp
  (fun sn s k v st a hm h=>U3 rd us clk es s8 s12 s13 s14 w0 w3 k v s sn st hm a h) (fun sn s hc=>hc▸U2 rd us clk es s8 s12 s13 s14 w0 w3 s sn) h
theorem aFv(rd:Option Nat)(us:List Value)(h:Ry a8 bE aA aN bW bU bX=some bY):Lq 46 rd 7475 ⟨sp 33 0 [rx 0,bx 3,rx 5,sD 8 dU a8,sD 12 (D.l X0.D) bE,sI 13 aA,sI 14 aN],[(0,.mapS (ms dU D.b bW)),cL 3 Xq.D bU,(5,.mapS (ms dU D.b bX)),(997,.vals [] us)],[]⟩ (.normal,⟨sp 33 0 [rx 0,bx 3,rx 5,sD 12 (D.l X0.D) bE,sI 13 aA,sI 14 aN],[(0,.mapS (ms dU D.b bW)),cL 3 Xq.D bU,(5,.mapS (ms dU D.b bY)),(997,.vals [] us)],[]⟩):=by unfold Ry at h;obtain⟨o4,h5,h⟩:=bS h;obtain rfl:=si h;exact Arr.lp (Arr.exact (fk:=dU) (fv:=D.b) (S:=bW) 0 (by kernel_rfl) fun clk es hp=>Arr.setm (fk:=dU) (fv:=D.b) (S:=bW) (clk:=clk) (es:=es) 0 hp (by kernel_rfl) (by kernel_rfl) (GU mixed [] [⟨[0,1,1,1,0,0,1,1,0,0,1,0,1,1],[.live [0,3,5,8,12,13,14,22],.keep [0,3,5,22,997]],.exit 2,(Gt clk es us a8 bE aA aN bW bU o4).2⟩] [.live [0,3,5,12,13,14],.keep [0,3,5,997]] (ai (aFz rd us clk es a8 bE aA aN bW bU bX hp o4 h5) (ti)) (by kernel_rfl)))
def Uz(us:List Value)(s12:List X0)(s13:Int)(w0:List (Int×Bool))(w3:Xq)(s14:Int)(w5:List (Int×Bool)):St:=⟨sp 33 0 [rx 0,bx 3,rx 5,sD 12 (D.l X0.D) s12,sI 13 s13,sI 14 s14],[(0,.mapS (ms dU D.b w0)),cL 3 Xq.D w3,(5,.mapS (ms dU D.b w5)),(997,.vals [] us)],[]⟩
def U0(us:List Value)(s12:List X0)(s13:Int)(w0:List (Int×Bool))(w3:Xq)(o:(List (Int×Bool))):Ex×St:=(.exit 0,⟨sp 33 0 [rx 5],[(5,.mapS (ms dU D.b o)),(997,.vals [] us)],[]⟩)
theorem aFx(rd:Option Nat)(us:List Value)(h:Uy bE a8 bW bU aA bX=some bY):Lq 46 rd 58 (Uz us bE a8 bW bU aA bX) ((U0 us bE a8 bW bU) bY):=
 lL (fun s:Int×(List (Int×Bool))=>Uz us bE a8 bW bU s.1 s.2) (U0 us bE a8 bW bU) (aA,bX) (fun⟨aA,bX⟩ o h=>by
 unfold Fs at h
 refine iB 15 h (fun h=>?_) fun h=>?_
 refine xX 16 X0.D h fun x2 h=>?_
 obtain⟨r3,h4,h⟩:=bS h
 refine gC 20 (aWj h4) ?_
 obtain⟨o5,h6,h⟩:=bS h
 refine gl (aFv rd us h6) ?_
 exact lb h
 exact lb h) h
theorem aV2(h:Xi bU bW=some bY):AM Tryz.prog 46 [.row 0,.d (Xq.D bU)] [(0,.mapS (ms dU D.b bW))] (.row 1) [(1,.mapS (ms dU D.b bY))]:=by unfold Xi at h;refine XG.call (ks:=[]) mixed fun us=>?_;apply g0 (o:=bY);refine gW 10 .frz ?_;obtain⟨r1,h1,h⟩:=bS h;refine gC 12 (aWc h1)<|gN 13 X0.D r1 ?_;obtain⟨o6,h7,h⟩:=bS h;refine gL [.live [0,3,5,12,13,14],.keep [0,3,10,997],.ren 10 5,.sort] (aFx none us h7) ?_;exact lX h [.live [4],.keep [5,997],.ren 5 1,.sort]
theorem aKj(rd:Option Nat)(h:XS a8 aA aD=some bH):Lq 89 rd 13 ⟨sp 25 0 [sD 0 dU a8,sI 2 aA,sD 4 D.b aD],[],[]⟩ (.normal,⟨sp 25 0 [sD 0 dU bH.1,sI 2 bH.2],[],[]⟩):=by unfold XS at h;apply g0 (o:=bH);cases aD;replace h:=CJ h;exact lp h;replace h:=CK h;refine gQ (of_decide_eq_true rfl:(0:Int)<=32) ?_;exact lp h
theorem aKk(rd:Option Nat)(h:XT a8 aA aD=some bH):Lq 89 rd 29 ⟨sp 25 0 [sD 0 dU a8,sI 2 aA,sD 8 D.b aD],[],[]⟩ (.normal,⟨sp 25 0 [sD 0 dU bH.1,sI 2 bH.2],[],[]⟩):=by unfold XT at h;apply g0 (o:=bH);cases aD;replace h:=CJ h;exact lp h;replace h:=CK h;refine gQ (of_decide_eq_true rfl:(0:Int)<=16) ?_;exact lp h
theorem aKl(rd:Option Nat)(h:XU a8 aA aD=some bH):Lq 89 rd 61 ⟨sp 25 0 [sD 0 dU a8,sI 2 aA,sD 14 D.b aD],[],[]⟩ (.normal,⟨sp 25 0 [sD 0 dU bH.1,sI 2 bH.2],[],[]⟩):=by unfold XU at h;apply g0 (o:=bH);cases aD;replace h:=CJ h;exact lp h;replace h:=CK h;refine gQ (of_decide_eq_true rfl:(0:Int)<=8) ?_;exact lp h
theorem aX0(h:Yy a8=some aA):AM Tryz.prog 89 [.d (dU a8)] [] (dI aA) []:=by unfold Yy at h;apply g0 (o:=aA);obtain⟨o1,h2,h⟩:=bS h;refine gl (aKj none h2) ?_;obtain⟨o2,h4,h⟩:=bS h;refine gl (aKk none h4) ?_;obtain⟨o3,h6,h⟩:=bS h;refine gl (aKl none h6)<|gG 21 (.int (u8w o3.1).toNat) (Kh o3.1) ?_;obtain⟨x4,h7,h⟩:=xS h;refine gG 22 (.int x4.toNat) (HB h7)<|gG 23 (.int x4.toNat) (Pb x4) ?_;exact lf h
theorem aOi(h:Q8 a8=some aA):AM Tryz.prog 62 [.d (dU a8)] [] (dI aA) []:=by unfold Q8 at h;apply g0 (o:=aA);obtain⟨r1,h1,h⟩:=bS h;refine gC 7 (aX0 h1) ?_;exact lf h
theorem aSb(h:Q9 a8=some aD):AM Tryz.prog 124 [.d (dU a8)] [] (.d (D.b aD)) []:=by unfold Q9 at h;apply g0 (o:=aD);exact lf h
theorem E1(h:Yh a8 aA=some aD):AM Tryz.prog 101 [.d (dU a8),.d (dU aA)] [] (.d (D.b aD)) []:=by unfold Yh at h;apply g0 (o:=aD);obtain⟨r1,h1,h⟩:=bS h;refine gQ (aSb h1) ?_;cases r1;replace h:=CJ h;refine gW 6 (.ret (.d (D.b false))) ?_;exact lf h;replace h:=CK h;refine gW 6 (.ret (.d (D.b true))) ?_;obtain⟨r2,h3,h⟩:=bS h;refine gC 9 (aSb h3) ?_;refine iB 12 h (fun h=>?_) fun h=>?_;exact lf h;exact lf h
def WA(us:List Value)(s1 s2:Int)(s6 s7:Int)(w0:List Int):St:=⟨sp 49 0 [rx 0,sI 1 s1,sI 2 s2,sI 6 s6,sI 7 s7],[rW 0 49 1 dU w0,(997,.vals [.row 0] us)],[]⟩
def WB(us:List Value)(s1 s2 s6:Int)(o:(List Int)):Ex×St:=(.exit 2,⟨sp 49 0 [rx 0,sI 1 s1,sI 2 s2,sI 6 s6],[rW 0 49 1 dU o,(997,.vals [.row 0] us)],[]⟩)
theorem aH2(rd:Option Nat)(us:List Value)(h:SL a8 aA aN aR aZ=some b6):Lq 95 rd 402 (WA us a8 aA aN aR aZ) ((WB us a8 aA aN) b6):=
 lL (fun s:Int×List Int=>WA us a8 aA aN s.1 s.2) (WB us a8 aA aN) (aR,aZ) (fun⟨aR,aZ⟩ o h=>by
 unfold Ey at h
 refine iB 19 h (fun h=>?_) fun h=>?_
 obtain⟨h3,h⟩:=cS h
 refine gQ h3.1<|gQ (AF dU h3.2) ?_
 obtain⟨x1,h4,h⟩:=xS h
 refine gG 23 (.el (dU x1)) (AH dU h4) ?_
 obtain⟨h5,h⟩:=cS h
 refine gQ h5.1<|gQ (AF dU h5.2) ?_
 obtain⟨x2,h6,h⟩:=xS h
 refine gG 28 (.el (dU x2)) (AH dU h6) ?_
 obtain⟨r3,h7,h⟩:=bS h
 refine gQ (E1 h7) ?_
 cases r3
 replace h:=CJ h
 refine gW 29 (.ret (.d (D.b false))) ?_
 exact lb h
 replace h:=CK h
 refine gW 29 (.ret (.d (D.b true))) ?_
 obtain⟨h9,h⟩:=cS h
 refine gQ h9.1<|gQ (AF dU h9.2) ?_
 obtain⟨x4,h10,h⟩:=xS h
 refine gG 42 (.el (dU x4)) (AH dU h10)<|gW 10047 (.sl ((aZ.set aR.toNat x4).map dU)) ?_
 obtain⟨h11,h⟩:=cS h
 refine gQ h11.1<|gQ (AF dU h11.2) ?_
 obtain⟨x5,h12,h⟩:=xS h
 refine gG 46 (.el (dU x5)) (AH dU h12)<|gW 10048 (.sl (((aZ.set aR.toNat x4).set (AA .sub .i64 aR 1).toNat x5).map dU)) ?_
 obtain⟨h13,h⟩:=cS h
 refine gQ h13.1<|gQ (AF dU h13.2) ?_
 obtain⟨h14,h⟩:=cS h
 refine gQ (Ax dU h14)<|gQ (AS dU aZ aR x4) ?_
 obtain⟨h15,h⟩:=cS h
 refine gQ h15.1<|gQ (AF dU h15.2) ?_
 obtain⟨h16,h⟩:=cS h
 refine gQ (Ax dU h16)<|gQ (AS dU (aZ.set aR.toNat x4) (AA .sub .i64 aR 1) x5) ?_
 exact lb h
 exact lb h) h
def V8(us:List Value)(s1 s2 s6:Int)(w0:List Int):St:=⟨sp 49 0 [rx 0,sI 1 s1,sI 2 s2,sI 6 s6],[rW 0 49 1 dU w0,(997,.vals [.row 0] us)],[]⟩
def V9(us:List Value)(s1 s2:Int)(o:(List Int)):Ex×St:=(.exit 0,⟨sp 49 0 [],[rW 0 49 1 dU o,(997,.vals [.row 0] us)],[]⟩)
theorem aH1(rd:Option Nat)(us:List Value)(h:SK a8 aA aN aZ=some b6):Lq 95 rd 6 (V8 us a8 aA aN aZ) ((V9 us a8 aA) b6):=
 lL (fun s:Int×List Int=>V8 us a8 aA s.1 s.2) (V9 us a8 aA) (aN,aZ) (fun⟨aN,aZ⟩ o h=>by
 unfold Gz at h
 refine iB 12 h (fun h=>?_) fun h=>?_
 obtain⟨o6,h17,h⟩:=bS h
 refine gl (aH2 rd us h17) ?_
 exact lb h
 exact lb h) h
theorem aWr(h:Y2 a8 aA aZ=some bZ):AM Tryz.prog 95 [.row 0,dI a8,dI aA] [rW 0 49 1 dU aZ] (.tup []) [rW 0 49 1 dU bZ]:=by unfold Y2 at h;refine XG.call (ks:=[0]) mixed fun us=>?_;apply g0 (o:=bZ);obtain⟨o7,h18,h⟩:=bS h;refine gl (aH1 none us h18) ?_;exact lX h (lv [] [0,997])
theorem P2(rd:Option Nat)(us:List Value)(h:Ky a8 aA aN aR aD aZ=some bB):Lq 121 rd 397 ⟨sp 76 0 [rx 0,sI 2 a8,sI 3 aA,sI 8 aN,sI 9 aR,sD 36 D.b aD],[rW 0 49 1 dU aZ,(997,.vals [.row 0] us)],[]⟩ (.normal,⟨sp 76 0 [rx 0,sI 2 a8,sI 3 aA,sI 8 aN,sI 9 bB],[rW 0 49 1 dU aZ,(997,.vals [.row 0] us)],[]⟩):=by unfold Ky at h;apply g0 (o:=bB);cases aD;replace h:=CJ h;exact lp h;replace h:=CK h;exact lp h
theorem aHf(rd:Option Nat)(us:List Value)(h:Jv a8 aA aN aZ=some c9):Lq 121 rd 12 ⟨sp 76 0 [rx 0,sI 2 a8,sI 3 aA,sI 8 aN],[rW 0 49 1 dU aZ,(997,.vals [.row 0] us)],[]⟩ (match (generalizing:=false) c9 with
 | .inl c9=>(.normal,⟨sp 76 0 [rx 0,sI 2 a8,sI 3 aA,sI 8 c9.1],[rW 0 49 1 dU c9.2,(997,.vals [.row 0] us)],[]⟩)
 | .inr c9=>match (generalizing:=false) c9 with
 | .inl c9=>(.exit 0,⟨sp 76 0 [],[rW 0 49 1 dU aZ,(997,.vals [.row 0] us)],[]⟩)
 | .inr c9=>(.ret,⟨sp 76 0 [],[rW 0 49 1 dU aZ,(997,.vals [.row 0] us)],[]⟩)):=by
 unfold Jv at h
 apply g0 (o:=c9)
 refine iB 16 h (fun h=>?_) fun h=>?_
 exact lp h
 refine iB 21 h (fun h=>?_) fun h=>?_
 obtain⟨h3,h⟩:=cS h
 refine gQ h3.1<|gQ (AF dU h3.2) ?_
 obtain⟨x1,h4,h⟩:=xS h
 refine gG 27 (.el (dU x1)) (AH dU h4) ?_
 obtain⟨h5,h⟩:=cS h
 refine gQ h5.1<|gQ (AF dU h5.2) ?_
 obtain⟨x2,h6,h⟩:=xS h
 refine gG 34 (.el (dU x2)) (AH dU h6) ?_
 obtain⟨r3,h7,h⟩:=bS h
 refine gC 35 (E1 h7) ?_
 obtain⟨o4,h9,h⟩:=bS h
 refine gl (P2 rd us h9) ?_
 obtain⟨h10,h⟩:=cS h
 refine gQ h10.1<|gQ (AF dU h10.2) ?_
 obtain⟨x5,h11,h⟩:=xS h
 refine gG 44 (.el (dU x5)) (AH dU h11) ?_
 obtain⟨h12,h⟩:=cS h
 refine gQ h12.1<|gQ (AF dU h12.2) ?_
 obtain⟨x6,h13,h⟩:=xS h
 refine gG 50 (.el (dU x6)) (AH dU h13) ?_
 obtain⟨r7,h14,h⟩:=bS h
 refine gC 51 (E1 h14) ?_
 refine iB 52 h (fun h=>?_) fun h=>?_
 exact lp h
 obtain⟨h16,h⟩:=cS h
 refine gQ h16.1<|gQ (AF dU h16.2) ?_
 obtain⟨x8,h17,h⟩:=xS h
 refine gG 66 (.el (dU x8)) (AH dU h17)<|gW 10073 (.sl ((aZ.set (AA .add .i64 aA aN).toNat x8).map dU)) ?_
 obtain⟨h18,h⟩:=cS h
 refine gQ h18.1<|gQ (AF dU h18.2) ?_
 obtain⟨x9,h19,h⟩:=xS h
 refine gG 72 (.el (dU x9)) (AH dU h19)<|gW 10074 (.sl (((aZ.set (AA .add .i64 aA aN).toNat x8).set (AA .add .i64 aA o4).toNat x9).map dU)) ?_
 obtain⟨h20,h⟩:=cS h
 refine gQ h20.1<|gQ (AF dU h20.2) ?_
 obtain⟨h21,h⟩:=cS h
 refine gQ (Ax dU h21)<|gQ (AS dU aZ (AA .add .i64 aA aN) x8) ?_
 obtain⟨h22,h⟩:=cS h
 refine gQ h22.1<|gQ (AF dU h22.2) ?_
 obtain⟨h23,h⟩:=cS h
 refine gQ (Ax dU h23)<|gQ (AS dU (aZ.set (AA .add .i64 aA aN).toNat x8) (AA .add .i64 aA o4) x9) ?_
 exact lp h
 obtain⟨o10,h24,h⟩:=bS h
 refine gl (P2 rd us h24) ?_
 obtain⟨h25,h⟩:=cS h
 refine gQ h25.1<|gQ (AF dU h25.2) ?_
 obtain⟨x11,h26,h⟩:=xS h
 refine gG 44 (.el (dU x11)) (AH dU h26) ?_
 obtain⟨h27,h⟩:=cS h
 refine gQ h27.1<|gQ (AF dU h27.2) ?_
 obtain⟨x12,h28,h⟩:=xS h
 refine gG 50 (.el (dU x12)) (AH dU h28) ?_
 obtain⟨r13,h29,h⟩:=bS h
 refine gC 51 (E1 h29) ?_
 refine iB 52 h (fun h=>?_) fun h=>?_
 exact lp h
 obtain⟨h31,h⟩:=cS h
 refine gQ h31.1<|gQ (AF dU h31.2) ?_
 obtain⟨x14,h32,h⟩:=xS h
 refine gG 66 (.el (dU x14)) (AH dU h32)<|gW 10073 (.sl ((aZ.set (AA .add .i64 aA aN).toNat x14).map dU)) ?_
 obtain⟨h33,h⟩:=cS h
 refine gQ h33.1<|gQ (AF dU h33.2) ?_
 obtain⟨x15,h34,h⟩:=xS h
 refine gG 72 (.el (dU x15)) (AH dU h34)<|gW 10074 (.sl (((aZ.set (AA .add .i64 aA aN).toNat x14).set (AA .add .i64 aA o10).toNat x15).map dU)) ?_
 obtain⟨h35,h⟩:=cS h
 refine gQ h35.1<|gQ (AF dU h35.2) ?_
 obtain⟨h36,h⟩:=cS h
 refine gQ (Ax dU h36)<|gQ (AS dU aZ (AA .add .i64 aA aN) x14) ?_
 obtain⟨h37,h⟩:=cS h
 refine gQ h37.1<|gQ (AF dU h37.2) ?_
 obtain⟨h38,h⟩:=cS h
 refine gQ (Ax dU h38)<|gQ (AS dU (aZ.set (AA .add .i64 aA aN).toNat x14) (AA .add .i64 aA o10) x15) ?_
 exact lp h
def Vm(us:List Value)(s2 s3 s8:Int)(w0:List Int):St:=⟨sp 76 0 [rx 0,sI 2 s2,sI 3 s3,sI 8 s8],[rW 0 49 1 dU w0,(997,.vals [.row 0] us)],[]⟩
def Vn(us:List Value)(s2 s3:Int)(o:(List Int)⊕(List Int)):Ex×St:=match o with
 | .inl o=>(.exit 0,⟨sp 76 0 [],[rW 0 49 1 dU o,(997,.vals [.row 0] us)],[]⟩)
 | .inr o=>(.ret,⟨sp 76 0 [],[rW 0 49 1 dU o,(997,.vals [.row 0] us)],[]⟩)
theorem aHg(rd:Option Nat)(us:List Value)(h:SC a8 aA aN aZ=some cA):Lq 121 rd 6 (Vm us a8 aA aN aZ) ((Vn us a8 aA) cA):=
 lL (fun s:Int×List Int=>Vm us a8 aA s.1 s.2) (Vn us a8 aA) (aN,aZ) (fun⟨aN,aZ⟩ o h=>by
 unfold EY at h
 obtain⟨o16,h39,h⟩:=bS h
 refine gl (aHf rd us h39) ?_
 replace h:=AL h
 rcases h with⟨o17,rfl,h⟩|⟨o18,rfl,h⟩
 exact lb h
 replace h:=AL h
 rcases h with⟨o19,rfl,h⟩|⟨o20,rfl,h⟩
 exact lb h
 exact lb h) h
theorem aSs(h:Xw a8 aA aN aZ=some bZ):AM Tryz.prog 121 [.row 0,dI a8,dI aA,dI aN] [rW 0 49 1 dU aZ] (.tup []) [rW 0 49 1 dU bZ]:=by
 unfold Xw at h;refine XG.call (ks:=[0]) mixed fun us=>?_;apply g0 (o:=bZ);obtain⟨o21,h40,h⟩:=bS h;refine gl (aHg none us h40) ?_;replace h:=AL h;rcases h with⟨o22,rfl,h⟩|⟨o23,rfl,h⟩
 exact lX h (lv [] [0,997]);exact lX h (lv [] [0,997])
def WH(us:List Value)(s6 s7:Int)(s8 s9:Int)(w0:List Int):St:=⟨sp 56 0 [rx 0,sI 6 s6,sI 7 s7,sI 8 s8,sI 9 s9],[rW 0 49 1 dU w0,(997,.vals [.row 0] us)],[]⟩
def WJ(us:List Value)(s6 s7 s8:Int)(o:(List Int)):Ex×St:=(.exit 0,⟨sp 56 0 [rx 0,sI 6 s6,sI 7 s7,sI 8 s8],[rW 0 49 1 dU o,(997,.vals [.row 0] us)],[]⟩)
theorem aH7(rd:Option Nat)(us:List Value)(h:SM a8 aA aN aR aZ=some b6):Lq 96 rd 122 (WH us a8 aA aN aR aZ) ((WJ us a8 aA aN) b6):=
 lL (fun s:Int×List Int=>WH us a8 aA aN s.1 s.2) (WJ us a8 aA aN) (aR,aZ) (fun⟨aR,aZ⟩ o h=>by
 unfold G1 at h
 refine iB 19 h (fun h=>?_) fun h=>?_
 obtain⟨r1,h2,h⟩:=bS h
 refine gG 26 (.cx false [(0,0)] [] (.tup []) [rW 0 49 1 dU r1]) (aSs h2) ?_
 exact lb h
 exact lb h) h
def WK(us:List Value)(s6 s7 s10:Int)(w0:List Int):St:=⟨sp 56 0 [rx 0,sI 6 s6,sI 7 s7,sI 10 s10],[rW 0 49 1 dU w0,(997,.vals [.row 0] us)],[]⟩
def WL(us:List Value)(s6 s7:Int)(o:(List Int)):Ex×St:=(.exit 2,⟨sp 56 0 [],[rW 0 49 1 dU o,(997,.vals [.row 0] us)],[]⟩)
theorem aH8(rd:Option Nat)(us:List Value)(h:SN a8 aA aN aZ=some b6):Lq 96 rd 126 (WK us a8 aA aN aZ) ((WL us a8 aA) b6):=
 lL (fun s:Int×List Int=>WK us a8 aA s.1 s.2) (WL us a8 aA) (aN,aZ) (fun⟨aN,aZ⟩ o h=>by
 unfold G2 at h
 refine iB 30 h (fun h=>?_) fun h=>?_
 obtain⟨h5,h⟩:=cS h
 refine gQ h5.1<|gQ (AF dU h5.2) ?_
 obtain⟨x3,h6,h⟩:=xS h
 refine gG 44 (.el (dU x3)) (AH dU h6)<|gW 10049 (.sl ((aZ.set a8.toNat x3).map dU)) ?_
 obtain⟨h7,h⟩:=cS h
 refine gQ h7.1<|gQ (AF dU h7.2) ?_
 obtain⟨x4,h8,h⟩:=xS h
 refine gG 48 (.el (dU x4)) (AH dU h8)<|gW 10050 (.sl (((aZ.set a8.toNat x3).set (AA .add .i64 a8 aN).toNat x4).map dU)) ?_
 obtain⟨h9,h⟩:=cS h
 refine gQ h9.1<|gQ (AF dU h9.2) ?_
 obtain⟨h10,h⟩:=cS h
 refine gQ (Ax dU h10)<|gQ (AS dU aZ a8 x3) ?_
 obtain⟨h11,h⟩:=cS h
 refine gQ h11.1<|gQ (AF dU h11.2) ?_
 obtain⟨h12,h⟩:=cS h
 refine gQ (Ax dU h12)<|gQ (AS dU (aZ.set a8.toNat x3) (AA .add .i64 a8 aN) x4) ?_
 obtain⟨r5,h13,h⟩:=bS h
 refine gG 55 (.cx false [(0,0)] [] (.tup []) [rW 0 49 1 dU r5]) (aSs h13) ?_
 exact lb h
 exact lb h) h
theorem aWt(h:Y4 a8 aA aZ=some bZ):AM Tryz.prog 96 [.row 0,dI a8,dI aA] [rW 0 49 1 dU aZ] (.tup []) [rW 0 49 1 dU bZ]:=by unfold Y4 at h;refine XG.call (ks:=[0]) mixed fun us=>?_;apply g0 (o:=bZ);refine gQ (of_decide_eq_true rfl:(2:Int)≠0) ?_;obtain⟨o2,h3,h⟩:=bS h;refine gl (aH7 none us h3) ?_;obtain⟨o6,h14,h⟩:=bS h;refine gl (aH8 none us h14) ?_;exact lX h (lv [] [0,997])
theorem aSc(h:Qe a8=some aA):AM Tryz.prog 108 [dI a8] [] (.d (dU aA)) []:=by unfold Qe at h;apply g0 (o:=aA);obtain⟨r1,h1,h⟩:=bS h;refine gC 5 (aOi h1) ?_;obtain⟨h2,h⟩:=cS h;refine gQ h2 ?_;exact lf h
theorem aSd(h:Qf a8=some aH):AM Tryz.prog 109 [.box 0 0] [(0,.cells ([.d (dU a8)]))] (.d (dU aH.1)) [(0,.cells ([.d (dU aH.2)]))]:=by unfold Qf at h;refine XG.call (ks:=[0]) mixed fun us=>?_;apply g0 (o:=aH);refine gQ (of_decide_eq_true rfl:(0:Int)<=13)<|gQ (of_decide_eq_true rfl:(0:Int)<=7)<|gQ (of_decide_eq_true rfl:(0:Int)<=17) ?_;exact lX h (lv [2] [0,997])
theorem aHw(rd:Option Nat)(us:List Value)(h:OQ a8 aA aN aR bB aD aZ bC=some cB):Lq 97 rd 30501 ⟨sp 65 0 [rx 0,sI 1 a8,sI 6 aA,bx 7,sD 8 dU aN,sI 9 aR,sI 10 bB,sD 43 D.b aD],[rW 0 49 1 dU aZ,(7,.cells ([.d (dU bC)])),(997,.vals [.row 0] us)],[]⟩ (.normal,⟨sp 65 0 [rx 0,sI 1 a8,sI 6 aA,bx 7,sD 8 dU aN,sI 9 aR,sI 10 cB],[rW 0 49 1 dU aZ,(7,.cells ([.d (dU bC)])),(997,.vals [.row 0] us)],[]⟩):=by unfold OQ at h;apply g0 (o:=cB);cases aD;replace h:=CJ h;exact lp h;replace h:=CK h;exact lp h
theorem aHv(rd:Option Nat)(us:List Value)(h:SH a8 aA aN aR aZ bB=some cC):Lq 97 rd 1906 ⟨sp 65 0 [rx 0,sI 1 a8,sI 6 aA,bx 7,sD 8 dU aN,sI 9 aR],[rW 0 49 1 dU aZ,(7,.cells ([.d (dU bB)])),(997,.vals [.row 0] us)],[]⟩ (.normal,⟨sp 65 0 [rx 0,sI 1 a8,sI 6 aA,bx 7,sD 8 dU aN,sI 9 aR],[rW 0 49 1 dU cC.1,(7,.cells ([.d (dU cC.2)])),(997,.vals [.row 0] us)],[]⟩):=by unfold SH at h;apply g0 (o:=cC);obtain⟨r2,h4,h⟩:=bS h;refine gG 36 (.cx false [(0,7)] [] (.d (dU r2.1)) [(0,.cells ([.d (dU r2.2)]))]) (aSd h4) ?_;obtain⟨o3,h6,h⟩:=bS h;refine gl (aHw rd us h6) ?_;obtain⟨h7,h⟩:=cS h;refine gQ h7.1<|gQ (AF dU h7.2) ?_;obtain⟨x4,h8,h⟩:=xS h;refine gG 58 (.el (dU x4)) (AH dU h8)<|gW 10063 (.sl ((aZ.set aR.toNat x4).map dU)) ?_;obtain⟨h9,h⟩:=cS h;refine gQ h9.1<|gQ (AF dU h9.2) ?_;obtain⟨x5,h10,h⟩:=xS h;refine gG 62 (.el (dU x5)) (AH dU h10)<|gW 10064 (.sl (((aZ.set aR.toNat x4).set (AA .add .i64 a8 o3).toNat x5).map dU)) ?_;obtain⟨h11,h⟩:=cS h;refine gQ h11.1<|gQ (AF dU h11.2) ?_;obtain⟨h12,h⟩:=cS h;refine gQ (Ax dU h12)<|gQ (AS dU aZ aR x4) ?_;obtain⟨h13,h⟩:=cS h;refine gQ h13.1<|gQ (AF dU h13.2) ?_;obtain⟨h14,h⟩:=cS h;refine gQ (Ax dU h14)<|gQ (AS dU (aZ.set aR.toNat x4) (AA .add .i64 a8 o3) x5) ?_;exact lp h
def V1(us:List Value)(s1 s6:Int)(s8 s9:Int)(w0:List Int)(w7:Int):St:=⟨sp 65 0 [rx 0,sI 1 s1,sI 6 s6,bx 7,sD 8 dU s8,sI 9 s9],[rW 0 49 1 dU w0,(7,.cells ([.d (dU w7)])),(997,.vals [.row 0] us)],[]⟩
def V2(us:List Value)(s1 s6 s8:Int)(o:(List Int)):Ex×St:=(.exit 0,⟨sp 65 0 [],[rW 0 49 1 dU o,(997,.vals [.row 0] us)],[]⟩)
theorem aHx(rd:Option Nat)(us:List Value)(h:SI a8 aA aN aR aZ bB=some b6):Lq 97 rd 238 (V1 us a8 aA aN aR aZ bB) ((V2 us a8 aA aN) b6):=
 lL (fun s:Int×List Int×Int=>V1 us a8 aA aN s.1 s.2.1 s.2.2) (V2 us a8 aA aN) (aR,aZ,bB) (fun⟨aR,aZ,bB⟩ o h=>by
 unfold Gy at h
 refine gQ (of_decide_eq_true rfl:(4:Int)≠0) ?_
 refine iB 33 h (fun h=>?_) fun h=>?_
 obtain⟨o6,h15,h⟩:=bS h
 refine gl (aHv rd us h15) ?_
 exact lb h
 exact lb h) h
theorem aHu(rd:Option Nat)(us:List Value)(h:SG a8 aA aD aZ=some b6):Lq 97 rd 7 ⟨sp 65 0 [rx 0,sI 1 a8,sI 6 aA,sD 15 D.b aD],[rW 0 49 1 dU aZ,(997,.vals [.row 0] us)],[]⟩ (.normal,⟨sp 65 0 [],[rW 0 49 1 dU b6,(997,.vals [.row 0] us)],[]⟩):=by unfold SG at h;apply g0 (o:=b6);cases aD;replace h:=CJ h;exact lp h;replace h:=CK h;obtain⟨r1,h2,h⟩:=bS h;refine gC 19 (aSc h2)<|gQ (of_decide_eq_true rfl:(4:Int)≠0) ?_;obtain⟨o7,h16,h⟩:=bS h;refine gl (aHx rd us h16) ?_;exact lp h
theorem aWo(h:Y0 a8 aA aZ=some bZ):AM Tryz.prog 97 [.row 0,dI a8,dI aA] [rW 0 49 1 dU aZ] (.tup []) [rW 0 49 1 dU bZ]:=by unfold Y0 at h;refine XG.call (ks:=[0]) mixed fun us=>?_;apply g0 (o:=bZ);obtain⟨o8,h17,h⟩:=bS h;refine gl (aHu none us h17) ?_;exact lX h (lv [] [0,997])
theorem aP4(h:Zt aZ a8 aA aN=some aM):AM Tryz.prog 132 [.d ((D.l dU) aZ),dI a8,dI aA,.box 0 0] [(0,.cells ([dI aN]))] (.tup [dI aM.1,dI aM.2.1]) [(0,.cells ([dI aM.2.2]))]:=by unfold Zt at h;refine XG.call (ks:=[3]) mixed fun us=>?_;apply g0 (o:=aM);refine xX 12 dU h fun x1 h=>?_;refine xX 16 dU h fun x2 h=>?_;obtain⟨r3,h3,h⟩:=bS h;refine gQ (E1 h3) ?_;cases r3;replace h:=CJ h;refine gW 18 (.ret (.d (D.b false))) ?_;exact lX h (lv [8,9] [0,997]);replace h:=CK h;refine gW 18 (.ret (.d (D.b true))) ?_;exact lX h (lv [8,9] [0,997])
theorem aR8(h:Q4 aZ a8 aA aN aR=some aH):AM Tryz.prog 123 [.d ((D.l dU) aZ),dI a8,dI aA,dI aN,.box 0 0] [(0,.cells ([dI aR]))] (dI aH.1) [(0,.cells ([dI aH.2]))]:=by unfold Q4 at h;refine XG.call (ks:=[4]) mixed fun us=>?_;apply g0 (o:=aH);obtain⟨r1,h1,h⟩:=bS h;refine gG 16 (.cx false [(0,0)] [] (.tup [dI r1.1,dI r1.2.1]) [(0,.cells ([dI r1.2.2]))]) (aP4 h1) ?_;obtain⟨r2,h2,h⟩:=bS h;refine gG 24 (.cx false [(0,0)] [] (.tup [dI r2.1,dI r2.2.1]) [(0,.cells ([dI r2.2.2]))]) (aP4 h2) ?_;obtain⟨r3,h3,h⟩:=bS h;refine gG 32 (.cx false [(0,0)] [] (.tup [dI r3.1,dI r3.2.1]) [(0,.cells ([dI r3.2.2]))]) (aP4 h3) ?_;exact lX h (lv [10] [0,997])
theorem aP5(h:Zu aZ a8 aA=some aH):AM Tryz.prog 122 [.d ((D.l dU) aZ),dI a8,.box 0 0] [(0,.cells ([dI aA]))] (dI aH.1) [(0,.cells ([dI aH.2]))]:=by unfold Zu at h;refine XG.call (ks:=[2]) mixed fun us=>?_;apply g0 (o:=aH);obtain⟨r1,h1,h⟩:=bS h;refine gG 14 (.cx false [(0,0)] [] (dI r1.1) [(0,.cells ([dI r1.2]))]) (aR8 h1) ?_;exact lX h (lv [6] [0,997])
theorem aKp(rd:Option Nat)(h:Of aZ a8 aA aN aD aR=some cD):Lq 98 rd 4073 ⟨sp 57 0 [sD 0 (D.l dU) aZ,bx 9,sI 10 a8,sI 11 aA,sI 12 aN,sD 34 D.b aD],[(9,.cells ([dI aR]))],[]⟩ (.normal,⟨sp 57 0 [sD 0 (D.l dU) aZ,bx 9,sI 10 cD.1,sI 11 cD.2.1,sI 12 cD.2.2.1],[(9,.cells ([dI cD.2.2.2]))],[]⟩):=by unfold Of at h;apply g0 (o:=cD);cases aD;replace h:=CJ h;exact lp h;replace h:=CK h;obtain⟨r1,h3,h⟩:=bS h;refine gG 37 (.cx false [(0,9)] [] (dI r1.1) [(0,.cells ([dI r1.2]))]) (aP5 h3) ?_;obtain⟨r2,h4,h⟩:=bS h;refine gG 40 (.cx false [(0,9)] [] (dI r2.1) [(0,.cells ([dI r2.2]))]) (aP5 h4) ?_;obtain⟨r3,h5,h⟩:=bS h;refine gG 43 (.cx false [(0,9)] [] (dI r3.1) [(0,.cells ([dI r3.2]))]) (aP5 h5) ?_;exact lp h
theorem aKo(rd:Option Nat)(h:ST aZ a8 aA aN aR aD bB=some bH):Lq 98 rd 509 ⟨sp 57 0 [sD 0 (D.l dU) aZ,sI 8 a8,bx 9,sI 10 aA,sI 11 aN,sI 12 aR,sD 32 D.b aD],[(9,.cells ([dI bB]))],[]⟩ (.normal,⟨sp 57 0 [bx 9,sI 11 bH.1],[(9,.cells ([dI bH.2]))],[]⟩):=by unfold ST at h;apply g0 (o:=bH);cases aD;replace h:=CJ h;exact lp h;replace h:=CK h;obtain⟨o4,h6,h⟩:=bS h;refine gl (aKp rd h6) ?_;obtain⟨r5,h7,h⟩:=bS h;refine gG 48 (.cx false [(0,9)] [] (dI r5.1) [(0,.cells ([dI r5.2]))]) (aR8 h7) ?_;exact lp h
theorem aX2(h:Z1 aZ a8 aA=some aH):AM Tryz.prog 98 [.d ((D.l dU) aZ),dI a8,dI aA] [] (.tup [dI aH.1,dI aH.2]) []:=by unfold Z1 at h;apply g0 (o:=aH);refine gQ (of_decide_eq_true rfl:(4:Int)≠0)<|gQ (of_decide_eq_true rfl:(4:Int)≠0)<|gQ (of_decide_eq_true rfl:(4:Int)≠0) ?_;obtain⟨o6,h8,h⟩:=bS h;refine gl (aKo none h8) ?_;refine iB 51 h (fun h=>?_) fun h=>?_;exact lf h;refine iB 54 h (fun h=>?_) fun h=>?_;exact lf h;exact lf h
def XM(us:List Value)(s6 s7:Int)(w0:List Int):St:=⟨sp 32 0 [rx 0,sI 6 s6,sI 7 s7],[rW 0 49 1 dU w0,(997,.vals [.row 0] us)],[]⟩
def XN(us:List Value)(o:(List Int)):Ex×St:=(.exit 0,⟨sp 32 0 [],[rW 0 49 1 dU o,(997,.vals [.row 0] us)],[]⟩)
theorem aKf(rd:Option Nat)(us:List Value)(h:SS a8 aA aZ=some b6):Lq 99 rd 14 (XM us a8 aA aZ) ((XN us) b6):=
 lL (fun s:Int×Int×List Int=>XM us s.1 s.2.1 s.2.2) (XN us) (a8,aA,aZ) (fun⟨a8,aA,aZ⟩ o h=>by
 unfold Ip at h
 refine iB 13 h (fun h=>?_) fun h=>?_
 obtain⟨h2,h⟩:=cS h
 refine gQ h2.1<|gQ (AF dU h2.2) ?_
 obtain⟨x1,h3,h⟩:=xS h
 refine gG 21 (.el (dU x1)) (AH dU h3)<|gW 10026 (.sl ((aZ.set a8.toNat x1).map dU)) ?_
 obtain⟨h4,h⟩:=cS h
 refine gQ h4.1<|gQ (AF dU h4.2) ?_
 obtain⟨x2,h5,h⟩:=xS h
 refine gG 25 (.el (dU x2)) (AH dU h5)<|gW 10027 (.sl (((aZ.set a8.toNat x1).set aA.toNat x2).map dU)) ?_
 obtain⟨h6,h⟩:=cS h
 refine gQ h6.1<|gQ (AF dU h6.2) ?_
 obtain⟨h7,h⟩:=cS h
 refine gQ (Ax dU h7)<|gQ (AS dU aZ a8 x1) ?_
 obtain⟨h8,h⟩:=cS h
 refine gQ h8.1<|gQ (AF dU h8.2) ?_
 obtain⟨h9,h⟩:=cS h
 refine gQ (Ax dU h9)<|gQ (AS dU (aZ.set a8.toNat x1) aA x2) ?_
 exact lb h
 exact lb h) h
theorem aXv(h:Yv a8 aA aZ=some bZ):AM Tryz.prog 99 [.row 0,dI a8,dI aA] [rW 0 49 1 dU aZ] (.tup []) [rW 0 49 1 dU bZ]:=by unfold Yv at h;refine XG.call (ks:=[0]) mixed fun us=>?_;apply g0 (o:=bZ);obtain⟨o3,h10,h⟩:=bS h;refine gl (aKf none us h10) ?_;exact lX h (lv [] [0,997])
def T5(us:List Value)(s1 s2 s8:Int)(w0:List Int)(s7:Int):St:=⟨sp 133 0 [rx 0,sI 1 s1,sI 2 s2,sI 7 s7,sI 8 s8],[rW 0 49 1 dU w0,(997,.vals [.row 0] us)],[]⟩
def T6(us:List Value)(s1 s2 s8:Int)(w0:List Int)(o:Int):Ex×St:=(.exit 2,⟨sp 133 0 [rx 0,sI 1 s1,sI 2 s2,sI 7 o,sI 8 s8],[rW 0 49 1 dU w0,(997,.vals [.row 0] us)],[]⟩)
theorem aEi(rd:Option Nat)(us:List Value)(h:Rl a8 aA aN aZ aR=some bB):Lq 100 rd 3728 (T5 us a8 aA aN aZ aR) ((T6 us a8 aA aN aZ) bB):=
 lL (fun s:Int=>T5 us a8 aA aN aZ s) (T6 us a8 aA aN aZ) aR (fun aR o h=>by
 unfold Gk at h
 refine iB 20 h (fun h=>?_) fun h=>?_
 obtain⟨h3,h⟩:=cS h
 refine gQ h3.1<|gQ (AF dU h3.2) ?_
 obtain⟨x1,h4,h⟩:=xS h
 refine gG 24 (.el (dU x1)) (AH dU h4) ?_
 obtain⟨h5,h⟩:=cS h
 refine gQ h5.1<|gQ (AF dU h5.2) ?_
 obtain⟨x2,h6,h⟩:=xS h
 refine gG 29 (.el (dU x2)) (AH dU h6) ?_
 obtain⟨r3,h7,h⟩:=bS h
 refine gC 30 (E1 h7) ?_
 refine iB 32 h (fun h=>?_) fun h=>?_
 exact lb h
 exact lb h
 exact lb h) h
def T7(us:List Value)(s1 s2:Int)(s7 s8 s9:Int)(w0:List Int):St:=⟨sp 133 0 [rx 0,sI 1 s1,sI 2 s2,sI 7 s7,sI 8 s8,sI 9 s9],[rW 0 49 1 dU w0,(997,.vals [.row 0] us)],[]⟩
def T8(us:List Value)(s1 s2:Int)(s7 s8:Int)(o:(List Int)):Ex×St:=(.exit 4,⟨sp 133 0 [rx 0,sI 1 s1,sI 2 s2,sI 7 s7,sI 8 s8],[rW 0 49 1 dU o,(997,.vals [.row 0] us)],[]⟩)
theorem aEj(rd:Option Nat)(us:List Value)(h:Rm a8 aA aN aR bB aZ=some b6):Lq 100 rd 477674 (T7 us a8 aA aN aR bB aZ) ((T8 us a8 aA aN aR) b6):=
 lL (fun s:Int×List Int=>T7 us a8 aA aN aR s.1 s.2) (T8 us a8 aA aN aR) (bB,aZ) (fun⟨bB,aZ⟩ o h=>by
 unfold Gm at h
 refine iB 65 h (fun h=>?_) fun h=>?_
 obtain⟨h22,h⟩:=cS h
 refine gQ h22.1<|gQ (AF dU h22.2) ?_
 obtain⟨x7,h23,h⟩:=xS h
 refine gG 71 (.el (dU x7)) (AH dU h23) ?_
 obtain⟨h24,h⟩:=cS h
 refine gQ h24.1<|gQ (AF dU h24.2) ?_
 obtain⟨x8,h25,h⟩:=xS h
 refine gG 76 (.el (dU x8)) (AH dU h25) ?_
 obtain⟨r9,h26,h⟩:=bS h
 refine gC 77 (E1 h26) ?_
 refine iB 78 h (fun h=>?_) fun h=>?_
 exact lb h
 obtain⟨h28,h⟩:=cS h
 refine gQ h28.1<|gQ (AF dU h28.2) ?_
 obtain⟨x10,h29,h⟩:=xS h
 refine gG 88 (.el (dU x10)) (AH dU h29)<|gW 10093 (.sl ((aZ.set bB.toNat x10).map dU)) ?_
 obtain⟨h30,h⟩:=cS h
 refine gQ h30.1<|gQ (AF dU h30.2) ?_
 obtain⟨x11,h31,h⟩:=xS h
 refine gG 92 (.el (dU x11)) (AH dU h31)<|gW 10094 (.sl (((aZ.set bB.toNat x10).set (AA .sub .i64 bB 1).toNat x11).map dU)) ?_
 obtain⟨h32,h⟩:=cS h
 refine gQ h32.1<|gQ (AF dU h32.2) ?_
 obtain⟨h33,h⟩:=cS h
 refine gQ (Ax dU h33)<|gQ (AS dU aZ bB x10) ?_
 obtain⟨h34,h⟩:=cS h
 refine gQ h34.1<|gQ (AF dU h34.2) ?_
 obtain⟨h35,h⟩:=cS h
 refine gQ (Ax dU h35)<|gQ (AS dU (aZ.set bB.toNat x10) (AA .sub .i64 bB 1) x11) ?_
 exact lb h
 exact lb h) h
theorem aEf(rd:Option Nat)(us:List Value)(h:Nm a8 aA aN aR aD aZ=some b6):Lq 100 rd 59709 ⟨sp 133 0 [rx 0,sI 1 a8,sI 2 aA,sI 7 aN,sI 8 aR,sD 61 D.b aD],[rW 0 49 1 dU aZ,(997,.vals [.row 0] us)],[]⟩ (.normal,⟨sp 133 0 [rx 0,sI 1 a8,sI 2 aA,sI 7 aN,sI 8 aR],[rW 0 49 1 dU b6,(997,.vals [.row 0] us)],[]⟩):=by unfold Nm at h;apply g0 (o:=b6);cases aD;replace h:=CJ h;exact lp h;replace h:=CK h;obtain⟨o12,h36,h⟩:=bS h;refine gl (aEj rd us h36) ?_;exact lp h
def T9(us:List Value)(s1 s2:Int)(s7 s8 s10:Int)(w0:List Int):St:=⟨sp 133 0 [rx 0,sI 1 s1,sI 2 s2,sI 7 s7,sI 8 s8,sI 10 s10],[rW 0 49 1 dU w0,(997,.vals [.row 0] us)],[]⟩
def UA(us:List Value)(s1 s2:Int)(s7 s8:Int)(o:(List Int)):Ex×St:=(.exit 6,⟨sp 133 0 [rx 0,sI 1 s1,sI 2 s2,sI 7 s7,sI 8 s8],[rW 0 49 1 dU o,(997,.vals [.row 0] us)],[]⟩)
theorem aEk(rd:Option Nat)(us:List Value)(h:Rn a8 aA aN aR bB aZ=some b6):Lq 100 rd 477690 (T9 us a8 aA aN aR bB aZ) ((UA us a8 aA aN aR) b6):=
 lL (fun s:Int×List Int=>T9 us a8 aA aN aR s.1 s.2) (UA us a8 aA aN aR) (bB,aZ) (fun⟨bB,aZ⟩ o h=>by
 unfold Gn at h
 refine iB 103 h (fun h=>?_) fun h=>?_
 obtain⟨h40,h⟩:=cS h
 refine gQ h40.1<|gQ (AF dU h40.2) ?_
 obtain⟨x14,h41,h⟩:=xS h
 refine gG 109 (.el (dU x14)) (AH dU h41) ?_
 obtain⟨h42,h⟩:=cS h
 refine gQ h42.1<|gQ (AF dU h42.2) ?_
 obtain⟨x15,h43,h⟩:=xS h
 refine gG 114 (.el (dU x15)) (AH dU h43) ?_
 obtain⟨r16,h44,h⟩:=bS h
 refine gC 115 (E1 h44) ?_
 refine iB 116 h (fun h=>?_) fun h=>?_
 exact lb h
 obtain⟨h46,h⟩:=cS h
 refine gQ h46.1<|gQ (AF dU h46.2) ?_
 obtain⟨x17,h47,h⟩:=xS h
 refine gG 126 (.el (dU x17)) (AH dU h47)<|gW 10131 (.sl ((aZ.set bB.toNat x17).map dU)) ?_
 obtain⟨h48,h⟩:=cS h
 refine gQ h48.1<|gQ (AF dU h48.2) ?_
 obtain⟨x18,h49,h⟩:=xS h
 refine gG 130 (.el (dU x18)) (AH dU h49)<|gW 10132 (.sl (((aZ.set bB.toNat x17).set (AA .sub .i64 bB 1).toNat x18).map dU)) ?_
 obtain⟨h50,h⟩:=cS h
 refine gQ h50.1<|gQ (AF dU h50.2) ?_
 obtain⟨h51,h⟩:=cS h
 refine gQ (Ax dU h51)<|gQ (AS dU aZ bB x17) ?_
 obtain⟨h52,h⟩:=cS h
 refine gQ h52.1<|gQ (AF dU h52.2) ?_
 obtain⟨h53,h⟩:=cS h
 refine gQ (Ax dU h53)<|gQ (AS dU (aZ.set bB.toNat x17) (AA .sub .i64 bB 1) x18) ?_
 exact lb h
 exact lb h) h
theorem aEg(rd:Option Nat)(us:List Value)(h:Nn a8 aA aN aR aD aZ=some b6):Lq 100 rd 59711 ⟨sp 133 0 [rx 0,sI 1 a8,sI 2 aA,sI 7 aN,sI 8 aR,sD 98 D.b aD],[rW 0 49 1 dU aZ,(997,.vals [.row 0] us)],[]⟩ (.normal,⟨sp 133 0 [rx 0,sI 1 a8,sI 2 aA,sI 7 aN,sI 8 aR],[rW 0 49 1 dU b6,(997,.vals [.row 0] us)],[]⟩):=by unfold Nn at h;apply g0 (o:=b6);cases aD;replace h:=CJ h;exact lp h;replace h:=CK h;obtain⟨o19,h54,h⟩:=bS h;refine gl (aEk rd us h54) ?_;exact lp h
theorem aEe(rd:Option Nat)(us:List Value)(h:Rk a8 aA aN aR aZ=some cE):Lq 100 rd 466 ⟨sp 133 0 [rx 0,sI 1 a8,sI 2 aA,sI 7 aN,sI 8 aR],[rW 0 49 1 dU aZ,(997,.vals [.row 0] us)],[]⟩ (match (generalizing:=false) cE with
 | .inl cE=>(.normal,⟨sp 133 0 [rx 0,sI 1 a8,sI 2 aA,sI 7 cE.1,sI 8 aR],[rW 0 49 1 dU cE.2,(997,.vals [.row 0] us)],[]⟩)
 | .inr cE=>(.ret,⟨sp 133 0 [sD 6 D.b cE],[rW 0 49 1 dU aZ,(997,.vals [.row 0] us)],[]⟩)):=by
 unfold Rk at h
 apply g0 (o:=cE)
 obtain⟨o4,h9,h⟩:=bS h
 refine gl (aEi rd us h9) ?_
 refine iB 37 h (fun h=>?_) fun h=>?_
 exact lp h
 refine iB 41 h (fun h=>?_) fun h=>?_
 exact lp h
 obtain⟨h12,h⟩:=cS h
 refine gQ h12.1<|gQ (AF dU h12.2) ?_
 obtain⟨x5,h13,h⟩:=xS h
 refine gG 51 (.el (dU x5)) (AH dU h13)<|gW 10056 (.sl ((aZ.set o4.toNat x5).map dU)) ?_
 obtain⟨h14,h⟩:=cS h
 refine gQ h14.1<|gQ (AF dU h14.2) ?_
 obtain⟨x6,h15,h⟩:=xS h
 refine gG 55 (.el (dU x6)) (AH dU h15)<|gW 10057 (.sl (((aZ.set o4.toNat x5).set (AA .sub .i64 o4 1).toNat x6).map dU)) ?_
 obtain⟨h16,h⟩:=cS h
 refine gQ h16.1<|gQ (AF dU h16.2) ?_
 obtain⟨h17,h⟩:=cS h
 refine gQ (Ax dU h17)<|gQ (AS dU aZ o4 x5) ?_
 obtain⟨h18,h⟩:=cS h
 refine gQ h18.1<|gQ (AF dU h18.2) ?_
 obtain⟨h19,h⟩:=cS h
 refine gQ (Ax dU h19)<|gQ (AS dU (aZ.set o4.toNat x5) (AA .sub .i64 o4 1) x6) ?_
 obtain⟨o13,h37,h⟩:=bS h
 refine gl (aEf rd us h37) ?_
 obtain⟨o20,h55,h⟩:=bS h
 refine gl (aEg rd us h55) ?_
 exact lp h
def T3(us:List Value)(s1 s2:Int)(s7 s8:Int)(w0:List Int):St:=⟨sp 133 0 [rx 0,sI 1 s1,sI 2 s2,sI 7 s7,sI 8 s8],[rW 0 49 1 dU w0,(997,.vals [.row 0] us)],[]⟩
def T4(us:List Value)(s1 s2:Int)(o:(List Int)⊕(Bool×List Int)):Ex×St:=match o with
 | .inl o=>(.exit 0,⟨sp 133 0 [],[rW 0 49 1 dU o,(997,.vals [.row 0] us)],[]⟩)
 | .inr o=>(.ret,⟨sp 133 0 [sD 6 D.b o.1],[rW 0 49 1 dU o.2,(997,.vals [.row 0] us)],[]⟩)
theorem aEh(rd:Option Nat)(us:List Value)(h:No a8 aA aN aR aZ=some cF):Lq 100 rd 58 (T3 us a8 aA aN aR aZ) ((T4 us a8 aA) cF):=
 lL (fun s:Int×Int×List Int=>T3 us a8 aA s.1 s.2.1 s.2.2) (T4 us a8 aA) (aN,aR,aZ) (fun⟨aN,aR,aZ⟩ o h=>by
 unfold Gj at h
 refine iB 14 h (fun h=>?_) fun h=>?_
 obtain⟨o21,h56,h⟩:=bS h
 refine gl (aEe rd us h56) ?_
 replace h:=AL h
 rcases h with⟨o22,rfl,h⟩|⟨o23,rfl,h⟩
 exact lb h
 exact lb h
 exact lb h) h
theorem aVp(h:X8 a8 aA aZ=some cG):AM Tryz.prog 100 [.row 0,dI a8,dI aA] [rW 0 49 1 dU aZ] (.d (D.b cG.1)) [rW 0 49 1 dU cG.2]:=by
 unfold X8 at h;refine XG.call (ks:=[0]) mixed fun us=>?_;apply g0 (o:=cG);obtain⟨o24,h57,h⟩:=bS h;refine gl (aEh none us h57) ?_;replace h:=AL h;rcases h with⟨o25,rfl,h⟩|⟨o26,rfl,h⟩
 exact lX h (lv [6] [0,997]);exact lX h (lv [6] [0,997])
def VO(us:List Value)(s1 s10:Int)(w0:List Int)(s9:Int):St:=⟨sp 84 0 [rx 0,sI 1 s1,sI 9 s9,sI 10 s10],[rW 0 49 1 dU w0,(997,.vals [.row 0] us)],[]⟩
def VP(us:List Value)(s1 s10:Int)(w0:List Int)(o:Int):Ex×St:=(.exit 2,⟨sp 84 0 [rx 0,sI 1 s1,sI 9 o,sI 10 s10],[rW 0 49 1 dU w0,(997,.vals [.row 0] us)],[]⟩)
theorem aGv(rd:Option Nat)(us:List Value)(h:R6 a8 aA aZ aN=some aR):Lq 102 rd 960 (VO us a8 aA aZ aN) ((VP us a8 aA aZ) aR):=
 lL (fun s:Int=>VO us a8 aA aZ s) (VP us a8 aA aZ) aN (fun aN o h=>by
 unfold Gv at h
 refine iB 32 h (fun h=>?_) fun h=>?_
 obtain⟨h10,h⟩:=cS h
 refine gQ h10.1<|gQ (AF dU h10.2) ?_
 obtain⟨x3,h11,h⟩:=xS h
 refine gG 36 (.el (dU x3)) (AH dU h11) ?_
 obtain⟨h12,h⟩:=cS h
 refine gQ h12.1<|gQ (AF dU h12.2) ?_
 obtain⟨x4,h13,h⟩:=xS h
 refine gG 40 (.el (dU x4)) (AH dU h13) ?_
 obtain⟨r5,h14,h⟩:=bS h
 refine gC 41 (E1 h14) ?_
 refine iB 43 h (fun h=>?_) fun h=>?_
 exact lb h
 exact lb h
 exact lb h) h
def VQ(us:List Value)(s1 s9:Int)(w0:List Int)(s10:Int):St:=⟨sp 84 0 [rx 0,sI 1 s1,sI 9 s9,sI 10 s10],[rW 0 49 1 dU w0,(997,.vals [.row 0] us)],[]⟩
def VR(us:List Value)(s1 s9:Int)(w0:List Int)(o:Int):Ex×St:=(.exit 4,⟨sp 84 0 [rx 0,sI 1 s1,sI 9 s9,sI 10 o],[rW 0 49 1 dU w0,(997,.vals [.row 0] us)],[]⟩)
theorem aGw(rd:Option Nat)(us:List Value)(h:R7 a8 aA aZ aN=some aR):Lq 102 rd 1924 (VQ us a8 aA aZ aN) ((VR us a8 aA aZ) aR):=
 lL (fun s:Int=>VQ us a8 aA aZ s) (VR us a8 aA aZ) aN (fun aN o h=>by
 unfold Gw at h
 refine iB 49 h (fun h=>?_) fun h=>?_
 obtain⟨h18,h⟩:=cS h
 refine gQ h18.1<|gQ (AF dU h18.2) ?_
 obtain⟨x7,h19,h⟩:=xS h
 refine gG 53 (.el (dU x7)) (AH dU h19) ?_
 obtain⟨h20,h⟩:=cS h
 refine gQ h20.1<|gQ (AF dU h20.2) ?_
 obtain⟨x8,h21,h⟩:=xS h
 refine gG 57 (.el (dU x8)) (AH dU h21) ?_
 obtain⟨r9,h22,h⟩:=bS h
 refine gQ (E1 h22) ?_
 cases r9
 replace h:=CJ h
 refine gW 58 (.ret (.d (D.b false))) ?_
 exact lb h
 replace h:=CK h
 refine gW 58 (.ret (.d (D.b true))) ?_
 exact lb h
 exact lb h) h
def VM(us:List Value)(s1 s9 s10:Int)(w0:List Int):St:=⟨sp 84 0 [rx 0,sI 1 s1,sI 9 s9,sI 10 s10],[rW 0 49 1 dU w0,(997,.vals [.row 0] us)],[]⟩
def VN(us:List Value)(s1:Int)(o:(Int×List Int)):Ex×St:=(.exit 0,⟨sp 84 0 [sI 9 o.1],[rW 0 49 1 dU o.2,(997,.vals [.row 0] us)],[]⟩)
theorem aGu(rd:Option Nat)(us:List Value)(h:R5 a8 aA aN aZ=some cH):Lq 102 rd 60 (VM us a8 aA aN aZ) ((VN us a8) cH):=
 lL (fun s:Int×Int×List Int=>VM us a8 s.1 s.2.1 s.2.2) (VN us a8) (aA,aN,aZ) (fun⟨aA,aN,aZ⟩ o h=>by
 unfold IQ at h
 obtain⟨o6,h16,h⟩:=bS h
 refine gl (aGv rd us h16) ?_
 obtain⟨o10,h24,h⟩:=bS h
 refine gl (aGw rd us h24) ?_
 refine iB 64 h (fun h=>?_) fun h=>?_
 exact lb h
 obtain⟨h26,h⟩:=cS h
 refine gQ h26.1<|gQ (AF dU h26.2) ?_
 obtain⟨x11,h27,h⟩:=xS h
 refine gG 72 (.el (dU x11)) (AH dU h27)<|gW 10077 (.sl ((aZ.set o6.toNat x11).map dU)) ?_
 obtain⟨h28,h⟩:=cS h
 refine gQ h28.1<|gQ (AF dU h28.2) ?_
 obtain⟨x12,h29,h⟩:=xS h
 refine gG 76 (.el (dU x12)) (AH dU h29)<|gW 10078 (.sl (((aZ.set o6.toNat x11).set o10.toNat x12).map dU)) ?_
 obtain⟨h30,h⟩:=cS h
 refine gQ h30.1<|gQ (AF dU h30.2) ?_
 obtain⟨h31,h⟩:=cS h
 refine gQ (Ax dU h31)<|gQ (AS dU aZ o6 x11) ?_
 obtain⟨h32,h⟩:=cS h
 refine gQ h32.1<|gQ (AF dU h32.2) ?_
 obtain⟨h33,h⟩:=cS h
 refine gQ (Ax dU h33)<|gQ (AS dU (aZ.set o6.toNat x11) o10 x12) ?_
 exact lb h) h
theorem aO1(h:Xp a8 aA aN aZ=some cI):AM Tryz.prog 102 [.row 0,dI a8,dI aA,dI aN] [rW 0 49 1 dU aZ] (dI cI.1) [rW 0 49 1 dU cI.2]:=by unfold Xp at h;refine XG.call (ks:=[0]) mixed fun us=>?_;apply g0 (o:=cI);obtain⟨h1,h⟩:=cS h;refine gQ h1.1<|gQ (AF dU h1.2) ?_;obtain⟨x1,h2,h⟩:=xS h;refine gG 18 (.el (dU x1)) (AH dU h2)<|gW 10023 (.sl ((aZ.set a8.toNat x1).map dU)) ?_;obtain⟨h3,h⟩:=cS h;refine gQ h3.1<|gQ (AF dU h3.2) ?_;obtain⟨x2,h4,h⟩:=xS h;refine gG 22 (.el (dU x2)) (AH dU h4)<|gW 10024 (.sl (((aZ.set a8.toNat x1).set aN.toNat x2).map dU)) ?_;obtain⟨h5,h⟩:=cS h;refine gQ h5.1<|gQ (AF dU h5.2) ?_;obtain⟨h6,h⟩:=cS h;refine gQ (Ax dU h6)<|gQ (AS dU aZ a8 x1) ?_;obtain⟨h7,h⟩:=cS h;refine gQ h7.1<|gQ (AF dU h7.2) ?_;obtain⟨h8,h⟩:=cS h;refine gQ (Ax dU h8)<|gQ (AS dU (aZ.set a8.toNat x1) aN x2) ?_;obtain⟨o13,h34,h⟩:=bS h;refine gl (aGu none us h34) ?_;exact lX h (lv [8] [0,997])
def UM(us:List Value)(s1 s11:Int)(w0:List Int)(s10:Int):St:=⟨sp 168 0 [rx 0,sI 1 s1,sI 10 s10,sI 11 s11],[rW 0 49 1 dU w0,(997,.vals [.row 0] us)],[]⟩
def UN(us:List Value)(s1 s11:Int)(w0:List Int)(o:Int):Ex×St:=(.exit 0,⟨sp 168 0 [rx 0,sI 1 s1,sI 10 o,sI 11 s11],[rW 0 49 1 dU w0,(997,.vals [.row 0] us)],[]⟩)
theorem aE3(rd:Option Nat)(us:List Value)(h:Nz a8 aA aZ aN=some aR):Lq 103 rd 60 (UM us a8 aA aZ aN) ((UN us a8 aA aZ) aR):=
 lL (fun s:Int=>UM us a8 aA aZ s) (UN us a8 aA aZ) aN (fun aN o h=>by
 unfold Gq at h
 refine iB 33 h (fun h=>?_) fun h=>?_
 obtain⟨h10,h⟩:=cS h
 refine gQ h10.1<|gQ (AF dU h10.2) ?_
 obtain⟨x3,h11,h⟩:=xS h
 refine gG 37 (.el (dU x3)) (AH dU h11) ?_
 obtain⟨h12,h⟩:=cS h
 refine gQ h12.1<|gQ (AF dU h12.2) ?_
 obtain⟨x4,h13,h⟩:=xS h
 refine gG 41 (.el (dU x4)) (AH dU h13) ?_
 obtain⟨r5,h14,h⟩:=bS h
 refine gQ (E1 h14) ?_
 cases r5
 replace h:=CJ h
 refine gW 42 (.ret (.d (D.b false))) ?_
 exact lb h
 replace h:=CK h
 refine gW 42 (.ret (.d (D.b true))) ?_
 exact lb h
 exact lb h) h
def UO(us:List Value)(s1 s10:Int)(w0:List Int)(s11:Int):St:=⟨sp 168 0 [rx 0,sI 1 s1,sI 10 s10,sI 11 s11],[rW 0 49 1 dU w0,(997,.vals [.row 0] us)],[]⟩
def UP(us:List Value)(s1 s10:Int)(w0:List Int)(o:Int):Ex×St:=(.exit 2,⟨sp 168 0 [rx 0,sI 1 s1,sI 10 s10,sI 11 o],[rW 0 49 1 dU w0,(997,.vals [.row 0] us)],[]⟩)
theorem aE4(rd:Option Nat)(us:List Value)(h:N0 a8 aA aZ aN=some aR):Lq 103 rd 124 (UO us a8 aA aZ aN) ((UP us a8 aA aZ) aR):=
 lL (fun s:Int=>UO us a8 aA aZ s) (UP us a8 aA aZ) aN (fun aN o h=>by
 unfold Gr at h
 refine iB 49 h (fun h=>?_) fun h=>?_
 obtain⟨h18,h⟩:=cS h
 refine gQ h18.1<|gQ (AF dU h18.2) ?_
 obtain⟨x7,h19,h⟩:=xS h
 refine gG 53 (.el (dU x7)) (AH dU h19) ?_
 obtain⟨h20,h⟩:=cS h
 refine gQ h20.1<|gQ (AF dU h20.2) ?_
 obtain⟨x8,h21,h⟩:=xS h
 refine gG 57 (.el (dU x8)) (AH dU h21) ?_
 obtain⟨r9,h22,h⟩:=bS h
 refine gC 58 (E1 h22) ?_
 refine iB 60 h (fun h=>?_) fun h=>?_
 exact lb h
 exact lb h
 exact lb h) h
def US(us:List Value)(s1 s11:Int)(w0:List Int)(s10:Int):St:=⟨sp 168 0 [rx 0,sI 1 s1,sI 10 s10,sI 11 s11],[rW 0 49 1 dU w0,(997,.vals [.row 0] us)],[]⟩
def UT(us:List Value)(s1 s11:Int)(w0:List Int)(o:Int):Ex×St:=(.exit 6,⟨sp 168 0 [rx 0,sI 1 s1,sI 10 o,sI 11 s11],[rW 0 49 1 dU w0,(997,.vals [.row 0] us)],[]⟩)
theorem aE8(rd:Option Nat)(us:List Value)(h:aE7 a8 aA aZ aN=some aR):Lq 103 rd 65472 (US us a8 aA aZ aN) ((UT us a8 aA aZ) aR):=
 lL (fun s:Int=>US us a8 aA aZ s) (UT us a8 aA aZ) aN (fun aN o h=>by
 unfold N1 at h
 refine iB 102 h (fun h=>?_) fun h=>?_
 obtain⟨h43,h⟩:=cS h
 refine gQ h43.1<|gQ (AF dU h43.2) ?_
 obtain⟨x15,h44,h⟩:=xS h
 refine gG 106 (.el (dU x15)) (AH dU h44) ?_
 obtain⟨h45,h⟩:=cS h
 refine gQ h45.1<|gQ (AF dU h45.2) ?_
 obtain⟨x16,h46,h⟩:=xS h
 refine gG 110 (.el (dU x16)) (AH dU h46) ?_
 obtain⟨r17,h47,h⟩:=bS h
 refine gQ (E1 h47) ?_
 cases r17
 replace h:=CJ h
 refine gW 111 (.ret (.d (D.b false))) ?_
 exact lb h
 replace h:=CK h
 refine gW 111 (.ret (.d (D.b true))) ?_
 exact lb h
 exact lb h) h
def UU(us:List Value)(s1 s10:Int)(w0:List Int)(s11:Int):St:=⟨sp 168 0 [rx 0,sI 1 s1,sI 10 s10,sI 11 s11],[rW 0 49 1 dU w0,(997,.vals [.row 0] us)],[]⟩
def UV(us:List Value)(s1 s10:Int)(w0:List Int)(o:Int):Ex×St:=(.exit 8,⟨sp 168 0 [rx 0,sI 1 s1,sI 10 s10,sI 11 o],[rW 0 49 1 dU w0,(997,.vals [.row 0] us)],[]⟩)
theorem aFa(rd:Option Nat)(us:List Value)(h:aE9 a8 aA aZ aN=some aR):Lq 103 rd 130948 (UU us a8 aA aZ aN) ((UV us a8 aA aZ) aR):=
 lL (fun s:Int=>UU us a8 aA aZ s) (UV us a8 aA aZ) aN (fun aN o h=>by
 unfold N3 at h
 refine iB 118 h (fun h=>?_) fun h=>?_
 obtain⟨h51,h⟩:=cS h
 refine gQ h51.1<|gQ (AF dU h51.2) ?_
 obtain⟨x19,h52,h⟩:=xS h
 refine gG 122 (.el (dU x19)) (AH dU h52) ?_
 obtain⟨h53,h⟩:=cS h
 refine gQ h53.1<|gQ (AF dU h53.2) ?_
 obtain⟨x20,h54,h⟩:=xS h
 refine gG 126 (.el (dU x20)) (AH dU h54) ?_
 obtain⟨r21,h55,h⟩:=bS h
 refine gC 127 (E1 h55) ?_
 refine iB 129 h (fun h=>?_) fun h=>?_
 exact lb h
 exact lb h
 exact lb h) h
def UQ(us:List Value)(s1 s10 s11:Int)(w0:List Int):St:=⟨sp 168 0 [rx 0,sI 1 s1,sI 10 s10,sI 11 s11],[rW 0 49 1 dU w0,(997,.vals [.row 0] us)],[]⟩
end Go.Ac
