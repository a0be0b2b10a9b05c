/- Own work, printed: the functions compute these. -/
import Derived.Test.YtaacajciajkodaaGreatSh36c
import Derived.Test.YtaacajciajkodaaGreatProg
set_option linter.unusedVariables false
set_option linter.unusedSimpArgs false
namespace Go.Ac
open Go.Proofs
variable {a7:AD}
variable {a8 aA aN aR bB bC cB:Int}
variable {a9:Unit⊕Unit}
variable {aB:List (List UInt8)}
variable {aC aO:List UInt8}
variable {aD b8:Bool}
variable {aE:List Xm}
variable {aF:Unit⊕Int}
variable {aG:Unit⊕(Int×Int)}
variable {aH:Int×Int}
variable {aI aQ bP:X0}
variable {aJ:(List (List UInt8))⊕Unit}
variable {aK:X0×Int}
variable {aL:Int×Bool}
variable {aM:Int×Int×Int}
variable {aP:Unit⊕Bool}
variable {aS aX:X5}
variable {aT:Xr}
variable {aU:Int⊕Unit}
variable {aV:Fq}
variable {aW:B0}
variable {aY:List Bool}
variable {aZ bZ:List Int}
variable {b6:(List Int)}
variable {b7:(List Bool×List Int)}
variable {b9:List X2}
variable {bA:List X5}
variable {bD:Unit}
variable {bE bG bK:List X0}
variable {bH:(Int×Int)}
variable {bI:(List X0)}
variable {bJ:Bool×List X0}
variable {bL:List X0×List X0}
variable {bM:List B0}
variable {bN bO:List (List X0)}
variable {bQ:X0×Bool}
variable {bR:X2}
variable {bU:Xq}
variable {bV:Unit⊕X0}
variable {bW bX:List (Int×Bool)}
variable {bY:(List (Int×Bool))}
variable {c9:(Int×List Int)⊕(Unit⊕Unit)}
variable {cA:(List Int)⊕(List Int)}
variable {cC:(List Int×Int)}
variable {cD:(Int×Int×Int×Int)}
variable {cE:(Int×List Int)⊕Bool}
variable {cF:(List Int)⊕(Bool×List Int)}
variable {cG:Bool×List Int}
variable {cH:(Int×List Int)}
variable {cI:Int×List Int}
theorem mixed:Tryz.prog.follows .mixedOrders=true:=by kernel_rfl
theorem lB{β:Type}{ws:List (Nat×W)}{lw:List Lw}{Q:List Prop}{o v:β}{rd:Option Nat}{root:Code}{q:List Nat}{s:St}{E:β->Ex}{S:β->St}(h:some v=some o)(l:List Ws)(he:(cj Q True/\(E v=E v/\S v=S v))=T5 Tryz.prog rd root ws lw q l s (E v) (S v):=by kernel_rfl):Gl ws lw Q (fun o=>Arr Tryz.prog rd root q s (E o) (S o)) o:=lB_ mixed h l he
theorem lP{β:Type}{ws:List (Nat×W)}{lw:List Lw}{Q:List Prop}{o v:β}{rd:Option Nat}{root:Code}{q:List Nat}{s:St}{E:β->Ex}{S:β->St}(h:some v=some o)(l:List Ws)(he:(cj Q True/\(E v=E v/\S v=S v))=T5 Tryz.prog rd root ws lw q l s (E v) (S v):=by kernel_rfl):Gl ws lw Q (fun o=>Fm Tryz.prog rd root q s (E o) (S o)) o:=lP_ mixed h l he
theorem lb{β:Type}{ws:List (Nat×W)}{lw:List Lw}{Q:List Prop}{o v:β}{rd:Option Nat}{root:Code}{q:List Nat}{s:St}{E:β->Ex}{S:β->St}(h:some v=some o)(he:(cj Q True/\(E v=E v/\S v=S v))=T5 Tryz.prog rd root ws lw q (lvS (S v)) s (E v) (S v):=by kernel_rfl):Gl ws lw Q (fun o=>Arr Tryz.prog rd root q s (E o) (S o)) o:=lB_ mixed h _ he
theorem lp{β:Type}{ws:List (Nat×W)}{lw:List Lw}{Q:List Prop}{o v:β}{rd:Option Nat}{root:Code}{q:List Nat}{s:St}{E:β->Ex}{S:β->St}(h:some v=some o)(he:(cj Q True/\(E v=E v/\S v=S v))=T5 Tryz.prog rd root ws lw q (lvS (S v)) s (E v) (S v):=by kernel_rfl):Gl ws lw Q (fun o=>Fm Tryz.prog rd root q s (E o) (S o)) o:=lP_ mixed h _ he
theorem lF{β:Type}{ws:List (Nat×W)}{lw:List Lw}{Q:List Prop}{o v:β}{f:FuncId}{args:List A}{R:β->A}(h:some v=some o)(l:List Ws)(he:(cj Q True/\(R v=R v/\true=true))=aFe Tryz.prog f ws lw l args (R v):=by kernel_rfl):Gl ws lw Q (fun o=>AM Tryz.prog f args [] (R o) []) o:=lF_ mixed h l he
theorem lf{β:Type}{ws:List (Nat×W)}{lw:List Lw}{Q:List Prop}{o v:β}{f:FuncId}{args:List A}{R:β->A}(h:some v=some o)(he:(cj Q True/\(R v=R v/\true=true))=aFe Tryz.prog f ws lw [] args (R v):=by kernel_rfl):Gl ws lw Q (fun o=>AM Tryz.prog f args [] (R o) []) o:=lF_ mixed h [] he
abbrev Lq(n:Nat)(rd:Option Nat)(p:Nat)(s:St)(x:Ex×St):Prop:=Fm Tryz.prog rd (ER Tryz.prog n) (pth p) s x.1 x.2
theorem lI{β:Type}{ws:List (Nat×W)}{lw:List Lw}{Q:List Prop}{o v:β}{f:FuncId}{args:List A}{F0:Bx}(hF:Far F0){r:A}{F:β->Bx}(hc:∀f,∀p∈F f,∀m,p.2.has m=true->m∈AP (F f))(h:some v=some o)(l:List Ws)(he:(cj Q True/\(r=r/\F v=F v/\true=true))=aPf Tryz.prog f ws lw l args F0 r (F v):=by kernel_rfl):Gl ws lw Q (fun o=>MJ Tryz.prog f args F0 r (F o)) o:=lI_ mixed hF hc h l he
theorem lX{β:Type}{ws:List (Nat×W)}{lw:List Lw}{Q:List Prop}{o v:β}{f:FuncId}{args:List A}{X:Bx}{ks:List Nat}{us:List Value}{R:β->A}{X1:β->Bx}(h:some v=some o)(l:List Ws)(he:(cj Q True/\(R v=R v/\X1 v++[(vx,.vals (Jp args ks) us)]=X1 v++[(vx,.vals (Jp args ks) us)]/\true=true))=aPg Tryz.prog f ws lw l args X ks us (R v) (X1 v):=by kernel_rfl):Gl ws lw Q (fun o=>XG Tryz.prog f args X ks us (R o) (X1 o)) o:=lX_ h l he
theorem B1:Na Tryz.prog 73 X3.D:=bDv (x:=fun v=>v.a) (y:=fun v=>v.b) Tryz.underlying73 (by kernel_rfl) Tryz.underlying32 Tryz.underlying32 (by decide) (by decide) rfl rfl (fun _=>rfl) (fun a b h1 h2=>by cases a;cases b;simp only at h1 h2;subst h1;subst h2;rfl)
def Vb(w1:AD)(s3:Int):St:=⟨sp 166 0 [bx 1,sI 3 s3],[cL 1 AD.D w1],[]⟩
def Vc(w1:AD)(o:Unit⊕Unit):Ex×St:=match o with
 | .inl o=>(.exit 0,⟨sp 166 0 [bx 1],[cL 1 AD.D w1],[]⟩)
 | .inr o=>(.ret,⟨sp 166 0 [sI 2 0],[],[]⟩)
theorem aHp(rd:Option Nat)(h:aQ2 a7 a8=some a9):Lq 17 rd 58 (Vb a7 a8) ((Vc a7) a9):=
 lL (fun s:Int=>Vb a7 s) (Vc a7) a8 (fun a8 o h=>by
 unfold IU at h
 refine gN 58 Xm.D a7.decls ?_
 refine iB 59 h (fun h=>?_) fun h=>?_
 refine xX 65 Xm.D h fun x1 h=>?_
 refine gN 68 dZ x1.types ?_
 refine iB 70 h (fun h=>?_) fun h=>?_
 exact lb h
 refine xX 74 Xm.D h fun x2 h=>?_
 refine gG 77 (.int (x2.name.length:Int)) (Ca x2.name) ?_
 refine iB 79 h (fun h=>?_) fun h=>?_
 exact lb h
 exact lb h
 exact lb h) h
def Vf(s4:Int)(w1:AD)(s5:Int):St:=⟨sp 166 0 [bx 1,sI 4 s4,sI 5 s5],[cL 1 AD.D w1],[]⟩
def Vg(s4:Int)(w1:AD)(o:Unit⊕Unit):Ex×St:=match o with
 | .inl o=>(.exit 4,⟨sp 166 0 [bx 1,sI 4 s4],[cL 1 AD.D w1],[]⟩)
 | .inr o=>(.ret,⟨sp 166 0 [sI 2 0],[],[]⟩)
theorem aHr(rd:Option Nat)(h:aQ4 a8 a7 aA=some a9):Lq 17 rd 15654 (Vf a8 a7 aA) ((Vg a8 a7) a9):=
 lL (fun s:Int=>Vf a8 a7 s) (Vg a8 a7) aA (fun aA o h=>by
 unfold IW at h
 refine xX 99 X5.D h fun x7 h=>?_
 refine gN 102 B0.D x7.args ?_
 refine iB 103 h (fun h=>?_) fun h=>?_
 refine xX 109 X5.D h fun x8 h=>?_
 refine xX 113 B0.D h fun x9 h=>?_
 refine gG 117 (.int (x9.value.str.length:Int)) (Ca x9.value.str) ?_
 refine iB 118 h (fun h=>?_) fun h=>?_
 exact lb h
 exact lb h
 exact lb h) h
def Vd(w1:AD)(s4:Int):St:=⟨sp 166 0 [bx 1,sI 4 s4],[cL 1 AD.D w1],[]⟩
def Ve(w1:AD)(o:Unit⊕Unit):Ex×St:=match o with
 | .inl o=>(.exit 2,⟨sp 166 0 [bx 1],[cL 1 AD.D w1],[]⟩)
 | .inr o=>(.ret,⟨sp 166 0 [sI 2 0],[],[]⟩)
theorem aHq(rd:Option Nat)(h:aQ3 a7 a8=some a9):Lq 17 rd 122 (Vd a7 a8) ((Ve a7) a9):=
 lL (fun s:Int=>Vd a7 s) (Ve a7) a8 (fun a8 o h=>by
 unfold IV at h
 refine gN 83 X5.D a7.symbols ?_
 refine iB 84 h (fun h=>?_) fun h=>?_
 refine xX 90 X5.D h fun x6 h=>?_
 refine gN 93 B0.D x6.args ?_
 refine iB 94 h (fun h=>?_) fun h=>?_
 exact lb h
 obtain⟨o10,h23,h⟩:=bS h
 refine gl (aHr rd h23) ?_
 replace h:=AL h
 rcases h with⟨o11,rfl,h⟩|⟨o12,rfl,h⟩
 exact lb h
 exact lb h
 exact lb h) h
def Vh(w1:AD)(s6:Int):St:=⟨sp 166 0 [bx 1,sI 6 s6],[cL 1 AD.D w1],[]⟩
def Vi(w1:AD)(o:Unit⊕Unit):Ex×St:=match o with
 | .inl o=>(.exit 6,⟨sp 166 0 [bx 1],[cL 1 AD.D w1],[]⟩)
 | .inr o=>(.ret,⟨sp 166 0 [sI 2 0],[],[]⟩)
theorem aHs(rd:Option Nat)(h:aQ5 a7 a8=some a9):Lq 17 rd 250 (Vh a7 a8) ((Vi a7) a9):=
 lL (fun s:Int=>Vh a7 s) (Vi a7) a8 (fun a8 o h=>by
 unfold IX at h
 refine gN 122 Yq.D a7.frees ?_
 refine iB 123 h (fun h=>?_) fun h=>?_
 refine xX 129 Yq.D h fun x16 h=>?_
 refine gG 133 (.int (x16.init_.str.length:Int)) (Ca x16.init_.str) ?_
 refine iB 134 h (fun h=>?_) fun h=>?_
 exact lb h
 exact lb h
 exact lb h) h
def Vj(w1:AD)(s7:Int):St:=⟨sp 166 0 [bx 1,sI 7 s7],[cL 1 AD.D w1],[]⟩
def Vk(w1:AD)(o:Unit⊕Unit):Ex×St:=match o with
 | .inl o=>(.exit 8,⟨sp 166 0 [bx 1],[cL 1 AD.D w1],[]⟩)
 | .inr o=>(.ret,⟨sp 166 0 [sI 2 0],[],[]⟩)
theorem aHt(rd:Option Nat)(h:aQ6 a7 a8=some a9):Lq 17 rd 506 (Vj a7 a8) ((Vk a7) a9):=
 lL (fun s:Int=>Vj a7 s) (Vk a7) a8 (fun a8 o h=>by
 unfold IY at h
 refine gN 138 Yw.D a7.nodes ?_
 refine iB 139 h (fun h=>?_) fun h=>?_
 refine xX 145 Yw.D h fun x20 h=>?_
 refine gG 149 (.int (x20.value.str.length:Int)) (Ca x20.value.str) ?_
 refine iB 150 h (fun h=>?_) fun h=>?_
 exact lb h
 exact lb h
 exact lb h) h
def Vl(w1:AD)(s8:Int):St:=⟨sp 166 0 [bx 1,sI 8 s8],[cL 1 AD.D w1],[]⟩
def Vm(w1:AD)(o:Unit⊕Unit):Ex×St:=match o with
 | .inl o=>(.exit 10,⟨sp 166 0 [],[],[]⟩)
 | .inr o=>(.ret,⟨sp 166 0 [sI 2 0],[],[]⟩)
theorem aHu(rd:Option Nat)(h:aQ7 a7 a8=some a9):Lq 17 rd 1018 (Vl a7 a8) ((Vm a7) a9):=
 lL (fun s:Int=>Vl a7 s) (Vm a7) a8 (fun a8 o h=>by
 unfold IZ at h
 refine gN 154 Xr.D a7.trans ?_
 refine iB 155 h (fun h=>?_) fun h=>?_
 refine xX 161 Xr.D h fun x24 h=>?_
 refine gN 164 Fq.D x24.sets ?_
 refine iB 165 h (fun h=>?_) fun h=>?_
 exact lb h
 exact lb h
 exact lb h) h
theorem aYz(h:Xh a7=some a8):AM Tryz.prog 17 [.d (AD.D a7)] [] (dI a8) []:=by
 unfold Xh at h;apply g0 (o:=a8);refine gN 11 Xm.D a7.decls ?_;refine iB 13 h (fun h=>?_) fun h=>?_;exact lf h;refine gN 16 Yo.D a7.quants ?_;refine iB 19 h (fun h=>?_) fun h=>?_;exact lf h;refine gN 22 Yq.D a7.frees ?_;refine iB 25 h (fun h=>?_) fun h=>?_;exact lf h;refine gN 28 Xg.D a7.states ?_;refine iB 31 h (fun h=>?_) fun h=>?_;exact lf h;refine gN 34 X5.D a7.symbols ?_;refine iB 37 h (fun h=>?_) fun h=>?_;exact lf h;refine gN 40 Xr.D a7.trans ?_;refine iB 43 h (fun h=>?_) fun h=>?_;exact lf h;refine gN 46 Yw.D a7.nodes ?_;refine iB 49 h (fun h=>?_) fun h=>?_;exact lf h;refine gG 52 (.int (a7.name.length:Int)) (Ca a7.name) ?_;refine iB 54 h (fun h=>?_) fun h=>?_;exact lf h;obtain⟨o3,h14,h⟩:=bS h;refine gl (aHp none h14) ?_;replace h:=AL h;rcases h with⟨o4,rfl,h⟩|⟨o5,rfl,h⟩
 obtain⟨o13,h24,h⟩:=bS h;refine gl (aHq none h24) ?_;replace h:=AL h;rcases h with⟨o14,rfl,h⟩|⟨o15,rfl,h⟩
 obtain⟨o17,h28,h⟩:=bS h;refine gl (aHs none h28) ?_;replace h:=AL h;rcases h with⟨o18,rfl,h⟩|⟨o19,rfl,h⟩
 obtain⟨o21,h32,h⟩:=bS h;refine gl (aHt none h32) ?_;replace h:=AL h;rcases h with⟨o22,rfl,h⟩|⟨o23,rfl,h⟩
 obtain⟨o25,h36,h⟩:=bS h;refine gl (aHu none h36) ?_;replace h:=AL h;rcases h with⟨o26,rfl,h⟩|⟨o27,rfl,h⟩
 exact lf h;exact lf h;exact lf h;exact lf h;exact lf h;exact lf h
theorem aYe(h:Qs=some aB):AM Tryz.prog 75 [] [] (.d ((D.l D.s) aB)) []:=by unfold Qs at h;apply g0 (o:=aB);refine gQ (Ah D.s ([([97,99,99,101,112,116]:List UInt8),([97,108,115,111]:List UInt8),([97,110,100]:List UInt8),([98,111,111,108]:List UInt8),([100,111]:List UInt8),([101,118,101,110,116]:List UInt8),([101,120,105,115,116,115]:List UInt8),([102,97,108,115,101]:List UInt8),([102,111,114,97,108,108]:List UInt8),([102,114,101,101]:List UInt8),([105,102]:List UInt8),([105,110,116]:List UInt8),([110,101,120,116]:List UInt8),([110,111,116]:List UInt8),([111,110]:List UInt8),([111,114]:List UInt8),([113,101,97]:List UInt8),([115,107,105,112]:List UInt8),([115,116,97,114,116]:List UInt8),([115,116,114,105,110,103]:List UInt8),([116,111]:List UInt8),([116,114,117,101]:List UInt8)])) ?_;exact lf h
def aAu(s0:List UInt8)(s3:Int):St:=⟨sp 55 0 [sD 0 D.s s0,sI 3 s3],[],[]⟩
def aAv(s0:List UInt8)(o:Unit⊕Unit):Ex×St:=match o with
 | .inl o=>(.exit 0,⟨sp 55 0 [],[],[]⟩)
 | .inr o=>(.ret,⟨sp 55 0 [sD 2 D.b false],[],[]⟩)
theorem aMv(rd:Option Nat)(h:aR3 aC a8=some a9):Lq 76 rd 58 (aAu aC a8) ((aAv aC) a9):=
 lL (fun s:Int=>aAu aC s) (aAv aC) a8 (fun a8 o h=>by
 unfold JD at h
 refine gG 16 (.int (aC.length:Int)) (Ca aC) ?_
 refine iB 17 h (fun h=>?_) fun h=>?_
 obtain⟨x1,h4,h⟩:=xS h
 refine gG 22 (.int x1.toNat) (HO h4) ?_
 refine iB 25 h (fun h=>?_) fun h=>?_
 refine iB 29 h (fun h=>?_) fun h=>?_
 exact lb h
 refine iB 32 h (fun h=>?_) fun h=>?_
 refine iB 37 h (fun h=>?_) fun h=>?_
 exact lb h
 refine iB 43 h (fun h=>?_) fun h=>?_
 refine iB 46 h (fun h=>?_) fun h=>?_
 exact lb h
 refine iB 50 h (fun h=>?_) fun h=>?_
 exact lb h
 refine iB 54 h (fun h=>?_) fun h=>?_
 exact lb h
 exact lb h
 exact lb h
 refine iB 43 h (fun h=>?_) fun h=>?_
 refine iB 46 h (fun h=>?_) fun h=>?_
 exact lb h
 refine iB 50 h (fun h=>?_) fun h=>?_
 exact lb h
 refine iB 54 h (fun h=>?_) fun h=>?_
 exact lb h
 exact lb h
 exact lb h
 refine iB 32 h (fun h=>?_) fun h=>?_
 refine iB 37 h (fun h=>?_) fun h=>?_
 exact lb h
 refine iB 43 h (fun h=>?_) fun h=>?_
 refine iB 46 h (fun h=>?_) fun h=>?_
 exact lb h
 refine iB 50 h (fun h=>?_) fun h=>?_
 exact lb h
 refine iB 54 h (fun h=>?_) fun h=>?_
 exact lb h
 exact lb h
 exact lb h
 refine iB 43 h (fun h=>?_) fun h=>?_
 refine iB 46 h (fun h=>?_) fun h=>?_
 exact lb h
 refine iB 50 h (fun h=>?_) fun h=>?_
 exact lb h
 refine iB 54 h (fun h=>?_) fun h=>?_
 exact lb h
 exact lb h
 exact lb h
 exact lb h) h
theorem bA6(h:Z5 aC=some aD):AM Tryz.prog 76 [.d (D.s aC)] [] (.d (D.b aD)) []:=by
 unfold Z5 at h;apply g0 (o:=aD);refine gG 7 (.int (aC.length:Int)) (Ca aC) ?_;refine iB 9 h (fun h=>?_) fun h=>?_;exact lf h;refine gG 11 (.int (aC.length:Int)) (Ca aC) ?_;refine iB 13 h (fun h=>?_) fun h=>?_;exact lf h;obtain⟨o2,h27,h⟩:=bS h;refine gl (aMv none h27) ?_;replace h:=AL h;rcases h with⟨o3,rfl,h⟩|⟨o4,rfl,h⟩
 exact lf h;exact lf h
def aAa(s0:List UInt8)(s3:List (List UInt8))(s4:Int):St:=⟨sp 24 0 [sD 0 D.s s0,sD 3 (D.l D.s) s3,sI 4 s4],[],[]⟩
def aAb(s0:List UInt8)(s3:List (List UInt8))(o:Unit⊕Unit):Ex×St:=match o with
 | .inl o=>(.exit 0,⟨sp 24 0 [sD 0 D.s s0],[],[]⟩)
 | .inr o=>(.ret,⟨sp 24 0 [sD 2 D.b false],[],[]⟩)
theorem aMd(rd:Option Nat)(h:aR0 aC aB a8=some a9):Lq 52 rd 58 (aAa aC aB a8) ((aAb aC aB) a9):=
 lL (fun s:Int=>aAa aC aB s) (aAb aC aB) a8 (fun a8 o h=>by
 unfold I7 at h
 refine gN 8 D.s aB ?_
 refine iB 9 h (fun h=>?_) fun h=>?_
 refine xX 14 D.s h fun x2 h=>?_
 refine iB 17 h (fun h=>?_) fun h=>?_
 exact lb h
 exact lb h
 exact lb h) h
theorem aMe(h:Yu aC=some aD):AM Tryz.prog 52 [.d (D.s aC)] [] (.d (D.b aD)) []:=by
 unfold Yu at h;apply g0 (o:=aD);obtain⟨r1,h1,h⟩:=bS h;refine gC 5 (aYe h1) ?_;obtain⟨o3,h5,h⟩:=bS h;refine gl (aMd none h5) ?_;replace h:=AL h;rcases h with⟨o4,rfl,h⟩|⟨o5,rfl,h⟩
 obtain⟨r6,h6,h⟩:=bS h;refine gQ (bA6 h6) ?_;cases r6;replace h:=CL h;refine gW 19 (.ret (.d (D.b false))) ?_;exact lf h;replace h:=CM h;refine gW 19 (.ret (.d (D.b true))) ?_;exact lf h;exact lf h
def aA6(s0:List Xm)(s1:List UInt8)(s5:Int):St:=⟨sp 20 0 [sD 0 (D.l Xm.D) s0,sD 1 D.s s1,sI 5 s5],[],[]⟩
def aA7(s0:List Xm)(s1:List UInt8)(o:Unit⊕Int):Ex×St:=match o with
 | .inl o=>(.exit 0,⟨sp 20 0 [],[],[]⟩)
 | .inr o=>(.ret,⟨sp 20 0 [sI 4 o],[],[]⟩)
theorem aM3(rd:Option Nat)(h:aR9 aE aC a8=some aF):Lq 53 rd 26 (aA6 aE aC a8) ((aA7 aE aC) aF):=
 lL (fun s:Int=>aA6 aE aC s) (aA7 aE aC) a8 (fun a8 o h=>by
 unfold LO at h
 refine gN 8 Xm.D aE ?_
 refine iB 9 h (fun h=>?_) fun h=>?_
 refine xX 14 Xm.D h fun x1 h=>?_
 refine iB 18 h (fun h=>?_) fun h=>?_
 exact lb h
 exact lb h
 exact lb h) h
theorem bBf(h:Zc aE aC=some a8):AM Tryz.prog 53 [.d ((D.l Xm.D) aE),.d (D.s aC)] [] (dI a8) []:=by
 unfold Zc at h;apply g0 (o:=a8);obtain⟨o2,h4,h⟩:=bS h;refine gl (aM3 none h4) ?_;replace h:=AL h;rcases h with⟨o3,rfl,h⟩|⟨o4,rfl,h⟩
 exact lf h;exact lf h
def XW(s0:List Xm)(s4 s5:Int):St:=⟨sp 72 0 [sD 0 (D.l Xm.D) s0,sI 4 s4,sI 5 s5],[],[]⟩
def XX(s0:List Xm)(s4:Int)(o:Unit⊕Unit):Ex×St:=match o with
 | .inl o=>(.exit 2,⟨sp 72 0 [sD 0 (D.l Xm.D) s0,sI 4 s4],[],[]⟩)
 | .inr o=>(.ret,⟨sp 72 0 [sI 2 8,sI 3 s4],[],[]⟩)
theorem aKq(rd:Option Nat)(h:aKp aE a8 aA=some a9):Lq 37 rd 29854 (XW aE a8 aA) ((XX aE a8) a9):=
 lL (fun s:Int=>XW aE a8 s) (XX aE a8) aA (fun aA o h=>by
 unfold E3 at h
 refine xX 44 Xm.D h fun x6 h=>?_
 refine gN 47 dZ x6.types ?_
 refine iB 48 h (fun h=>?_) fun h=>?_
 refine xX 53 Xm.D h fun x7 h=>?_
 refine xX 57 dZ h fun x8 h=>?_
 refine iB 60 h (fun h=>?_) fun h=>?_
 exact lb h
 refine xX 63 Xm.D h fun x9 h=>?_
 refine xX 67 dZ h fun x10 h=>?_
 refine iB 70 h (fun h=>?_) fun h=>?_
 exact lb h
 exact lb h
 exact lb h) h
def XU(s0:List Xm)(s4:Int):St:=⟨sp 72 0 [sD 0 (D.l Xm.D) s0,sI 4 s4],[],[]⟩
def XV(s0:List Xm)(o:Unit⊕(Int×Int)):Ex×St:=match o with
 | .inl o=>(.exit 0,⟨sp 72 0 [],[],[]⟩)
 | .inr o=>(.ret,⟨sp 72 0 [sI 2 o.1,sI 3 o.2],[],[]⟩)
theorem aKo(rd:Option Nat)(h:aKn aE a8=some aG):Lq 37 rd 58 (XU aE a8) ((XV aE) aG):=
 lL (fun s:Int=>XU aE s) (XV aE) a8 (fun a8 o h=>by
 unfold E2 at h
 refine gN 11 Xm.D aE ?_
 refine iB 12 h (fun h=>?_) fun h=>?_
 refine xX 17 Xm.D h fun x1 h=>?_
 obtain⟨r2,h4,h⟩:=bS h
 refine gC 20 (aMe h4) ?_
 refine iB 21 h (fun h=>?_) fun h=>?_
 exact lb h
 refine xX 26 Xm.D h fun x3 h=>?_
 obtain⟨r4,h7,h⟩:=bS h
 refine gC 29 (bBf h7) ?_
 refine iB 31 h (fun h=>?_) fun h=>?_
 exact lb h
 refine xX 35 Xm.D h fun x5 h=>?_
 refine gN 38 dZ x5.types ?_
 refine iB 39 h (fun h=>?_) fun h=>?_
 exact lb h
 obtain⟨o11,h19,h⟩:=bS h
 refine gl (aKq rd h19) ?_
 replace h:=AL h
 rcases h with⟨o12,rfl,h⟩|⟨o13,rfl,h⟩
 exact lb h
 exact lb h
 exact lb h) h
theorem aZ2(h:Y8 aE=some aH):AM Tryz.prog 37 [.d ((D.l Xm.D) aE)] [] (.tup [dI aH.1,dI aH.2]) []:=by
 unfold Y8 at h;apply g0 (o:=aH);refine gN 7 Xm.D aE ?_;refine iB 8 h (fun h=>?_) fun h=>?_;exact lf h;obtain⟨o14,h20,h⟩:=bS h;refine gl (aKo none h20) ?_;replace h:=AL h;rcases h with⟨o15,rfl,h⟩|⟨o16,rfl,h⟩
 exact lf h;exact lf h
theorem aNf(h:Zp aI=some aD):AM Tryz.prog 54 [.d (X0.D aI)] [] (.d (D.b aD)) []:=by unfold Zp at h;apply g0 (o:=aD);refine iB 5 h (fun h=>?_) fun h=>?_;refine iB 9 h (fun h=>?_) fun h=>?_;exact lf h;exact lf h;refine iB 16 h (fun h=>?_) fun h=>?_;refine iB 20 h (fun h=>?_) fun h=>?_;refine iB 25 h (fun h=>?_) fun h=>?_;refine gG 28 (.int (aI.str.length:Int)) (Ca aI.str) ?_;exact lf h;exact lf h;exact lf h;refine iB 34 h (fun h=>?_) fun h=>?_;refine iB 39 h (fun h=>?_) fun h=>?_;exact lf h;exact lf h;exact lf h
def aA8(s0:List (List UInt8))(s1 s5:Int):St:=⟨sp 20 0 [sD 0 (D.l D.s) s0,sI 1 s1,sI 5 s5],[],[]⟩
def aA9(s0:List (List UInt8))(s1:Int)(o:Unit⊕Unit):Ex×St:=match o with
 | .inl o=>(.exit 0,⟨sp 20 0 [],[],[]⟩)
 | .inr o=>(.ret,⟨sp 20 0 [sD 4 D.b true],[],[]⟩)
theorem aM4(rd:Option Nat)(h:aVw aB a8 aA=some a9):Lq 55 rd 26 (aA8 aB a8 aA) ((aA9 aB a8) a9):=
 lL (fun s:Int=>aA8 aB a8 s) (aA9 aB a8) aA (fun aA o h=>by
 unfold JH at h
 refine iB 8 h (fun h=>?_) fun h=>?_
 refine xX 13 D.s h fun x1 h=>?_
 refine xX 17 D.s h fun x2 h=>?_
 refine iB 19 h (fun h=>?_) fun h=>?_
 exact lb h
 exact lb h
 exact lb h) h
theorem aVx(h:Zd aB a8=some aD):AM Tryz.prog 55 [.d ((D.l D.s) aB),dI a8] [] (.d (D.b aD)) []:=by
 unfold Zd at h;apply g0 (o:=aD);obtain⟨o3,h5,h⟩:=bS h;refine gl (aM4 none h5) ?_;replace h:=AL h;rcases h with⟨o4,rfl,h⟩|⟨o5,rfl,h⟩
 exact lf h;exact lf h
def WL(w1:AD)(s4:Int)(w3:List (List UInt8)):St:=⟨sp 112 0 [bx 1,rx 3,sI 4 s4],[cL 1 AD.D w1,(3,.row 9 1 (w3.map D.s))],[]⟩
def WM(w1:AD)(o:(List (List UInt8))⊕Unit):Ex×St:=match o with
 | .inl o=>(.exit 0,⟨sp 112 0 [bx 1,rx 3],[cL 1 AD.D w1,(3,.row 9 1 (o.map D.s))],[]⟩)
 | .inr o=>(.ret,⟨sp 112 0 [sD 2 D.b false],[],[]⟩)
theorem aIu(rd:Option Nat)(h:aVa a7 a8 aB=some aJ):Lq 38 rd 58 (WL a7 a8 aB) ((WM a7) aJ):=
 lL (fun s:Int×List (List UInt8)=>WL a7 s.1 s.2) (WM a7) (a8,aB) (fun⟨a8,aB⟩ o h=>by
 unfold Ih at h
 refine gN 12 Yo.D a7.quants ?_
 refine iB 13 h (fun h=>?_) fun h=>?_
 refine xX 20 Yo.D h fun x4 h=>?_
 refine gQ (Ah D.s [x4.name])<|gG 24 (.sl ((aB++[x4.name]).map D.s)) (Ah D.s [x4.name]) ?_
 obtain⟨h10,h⟩:=cS h
 refine gQ (Ao D.s h10)<|gQ (Am D.s aB [x4.name])<|xX 28 Yo.D h fun x5 h=>?_
 refine iB 32 h (fun h=>?_) fun h=>?_
 exact lb h
 refine xX 36 Yo.D h fun x6 h=>?_
 refine iB 40 h (fun h=>?_) fun h=>?_
 exact lb h
 exact lB h [.live [1,3,4],.keep [1,24],.ren 24 3,.sort]
 exact lb h) h
def WN(w1:AD)(s5:Int)(w3:List (List UInt8)):St:=⟨sp 112 0 [bx 1,rx 3,sI 5 s5],[cL 1 AD.D w1,(3,.row 9 1 (w3.map D.s))],[]⟩
def WO(w1:AD)(o:(List (List UInt8))⊕Unit):Ex×St:=match o with
 | .inl o=>(.exit 2,⟨sp 112 0 [bx 1,rx 3],[cL 1 AD.D w1,(3,.row 9 1 (o.map D.s))],[]⟩)
 | .inr o=>(.ret,⟨sp 112 0 [sD 2 D.b false],[],[]⟩)
theorem aIv(rd:Option Nat)(h:aVb a7 a8 aB=some aJ):Lq 38 rd 122 (WN a7 a8 aB) ((WO a7) aJ):=
 lL (fun s:Int×List (List UInt8)=>WN a7 s.1 s.2) (WO a7) (a8,aB) (fun⟨a8,aB⟩ o h=>by
 unfold Ii at h
 refine gN 44 Yq.D a7.frees ?_
 refine iB 45 h (fun h=>?_) fun h=>?_
 refine xX 52 Yq.D h fun x10 h=>?_
 refine gQ (Ah D.s [x10.name])<|gG 56 (.sl ((aB++[x10.name]).map D.s)) (Ah D.s [x10.name]) ?_
 obtain⟨h18,h⟩:=cS h
 refine gQ (Ao D.s h18)<|gQ (Am D.s aB [x10.name])<|xX 60 Yq.D h fun x11 h=>?_
 obtain⟨r12,h20,h⟩:=bS h
 refine gC 63 (aNf h20) ?_
 refine iB 64 h (fun h=>?_) fun h=>?_
 exact lb h
 exact lB h [.live [1,3,5],.keep [1,56],.ren 56 3,.sort]
 exact lb h) h
def WP(w1:AD)(w3:List (List UInt8))(s6:Int):St:=⟨sp 112 0 [bx 1,rx 3,sI 6 s6],[cL 1 AD.D w1,(3,.row 9 1 (w3.map D.s))],[]⟩
def WQ(w1:AD)(w3:List (List UInt8))(o:Unit⊕Unit):Ex×St:=match o with
 | .inl o=>(.exit 4,⟨sp 112 0 [bx 1],[cL 1 AD.D w1],[]⟩)
 | .inr o=>(.ret,⟨sp 112 0 [sD 2 D.b false],[],[]⟩)
theorem aIw(rd:Option Nat)(h:aVc a7 aB a8=some a9):Lq 38 rd 250 (WP a7 aB a8) ((WQ a7 aB) a9):=
 lL (fun s:Int=>WP a7 aB s) (WQ a7 aB) a8 (fun a8 o h=>by
 unfold Ij at h
 refine gN 67 D.s aB ?_
 refine iB 68 h (fun h=>?_) fun h=>?_
 refine xX 73 D.s h fun x16 h=>?_
 obtain⟨r17,h25,h⟩:=bS h
 refine gC 75 (aMe h25) ?_
 refine iB 77 h (fun h=>?_) fun h=>?_
 exact lb h
 obtain⟨r18,h27,h⟩:=bS h
 refine gQ (aVx h27) ?_
 cases r18
 replace h:=CL h
 refine gW 80 (.ret (.d (D.b false))) ?_
 exact lb h
 replace h:=CM h
 refine gW 80 (.ret (.d (D.b true))) ?_
 exact lb h
 exact lb h) h
def WR(w1:AD)(s8:Int)(w7:List (List UInt8)):St:=⟨sp 112 0 [bx 1,rx 7,sI 8 s8],[cL 1 AD.D w1,(7,.row 9 1 (w7.map D.s))],[]⟩
def WS(w1:AD)(o:Unit⊕Unit):Ex×St:=match o with
 | .inl o=>(.exit 6,⟨sp 112 0 [bx 1],[cL 1 AD.D w1],[]⟩)
 | .inr o=>(.ret,⟨sp 112 0 [sD 2 D.b false],[],[]⟩)
theorem aIx(rd:Option Nat)(h:aVd a7 a8 aB=some a9):Lq 38 rd 1018 (WR a7 a8 aB) ((WS a7) a9):=
 lL (fun s:Int×List (List UInt8)=>WR a7 s.1 s.2) (WS a7) (a8,aB) (fun⟨a8,aB⟩ o h=>by
 unfold Ik at h
 refine gN 85 Xg.D a7.states ?_
 refine iB 86 h (fun h=>?_) fun h=>?_
 refine xX 93 Xg.D h fun x26 h=>?_
 refine gQ (Ah D.s [x26.name])<|gG 97 (.sl ((aB++[x26.name]).map D.s)) (Ah D.s [x26.name]) ?_
 obtain⟨h40,h⟩:=cS h
 refine gQ (Ao D.s h40)<|gQ (Am D.s aB [x26.name])<|xX 100 D.s h fun x27 h=>?_
 obtain⟨r28,h42,h⟩:=bS h
 refine gC 102 (aMe h42) ?_
 refine iB 104 h (fun h=>?_) fun h=>?_
 exact lb h
 obtain⟨r29,h44,h⟩:=bS h
 refine gQ (aVx h44) ?_
 cases r29
 replace h:=CL h
 refine gW 107 (.ret (.d (D.b false))) ?_
 exact lB h [.live [1,7,8],.keep [1,97],.ren 97 7,.sort]
 replace h:=CM h
 refine gW 107 (.ret (.d (D.b true))) ?_
 exact lb h
 exact lb h) h
theorem aZe(h:Xs a7=some aD):AM Tryz.prog 38 [.d (AD.D a7)] [] (.d (D.b aD)) []:=by
 unfold Xs at h;apply g0 (o:=aD);obtain⟨o7,h15,h⟩:=bS h;refine gL [.live [1,3,4],.keep [1],.nil 3 3 9 1,.sort] (aIu none h15) ?_;replace h:=AL h;rcases h with⟨o8,rfl,h⟩|⟨o9,rfl,h⟩
 obtain⟨o13,h22,h⟩:=bS h;refine gl (aIv none h22) ?_;replace h:=AL h;rcases h with⟨o14,rfl,h⟩|⟨o15,rfl,h⟩
 obtain⟨o19,h29,h⟩:=bS h;refine gl (aIw none h29) ?_;replace h:=AL h;rcases h with⟨o20,rfl,h⟩|⟨o21,rfl,h⟩
 obtain⟨o30,h46,h⟩:=bS h;refine gL [.live [1,7,8],.keep [1],.nil 7 7 9 1,.sort] (aIx none h46) ?_;replace h:=AL h;rcases h with⟨o31,rfl,h⟩|⟨o32,rfl,h⟩
 obtain⟨r33,h47,h⟩:=bS h;refine gC 111 (aMe h47) ?_;exact lf h;exact lf h;exact lf h;exact lf h;exact lf h
theorem LR(h:Zo aD=some aK):AM Tryz.prog 133 [.d (D.b aD)] [] (.tup [.d (X0.D aK.1),dI aK.2]) []:=by unfold Zo at h;apply g0 (o:=aK);exact lf h
theorem aX7(h:Ql a8 aA=some aL):AM Tryz.prog 137 [dI a8,dI aA] [] (.tup [dI aL.1,.d (D.b aL.2)]) []:=by unfold Ql at h;apply g0 (o:=aL);refine iB 8 h (fun h=>?_) fun h=>?_;refine iB 14 h (fun h=>?_) fun h=>?_;exact lf h;refine iB 17 h (fun h=>?_) fun h=>?_;refine iB 23 h (fun h=>?_) fun h=>?_;exact lf h;exact lf h;exact lf h;refine iB 17 h (fun h=>?_) fun h=>?_;refine iB 23 h (fun h=>?_) fun h=>?_;exact lf h;exact lf h;exact lf h
theorem aFc(h:Q3 a8 aD=some aK):AM Tryz.prog 138 [dI a8,.d (D.b aD)] [] (.tup [.d (X0.D aK.1),dI aK.2]) []:=by unfold Q3 at h;apply g0 (o:=aK);refine iB 7 h (fun h=>?_) fun h=>?_;exact lf h;exact lf h
theorem aNh(h:Zx a8 aA=some aL):AM Tryz.prog 139 [dI a8,dI aA] [] (.tup [dI aL.1,.d (D.b aL.2)]) []:=by unfold Zx at h;apply g0 (o:=aL);refine iB 8 h (fun h=>?_) fun h=>?_;refine iB 14 h (fun h=>?_) fun h=>?_;exact lf h;refine iB 17 h (fun h=>?_) fun h=>?_;refine iB 23 h (fun h=>?_) fun h=>?_;exact lf h;exact lf h;exact lf h;refine iB 17 h (fun h=>?_) fun h=>?_;refine iB 23 h (fun h=>?_) fun h=>?_;exact lf h;exact lf h;exact lf h
theorem aX8(h:Qm a8 aA=some aL):AM Tryz.prog 140 [dI a8,dI aA] [] (.tup [dI aL.1,.d (D.b aL.2)]) []:=by
 unfold Qm at h;apply g0 (o:=aL);refine iB 8 h (fun h=>?_) fun h=>?_;exact lf h;refine iB 11 h (fun h=>?_) fun h=>?_;exact lf h;refine iB 13 h (fun h=>?_) fun h=>?_;obtain⟨r1,h4,h⟩:=bS h;refine gC 15 (aNh h4) ?_;exact lf h;refine iB 19 h (fun h=>?_) fun h=>?_;obtain⟨r2,h6,h⟩:=bS h;refine gC 21 (aNh h6) ?_;exact lf h;rcases iS h with⟨h7,h⟩|⟨h7,h⟩
 refine gT 26 h7 ?_;rcases iS h with⟨h8,h⟩|⟨h8,h⟩
 refine gT 30 h8 ?_;obtain⟨h9,h⟩:=cS h;refine gQ h9 ?_;refine iB 36 h (fun h=>?_) fun h=>?_;exact lf h;refine gT 39 h7 ?_;rcases iS h with⟨h11,h⟩|⟨h11,h⟩
 refine gT 43 h11 ?_;obtain⟨h12,h⟩:=cS h;refine gQ h12 ?_;refine iB 50 h (fun h=>?_) fun h=>?_;exact lf h;rcases iS h with⟨h14,h⟩|⟨h14,h⟩
 refine gT 53 h14<|gT 57 h8 ?_;obtain⟨h15,h⟩:=cS h;refine gQ h15 ?_;refine iB 64 h (fun h=>?_) fun h=>?_;exact lf h;refine gT 67 h14<|gT 71 h11 ?_;obtain⟨h17,h⟩:=cS h;refine gQ h17 ?_;refine iB 77 h (fun h=>?_) fun h=>?_;exact lf h;exact lf h;refine gF 53 h14<|gF 67 h14 ?_;exact lf h;refine gF 43 h11 ?_;rcases iS h with⟨h19,h⟩|⟨h19,h⟩
 refine gT 53 h19<|gT 57 h8 ?_;obtain⟨h20,h⟩:=cS h;refine gQ h20 ?_;refine iB 64 h (fun h=>?_) fun h=>?_;exact lf h;refine gT 67 h19<|gF 71 h11 ?_;exact lf h;refine gF 53 h19<|gF 67 h19 ?_;exact lf h;refine gF 30 h8<|gT 39 h7 ?_;rcases iS h with⟨h22,h⟩|⟨h22,h⟩
 refine gT 43 h22 ?_;obtain⟨h23,h⟩:=cS h;refine gQ h23 ?_;refine iB 50 h (fun h=>?_) fun h=>?_;exact lf h;rcases iS h with⟨h25,h⟩|⟨h25,h⟩
 refine gT 53 h25<|gF 57 h8<|gT 67 h25<|gT 71 h22 ?_;obtain⟨h26,h⟩:=cS h;refine gQ h26 ?_;refine iB 77 h (fun h=>?_) fun h=>?_;exact lf h;exact lf h;refine gF 53 h25<|gF 67 h25 ?_;exact lf h;refine gF 43 h22 ?_;rcases iS h with⟨h28,h⟩|⟨h28,h⟩
 refine gT 53 h28<|gF 57 h8<|gT 67 h28<|gF 71 h22 ?_;exact lf h;refine gF 53 h28<|gF 67 h28 ?_;exact lf h;refine gF 26 h7<|gF 39 h7 ?_;rcases iS h with⟨h29,h⟩|⟨h29,h⟩
 refine gT 53 h29 ?_;refine iB 57 h (fun h=>?_) fun h=>?_;obtain⟨h31,h⟩:=cS h;refine gQ h31 ?_;refine iB 64 h (fun h=>?_) fun h=>?_;exact lf h;refine gT 67 h29 ?_;refine iB 71 h (fun h=>?_) fun h=>?_;obtain⟨h34,h⟩:=cS h;refine gQ h34 ?_;refine iB 77 h (fun h=>?_) fun h=>?_;exact lf h;exact lf h;exact lf h;refine gT 67 h29 ?_;refine iB 71 h (fun h=>?_) fun h=>?_;obtain⟨h37,h⟩:=cS h;refine gQ h37 ?_;refine iB 77 h (fun h=>?_) fun h=>?_;exact lf h;exact lf h;exact lf h;refine gF 53 h29<|gF 67 h29 ?_;exact lf h
theorem aX9(h:Qn a8 aA=some aM):AM Tryz.prog 141 [dI a8,dI aA] [] (.tup [dI aM.1,dI aM.2.1,dI aM.2.2]) []:=by unfold Qn at h;apply g0 (o:=aM);refine iB 10 h (fun h=>?_) fun h=>?_;exact lf h;refine iB 12 h (fun h=>?_) fun h=>?_;obtain⟨r1,h3,h⟩:=bS h;refine gC 15 (aNh h3) ?_;refine iB 19 h (fun h=>?_) fun h=>?_;exact lf h;exact lf h;obtain⟨h5,h⟩:=cS h;refine gQ h5 ?_;obtain⟨h6,h⟩:=cS h;refine gQ h6 ?_;exact lf h
theorem aV5(h:Zy a8 aA aN=some aK):AM Tryz.prog 134 [dI a8,dI aA,dI aN] [] (.tup [.d (X0.D aK.1),dI aK.2]) []:=by unfold Zy at h;apply g0 (o:=aK);refine iB 18 h (fun h=>?_) fun h=>?_;obtain⟨r1,h2,h⟩:=bS h;refine gC 22 (aX7 h2) ?_;obtain⟨r2,h3,h⟩:=bS h;refine gC 27 (aFc h3) ?_;exact lf h;refine iB 31 h (fun h=>?_) fun h=>?_;obtain⟨r3,h5,h⟩:=bS h;refine gC 35 (aNh h5) ?_;obtain⟨r4,h6,h⟩:=bS h;refine gC 40 (aFc h6) ?_;exact lf h;refine iB 44 h (fun h=>?_) fun h=>?_;obtain⟨r5,h8,h⟩:=bS h;refine gC 48 (aX8 h8) ?_;obtain⟨r6,h9,h⟩:=bS h;refine gC 53 (aFc h9) ?_;exact lf h;obtain⟨r7,h10,h⟩:=bS h;refine gC 59 (aX9 h10) ?_;refine iB 64 h (fun h=>?_) fun h=>?_;exact lf h;refine iB 67 h (fun h=>?_) fun h=>?_;exact lf h;obtain⟨r8,h13,h⟩:=bS h;refine gC 73 (aFc h13) ?_;exact lf h
def aAi(s0 s1:List UInt8)(s5:Int):St:=⟨sp 37 0 [sD 0 D.s s0,sD 1 D.s s1,sI 5 s5],[],[]⟩
def aAj(s0 s1:List UInt8)(o:Unit⊕Bool):Ex×St:=match o with
 | .inl o=>(.exit 0,⟨sp 37 0 [sD 0 D.s s0,sD 1 D.s s1],[],[]⟩)
 | .inr o=>(.ret,⟨sp 37 0 [sD 4 D.b o],[],[]⟩)
theorem aMm(rd:Option Nat)(h:aMl aC aO a8=some aP):Lq 125 rd 26 (aAi aC aO a8) ((aAj aC aO) aP):=
 lL (fun s:Int=>aAi aC aO s) (aAj aC aO) a8 (fun a8 o h=>by
 unfold HL at h
 refine gG 8 (.int (aC.length:Int)) (Ca aC) ?_
 refine iB 10 h (fun h=>?_) fun h=>?_
 refine gG 13 (.int (aO.length:Int)) (Ca aO) ?_
 refine iB 15 h (fun h=>?_) fun h=>?_
 obtain⟨x1,h3,h⟩:=xS h
 refine gG 20 (.int x1.toNat) (HO h3) ?_
 obtain⟨x2,h4,h⟩:=xS h
 refine gG 23 (.int x2.toNat) (HO h4) ?_
 refine iB 24 h (fun h=>?_) fun h=>?_
 obtain⟨x3,h6,h⟩:=xS h
 refine gG 27 (.int x3.toNat) (HO h6) ?_
 obtain⟨x4,h7,h⟩:=xS h
 refine gG 30 (.int x4.toNat) (HO h7) ?_
 exact lb h
 exact lb h
 exact lb h
 exact lb h) h
theorem bA2(h:Yz aC aO=some aD):AM Tryz.prog 125 [.d (D.s aC),.d (D.s aO)] [] (.d (D.b aD)) []:=by
 unfold Yz at h;apply g0 (o:=aD);obtain⟨o5,h8,h⟩:=bS h;refine gl (aMm none h8) ?_;replace h:=AL h;rcases h with⟨o6,rfl,h⟩|⟨o7,rfl,h⟩
 refine gG 33 (.int (aC.length:Int)) (Ca aC)<|gG 35 (.int (aO.length:Int)) (Ca aO) ?_;exact lf h;exact lf h
theorem aSh(h:Zs aI aQ=some aD):AM Tryz.prog 104 [.d (X0.D aI),.d (X0.D aQ)] [] (.d (D.b aD)) []:=by unfold Zs at h;apply g0 (o:=aD);refine iB 9 h (fun h=>?_) fun h=>?_;exact lf h;refine iB 17 h (fun h=>?_) fun h=>?_;exact lf h;refine iB 25 h (fun h=>?_) fun h=>?_;obtain⟨r1,h4,h⟩:=bS h;refine gC 30 (bA2 h4) ?_;exact lf h;refine iB 34 h (fun h=>?_) fun h=>?_;exact lf h;exact lf h
theorem aX0(h:Qe a8 aI aQ=some aK):AM Tryz.prog 126 [dI a8,.d (X0.D aI),.d (X0.D aQ)] [] (.tup [.d (X0.D aK.1),dI aK.2]) []:=by unfold Qe at h;apply g0 (o:=aK);refine iB 10 h (fun h=>?_) fun h=>?_;exact lf h;refine iB 13 h (fun h=>?_) fun h=>?_;exact lf h;refine iB 16 h (fun h=>?_) fun h=>?_;refine iB 19 h (fun h=>?_) fun h=>?_;exact lf h;obtain⟨r1,h5,h⟩:=bS h;refine gC 24 (LR h5) ?_;exact lf h;refine iB 28 h (fun h=>?_) fun h=>?_;refine iB 31 h (fun h=>?_) fun h=>?_;exact lf h;obtain⟨r2,h8,h⟩:=bS h;refine gC 35 (aV5 h8) ?_;exact lf h;refine iB 42 h (fun h=>?_) fun h=>?_;exact lf h;refine iB 45 h (fun h=>?_) fun h=>?_;obtain⟨r3,h11,h⟩:=bS h;refine gC 49 (LR h11) ?_;exact lf h;refine iB 53 h (fun h=>?_) fun h=>?_;obtain⟨r4,h13,h⟩:=bS h;refine gC 57 (LR h13) ?_;exact lf h;refine iB 62 h (fun h=>?_) fun h=>?_;refine iB 64 h (fun h=>?_) fun h=>?_;refine iB 67 h (fun h=>?_) fun h=>?_;obtain⟨r5,h17,h⟩:=bS h;refine gC 71 (LR h17) ?_;exact lf h;obtain⟨r6,h18,h⟩:=bS h;refine gC 71 (LR h18) ?_;exact lf h;refine iB 75 h (fun h=>?_) fun h=>?_;refine iB 78 h (fun h=>?_) fun h=>?_;obtain⟨r7,h21,h⟩:=bS h;refine gC 82 (LR h21) ?_;exact lf h;obtain⟨r8,h22,h⟩:=bS h;refine gC 82 (LR h22) ?_;exact lf h;exact lf h;refine iB 87 h (fun h=>?_) fun h=>?_;obtain⟨r9,h24,h⟩:=bS h;refine gC 90 (aSh h24) ?_;obtain⟨r10,h25,h⟩:=bS h;refine gC 91 (LR h25) ?_;exact lf h;refine iB 95 h (fun h=>?_) fun h=>?_;obtain⟨r11,h27,h⟩:=bS h;refine gC 98 (aSh h27) ?_;obtain⟨r12,h28,h⟩:=bS h;refine gC 100 (LR h28) ?_;exact lf h;refine iB 106 h (fun h=>?_) fun h=>?_;refine iB 110 h (fun h=>?_) fun h=>?_;refine iB 113 h (fun h=>?_) fun h=>?_;obtain⟨r13,h32,h⟩:=bS h;refine gC 119 (aV5 h32) ?_;exact lf h;refine iB 125 h (fun h=>?_) fun h=>?_;refine iB 128 h (fun h=>?_) fun h=>?_;refine gG 131 (.int (aI.str.length:Int)) (Ca aI.str)<|gG 134 (.int (aQ.str.length:Int)) (Ca aQ.str) ?_;refine iB 136 h (fun h=>?_) fun h=>?_;exact lf h;refine gW 142 (.str (aI.str++aQ.str)) ?_;obtain⟨h36,h⟩:=cS h;refine gQ (KA h36) ?_;exact lf h;exact lf h;exact lf h;refine iB 125 h (fun h=>?_) fun h=>?_;refine iB 128 h (fun h=>?_) fun h=>?_;refine gG 131 (.int (aI.str.length:Int)) (Ca aI.str)<|gG 134 (.int (aQ.str.length:Int)) (Ca aQ.str) ?_;refine iB 136 h (fun h=>?_) fun h=>?_;exact lf h;refine gW 142 (.str (aI.str++aQ.str)) ?_;obtain⟨h40,h⟩:=cS h;refine gQ (KA h40) ?_;exact lf h;exact lf h;exact lf h;refine iB 125 h (fun h=>?_) fun h=>?_;refine iB 128 h (fun h=>?_) fun h=>?_;refine gG 131 (.int (aI.str.length:Int)) (Ca aI.str)<|gG 134 (.int (aQ.str.length:Int)) (Ca aQ.str) ?_;refine iB 136 h (fun h=>?_) fun h=>?_;exact lf h;refine gW 142 (.str (aI.str++aQ.str)) ?_;obtain⟨h44,h⟩:=cS h;refine gQ (KA h44) ?_;exact lf h;exact lf h;exact lf h
theorem aUs(h:Q4 a8 aA aN=some aR):AM Tryz.prog 106 [dI a8,dI aA,dI aN] [] (dI aR) []:=by unfold Q4 at h;apply g0 (o:=aR);refine iB 11 h (fun h=>?_) fun h=>?_;exact lf h;refine iB 15 h (fun h=>?_) fun h=>?_;exact lf h;obtain⟨r1,h3,h⟩:=bS h;refine gC 22 (aX0 h3) ?_;refine iB 26 h (fun h=>?_) fun h=>?_;exact lf h;refine iB 28 h (fun h=>?_) fun h=>?_;exact lf h;exact lf h
theorem aR5(self:AD->Int->Option (Int×Int×Int))(hs:∀(a0:AD) (a1:Int) (r:Int×Int×Int),self a0 a1=some r->AM Tryz.prog 77 [.d (AD.D a0),dI a1] [] (.tup [dI r.1,dI r.2.1,dI r.2.2]) [])(a0:AD)(a1:Int)(r:Int×Int×Int)(h:aR4 self a0 a1=some r):AM Tryz.prog 77 [.d (AD.D a0),dI a1] [] (.tup [dI r.1,dI r.2.1,dI r.2.2]) []:=by unfold aR4 at h;apply g0 (o:=r);refine iB 17 h (fun h=>?_) fun h=>?_;exact lf h;refine gN 21 Yw.D a0.nodes ?_;refine iB 23 h (fun h=>?_) fun h=>?_;exact lf h;refine xX 27 Yw.D h fun x1 h=>?_;refine iB 32 h (fun h=>?_) fun h=>?_;refine iB 36 h (fun h=>?_) fun h=>?_;exact lf h;refine iB 41 h (fun h=>?_) fun h=>?_;exact lf h;obtain⟨r2,h7,h⟩:=bS h;refine gC 44 (aNf h7) ?_;refine iB 46 h (fun h=>?_) fun h=>?_;exact lf h;exact lf h;refine iB 54 h (fun h=>?_) fun h=>?_;exact lf h;refine iB 57 h (fun h=>?_) fun h=>?_;refine iB 61 h (fun h=>?_) fun h=>?_;exact lf h;refine gN 66 Yo.D a0.quants ?_;refine iB 69 h (fun h=>?_) fun h=>?_;exact lf h;refine iB 73 h (fun h=>?_) fun h=>?_;exact lf h;refine xX 78 Yo.D h fun x3 h=>?_;exact lf h;refine iB 84 h (fun h=>?_) fun h=>?_;refine iB 88 h (fun h=>?_) fun h=>?_;exact lf h;refine gN 93 Yq.D a0.frees ?_;refine iB 96 h (fun h=>?_) fun h=>?_;exact lf h;refine iB 100 h (fun h=>?_) fun h=>?_;exact lf h;refine xX 105 Yq.D h fun x4 h=>?_;exact lf h;refine iB 113 h (fun h=>?_) fun h=>?_;exact lf h;refine iB 117 h (fun h=>?_) fun h=>?_;exact lf h;obtain⟨r5,h22,h⟩:=bS h;refine gG 122 (.ret (.tup [dI r5.1,dI r5.2.1,dI r5.2.2])) (hs a0 (AA .sub .i64 a1 1) r5 h22) ?_;refine iB 128 h (fun h=>?_) fun h=>?_;refine iB 131 h (fun h=>?_) fun h=>?_;exact lf h;refine iB 138 h (fun h=>?_) fun h=>?_;exact lf h;refine iB 142 h (fun h=>?_) fun h=>?_;exact lf h;obtain⟨r6,h27,h⟩:=bS h;refine gC 147 (aUs h27) ?_;exact lf h;refine iB 153 h (fun h=>?_) fun h=>?_;exact lf h;refine iB 160 h (fun h=>?_) fun h=>?_;exact lf h;refine iB 166 h (fun h=>?_) fun h=>?_;exact lf h;obtain⟨r7,h31,h⟩:=bS h;refine gG 171 (.ret (.tup [dI r7.1,dI r7.2.1,dI r7.2.2])) (hs a0 (AA .sub .i64 r5.2.2 1) r7 h31)<|gW 182 (.int (GO r5.2.1 r7.2.1)) ?_;obtain⟨r8,h32,h⟩:=bS h;refine gC 179 (aUs h32)<|gQ (rfl:GO r5.2.1 r7.2.1=GO r5.2.1 r7.2.1) ?_;exact lf h
theorem aAw:∀(n:Nat) (a0:AD) (a1:Int) (r:Int×Int×Int),aPk n a0 a1=some r->AM Tryz.prog 77 [.d (AD.D a0),dI a1] [] (.tup [dI r.1,dI r.2.1,dI r.2.2]) []
 |0,a0,a1,r,h=>by simp[aPk]at h
 |n+1,a0,a1,r,h=>aR5 _ (aAw n) a0 a1 r h
theorem bA7(h:Z6 a7 a8=some aM):AM Tryz.prog 77 [.d (AD.D a7),dI a8] [] (.tup [dI aM.1,dI aM.2.1,dI aM.2.2]) []:=aAw 100000 a7 a8 aM h
theorem aUx(h:Qa a7 a8 aA=some aH):AM Tryz.prog 56 [.d (AD.D a7),dI a8,dI aA] [] (.tup [dI aH.1,dI aH.2]) []:=by unfold Qa at h;apply g0 (o:=aH);obtain⟨r1,h1,h⟩:=bS h;refine gC 14 (bA7 h1) ?_;refine iB 20 h (fun h=>?_) fun h=>?_;exact lf h;refine iB 24 h (fun h=>?_) fun h=>?_;exact lf h;exact lf h
def aAq(s1:Int)(w2:X5)(s5:Int):St:=⟨sp 30 0 [sI 1 s1,bx 2,sI 5 s5],[cL 2 X5.D w2],[]⟩
def aAr(s1:Int)(w2:X5)(o:Unit⊕Unit):Ex×St:=match o with
 | .inl o=>(.exit 0,⟨sp 30 0 [],[],[]⟩)
 | .inr o=>(.ret,⟨sp 30 0 [sD 4 D.b true],[],[]⟩)
theorem aMr(rd:Option Nat)(h:aR1 a8 aS aA=some a9):Lq 60 rd 26 (aAq a8 aS aA) ((aAr a8 aS) a9):=
 lL (fun s:Int=>aAq a8 aS s) (aAr a8 aS) aA (fun aA o h=>by
 unfold JB at h
 refine gN 9 B0.D aS.args ?_
 refine iB 10 h (fun h=>?_) fun h=>?_
 refine xX 16 B0.D h fun x1 h=>?_
 refine iB 20 h (fun h=>?_) fun h=>?_
 refine xX 24 B0.D h fun x2 h=>?_
 refine iB 29 h (fun h=>?_) fun h=>?_
 exact lb h
 exact lb h
 exact lb h
 exact lb h) h
theorem aVr(h:Z2 aS a8=some aD):AM Tryz.prog 60 [.d (X5.D aS),dI a8] [] (.d (D.b aD)) []:=by
 unfold Z2 at h;apply g0 (o:=aD);obtain⟨o3,h6,h⟩:=bS h;refine gl (aMr none h6) ?_;replace h:=AL h;rcases h with⟨o4,rfl,h⟩|⟨o5,rfl,h⟩
 exact lf h;exact lf h
def aBg(s3:Int)(w4:AD)(w5:X5)(s9:Int):St:=⟨sp 34 0 [sI 3 s3,bx 4,bx 5,sI 9 s9],[cL 4 AD.D w4,cL 5 X5.D w5],[]⟩
def aBh(s3:Int)(w4:AD)(w5:X5)(o:Unit⊕Unit):Ex×St:=match o with
 | .inl o=>(.exit 0,⟨sp 34 0 [],[],[]⟩)
 | .inr o=>(.ret,⟨sp 34 0 [sD 8 D.b false],[],[]⟩)
theorem aM8(rd:Option Nat)(h:aSc a8 a7 aS aA=some a9):Lq 57 rd 26 (aBg a8 a7 aS aA) ((aBh a8 a7 aS) a9):=
 lL (fun s:Int=>aBg a8 a7 aS s) (aBh a8 a7 aS) aA (fun aA o h=>by
 unfold JJ at h
 refine iB 13 h (fun h=>?_) fun h=>?_
 refine xX 19 Yw.D h fun x1 h=>?_
 refine iB 23 h (fun h=>?_) fun h=>?_
 refine xX 28 Yw.D h fun x2 h=>?_
 obtain⟨r3,h5,h⟩:=bS h
 refine gC 31 (aVr h5) ?_
 refine iB 33 h (fun h=>?_) fun h=>?_
 exact lb h
 exact lb h
 exact lb h
 exact lb h) h
theorem bBm(h:Zh a7 aS a8 aA=some aD):AM Tryz.prog 57 [.d (AD.D a7),.d (X5.D aS),dI a8,dI aA] [] (.d (D.b aD)) []:=by
 unfold Zh at h;apply g0 (o:=aD);obtain⟨o4,h7,h⟩:=bS h;refine gl (aM8 none h7) ?_;replace h:=AL h;rcases h with⟨o5,rfl,h⟩|⟨o6,rfl,h⟩
 exact lf h;exact lf h
theorem aKr(rd:Option Nat)(h:XY a8 aA aD a7 aT=some aU):Lq 39 rd 61 ⟨sp 153 0 [sI 2 a8,bx 3,bx 4,sI 8 aA,sD 56 D.b aD],[cL 3 AD.D a7,cL 4 Xr.D aT],[]⟩ (match (generalizing:=false) aU with
 | .inl aU=>(.normal,⟨sp 153 0 [sI 2 a8,bx 3,bx 4,sI 8 aU],[cL 3 AD.D a7,cL 4 Xr.D aT],[]⟩)
 | .inr aU=>(.ret,⟨sp 153 0 [sI 6 0,sD 7 D.b false],[],[]⟩)):=by
 unfold XY at h
 apply g0 (o:=aU)
 cases aD
 replace h:=CL h
 exact lp h
 replace h:=CM h
 obtain⟨r1,h8,h⟩:=bS h
 refine gC 62 (aUx h8) ?_
 refine iB 67 h (fun h=>?_) fun h=>?_
 exact lp h
 refine iB 70 h (fun h=>?_) fun h=>?_
 exact lp h
 exact lp h
def YB(s2 s11:Int)(w3:AD)(w4:Xr)(w12:Fq)(s15:Int):St:=⟨sp 153 0 [sI 2 s2,bx 3,bx 4,sI 11 s11,bx 12,sI 15 s15],[cL 3 AD.D w3,cL 4 Xr.D w4,cL 12 Fq.D w12],[]⟩
def YC(s2 s11:Int)(w3:AD)(w4:Xr)(w12:Fq)(o:Unit⊕Unit):Ex×St:=match o with
 | .inl o=>(.exit 2,⟨sp 153 0 [sI 2 s2,bx 3,bx 4,sI 11 s11,bx 12],[cL 3 AD.D w3,cL 4 Xr.D w4,cL 12 Fq.D w12],[]⟩)
 | .inr o=>(.ret,⟨sp 153 0 [sI 6 0,sD 7 D.b false],[],[]⟩)
theorem aKt(rd:Option Nat)(h:aRl a8 aA a7 aT aV aN=some a9):Lq 39 rd 256314 (YB a8 aA a7 aT aV aN) ((YC a8 aA a7 aT aV) a9):=
 lL (fun s:Int=>YB a8 aA a7 aT aV s) (YC a8 aA a7 aT aV) aN (fun aN o h=>by
 unfold Iw at h
 refine iB 127 h (fun h=>?_) fun h=>?_
 refine xX 133 Fq.D h fun x8 h=>?_
 refine iB 138 h (fun h=>?_) fun h=>?_
 exact lb h
 exact lb h
 exact lb h) h
def XZ(s2:Int)(w3:AD)(w4:Xr)(s8 s11:Int):St:=⟨sp 153 0 [sI 2 s2,bx 3,bx 4,sI 8 s8,sI 11 s11],[cL 3 AD.D w3,cL 4 Xr.D w4],[]⟩
def YA(s2:Int)(w3:AD)(w4:Xr)(o:Int⊕Unit):Ex×St:=match o with
 | .inl o=>(.exit 0,⟨sp 153 0 [sI 2 s2,bx 3,bx 4,sI 8 o],[cL 3 AD.D w3,cL 4 Xr.D w4],[]⟩)
 | .inr o=>(.ret,⟨sp 153 0 [sI 6 0,sD 7 D.b false],[],[]⟩)
theorem aKs(rd:Option Nat)(h:aRk a8 a7 aT aA aN=some aU):Lq 39 rd 250 (XZ a8 a7 aT aA aN) ((YA a8 a7 aT) aU):=
 lL (fun s:Int×Int=>XZ a8 a7 aT s.1 s.2) (YA a8 a7 aT) (aA,aN) (fun⟨aA,aN⟩ o h=>by
 unfold Iv at h
 refine gN 77 Fq.D aT.sets ?_
 refine iB 78 h (fun h=>?_) fun h=>?_
 refine xX 84 Fq.D h fun x5 h=>?_
 obtain⟨r6,h14,h⟩:=bS h
 refine gC 91 (aUx h14) ?_
 refine iB 97 h (fun h=>?_) fun h=>?_
 exact lb h
 refine gN 102 Yq.D a7.frees ?_
 refine iB 105 h (fun h=>?_) fun h=>?_
 exact lb h
 refine iB 109 h (fun h=>?_) fun h=>?_
 exact lb h
 refine iB 113 h (fun h=>?_) fun h=>?_
 exact lb h
 refine xX 119 Yq.D h fun x7 h=>?_
 refine iB 124 h (fun h=>?_) fun h=>?_
 exact lb h
 obtain⟨o9,h24,h⟩:=bS h
 refine gl (aKt rd h24) ?_
 replace h:=AL h
 rcases h with⟨o10,rfl,h⟩|⟨o11,rfl,h⟩
 exact lb h
 exact lb h
 exact lb h) h
theorem aZ3(h:Y9 a7 aT a8=some aL):AM Tryz.prog 39 [.d (AD.D a7),.d (Xr.D aT),dI a8] [] (.tup [dI aL.1,.d (D.b aL.2)]) []:=by
 unfold Y9 at h;apply g0 (o:=aL);refine iB 19 h (fun h=>?_) fun h=>?_;exact lf h;refine gN 24 Xg.D a7.states ?_;refine iB 27 h (fun h=>?_) fun h=>?_;exact lf h;refine iB 32 h (fun h=>?_) fun h=>?_;exact lf h;refine gN 37 Xg.D a7.states ?_;refine iB 40 h (fun h=>?_) fun h=>?_;exact lf h;refine iB 45 h (fun h=>?_) fun h=>?_;exact lf h;refine gN 50 X5.D a7.symbols ?_;refine iB 52 h (fun h=>?_) fun h=>?_;exact lf h;obtain⟨o2,h11,h⟩:=bS h;refine gl (aKr none h11) ?_;replace h:=AL h;rcases h with⟨o3,rfl,h⟩|⟨o4,rfl,h⟩
 obtain⟨o12,h25,h⟩:=bS h;refine gl (aKs none h25) ?_;replace h:=AL h;rcases h with⟨o13,rfl,h⟩|⟨o14,rfl,h⟩
 refine xX 148 X5.D h fun x15 h=>?_;obtain⟨r16,h27,h⟩:=bS h;refine gC 152 (bBm h27) ?_;exact lf h;exact lf h;exact lf h
theorem aX2(h:Qf a7 aW a8=some aD):AM Tryz.prog 78 [.d (AD.D a7),.d (B0.D aW),dI a8] [] (.d (D.b aD)) []:=by unfold Qf at h;apply g0 (o:=aD);refine iB 11 h (fun h=>?_) fun h=>?_;refine iB 15 h (fun h=>?_) fun h=>?_;obtain⟨r1,h3,h⟩:=bS h;refine gQ (aNf h3) ?_;cases r1;replace h:=CL h;refine gW 18 (.ret (.d (D.b false))) ?_;exact lf h;replace h:=CM h;refine gW 18 (.ret (.d (D.b true))) ?_;exact lf h;exact lf h;refine iB 30 h (fun h=>?_) fun h=>?_;exact lf h;refine iB 33 h (fun h=>?_) fun h=>?_;refine iB 37 h (fun h=>?_) fun h=>?_;refine gN 42 Yo.D a7.quants ?_;refine iB 45 h (fun h=>?_) fun h=>?_;refine xX 50 Yo.D h fun x2 h=>?_;exact lf h;exact lf h;exact lf h;refine iB 58 h (fun h=>?_) fun h=>?_;refine iB 62 h (fun h=>?_) fun h=>?_;refine gN 67 Yq.D a7.frees ?_;refine iB 70 h (fun h=>?_) fun h=>?_;refine xX 75 Yq.D h fun x3 h=>?_;exact lf h;exact lf h;exact lf h;refine iB 85 h (fun h=>?_) fun h=>?_;exact lf h;exact lf h
def aBa(w2:AD)(w3:X5)(s5:Int):St:=⟨sp 56 0 [bx 2,bx 3,sI 5 s5],[cL 2 AD.D w2,cL 3 X5.D w3],[]⟩
def aBb(w2:AD)(w3:X5)(o:Unit⊕Unit):Ex×St:=match o with
 | .inl o=>(.exit 0,⟨sp 56 0 [],[],[]⟩)
 | .inr o=>(.ret,⟨sp 56 0 [sD 4 D.b false],[],[]⟩)
theorem aM5(rd:Option Nat)(h:aVy a7 aS a8=some a9):Lq 58 rd 58 (aBa a7 aS a8) ((aBb a7 aS) a9):=
 lL (fun s:Int=>aBa a7 aS s) (aBb a7 aS) a8 (fun a8 o h=>by
 unfold JI at h
 refine gN 34 B0.D aS.args ?_
 refine iB 35 h (fun h=>?_) fun h=>?_
 refine xX 42 B0.D h fun x2 h=>?_
 refine xX 48 Xm.D h fun x3 h=>?_
 refine xX 52 dZ h fun x4 h=>?_
 obtain⟨r5,h9,h⟩:=bS h
 refine gC 54 (aX2 h9) ?_
 refine iB 55 h (fun h=>?_) fun h=>?_
 exact lb h
 exact lb h
 exact lb h) h
theorem bBh(h:Ze a7 aS=some aD):AM Tryz.prog 58 [.d (AD.D a7),.d (X5.D aS)] [] (.d (D.b aD)) []:=by
 unfold Ze at h;apply g0 (o:=aD);refine iB 9 h (fun h=>?_) fun h=>?_;exact lf h;refine gN 14 Xm.D a7.decls ?_;refine iB 17 h (fun h=>?_) fun h=>?_;exact lf h;refine gN 20 B0.D aS.args<|xX 25 Xm.D h fun x1 h=>?_;refine gN 28 dZ x1.types ?_;refine iB 30 h (fun h=>?_) fun h=>?_;exact lf h;obtain⟨o6,h11,h⟩:=bS h;refine gl (aM5 none h11) ?_;replace h:=AL h;rcases h with⟨o7,rfl,h⟩|⟨o8,rfl,h⟩
 exact lf h;exact lf h
def aBq(w2 w3:X5)(s5:Int):St:=⟨sp 38 0 [bx 2,bx 3,sI 5 s5],[cL 2 X5.D w2,cL 3 X5.D w3],[]⟩
def aBr(w2 w3:X5)(o:Unit⊕Unit):Ex×St:=match o with
 | .inl o=>(.exit 0,⟨sp 38 0 [],[],[]⟩)
 | .inr o=>(.ret,⟨sp 38 0 [sD 4 D.b false],[],[]⟩)
theorem aNd(rd:Option Nat)(h:aVz aS aX a8=some a9):Lq 59 rd 58 (aBq aS aX a8) ((aBr aS aX) a9):=
 lL (fun s:Int=>aBq aS aX s) (aBr aS aX) a8 (fun a8 o h=>by
 unfold JO at h
 refine gN 23 B0.D aS.args ?_
 refine iB 24 h (fun h=>?_) fun h=>?_
 refine xX 30 B0.D h fun x1 h=>?_
 refine xX 35 B0.D h fun x2 h=>?_
 refine iB 37 h (fun h=>?_) fun h=>?_
 exact lb h
 exact lb h
 exact lb h) h
theorem bBr(h:Zm aS aX=some aD):AM Tryz.prog 59 [.d (X5.D aS),.d (X5.D aX)] [] (.d (D.b aD)) []:=by
 unfold Zm at h;apply g0 (o:=aD);refine iB 11 h (fun h=>?_) fun h=>?_;exact lf h;refine gN 14 B0.D aS.args<|gN 17 B0.D aX.args ?_;refine iB 19 h (fun h=>?_) fun h=>?_;exact lf h;obtain⟨o3,h7,h⟩:=bS h;refine gl (aNd none h7) ?_;replace h:=AL h;rcases h with⟨o4,rfl,h⟩|⟨o5,rfl,h⟩
 exact lf h;exact lf h
theorem aG3(rd:Option Nat)(h:VD a8 aA aD a7 aY aZ=some b6):Lq 40 rd 15653 ⟨sp 118 0 [bx 1,rx 3,rx 4,sI 5 a8,sI 6 aA,sD 34 D.b aD],[cL 1 AD.D a7,(3,.buf true 4 1 (aY.map D.b)),(4,.row 3 1 (aZ.map dZ))],[]⟩ (.normal,⟨sp 118 0 [bx 1,rx 3,rx 4,sI 5 a8,sI 6 aA],[cL 1 AD.D a7,(3,.buf true 4 1 (aY.map D.b)),(4,.row 3 1 (b6.map dZ))],[]⟩):=by unfold VD at h;apply g0 (o:=b6);cases aD;replace h:=CL h;exact lp h;replace h:=CM h;refine gQ (Ah dZ [aA])<|gG 38 (.sl ((aZ++[aA]).map dZ)) (Ah dZ [aA]) ?_;obtain⟨h17,h⟩:=cS h;refine gQ (Ao dZ h17)<|gQ (Am dZ aZ [aA]) ?_;exact lP h [.live [1,3,4,5,6],.keep [1,3,38],.ren 38 4,.sort]
theorem aG2(rd:Option Nat)(h:aG1 a8 a7 aY aZ=some b7):Lq 40 rd 978 ⟨sp 118 0 [bx 1,rx 3,rx 4,sI 5 a8],[cL 1 AD.D a7,(3,.buf true 4 1 (aY.map D.b)),(4,.row 3 1 (aZ.map dZ))],[]⟩ (.normal,⟨sp 118 0 [bx 1,rx 3,rx 4,sI 5 a8],[cL 1 AD.D a7,(3,.buf true 4 1 (b7.1.map D.b)),(4,.row 3 1 (b7.2.map dZ))],[]⟩):=by unfold aG1 at h;apply g0 (o:=b7);refine xX 27 Xr.D h fun x5 h=>?_;refine gW 10041 (.sl ((aY.set x5.symbol.toNat true).map D.b)) ?_;obtain⟨h14,h⟩:=cS h;refine gQ h14.1<|gQ (AF D.b h14.2) ?_;obtain⟨x6,h15,h⟩:=xS h;refine gG 33 (.el (D.b x6)) (AH D.b h15) ?_;obtain⟨o7,h18,h⟩:=bS h;refine gl (aG3 rd h18) ?_;obtain⟨h19,h⟩:=cS h;refine gQ h19.1<|gQ (AF D.b h19.2) ?_;obtain⟨h20,h⟩:=cS h;refine gQ (Ay D.b h20)<|gQ (AS D.b aY x5.symbol true) ?_;exact lp h
def VG(w1:AD)(s5:Int)(w3:List Bool)(w4:List Int):St:=⟨sp 118 0 [bx 1,rx 3,rx 4,sI 5 s5],[cL 1 AD.D w1,(3,.buf true 4 1 (w3.map D.b)),(4,.row 3 1 (w4.map dZ))],[]⟩
def VH(w1:AD)(o:(List Int)):Ex×St:=(.exit 0,⟨sp 118 0 [bx 1,rx 4],[cL 1 AD.D w1,(4,.row 3 1 (o.map dZ))],[]⟩)
theorem aG4(rd:Option Nat)(h:aU6 a7 a8 aY aZ=some b6):Lq 40 rd 122 (VG a7 a8 aY aZ) ((VH a7) b6):=
 lL (fun s:Int×List Bool×List Int=>VG a7 s.1 s.2.1 s.2.2) (VH a7) (a8,aY,aZ) (fun⟨a8,aY,aZ⟩ o h=>by
 unfold IM at h
 refine gN 20 Xr.D a7.trans ?_
 refine iB 21 h (fun h=>?_) fun h=>?_
 obtain⟨o8,h21,h⟩:=bS h
 refine gl (aG2 rd h21) ?_
 exact lb h
 exact lb h) h
def VI(w1:AD)(w4:List Int)(s7:Int):St:=⟨sp 118 0 [bx 1,rx 4,sI 7 s7],[cL 1 AD.D w1,(4,.row 3 1 (w4.map dZ))],[]⟩
def VJ(w1:AD)(w4:List Int)(o:Unit⊕Unit):Ex×St:=match o with
 | .inl o=>(.exit 2,⟨sp 118 0 [bx 1],[cL 1 AD.D w1],[]⟩)
 | .inr o=>(.ret,⟨sp 118 0 [sD 2 D.b false],[],[]⟩)
theorem aG5(rd:Option Nat)(h:aU7 a7 aZ a8=some a9):Lq 40 rd 250 (VI a7 aZ a8) ((VJ a7 aZ) a9):=
 lL (fun s:Int=>VI a7 aZ s) (VJ a7 aZ) a8 (fun a8 o h=>by
 unfold IN at h
 refine gN 44 dZ aZ ?_
 refine iB 45 h (fun h=>?_) fun h=>?_
 refine gW 54 (.int (a7.symbols.length:Int))<|gW 56 (.int (aZ.length:Int))<|xX 50 dZ h fun x10 h=>?_
 refine gQ (DK X5.D a7.symbols)<|gQ (DK dZ aZ) ?_
 refine iB 60 h (fun h=>?_) fun h=>?_
 exact lb h
 exact lb h
 exact lb h) h
def VM(s8:Int)(w1:AD)(s9:Int):St:=⟨sp 118 0 [bx 1,sI 8 s8,sI 9 s9],[cL 1 AD.D w1],[]⟩
def VN(s8:Int)(w1:AD)(o:Unit⊕Unit):Ex×St:=match o with
 | .inl o=>(.exit 6,⟨sp 118 0 [bx 1,sI 8 s8],[cL 1 AD.D w1],[]⟩)
 | .inr o=>(.ret,⟨sp 118 0 [sD 2 D.b false],[],[]⟩)
theorem aG7(rd:Option Nat)(h:aQz a8 a7 aA=some a9):Lq 40 rd 64806 (VM a8 a7 aA) ((VN a8 a7) a9):=
 lL (fun s:Int=>VM a8 a7 s) (VN a8 a7) aA (fun aA o h=>by
 unfold IP at h
 refine iB 78 h (fun h=>?_) fun h=>?_
 refine xX 84 X5.D h fun x16 h=>?_
 refine xX 89 X5.D h fun x17 h=>?_
 obtain⟨r18,h34,h⟩:=bS h
 refine gQ (bBr h34) ?_
 cases r18
 replace h:=CL h
 refine gW 91 (.ret (.d (D.b false))) ?_
 exact lb h
 replace h:=CM h
 refine gW 91 (.ret (.d (D.b true))) ?_
 exact lb h
 exact lb h) h
def VK(w1:AD)(s8:Int):St:=⟨sp 118 0 [bx 1,sI 8 s8],[cL 1 AD.D w1],[]⟩
def VL(w1:AD)(o:Unit⊕Unit):Ex×St:=match o with
 | .inl o=>(.exit 4,⟨sp 118 0 [bx 1],[cL 1 AD.D w1],[]⟩)
 | .inr o=>(.ret,⟨sp 118 0 [sD 2 D.b false],[],[]⟩)
theorem aG6(rd:Option Nat)(h:aU8 a7 a8=some a9):Lq 40 rd 506 (VK a7 a8) ((VL a7) a9):=
 lL (fun s:Int=>VK a7 s) (VL a7) a8 (fun a8 o h=>by
 unfold IO at h
 refine gN 64 X5.D a7.symbols ?_
 refine iB 65 h (fun h=>?_) fun h=>?_
 refine xX 72 X5.D h fun x14 h=>?_
 obtain⟨r15,h29,h⟩:=bS h
 refine gC 74 (bBh h29) ?_
 refine iB 75 h (fun h=>?_) fun h=>?_
 exact lb h
 obtain⟨o19,h36,h⟩:=bS h
 refine gl (aG7 rd h36) ?_
 replace h:=AL h
 rcases h with⟨o20,rfl,h⟩|⟨o21,rfl,h⟩
 exact lb h
 exact lb h
 exact lb h) h
def QI(s10:Int)(w1:AD)(s11:Bool)(s12:Int):St:=⟨sp 118 0 [bx 1,sI 10 s10,sD 11 D.b s11,sI 12 s12],[cL 1 AD.D w1],[]⟩
def QJ(s10:Int)(w1:AD)(o:Bool):Ex×St:=(.exit 10,⟨sp 118 0 [bx 1,sI 10 s10,sD 11 D.b o],[cL 1 AD.D w1],[]⟩)
theorem VF(rd:Option Nat)(h:VE a8 a7 aD aA=some b8):Lq 40 rd 260682 (QI a8 a7 aD aA) ((QJ a8 a7) b8):=
 lL (fun s:Bool×Int=>QI a8 a7 s.1 s.2) (QJ a8 a7) (aD,aA) (fun⟨aD,aA⟩ o h=>by
 unfold FJ at h
 refine gN 102 X5.D a7.symbols ?_
 refine iB 103 h (fun h=>?_) fun h=>?_
 refine iB 107 h (fun h=>?_) fun h=>?_
 exact lb h
 refine xX 111 X5.D h fun x25 h=>?_
 obtain⟨r26,h42,h⟩:=bS h
 refine gC 114 (aVr h42) ?_
 exact lb h
 exact lb h) h
def VO(w1:AD)(s10:Int):St:=⟨sp 118 0 [bx 1,sI 10 s10],[cL 1 AD.D w1],[]⟩
def VP(w1:AD)(o:Unit⊕Unit):Ex×St:=match o with
 | .inl o=>(.exit 8,⟨sp 118 0 [],[],[]⟩)
 | .inr o=>(.ret,⟨sp 118 0 [sD 2 D.b false],[],[]⟩)
theorem aG8(rd:Option Nat)(h:aU9 a7 a8=some a9):Lq 40 rd 1018 (VO a7 a8) ((VP a7) a9):=
 lL (fun s:Int=>VO a7 s) (VP a7) a8 (fun a8 o h=>by
 unfold IQ at h
 refine gN 95 Yo.D a7.quants ?_
 refine iB 96 h (fun h=>?_) fun h=>?_
 obtain⟨o27,h43,h⟩:=bS h
 refine gl (VF rd h43) ?_
 refine iB 117 h (fun h=>?_) fun h=>?_
 exact lb h
 exact lb h
 exact lb h) h
theorem aYt(h:Xb a7=some aD):AM Tryz.prog 40 [.d (AD.D a7)] [] (.d (D.b aD)) []:=by
 unfold Xb at h;apply g0 (o:=aD);refine gN 15 X5.D a7.symbols<|gW 16 (.sl ((List.replicate (a7.symbols.length:Int).toNat false).map D.b)) ?_;obtain⟨h1,h⟩:=cS h;refine gQ h1.1<|gQ (Int.le_refl (a7.symbols.length:Int))<|gQ (Int.le_refl (a7.symbols.length:Int))<|gQ (aDk D.b false h1.2)<|gQ (aDj D.b (a7.symbols.length:Int) false) ?_;obtain⟨o9,h22,h⟩:=bS h;refine gL [.live [1,3,4,5],.keep [1,16],.ren 16 3,.nil 4 4 3 1,.sort] (aG4 none h22) ?_;obtain⟨o11,h26,h⟩:=bS h;refine gl (aG5 none h26) ?_;replace h:=AL h;rcases h with⟨o12,rfl,h⟩|⟨o13,rfl,h⟩
 obtain⟨o22,h37,h⟩:=bS h;refine gl (aG6 none h37) ?_;replace h:=AL h;rcases h with⟨o23,rfl,h⟩|⟨o24,rfl,h⟩
 obtain⟨o28,h45,h⟩:=bS h;refine gl (aG8 none h45) ?_;replace h:=AL h;rcases h with⟨o29,rfl,h⟩|⟨o30,rfl,h⟩
 exact lf h;exact lf h;exact lf h;exact lf h
def aAe(w1:AD)(s5 s6:Int):St:=⟨sp 101 0 [bx 1,sI 5 s5,sI 6 s6],[cL 1 AD.D w1],[]⟩
def aAf(w1:AD)(o:Int⊕Unit):Ex×St:=match o with
 | .inl o=>(.exit 0,⟨sp 101 0 [bx 1,sI 5 o],[cL 1 AD.D w1],[]⟩)
 | .inr o=>(.ret,⟨sp 101 0 [sD 2 D.b false],[],[]⟩)
theorem aMi(rd:Option Nat)(h:aVq a7 a8 aA=some aU):Lq 18 rd 250 (aAe a7 a8 aA) ((aAf a7) aU):=
 lL (fun s:Int×Int=>aAe a7 s.1 s.2) (aAf a7) (a8,aA) (fun⟨a8,aA⟩ o h=>by
 unfold I8 at h
 refine gN 74 Xr.D a7.trans ?_
 refine iB 75 h (fun h=>?_) fun h=>?_
 refine xX 83 Xr.D h fun x3 h=>?_
 obtain⟨r4,h15,h⟩:=bS h
 refine gC 86 (aZ3 h15) ?_
 refine iB 90 h (fun h=>?_) fun h=>?_
 exact lb h
 exact lb h
 exact lb h) h
theorem bAz(h:Yx a7=some aD):AM Tryz.prog 18 [.d (AD.D a7)] [] (.d (D.b aD)) []:=by
 unfold Yx at h;apply g0 (o:=aD);obtain⟨r1,h1,h⟩:=bS h;refine gC 12 (aZ2 h1) ?_;refine iB 17 h (fun h=>?_) fun h=>?_;exact lf h;refine gN 20 Yo.D a7.quants ?_;refine iB 23 h (fun h=>?_) fun h=>?_;exact lf h;refine gN 26 Yq.D a7.frees ?_;refine iB 29 h (fun h=>?_) fun h=>?_;exact lf h;refine gN 32 Xg.D a7.states ?_;refine iB 35 h (fun h=>?_) fun h=>?_;exact lf h;refine gN 38 X5.D a7.symbols ?_;refine iB 41 h (fun h=>?_) fun h=>?_;exact lf h;refine gN 44 Yw.D a7.nodes ?_;refine iB 47 h (fun h=>?_) fun h=>?_;exact lf h;refine gN 50 Xr.D a7.trans ?_;refine iB 53 h (fun h=>?_) fun h=>?_;exact lf h;refine iB 58 h (fun h=>?_) fun h=>?_;exact lf h;refine gN 63 Xg.D a7.states ?_;refine iB 66 h (fun h=>?_) fun h=>?_;exact lf h;obtain⟨r2,h11,h⟩:=bS h;refine gC 68 (aZe h11) ?_;refine iB 70 h (fun h=>?_) fun h=>?_;exact lf h;obtain⟨o5,h17,h⟩:=bS h;refine gl (aMi none h17) ?_;replace h:=AL h;rcases h with⟨o6,rfl,h⟩|⟨o7,rfl,h⟩
 refine gN 95 Yw.D a7.nodes ?_;refine iB 97 h (fun h=>?_) fun h=>?_;obtain⟨r8,h19,h⟩:=bS h;refine gC 99 (aYt h19) ?_;exact lf h;exact lf h;exact lf h
def aAx(w1:AD)(s3:Int):St:=⟨sp 40 0 [bx 1,sI 3 s3],[cL 1 AD.D w1],[]⟩
def aAy(w1:AD)(o:Unit⊕Unit):Ex×St:=match o with
 | .inl o=>(.exit 0,⟨sp 40 0 [],[],[]⟩)
 | .inr o=>(.ret,⟨sp 40 0 [sD 2 D.b false],[],[]⟩)
theorem aMw(rd:Option Nat)(h:aR6 a7 a8=some a9):Lq 19 rd 58 (aAx a7 a8) ((aAy a7) a9):=
 lL (fun s:Int=>aAx a7 s) (aAy a7) a8 (fun a8 o h=>by
 unfold JE at h
 refine gN 29 Xr.D a7.trans ?_
 refine iB 30 h (fun h=>?_) fun h=>?_
 refine xX 36 Xr.D h fun x1 h=>?_
 refine iB 39 h (fun h=>?_) fun h=>?_
 exact lb h
 exact lb h
 exact lb h) h
theorem bA9(h:Z7 a7=some aD):AM Tryz.prog 19 [.d (AD.D a7)] [] (.d (D.b aD)) []:=by
 unfold Z7 at h;apply g0 (o:=aD);refine gN 6 Yq.D a7.frees ?_;refine iB 8 h (fun h=>?_) fun h=>?_;exact lf h;refine gN 11 Yo.D a7.quants ?_;refine iB 14 h (fun h=>?_) fun h=>?_;exact lf h;refine gN 17 Xg.D a7.states ?_;refine iB 20 h (fun h=>?_) fun h=>?_;exact lf h;refine gN 23 X5.D a7.symbols ?_;refine iB 25 h (fun h=>?_) fun h=>?_;exact lf h;obtain⟨o2,h8,h⟩:=bS h;refine gl (aMw none h8) ?_;replace h:=AL h;rcases h with⟨o3,rfl,h⟩|⟨o4,rfl,h⟩
 exact lf h;exact lf h
def aBi(s0:List X2)(s3:Int):St:=⟨sp 51 0 [sD 0 (D.l X2.D) s0,sI 3 s3],[],[]⟩
def aBj(s0:List X2)(o:Unit⊕Unit):Ex×St:=match o with
 | .inl o=>(.exit 0,⟨sp 51 0 [],[],[]⟩)
 | .inr o=>(.ret,⟨sp 51 0 [sD 2 D.b false],[],[]⟩)
theorem aM9(rd:Option Nat)(h:aSd b9 a8=some a9):Lq 41 rd 26 (aBi b9 a8) ((aBj b9) a9):=
 lL (fun s:Int=>aBi b9 s) (aBj b9) a8 (fun a8 o h=>by
 unfold JK at h
 refine gN 6 X2.D b9 ?_
 refine iB 7 h (fun h=>?_) fun h=>?_
 refine xX 12 X2.D h fun x1 h=>?_
 refine iB 16 h (fun h=>?_) fun h=>?_
 exact lb h
 refine xX 19 X2.D h fun x2 h=>?_
 refine iB 24 h (fun h=>?_) fun h=>?_
 exact lb h
 refine xX 27 X2.D h fun x3 h=>?_
 obtain⟨r4,h7,h⟩:=bS h
 refine gC 30 (aNf h7) ?_
 refine iB 33 h (fun h=>?_) fun h=>?_
 exact lb h
 refine iB 36 h (fun h=>?_) fun h=>?_
 refine xX 39 X2.D h fun x5 h=>?_
 refine xX 45 X2.D h fun x6 h=>?_
 refine iB 50 h (fun h=>?_) fun h=>?_
 exact lb h
 exact lb h
 exact lb h
 exact lb h) h
theorem bBn(h:Zi b9=some aD):AM Tryz.prog 41 [.d ((D.l X2.D) b9)] [] (.d (D.b aD)) []:=by
 unfold Zi at h;apply g0 (o:=aD);obtain⟨o7,h13,h⟩:=bS h;refine gl (aM9 none h13) ?_;replace h:=AL h;rcases h with⟨o8,rfl,h⟩|⟨o9,rfl,h⟩
 exact lf h;exact lf h
theorem aX4(h:Qg a7 b9=some aD):AM Tryz.prog 20 [.d (AD.D a7),.d ((D.l X2.D) b9)] [] (.d (D.b aD)) []:=by unfold Qg at h;apply g0 (o:=aD);refine gN 6 X2.D b9 ?_;refine iB 7 h (fun h=>?_) fun h=>?_;exact lf h;refine gN 9 X2.D b9 ?_;refine iB 11 h (fun h=>?_) fun h=>?_;refine gN 14 Yo.D a7.quants ?_;refine iB 17 h (fun h=>?_) fun h=>?_;refine xX 19 X2.D h fun x1 h=>?_;refine iB 24 h (fun h=>?_) fun h=>?_;refine xX 26 X2.D h fun x2 h=>?_;refine xX 32 Yo.D h fun x3 h=>?_;refine iB 37 h (fun h=>?_) fun h=>?_;obtain⟨r4,h9,h⟩:=bS h;refine gC 39 (bBn h9) ?_;exact lf h;exact lf h;exact lf h;exact lf h;exact lf h
def aBk(s1:List X2)(w2:AD)(s5:Int):St:=⟨sp 60 0 [sD 1 (D.l X2.D) s1,bx 2,sI 5 s5],[cL 2 AD.D w2],[]⟩
def aBl(s1:List X2)(w2:AD)(o:Unit⊕Unit):Ex×St:=match o with
 | .inl o=>(.exit 0,⟨sp 60 0 [sD 1 (D.l X2.D) s1],[],[]⟩)
 | .inr o=>(.ret,⟨sp 60 0 [sD 4 D.b false],[],[]⟩)
theorem aNa(rd:Option Nat)(h:aSe b9 a7 a8=some a9):Lq 5 rd 58 (aBk b9 a7 a8) ((aBl b9 a7) a9):=
 lL (fun s:Int=>aBk b9 a7 s) (aBl b9 a7) a8 (fun a8 o h=>by
 unfold JL at h
 refine gN 36 Xm.D a7.decls ?_
 refine iB 37 h (fun h=>?_) fun h=>?_
 refine xX 43 Xm.D h fun x5 h=>?_
 refine gN 46 dZ x5.types ?_
 refine iB 47 h (fun h=>?_) fun h=>?_
 exact lb h
 exact lb h
 exact lb h) h
theorem bBo(h:Zj a7 b9=some aD):AM Tryz.prog 5 [.d (AD.D a7),.d ((D.l X2.D) b9)] [] (.d (D.b aD)) []:=by
 unfold Zj at h;apply g0 (o:=aD);obtain⟨r1,h1,h⟩:=bS h;refine gC 7 (aYz h1) ?_;refine iB 9 h (fun h=>?_) fun h=>?_;exact lf h;obtain⟨r2,h3,h⟩:=bS h;refine gC 11 (bAz h3) ?_;refine iB 14 h (fun h=>?_) fun h=>?_;exact lf h;obtain⟨r3,h5,h⟩:=bS h;refine gC 16 (bA9 h5) ?_;refine iB 19 h (fun h=>?_) fun h=>?_;exact lf h;obtain⟨r4,h7,h⟩:=bS h;refine gC 22 (aX4 h7) ?_;refine iB 25 h (fun h=>?_) fun h=>?_;exact lf h;refine gN 27 X2.D b9<|gN 30 Yo.D a7.quants ?_;refine iB 32 h (fun h=>?_) fun h=>?_;exact lf h;obtain⟨o6,h13,h⟩:=bS h;refine gl (aNa none h13) ?_;replace h:=AL h;rcases h with⟨o7,rfl,h⟩|⟨o8,rfl,h⟩
 refine gN 49 X2.D b9 ?_;refine iB 51 h (fun h=>?_) fun h=>?_;exact lf h;refine xX 53 X2.D h fun x9 h=>?_;refine gG 57 (.int (x9.value.str.length:Int)) (Ca x9.value.str) ?_;exact lf h;exact lf h
theorem aKk(rd:Option Nat)(h:aKj a8 aA aN bA aR bB aD=some bC):Lq 45 rd 7475 ⟨sp 27 0 [sI 1 a8,sD 5 dU aA,sI 6 aN,sD 9 (D.l X5.D) bA,sI 10 aR,sI 11 bB,sD 19 D.b aD],[],[]⟩ (.normal,⟨sp 27 0 [sI 1 a8,sD 5 dU bC,sD 9 (D.l X5.D) bA,sI 10 aR,sI 11 bB],[],[]⟩):=by unfold aKj at h;apply g0 (o:=bC);cases aD;replace h:=CL h;exact lp h;replace h:=CM h;obtain⟨h4,h⟩:=cS h;refine gQ h4 ?_;exact lp h
theorem aKi(rd:Option Nat)(h:aKh a8 aA bA aN aR=some bB):Lq 45 rd 934 ⟨sp 27 0 [sI 1 a8,sD 5 dU aA,sD 9 (D.l X5.D) bA,sI 10 aN,sI 11 aR],[],[]⟩ (.normal,⟨sp 27 0 [sI 1 a8,sD 5 dU bB,sD 9 (D.l X5.D) bA,sI 10 aN,sI 11 aR],[],[]⟩):=by unfold aKh at h;apply g0 (o:=bB);refine xX 14 X5.D h fun x1 h=>?_;obtain⟨o2,h5,h⟩:=bS h;refine gl (aKk rd h5) ?_;exact lp h
def XS(s1:Int)(s9:List X5)(s10 s5 s11:Int):St:=⟨sp 27 0 [sI 1 s1,sD 5 dU s5,sD 9 (D.l X5.D) s9,sI 10 s10,sI 11 s11],[],[]⟩
def XT(s1:Int)(s9:List X5)(s10 o:Int):Ex×St:=(.exit 0,⟨sp 27 0 [sD 5 dU o],[],[]⟩)
theorem aKm(rd:Option Nat)(h:XR a8 bA aA aN aR=some bB):Lq 45 rd 58 (XS a8 bA aA aN aR) ((XT a8 bA aA) bB):=
 lL (fun s:Int×Int=>XS a8 bA aA s.1 s.2) (XT a8 bA aA) (aN,aR) (fun⟨aN,aR⟩ o h=>by
 unfold HF at h
 refine iB 12 h (fun h=>?_) fun h=>?_
 obtain⟨o3,h6,h⟩:=bS h
 refine gl (aKi rd h6) ?_
 exact lb h
 exact lb h) h
theorem aZ0(h:Y7 a7 a8=some aA):AM Tryz.prog 45 [.d (AD.D a7),dI a8] [] (.d (dU aA)) []:=by unfold Y7 at h;apply g0 (o:=aA);refine gN 10 X5.D a7.symbols ?_;obtain⟨o4,h7,h⟩:=bS h;refine gl (aKm none h7) ?_;exact lf h
theorem aYa(h:Qo=some bD):AM Tryz.prog 113 [.clo (.func 114) [] []] [] (.box 0 0) [(0,.cells ([.nil,.clo (.func 114) [] []]))]:=by unfold Qo at h;refine XG.call (ks:=[]) mixed fun us=>?_;apply g0 (o:=bD);exact lX h [.live [2],.keep [5,997],.ren 5 0,.sort]
theorem aUy(h:Qb aD=some aI):AM Tryz.prog 116 [.d (D.b aD)] [] (.d (X0.D aI)) []:=by unfold Qb at h;apply g0 (o:=aI);exact lf h
theorem aUu(h:Q5 aI aQ=some aD):AM Tryz.prog 114 [.d (X0.D aI),.d (X0.D aQ)] [] (.d (D.b aD)) []:=by unfold Q5 at h;apply g0 (o:=aD);refine iB 5 h (fun h=>?_) fun h=>?_;exact lf h;refine iB 16 h (fun h=>?_) fun h=>?_;exact lf h;refine iB 25 h (fun h=>?_) fun h=>?_;exact lf h;refine iB 37 h (fun h=>?_) fun h=>?_;exact lf h;exact lf h
theorem aUv(h:Q8 aI aQ bE=some a8):AM Tryz.prog 129 [.d (X0.D aI),.d (X0.D aQ),.eptr [.ptr ((D.cells ((D.l X0.D) bE))++[.v (.func (.func 114) #[] #[])])]] [] (dI a8) []:=by unfold Q8 at h;apply g0 (o:=a8);obtain⟨r1,h1,h⟩:=bS h;refine gQ (aUu h1) ?_;cases r1;replace h:=CL h;refine gW 13 (.ret (.d (D.b false))) ?_;obtain⟨r2,h3,h⟩:=bS h;refine gQ (aUu h3) ?_;cases r2;replace h:=CL h;refine gW 21 (.ret (.d (D.b false))) ?_;exact lf h;replace h:=CM h;refine gW 21 (.ret (.d (D.b true))) ?_;exact lf h;replace h:=CM h;refine gW 13 (.ret (.d (D.b true))) ?_;exact lf h
theorem aJs(rd:Option Nat)(h:Wy bE bG a8 aA aN aR aD aI=some bH):Lq 128 rd 1931 ⟨sp 49 0 [sD 0 (D.l X0.D) bE,(2,.clo (.func 129) [] [.eptr [.ptr ((D.cells ((D.l X0.D) bG))++[.v (.func (.func 114) #[] #[])])]]),bx 4,sI 8 a8,sI 9 aA,sI 10 aN,sI 11 aR,sD 31 D.b aD],[cL 4 X0.D aI],[]⟩ (.normal,⟨sp 49 0 [sD 0 (D.l X0.D) bE,(2,.clo (.func 129) [] [.eptr [.ptr ((D.cells ((D.l X0.D) bG))++[.v (.func (.func 114) #[] #[])])]]),bx 4,sI 8 a8,sI 9 bH.1,sI 10 bH.2],[cL 4 X0.D aI],[]⟩):=by unfold Wy at h;apply g0 (o:=bH);cases aD;replace h:=CL h;exact lp h;replace h:=CM h;exact lp h
theorem aJr(rd:Option Nat)(h:aJq bE bG a8 aA aN aI=some bH):Lq 128 rd 241 ⟨sp 49 0 [sD 0 (D.l X0.D) bE,(2,.clo (.func 129) [] [.eptr [.ptr ((D.cells ((D.l X0.D) bG))++[.v (.func (.func 114) #[] #[])])]]),bx 4,sI 8 a8,sI 9 aA,sI 10 aN],[cL 4 X0.D aI],[]⟩ (.normal,⟨sp 49 0 [sD 0 (D.l X0.D) bE,(2,.clo (.func 129) [] [.eptr [.ptr ((D.cells ((D.l X0.D) bG))++[.v (.func (.func 114) #[] #[])])]]),bx 4,sI 8 a8,sI 9 bH.1,sI 10 bH.2],[cL 4 X0.D aI],[]⟩):=by unfold aJq at h;apply g0 (o:=bH);refine gQ (of_decide_eq_true rfl:(0:Int)<=1)<|xX 27 X0.D h fun x1 h=>?_;obtain⟨r2,h3,h⟩:=bS h;refine gC 30 (aUv h3) ?_;obtain⟨o3,h5,h⟩:=bS h;refine gl (aJs rd h5) ?_;exact lp h
def Wz(s0 s2:List X0)(s8:Int)(w4:X0)(s9 s10:Int):St:=⟨sp 49 0 [sD 0 (D.l X0.D) s0,(2,.clo (.func 129) [] [.eptr [.ptr ((D.cells ((D.l X0.D) s2))++[.v (.func (.func 114) #[] #[])])]]),bx 4,sI 8 s8,sI 9 s9,sI 10 s10],[cL 4 X0.D w4],[]⟩
def W0(s0 s2:List X0)(s8:Int)(w4:X0)(o:Int):Ex×St:=(.exit 0,⟨sp 49 0 [sD 0 (D.l X0.D) s0,(2,.clo (.func 129) [] [.eptr [.ptr ((D.cells ((D.l X0.D) s2))++[.v (.func (.func 114) #[] #[])])]]),bx 4,sI 8 s8,sI 9 o],[cL 4 X0.D w4],[]⟩)
theorem aJu(rd:Option Nat)(h:S5 bE bG a8 aI aA aN=some aR):Lq 128 rd 60 (Wz bE bG a8 aI aA aN) ((W0 bE bG a8 aI) aR):=
 lL (fun s:Int×Int=>Wz bE bG a8 aI s.1 s.2) (W0 bE bG a8 aI) (aA,aN) (fun⟨aA,aN⟩ o h=>by
 unfold F9 at h
 refine iB 17 h (fun h=>?_) fun h=>?_
 obtain⟨o4,h6,h⟩:=bS h
 refine gl (aJr rd h6) ?_
 exact lb h
 exact lb h) h
theorem aVk(h:Y0 bE aI bG=some aL):AM Tryz.prog 128 [.d ((D.l X0.D) bE),.d (X0.D aI),.clo (.func 129) [] [.eptr [.ptr ((D.cells ((D.l X0.D) bG))++[.v (.func (.func 114) #[] #[])])]]] [] (.tup [dI aL.1,.d (D.b aL.2)]) []:=by unfold Y0 at h;apply g0 (o:=aL);refine gN 13 X0.D bE ?_;obtain⟨o5,h7,h⟩:=bS h;refine gl (aJu none h7) ?_;refine iB 39 h (fun h=>?_) fun h=>?_;refine xX 43 X0.D h fun x6 h=>?_;obtain⟨r7,h10,h⟩:=bS h;refine gC 46 (aUv h10) ?_;exact lf h;exact lf h
theorem aYg(h:Qu a8 bE=some bG):AM Tryz.prog 130 [.nil,.d (D.i .i64 a8),.row 0] [(0,.row 57 4 (bE.map X0.D))] (.row 1) [rW 1 57 4 X0.D bG]:=
 aTi (ρ:=⟨fun n=>if n=22 then 130 else if n=29 then 135 else 136,fun n=>if n=0 then 0 else if n=3 then 3 else if n=4 then 4 else if n=24 then 86 else 57,id⟩) (by_:=40) X0.D mixed rfl ⟨ "slices.Insert[[]proctor/api.Value,proctor/api.Value]",by decide,(Tryz.func130).trans (by kernel_rfl)⟩ Tryz.underlying3 Tryz.underlying4 Tryz.underlying86 (by kernel_rfl) (by decide) a8 bE bG h
theorem aNe(rd:Option Nat)(us:List Value)(h:aBs a8 aD b8 aI=some bI):Lq 115 rd 61 ⟨sp 34 0 [bx 2,bx 3,sI 5 a8,sD 6 D.b aD,sD 20 D.b b8],[(0,.cells ([.nil,.clo (.func 114) [] []])),(2,.cells ([.box 0 0])),cL 3 X0.D aI,(997,.vals [.box 0 0] us)],[]⟩ (.normal,⟨sp 34 0 [sD 6 D.b aD],[(0,.cells ([.row 529,.clo (.func 114) [] []])),rW 529 57 4 X0.D bI,(997,.vals [.box 0 0] us)],[]⟩):=by unfold aBs at h;apply g0 (o:=bI);cases b8;replace h:=CL h;exact lP h [.live [6],.keep [0,997],.nilc 0 0 529 57 4,.sort];replace h:=CM h;refine gQ (Ah X0.D [aI]) ?_;obtain⟨r2,h3,h⟩:=bS h;refine gG 29 (.cx true [(0,28)] [(1,29)] (.row 1) [rW 1 57 4 X0.D r2]) (aYg h3) ?_;exact lP h [.live [6],.keep [0,29,997],.ren 29 529,.sort]
theorem bBu(h:Zn aI=some bJ):AM Tryz.prog 115 [.box 0 0,.d (X0.D aI)] [(0,.cells ([.nil,.clo (.func 114) [] []]))] (.d (D.b bJ.1)) [(0,.cells ([.row 1,.clo (.func 114) [] []])),rW 1 57 4 X0.D bJ.2]:=by unfold Zn at h;refine XG.call (ks:=[0]) mixed fun us=>?_;apply g0 (o:=bJ);obtain⟨r1,h1,h⟩:=bS h;refine gG 16 (.lend [0,2] (.tup [dI r1.1,.d (D.b r1.2)])) (aVk h1) ?_;obtain⟨o3,h4,h⟩:=bS h;refine gl (aNe none us h4) ?_;exact lX h [.live [4],.keep [0,529,997],.ren 529 1,.sort]
theorem aYf(h:Qt a8 bE bG=some bK):AM Tryz.prog 130 [.row 0,.d (D.i .i64 a8),.row 1] [rW 0 57 4 X0.D bE,(1,.row 57 4 (bG.map X0.D))] (.row 2) [rW 2 57 4 X0.D bK]:=
 aTh (ρ:=⟨fun n=>if n=22 then 130 else if n=29 then 135 else 136,fun n=>if n=0 then 0 else if n=3 then 3 else if n=4 then 4 else if n=24 then 86 else 57,id⟩) (by_:=40) X0.D mixed rfl ⟨ "slices.Insert[[]proctor/api.Value,proctor/api.Value]",by decide,(Tryz.func130).trans (by kernel_rfl)⟩ Tryz.underlying3 Tryz.underlying4 Tryz.underlying86 (by kernel_rfl) (by decide) (by decide)
  (fun args w=>run_callFunc_extern Tryz.func135 (by kernel_rfl) (by kernel_rfl) (by kernel_rfl) (e:=Go.Extern.SlicesOverlaps.overlaps #[86,86] #[4]) (by kernel_rfl) args w) a8 bE bG bK h
theorem aMx(rd:Option Nat)(us:List Value)(h:aAz a8 aD b8 aI bE=some bI):Lq 115 rd 61 ⟨sp 34 0 [bx 2,bx 3,sI 5 a8,sD 6 D.b aD,sD 20 D.b b8],[(0,.cells ([.row 501,.clo (.func 114) [] []])),(2,.cells ([.box 0 0])),cL 3 X0.D aI,rW 501 57 4 X0.D bE,(997,.vals [.box 0 0] us)],[]⟩ (.normal,⟨sp 34 0 [sD 6 D.b aD],[(0,.cells ([.row 529,.clo (.func 114) [] []])),rW 529 57 4 X0.D bI,(997,.vals [.box 0 0] us)],[]⟩):=by unfold aAz at h;apply g0 (o:=bI);cases b8;replace h:=CL h;exact lP h [.live [6],.keep [0,501,997],.ren 501 529,.sort];replace h:=CM h;refine gQ (Ah X0.D [aI]) ?_;obtain⟨r2,h3,h⟩:=bS h;refine gG 29 (.cx true [(0,501),(1,28)] [(2,29)] (.row 2) [rW 2 57 4 X0.D r2]) (aYf h3) ?_;exact lP h [.live [6],.keep [0,29,997],.ren 29 529,.sort]
theorem aVv(h:Z8 aI bE=some bJ):AM Tryz.prog 115 [.box 0 0,.d (X0.D aI)] [(0,.cells ([.row 1,.clo (.func 114) [] []])),rW 1 57 4 X0.D bE] (.d (D.b bJ.1)) [(0,.cells ([.row 2,.clo (.func 114) [] []])),rW 2 57 4 X0.D bJ.2]:=by unfold Z8 at h;refine XG.call (ks:=[0]) mixed fun us=>?_;apply g0 (o:=bJ);obtain⟨r1,h1,h⟩:=bS h;refine gG 16 (.lend [0,1,2] (.tup [dI r1.1,.d (D.b r1.2)])) (aVk h1) ?_;obtain⟨o3,h4,h⟩:=bS h;refine gL [.live [2,3,5,6,20],.keep [0,1,2,3,997],.ren 1 501,.sort] (aMx none us h4) ?_;exact lX h [.live [4],.keep [0,529,997],.ren 529 2,.sort]
theorem aYh(h:Qv bE=some bG):AM Tryz.prog 131 [.row 0] [rW 0 57 4 X0.D bE] (.row 1) [rW 0 57 4 X0.D bE,rW 1 57 4 X0.D bG]:=
 aCs (ρ:=⟨fun _=>131,fun n=>if n=4 then 4 else if n=22 then 86 else 57,id⟩) (by_:=40) X0.D rfl rfl (aWe mixed ⟨ "slices.Clone[[]proctor/api.Value,proctor/api.Value]",by decide,(Tryz.func131).trans (by kernel_rfl)⟩ Tryz.underlying4 Tryz.underlying86 (by kernel_rfl) (by kernel_rfl) (by kernel_rfl) (by kernel_rfl)) (by kernel_rfl) (by decide) bE bG h
theorem aX5(h:Qh bE=some bL):AM Tryz.prog 117 [.box 0 0] [(0,.cells ([.row 1,.clo (.func 114) [] []])),rW 1 57 4 X0.D bE] (.row 2) [(0,.cells ([.row 3,.clo (.func 114) [] []])),rW 2 57 4 X0.D bL.1,rW 3 57 4 X0.D bL.2]:=by unfold Qh at h;refine XG.call (ks:=[0]) mixed fun us=>?_;apply g0 (o:=bL);obtain⟨r1,h1,h⟩:=bS h;refine gG 9 (.cx true [(0,1)] [(1,9)] (.row 1) [rW 0 57 4 X0.D bE,rW 1 57 4 X0.D r1]) (aYh h1) ?_;exact lX h [.live [2],.keep [0,1,9,997],.ren 1 3,.ren 9 2,.sort]
theorem aGl(rd:Option Nat)(us:List Value)(h:OA a8 aD a7=some bI):Lq 90 rd 29 ⟨sp 51 0 [sI 1 a8,bx 2,bx 5,sD 12 D.b aD],[cL 2 AD.D a7,(5,.cells ([.nil,.clo (.func 114) [] []])),(997,.vals [] us)],[]⟩ (.normal,⟨sp 51 0 [sI 1 a8,bx 2,bx 5],[cL 2 AD.D a7,(5,.cells ([.row 518,.clo (.func 114) [] []])),rW 518 57 4 X0.D bI,(997,.vals [] us)],[]⟩):=by unfold OA at h;apply g0 (o:=bI);cases aD;replace h:=CL h;exact lP h [.live [1,2,5],.keep [2,5,997],.nilc 5 0 518 57 4,.sort];replace h:=CM h;obtain⟨r2,h3,h⟩:=bS h;refine gC 14 (aUy h3) ?_;obtain⟨r3,h4,h⟩:=bS h;refine gG 15 (.cx false [(0,5)] [(1,15)] (.d (D.b r3.1)) [(0,.cells ([.row 1,.clo (.func 114) [] []])),rW 1 57 4 X0.D r3.2]) (bBu h4) ?_;obtain⟨r4,h5,h⟩:=bS h;refine gC 17 (aUy h5) ?_;obtain⟨r5,h6,h⟩:=bS h;refine gG 18 (.cx false [(0,5),(1,15)] [(2,18)] (.d (D.b r5.1)) [(0,.cells ([.row 2,.clo (.func 114) [] []])),rW 2 57 4 X0.D r5.2]) (aVv h6) ?_;exact lP h [.live [1,2,5],.keep [2,5,18,997],.ren 18 518,.sort]
theorem QF(rd:Option Nat)(us:List Value)(h:OD a8 bA aA aN bM aR bB aD aW bE=some bI):Lq 90 rd 4010803 ⟨sp 51 0 [sI 1 a8,bx 5,bx 9,sD 20 (D.l X5.D) bA,sI 21 aA,sI 22 aN,sD 27 (D.l B0.D) bM,sI 28 aR,sI 29 bB,sD 42 D.b aD],[(5,.cells ([.row 518,.clo (.func 114) [] []])),cL 9 B0.D aW,rW 518 57 4 X0.D bE,(997,.vals [] us)],[]⟩ (.normal,⟨sp 51 0 [sI 1 a8,bx 5,sD 20 (D.l X5.D) bA,sI 21 aA,sI 22 aN,sD 27 (D.l B0.D) bM,sI 28 aR,sI 29 bB],[(5,.cells ([.row 546,.clo (.func 114) [] []])),rW 546 57 4 X0.D bI,(997,.vals [] us)],[]⟩):=by unfold OD at h;apply g0 (o:=bI);cases aD;replace h:=CL h;exact lP h [.live [1,5,20,21,22,27,28,29],.keep [5,518,997],.ren 518 546,.sort];replace h:=CM h;obtain⟨r9,h14,h⟩:=bS h;refine gG 46 (.cx false [(0,5),(1,518)] [(2,46)] (.d (D.b r9.1)) [(0,.cells ([.row 2,.clo (.func 114) [] []])),rW 2 57 4 X0.D r9.2]) (aVv h14) ?_;exact lP h [.live [1,5,20,21,22,27,28,29],.keep [5,46,997],.ren 46 546,.sort]
theorem aGn(rd:Option Nat)(us:List Value)(h:SX a8 bA aA aN bM aR bB bE=some bI):Lq 90 rd 501350 ⟨sp 51 0 [sI 1 a8,bx 5,sD 20 (D.l X5.D) bA,sI 21 aA,sI 22 aN,sD 27 (D.l B0.D) bM,sI 28 aR,sI 29 bB],[(5,.cells ([.row 518,.clo (.func 114) [] []])),rW 518 57 4 X0.D bE,(997,.vals [] us)],[]⟩ (.normal,⟨sp 51 0 [sI 1 a8,bx 5,sD 20 (D.l X5.D) bA,sI 21 aA,sI 22 aN,sD 27 (D.l B0.D) bM,sI 28 aR,sI 29 bB],[(5,.cells ([.row 546,.clo (.func 114) [] []])),rW 546 57 4 X0.D bI,(997,.vals [] us)],[]⟩):=by unfold SX at h;apply g0 (o:=bI);refine xX 31 B0.D h fun x8 h=>?_;refine iB 36 h (fun h=>?_) fun h=>?_;obtain⟨o10,h15,h⟩:=bS h;refine gl (QF rd us h15) ?_;exact lp h;obtain⟨o11,h16,h⟩:=bS h;refine gl (QF rd us h16) ?_;exact lp h
def U1(us:List Value)(s1:Int)(s20:List X5)(s21 s22:Int)(s27:List B0)(s28 s29:Int)(w518:List X0):St:=⟨sp 51 0 [sI 1 s1,bx 5,sD 20 (D.l X5.D) s20,sI 21 s21,sI 22 s22,sD 27 (D.l B0.D) s27,sI 28 s28,sI 29 s29],[(5,.cells ([.row 518,.clo (.func 114) [] []])),rW 518 57 4 X0.D w518,(997,.vals [] us)],[]⟩
def U2(us:List Value)(s1:Int)(s20:List X5)(s21 s22:Int)(s27:List B0)(s28:Int)(o:(List X0)):Ex×St:=(.exit 2,⟨sp 51 0 [sI 1 s1,bx 5,sD 20 (D.l X5.D) s20,sI 21 s21,sI 22 s22],[(5,.cells ([.row 518,.clo (.func 114) [] []])),rW 518 57 4 X0.D o,(997,.vals [] us)],[]⟩)
theorem aGs(rd:Option Nat)(us:List Value)(h:SZ a8 bA aA aN bM aR bB bE=some bI):Lq 90 rd 31334 (U1 us a8 bA aA aN bM aR bB bE) ((U2 us a8 bA aA aN bM aR) bI):=
 lL (fun s:Int×List X0=>U1 us a8 bA aA aN bM aR s.1 s.2) (U2 us a8 bA aA aN bM aR) (bB,bE) (fun⟨bB,bE⟩ o h=>by
 unfold Fx at h
 refine iB 30 h (fun h=>?_) fun h=>?_
 obtain⟨o12,h17,h⟩:=bS h
 refine gl (aGn rd us h17) ?_
 exact lB h [.live [1,5,20,21,22,27,28,29],.keep [5,546,997],.ren 546 518,.sort]
 exact lb h) h
def Uz(us:List Value)(s1:Int)(s20:List X5)(s21 s22:Int)(w518:List X0):St:=⟨sp 51 0 [sI 1 s1,bx 5,sD 20 (D.l X5.D) s20,sI 21 s21,sI 22 s22],[(5,.cells ([.row 518,.clo (.func 114) [] []])),rW 518 57 4 X0.D w518,(997,.vals [] us)],[]⟩
def U0(us:List Value)(s1:Int)(s20:List X5)(s21:Int)(o:(List X0)):Ex×St:=(.exit 0,⟨sp 51 0 [bx 5],[(5,.cells ([.row 518,.clo (.func 114) [] []])),rW 518 57 4 X0.D o,(997,.vals [] us)],[]⟩)
theorem aGq(rd:Option Nat)(us:List Value)(h:Uy a8 bA aA aN bE=some bI):Lq 90 rd 122 (Uz us a8 bA aA aN bE) ((U0 us a8 bA aA) bI):=
 lL (fun s:Int×List X0=>Uz us a8 bA aA s.1 s.2) (U0 us a8 bA aA) (aN,bE) (fun⟨aN,bE⟩ o h=>by
 unfold Fw at h
 refine iB 23 h (fun h=>?_) fun h=>?_
 refine xX 24 X5.D h fun x7 h=>?_
 refine gN 28 B0.D x7.args ?_
 obtain⟨o13,h18,h⟩:=bS h
 refine gl (aGs rd us h18) ?_
 exact lb h
 exact lb h) h
theorem aYr(h:X9 a7 a8=some bE):AM Tryz.prog 90 [.d (AD.D a7),dI a8] [] (.row 0) [rW 0 57 4 X0.D bE]:=by unfold X9 at h;refine XG.call (ks:=[]) mixed fun us=>?_;apply g0 (o:=bE);refine gW 10 (.cx false [] [(0,417)] (.box 0 0) [(0,.cells ([.nil,.clo (.func 114) [] []]))])<|gW 21 (.int (a7.symbols.length:Int)) ?_;obtain⟨r1,h1,h⟩:=bS h;refine gQ (aYa h1) ?_;obtain⟨o6,h7,h⟩:=bS h;refine gL [.live [1,2,5,12],.keep [2,417,997],.ren 417 5,.sort] (aGl none us h7)<|gQ (DK X5.D a7.symbols) ?_;obtain⟨o14,h19,h⟩:=bS h;refine gl (aGq none us h19) ?_;obtain⟨r15,h20,h⟩:=bS h;refine gG 50 (.cx false [(0,5),(1,518)] [(2,50),(3,457)] (.row 2) [(0,.cells ([.row 3,.clo (.func 114) [] []])),rW 2 57 4 X0.D r15.1,rW 3 57 4 X0.D r15.2]) (aX5 h20) ?_;exact lX h [.live [4],.keep [50,997],.ren 50 0,.sort]
def ZF(s0:List X0)(s7:Int)(w3:X0)(s8:Int):St:=⟨sp 19 0 [sD 0 (D.l X0.D) s0,bx 3,sI 7 s7,sI 8 s8],[cL 3 X0.D w3],[]⟩
def ZG(s0:List X0)(s7:Int)(w3:X0)(o:Unit⊕Int):Ex×St:=match o with
 | .inl o=>(.exit 0,⟨sp 19 0 [],[],[]⟩)
 | .inr o=>(.ret,⟨sp 19 0 [sI 4 o],[],[]⟩)
theorem aLj(rd:Option Nat)(h:TE bE a8 aI aA=some aF):Lq 118 rd 26 (ZF bE a8 aI aA) ((ZG bE a8 aI) aF):=
 lL (fun s:Int=>ZF bE a8 aI s) (ZG bE a8 aI) aA (fun aA o h=>by
 unfold HI at h
 refine iB 9 h (fun h=>?_) fun h=>?_
 refine xX 14 X0.D h fun x1 h=>?_
 refine iB 16 h (fun h=>?_) fun h=>?_
 exact lb h
 exact lb h
 exact lb h) h
theorem bAi(h:Yi bE aI=some a8):AM Tryz.prog 118 [.d ((D.l X0.D) bE),.d (X0.D aI)] [] (dI a8) []:=by
 unfold Yi at h;apply g0 (o:=a8);refine gN 7 X0.D bE ?_;obtain⟨o2,h4,h⟩:=bS h;refine gl (aLj none h4) ?_;replace h:=AL h;rcases h with⟨o3,rfl,h⟩|⟨o4,rfl,h⟩
 exact lf h;exact lf h
theorem aV2(h:Zr bE aI=some aD):AM Tryz.prog 91 [.d ((D.l X0.D) bE),.d (X0.D aI)] [] (.d (D.b aD)) []:=by unfold Zr at h;apply g0 (o:=aD);obtain⟨r1,h1,h⟩:=bS h;refine gC 7 (bAi h1) ?_;exact lf h
theorem aYb(h:Qp a8=some bE):AM Tryz.prog 119 [.nil,.d (D.i .i64 a8)] [] (.row 0) [rW 0 57 4 X0.D bE]:=
 aN4 (ρ:=⟨fun _=>119,fun a8=>if a8=0 then 0 else if a8=3 then 3 else if a8=4 then 4 else if a8=9 then 9 else if a8=20 then 20 else if a8=22 then 86 else 57,id⟩) (by_:=40) X0.D rfl rfl (bCg mixed ⟨ "slices.Grow[[]proctor/api.Value,proctor/api.Value]",by decide,(Tryz.func119).trans (by kernel_rfl)⟩ Tryz.underlying0 Tryz.underlying3 Tryz.underlying4 Tryz.underlying9 Tryz.underlying20 Tryz.underlying86 (by kernel_rfl) (by kernel_rfl) (by kernel_rfl) (by kernel_rfl) (by kernel_rfl) (by kernel_rfl) (by kernel_rfl) (by kernel_rfl) (by kernel_rfl) (by kernel_rfl) (by kernel_rfl) (by kernel_rfl)) (by kernel_rfl) (by decide) a8 bE h
theorem aH9(rd:Option Nat)(h:V2 bN a8 bO aA aN aD=some bD):Lq 93 rd 14951 ⟨sp 36 0 [sD 0 (D.l (D.l X0.D)) bN,sI 3 a8,sD 9 (D.l (D.l X0.D)) bO,sI 10 aA,sI 11 aN,sD 20 D.b aD],[],[]⟩ (.normal,⟨sp 36 0 [sD 0 (D.l (D.l X0.D)) bN,sI 3 a8,sD 9 (D.l (D.l X0.D)) bO,sI 10 aA,sI 11 aN],[],[]⟩):=by unfold V2 at h;apply g0 (o:=bD);cases aD;replace h:=CL h;exact lp h;replace h:=CM h;cases h
theorem aH8(rd:Option Nat)(h:V1 bN a8 bO aA aN=some aR):Lq 93 rd 934 ⟨sp 36 0 [sD 0 (D.l (D.l X0.D)) bN,sI 3 a8,sD 9 (D.l (D.l X0.D)) bO,sI 10 aA,sI 11 aN],[],[]⟩ (.normal,⟨sp 36 0 [sD 0 (D.l (D.l X0.D)) bN,sI 3 aR,sD 9 (D.l (D.l X0.D)) bO,sI 10 aA,sI 11 aN],[],[]⟩):=by unfold V1 at h;apply g0 (o:=aR);refine xX 13 (D.l X0.D) h fun x1 h=>?_;refine gN 17 X0.D x1 ?_;obtain⟨o2,h4,h⟩:=bS h;refine gl (aH9 rd h4) ?_;exact lp h
def V3(s0 s9:List (List X0))(s10 s3 s11:Int):St:=⟨sp 36 0 [sD 0 (D.l (D.l X0.D)) s0,sI 3 s3,sD 9 (D.l (D.l X0.D)) s9,sI 10 s10,sI 11 s11],[],[]⟩
def V4(s0 s9:List (List X0))(s10 o:Int):Ex×St:=(.exit 0,⟨sp 36 0 [sD 0 (D.l (D.l X0.D)) s0,sI 3 o],[],[]⟩)
theorem aIb(rd:Option Nat)(h:OY bN bO a8 aA aN=some aR):Lq 93 rd 58 (V3 bN bO a8 aA aN) ((V4 bN bO a8) aR):=
 lL (fun s:Int×Int=>V3 bN bO a8 s.1 s.2) (V4 bN bO a8) (aA,aN) (fun⟨aA,aN⟩ o h=>by
 unfold F4 at h
 refine iB 12 h (fun h=>?_) fun h=>?_
 obtain⟨o3,h5,h⟩:=bS h
 refine gl (aH8 rd h5) ?_
 exact lb h
 exact lb h) h
def V5(s25:List (List X0))(s26 s27:Int)(w6:List X0):St:=⟨sp 36 0 [rx 6,sD 25 (D.l (D.l X0.D)) s25,sI 26 s26,sI 27 s27],[rW 6 57 4 X0.D w6],[]⟩
def V6(s25:List (List X0))(s26:Int)(o:(List X0)):Ex×St:=(.exit 2,⟨sp 36 0 [rx 6],[rW 6 57 4 X0.D o],[]⟩)
theorem aId(rd:Option Nat)(h:Oa bN a8 aA bE=some bI):Lq 93 rd 250 (V5 bN a8 aA bE) ((V6 bN a8) bI):=
 lL (fun s:Int×List X0=>V5 bN a8 s.1 s.2) (V6 bN a8) (aA,bE) (fun⟨aA,bE⟩ o h=>by
 unfold F5 at h
 refine iB 28 h (fun h=>?_) fun h=>?_
 refine xX 29 (D.l X0.D) h fun x6 h=>?_
 refine gG 33 (.rwl ((bE++x6).map X0.D)) (Ah X0.D x6) ?_
 obtain⟨h10,h⟩:=cS h
 refine gQ (Ao X0.D h10)<|gQ (Am X0.D bE x6) ?_
 exact lB h [.live [6,25,26,27],.keep [33],.ren 33 6,.sort]
 exact lb h) h
theorem aY9(h:Xk bN=some bE):AM Tryz.prog 93 [.d ((D.l (D.l X0.D)) bN)] [] (.d ((D.l X0.D) bE)) []:=by unfold Xk at h;apply g0 (o:=bE);refine gN 10 (D.l X0.D) bN<|gW 26 (.int (bN.length:Int)) ?_;obtain⟨o4,h6,h⟩:=bS h;refine gl (aIb none h6) ?_;obtain⟨r5,h7,h⟩:=bS h;refine gG 24 (.cx true [] [(0,24)] (.row 0) [rW 0 57 4 X0.D r5]) (aYb h7)<|gQ (DK (D.l X0.D) bN) ?_;obtain⟨o7,h11,h⟩:=bS h;refine gL [.live [6,25,26,27],.keep [24],.ren 24 6,.sort] (aId none h11) ?_;exact lF h [.frz 6]
theorem aI0(rd:Option Nat)(h:aIz a8 bE aD aI aQ=some bP):Lq 92 rd 965 ⟨sp 30 0 [sI 0 a8,sD 1 (D.l X0.D) bE,bx 4,bx 6,sD 20 D.b aD],[cL 4 X0.D aI,cL 6 X0.D aQ],[]⟩ (.normal,⟨sp 30 0 [sI 0 a8,sD 1 (D.l X0.D) bE,bx 4,bx 6],[cL 4 X0.D aI,cL 6 X0.D bP],[]⟩):=by unfold aIz at h;apply g0 (o:=bP);cases aD;replace h:=CL h;refine gW 27 (.str (aQ.str++([97]:List UInt8))) ?_;obtain⟨h6,h⟩:=cS h;refine gQ (KA h6) ?_;exact lp h;replace h:=CM h;exact lp h
theorem aIy(rd:Option Nat)(h:Su a8 bE aI aQ=some bP):Lq 92 rd 241 ⟨sp 30 0 [sI 0 a8,sD 1 (D.l X0.D) bE,bx 4,bx 6],[cL 4 X0.D aI,cL 6 X0.D aQ],[]⟩ (.normal,⟨sp 30 0 [sI 0 a8,sD 1 (D.l X0.D) bE,bx 4,bx 6],[cL 4 X0.D aI,cL 6 X0.D bP],[]⟩):=by unfold Su at h;apply g0 (o:=bP);obtain⟨o2,h7,h⟩:=bS h;refine gl (aI0 rd h7) ?_;exact lp h
def WT(s0:Int)(s1:List X0)(w4 w6:X0):St:=⟨sp 30 0 [sI 0 s0,sD 1 (D.l X0.D) s1,bx 4,bx 6],[cL 4 X0.D w4,cL 6 X0.D w6],[]⟩
def WU(s0:Int)(s1:List X0)(w4 o:X0):Ex×St:=(.exit 0,⟨sp 30 0 [bx 4,bx 6],[cL 4 X0.D w4,cL 6 X0.D o],[]⟩)
theorem QR(rd:Option Nat)(h:MQ a8 bE aI aQ=some bP):Lq 92 rd 60 (WT a8 bE aI aQ) ((WU a8 bE aI) bP):=
 lL (fun s:X0=>WT a8 bE aI s) (WU a8 bE aI) aQ (fun aQ o h=>by
 unfold F7 at h
 obtain⟨r1,h3,h⟩:=bS h
 refine gQ (aV2 h3) ?_
 cases r1
 replace h:=CL h
 refine gW 18 (.ret (.d (D.b false))) ?_
 exact lb h
 replace h:=CM h
 refine gW 18 (.ret (.d (D.b true))) ?_
 obtain⟨o3,h8,h⟩:=bS h
 refine gl (aIy rd h8) ?_
 exact lb h) h
theorem aZh(h:Xt a8 bE=some bQ):AM Tryz.prog 92 [dI a8,.d ((D.l X0.D) bE)] [] (.tup [.d (X0.D bQ.1),.d (D.b bQ.2)]) []:=by unfold Xt at h;apply g0 (o:=bQ);refine iB 9 h (fun h=>?_) fun h=>?_;refine iB 12 h (fun h=>?_) fun h=>?_;exact lf h;obtain⟨o4,h9,h⟩:=bS h;refine gl (QR none h9) ?_;exact lf h;obtain⟨o5,h10,h⟩:=bS h;refine gl (QR none h10) ?_;exact lf h
theorem QL(rd:Option Nat)(h:Oe bE a8 b9 aA aN aD bG bR=some bI):Lq 63 rd 15667 ⟨sp 67 0 [sD 1 (D.l X0.D) bE,sI 5 a8,rx 6,bx 8,sD 28 (D.l X2.D) b9,sI 29 aA,sI 30 aN,sD 45 D.b aD],[rW 6 57 4 X0.D bG,cL 8 X2.D bR],[]⟩ (.normal,⟨sp 67 0 [sD 1 (D.l X0.D) bE,sI 5 a8,rx 6,sD 28 (D.l X2.D) b9,sI 29 aA,sI 30 aN],[rW 6 57 4 X0.D bI],[]⟩):=by unfold Oe at h;apply g0 (o:=bI);cases aD;replace h:=CL h;exact lp h;replace h:=CM h;refine gQ (Ah X0.D [bR.value])<|gG 50 (.rwl ((bG++[bR.value]).map X0.D)) (Ah X0.D [bR.value]) ?_;obtain⟨h9,h⟩:=cS h;refine gQ (Ao X0.D h9)<|gQ (Am X0.D bG [bR.value]) ?_;exact lP h [.live [1,5,6,28,29,30],.keep [50],.ren 50 6,.sort]
theorem aIf(rd:Option Nat)(h:Sm bE a8 b9 aA aN bG=some bI):Lq 63 rd 1958 ⟨sp 67 0 [sD 1 (D.l X0.D) bE,sI 5 a8,rx 6,sD 28 (D.l X2.D) b9,sI 29 aA,sI 30 aN],[rW 6 57 4 X0.D bG],[]⟩ (.normal,⟨sp 67 0 [sD 1 (D.l X0.D) bE,sI 5 a8,rx 6,sD 28 (D.l X2.D) b9,sI 29 aA,sI 30 aN],[rW 6 57 4 X0.D bI],[]⟩):=by unfold Sm at h;apply g0 (o:=bI);refine xX 32 X2.D h fun x4 h=>?_;refine iB 39 h (fun h=>?_) fun h=>?_;obtain⟨r5,h7,h⟩:=bS h;refine gG 43 (.lend [6] (.d (D.b r5))) (aV2 h7) ?_;obtain⟨o6,h10,h⟩:=bS h;refine gl (QL rd h10) ?_;exact lp h;obtain⟨o7,h11,h⟩:=bS h;refine gl (QL rd h11) ?_;exact lp h
def V7(s1:List X0)(s5:Int)(s28:List X2)(s29 s30:Int)(w6:List X0):St:=⟨sp 67 0 [sD 1 (D.l X0.D) s1,sI 5 s5,rx 6,sD 28 (D.l X2.D) s28,sI 29 s29,sI 30 s30],[rW 6 57 4 X0.D w6],[]⟩
def V8(s1:List X0)(s5:Int)(s28:List X2)(s29:Int)(o:(List X0)):Ex×St:=(.exit 0,⟨sp 67 0 [sD 1 (D.l X0.D) s1,sI 5 s5,rx 6],[rW 6 57 4 X0.D o],[]⟩)
theorem aIi(rd:Option Nat)(h:Sn bE a8 b9 aA aN bG=some bI):Lq 63 rd 122 (V7 bE a8 b9 aA aN bG) ((V8 bE a8 b9 aA) bI):=
 lL (fun s:Int×List X0=>V7 bE a8 b9 aA s.1 s.2) (V8 bE a8 b9 aA) (aN,bG) (fun⟨aN,bG⟩ o h=>by
 unfold F6 at h
 refine iB 31 h (fun h=>?_) fun h=>?_
 obtain⟨o8,h12,h⟩:=bS h
 refine gl (aIf rd h12) ?_
 exact lb h
 exact lb h) h
theorem aIg(rd:Option Nat)(h:Of aD bE aI=some bI):Lq 63 rd 251 ⟨sp 67 0 [rx 6,bx 9,sD 61 D.b aD],[(6,.row 57 4 (bE.map X0.D)),cL 9 X0.D aI],[]⟩ (.normal,⟨sp 67 0 [rx 6],[(6,.row 57 4 (bI.map X0.D))],[]⟩):=by unfold Of at h;apply g0 (o:=bI);cases aD;replace h:=CL h;exact lp h;replace h:=CM h;refine gQ (Ah X0.D [aI])<|gG 65 (.sl ((bE++[aI]).map X0.D)) (Ah X0.D [aI]) ?_;obtain⟨h17,h⟩:=cS h;refine gQ (Ao X0.D h17)<|gQ (Am X0.D bE [aI]) ?_;exact lP h [.live [6],.keep [65],.ren 65 6,.sort]
theorem aZc(h:Xn bU bE=some bG):AM Tryz.prog 63 [.d (Xq.D bU),.d ((D.l X0.D) bE)] [] (.d ((D.l X0.D) bG)) []:=by unfold Xn at h;apply g0 (o:=bG);refine gW 29 (.int (bU.b.length:Int))<|gW 54 (.fzn 6)<|xX 16 Xm.D h fun x1 h=>?_;refine xX 21 dZ h fun x2 h=>?_;obtain⟨r3,h3,h⟩:=bS h;refine gG 26 (.cx false [] [(0,26)] (.row 0) [rW 0 57 4 X0.D r3]) (aYr h3)<|gQ (DK X2.D bU.b) ?_;obtain⟨o9,h13,h⟩:=bS h;refine gL [.live [1,5,6,28,29,30],.keep [26],.ren 26 6,.sort] (aIi none h13)<|gQ (Ah (D.l X0.D) [o9,bE]) ?_;obtain⟨r10,h14,h⟩:=bS h;refine gC 57 (aY9 h14) ?_;obtain⟨r11,h15,h⟩:=bS h;refine gC 58 (aZh h15) ?_;obtain⟨o12,h18,h⟩:=bS h;refine gl (aIg none h18) ?_;exact lf h
def ZI(s1:Int)(s8:List X2)(s9:Int)(w4:X0)(s10:Int):St:=⟨sp 22 0 [sI 1 s1,bx 4,sD 8 (D.l X2.D) s8,sI 9 s9,sI 10 s10],[cL 4 X0.D w4],[]⟩
def ZJ(s1:Int)(s8:List X2)(s9:Int)(w4:X0)(o:Unit⊕X0):Ex×St:=match o with
 | .inl o=>(.exit 0,⟨sp 22 0 [bx 4],[cL 4 X0.D w4],[]⟩)
 | .inr o=>(.ret,⟨sp 22 0 [bx 4,sD 5 D.b true],[cL 4 X0.D o],[]⟩)
theorem aLl(rd:Option Nat)(h:ZH a8 b9 aA aI aN=some bV):Lq 120 rd 26 (ZI a8 b9 aA aI aN) ((ZJ a8 b9 aA aI) bV):=
 lL (fun s:Int=>ZI a8 b9 aA aI s) (ZJ a8 b9 aA aI) aN (fun aN o h=>by
 unfold HJ at h
 refine iB 11 h (fun h=>?_) fun h=>?_
 refine xX 12 X2.D h fun x1 h=>?_
 refine iB 17 h (fun h=>?_) fun h=>?_
 exact lb h
 exact lb h
 exact lb h) h
theorem bAl(h:Yj b9 a8=some bQ):AM Tryz.prog 120 [.d ((D.l X2.D) b9),dI a8] [] (.tup [.d (X0.D bQ.1),.d (D.b bQ.2)]) []:=by
 unfold Yj at h;apply g0 (o:=bQ);refine gN 9 X2.D b9 ?_;obtain⟨o2,h4,h⟩:=bS h;refine gl (aLl none h4) ?_;replace h:=AL h;rcases h with⟨o3,rfl,h⟩|⟨o4,rfl,h⟩
 exact lf h;exact lf h
theorem bB7(h:Zw bU aW aI=some aD):AM Tryz.prog 94 [.d (Xq.D bU),.d (B0.D aW),.d (X0.D aI)] [] (.d (D.b aD)) []:=by unfold Zw at h;apply g0 (o:=aD);refine iB 11 h (fun h=>?_) fun h=>?_;exact lf h;refine iB 17 h (fun h=>?_) fun h=>?_;obtain⟨r1,h3,h⟩:=bS h;refine gC 24 (bAl h3) ?_;refine iB 28 h (fun h=>?_) fun h=>?_;exact lf h;exact lf h;exact lf h
theorem QS(rd:Option Nat)(h:Oj a8 aA bA aN aR aD bU aI=some bB):Lq 64 rd 15667 ⟨sp 42 0 [bx 2,bx 3,(5,.clo (.func 94) [] []),sD 6 dU a8,sI 7 aA,sD 11 (D.l X5.D) bA,sI 12 aN,sI 13 aR,sD 34 D.b aD],[cL 2 Xq.D bU,cL 3 X0.D aI],[]⟩ (.normal,⟨sp 42 0 [bx 2,bx 3,(5,.clo (.func 94) [] []),sD 6 dU bB,sD 11 (D.l X5.D) bA,sI 12 aN,sI 13 aR],[cL 2 Xq.D bU,cL 3 X0.D aI],[]⟩):=by unfold Oj at h;apply g0 (o:=bB);cases aD;replace h:=CL h;exact lp h;replace h:=CM h;obtain⟨h7,h⟩:=cS h;refine gQ h7 ?_;exact lp h
theorem aI3(rd:Option Nat)(h:Sw a8 bA aA aN bU aI=some aR):Lq 64 rd 1958 ⟨sp 42 0 [bx 2,bx 3,(5,.clo (.func 94) [] []),sD 6 dU a8,sD 11 (D.l X5.D) bA,sI 12 aA,sI 13 aN],[cL 2 Xq.D bU,cL 3 X0.D aI],[]⟩ (.normal,⟨sp 42 0 [bx 2,bx 3,(5,.clo (.func 94) [] []),sD 6 dU aR,sD 11 (D.l X5.D) bA,sI 12 aA,sI 13 aN],[cL 2 Xq.D bU,cL 3 X0.D aI],[]⟩):=by unfold Sw at h;apply g0 (o:=aR);refine xX 16 X5.D h fun x1 h=>?_;refine iB 23 h (fun h=>?_) fun h=>?_;refine xX 30 B0.D h fun x2 h=>?_;obtain⟨r3,h5,h⟩:=bS h;refine gC 33 (bB7 h5) ?_;obtain⟨o4,h8,h⟩:=bS h;refine gl (QS rd h8) ?_;exact lp h;obtain⟨o5,h9,h⟩:=bS h;refine gl (QS rd h9) ?_;exact lp h
def WW(s11:List X5)(s12:Int)(w2:Xq)(w3:X0)(s6 s13:Int):St:=⟨sp 42 0 [bx 2,bx 3,(5,.clo (.func 94) [] []),sD 6 dU s6,sD 11 (D.l X5.D) s11,sI 12 s12,sI 13 s13],[cL 2 Xq.D w2,cL 3 X0.D w3],[]⟩
def WX(s11:List X5)(s12:Int)(w2:Xq)(w3:X0)(o:Int):Ex×St:=(.exit 0,⟨sp 42 0 [sD 6 dU o],[],[]⟩)
theorem aI5(rd:Option Nat)(h:WV bA a8 bU aI aA aN=some aR):Lq 64 rd 122 (WW bA a8 bU aI aA aN) ((WX bA a8 bU aI) aR):=
 lL (fun s:Int×Int=>WW bA a8 bU aI s.1 s.2) (WX bA a8 bU aI) (aA,aN) (fun⟨aA,aN⟩ o h=>by
 unfold F8 at h
 refine iB 14 h (fun h=>?_) fun h=>?_
 obtain⟨o6,h10,h⟩:=bS h
 refine gl (aI3 rd h10) ?_
 exact lb h
 exact lb h) h
theorem aZk(h:Xu bU aI=some a8):AM Tryz.prog 64 [.d (Xq.D bU),.d (X0.D aI)] [] (.d (dU a8)) []:=by unfold Xu at h;apply g0 (o:=a8);refine gN 12 X5.D bU.q.symbols ?_;obtain⟨o7,h11,h⟩:=bS h;refine gl (aI5 none h11) ?_;exact lf h
def G3(clk:Nat)(es:List (Nat×Int×Bool))(us:List Value)(s8:Int)(s12:List X0)(s13 s14:Int)(w0:List (Int×Bool))(w3:Xq)(w5:List (Int×Bool))(sn:List Nat):St:=⟨sp 33 0 [rx 0,bx 3,rx 5,sD 8 dU s8,sD 12 (D.l X0.D) s12,sI 13 s13,sI 14 s14,bx 22],[(0,.map clk (dl dU D.b es)),cL 3 Xq.D w3,(5,.mapS (ms dU D.b w5)),(22,.mit 0 clk sn),(997,.vals [] us)],[]⟩
def G4(clk:Nat)(es:List (Nat×Int×Bool))(us:List Value)(s8:Int)(s12:List X0)(s13 s14:Int)(w0:List (Int×Bool))(w3:Xq)(o:(List (Int×Bool))):Ex×St:=(.exit 2,⟨sp 33 0 [rx 0,bx 3,rx 5,sD 12 (D.l X0.D) s12,sI 13 s13,sI 14 s14],[(0,.map clk (dl dU D.b es)),cL 3 Xq.D w3,(5,.mapS (ms dU D.b o)),(997,.vals [] us)],[]⟩)
def aQ8(clk:Nat)(es:List (Nat×Int×Bool))(us:List Value)(s8:Int)(s12:List X0)(s13 s14:Int)(w0:List (Int×Bool))(w3:Xq)(w5:List (Int×Bool)):St:=⟨sp 33 0 [rx 0,bx 3,rx 5,sD 12 (D.l X0.D) s12,sI 13 s13,sI 14 s14],[(0,.map clk (dl dU D.b es)),cL 3 Xq.D w3,(5,.mapS (ms dU D.b w5)),(997,.vals [] us)],[]⟩
set_option maxRecDepth 100000 in
theorem Vs(rd:Option Nat)(us:List Value)(clk:Nat)(es:List (Nat×Int×Bool))(s8:Int)(s12:List X0)(s13 s14:Int)(w0:List (Int×Bool))(w3:Xq)(k:Int)(v:Bool)(w5:List (Int×Bool))(sn:List Nat)(st:Nat)(hm:(st,k,v)∈es)(o:(List (Int×Bool)))(h:F1 s8 s12 s13 s14 w0 w3 k v w5=some o):Nh Tryz.prog rd (ER Tryz.prog 46) [0,1,1,1,0,0,1,1,0,0,1,0,1,1] ((⟨(G3 clk es us s8 s12 s13 s14 w0 w3 w5 sn).E,By (G3 clk es us s8 s12 s13 s14 w0 w3 w5 sn).B 22 (.mit 0 clk (sn++[st])),[]⟩:St).put (some 23) (.tup [bo true,.d (dU k),.d (D.b v)])) fun zx zs=>zx=.normal/\Wk zs ((fun s:(List (Int×Bool))=>G3 clk es us s8 s12 s13 s14 w0 w3 s (sn++[st])) o):=by unfold F1 at h;obtain rfl:=si h;exact Fe mixed [(25,.en (dU k) (D.b v)),(10027,.ms (ms dU D.b (GP (AA .and .u64 k s8) true w5)))] [] [.live [0,3,5,8,12,13,14,22],.keep [0,3,5,22,997]] (ai (Pi (fk:=dU) (fv:=D.b) (clk:=clk) (sn:=sn) hm) (ai (Pu (aE1 Tryz.underlying49) D.b w5 (AA .and .u64 k s8) true) (ti))) (by kernel_rfl)
set_option maxRecDepth 100000 in
theorem Vr(rd:Option Nat)(us:List Value)(clk:Nat)(es:List (Nat×Int×Bool))(s8:Int)(s12:List X0)(s13 s14:Int)(w0:List (Int×Bool))(w3:Xq)(w5:List (Int×Bool))(sn:List Nat):Nh Tryz.prog rd (ER Tryz.prog 46) [0,1,1,1,0,0,1,1,0,0,1,0,1,1] ((G3 clk es us s8 s12 s13 s14 w0 w3 w5 sn).put (some 23) (.tup [bo false])) fun zx zs=>zx=(G4 clk es us s8 s12 s13 s14 w0 w3 (Ib s8 s12 s13 s14 w0 w3 w5)).1/\Wk zs (G4 clk es us s8 s12 s13 s14 w0 w3 (Ib s8 s12 s13 s14 w0 w3 w5)).2:=by refine Nh.wk (e:=.exit 2) (s1:=aQ8 clk es us s8 s12 s13 s14 w0 w3 w5) (Fe mixed [] [] [.live [0,3,5,12,13,14],.keep [0,3,5,997]] (ti) (by kernel_rfl)) ?_;exact(Wk.canS 5 (by kernel_rfl) rfl)
set_option maxRecDepth 100000 in
theorem aH0(rd:Option Nat)(us:List Value)(clk:Nat)(es:List (Nat×Int×Bool))(s8:Int)(s12:List X0)(s13 s14:Int)(w0:List (Int×Bool))(w3:Xq)(w5:List (Int×Bool))(hp:(es.map (·.2)).Perm w0)(o:(List (Int×Bool)))(h:Vq s8 s12 s13 s14 w0 w3 w5=some o):Fm Tryz.prog rd (ER Tryz.prog 46) [0,1,1,1,0,0,1,1,0,0,1,0,1,1] (G3 clk es us s8 s12 s13 s14 w0 w3 w5 []) ((G4 clk es us s8 s12 s13 s14 w0 w3) o).1 ((G4 clk es us s8 s12 s13 s14 w0 w3) o).2:=
 Pe (fk:=dU) (fv:=D.b) (step:=(fun(x:Int×Bool) (s:(List (Int×Bool)))=>F1 s8 s12 s13 s14 w0 w3 x.1 x.2 s)) (s0:=w5) 22 23 22 0 clk es (fun(sn:List Nat) (s:(List (Int×Bool)))=>G3 clk es us s8 s12 s13 s14 w0 w3 s sn) (G4 clk es us s8 s12 s13 s14 w0 w3) (by kernel_rfl) (Rl (by rfl)) (fun _ _=>by kernel_rfl) (fun _ _=>by kernel_rfl) (fun _ _=>by kernel_rfl) hp
  (fun sn s k v st a hm h=>Vs rd us clk es s8 s12 s13 s14 w0 w3 k v s sn st hm a h) (fun sn s hc=>hc▸Vr rd us clk es s8 s12 s13 s14 w0 w3 s sn) h
theorem aHw(rd:Option Nat)(us:List Value)(h:Sh a8 bE aA aN bW bU bX=some bY):Lq 46 rd 7475 ⟨sp 33 0 [rx 0,bx 3,rx 5,sD 8 dU a8,sD 12 (D.l X0.D) bE,sI 13 aA,sI 14 aN],[(0,.mapS (ms dU D.b bW)),cL 3 Xq.D bU,(5,.mapS (ms dU D.b bX)),(997,.vals [] us)],[]⟩ (.normal,⟨sp 33 0 [rx 0,bx 3,rx 5,sD 12 (D.l X0.D) bE,sI 13 aA,sI 14 aN],[(0,.mapS (ms dU D.b bW)),cL 3 Xq.D bU,(5,.mapS (ms dU D.b bY)),(997,.vals [] us)],[]⟩):=by unfold Sh at h;obtain⟨o4,h5,h⟩:=bS h;obtain rfl:=si h;exact Arr.lp (Arr.exact (fk:=dU) (fv:=D.b) (S:=bW) 0 (by kernel_rfl) fun clk es hp=>Arr.setm (fk:=dU) (fv:=D.b) (S:=bW) (clk:=clk) (es:=es) 0 hp (by kernel_rfl) (by kernel_rfl) (Gf mixed [] [⟨[0,1,1,1,0,0,1,1,0,0,1,0,1,1],[.live [0,3,5,8,12,13,14,22],.keep [0,3,5,22,997]],.exit 2,(G4 clk es us a8 bE aA aN bW bU o4).2⟩] [.live [0,3,5,12,13,14],.keep [0,3,5,997]] (ai (aH0 rd us clk es a8 bE aA aN bW bU bX hp o4 h5) (ti)) (by kernel_rfl)))
def Vo(us:List Value)(s12:List X0)(s13:Int)(w0:List (Int×Bool))(w3:Xq)(s14:Int)(w5:List (Int×Bool)):St:=⟨sp 33 0 [rx 0,bx 3,rx 5,sD 12 (D.l X0.D) s12,sI 13 s13,sI 14 s14],[(0,.mapS (ms dU D.b w0)),cL 3 Xq.D w3,(5,.mapS (ms dU D.b w5)),(997,.vals [] us)],[]⟩
def Vp(us:List Value)(s12:List X0)(s13:Int)(w0:List (Int×Bool))(w3:Xq)(o:(List (Int×Bool))):Ex×St:=(.exit 0,⟨sp 33 0 [rx 5],[(5,.mapS (ms dU D.b o)),(997,.vals [] us)],[]⟩)
theorem aHy(rd:Option Nat)(us:List Value)(h:Vn bE a8 bW bU aA bX=some bY):Lq 46 rd 58 (Vo us bE a8 bW bU aA bX) ((Vp us bE a8 bW bU) bY):=
 lL (fun s:Int×(List (Int×Bool))=>Vo us bE a8 bW bU s.1 s.2) (Vp us bE a8 bW bU) (aA,bX) (fun⟨aA,bX⟩ o h=>by
 unfold Fz at h
 refine iB 15 h (fun h=>?_) fun h=>?_
 refine xX 16 X0.D h fun x2 h=>?_
 obtain⟨r3,h4,h⟩:=bS h
 refine gC 20 (aZk h4) ?_
 obtain⟨o5,h6,h⟩:=bS h
 refine gl (aHw rd us h6) ?_
 exact lb h
 exact lb h) h
theorem aY2(h:Xi bU bW=some bY):AM Tryz.prog 46 [.row 0,.d (Xq.D bU)] [(0,.mapS (ms dU D.b bW))] (.row 1) [(1,.mapS (ms dU D.b bY))]:=by unfold Xi at h;refine XG.call (ks:=[]) mixed fun us=>?_;apply g0 (o:=bY);refine gW 10 .frz ?_;obtain⟨r1,h1,h⟩:=bS h;refine gC 12 (aZc h1)<|gN 13 X0.D r1 ?_;obtain⟨o6,h7,h⟩:=bS h;refine gL [.live [0,3,5,12,13,14],.keep [0,3,10,997],.ren 10 5,.sort] (aHy none us h7) ?_;exact lX h [.live [4],.keep [5,997],.ren 5 1,.sort]
theorem aMn(rd:Option Nat)(h:aAk a8 aA aD=some bH):Lq 89 rd 13 ⟨sp 25 0 [sD 0 dU a8,sI 2 aA,sD 4 D.b aD],[],[]⟩ (.normal,⟨sp 25 0 [sD 0 dU bH.1,sI 2 bH.2],[],[]⟩):=by unfold aAk at h;apply g0 (o:=bH);cases aD;replace h:=CL h;exact lp h;replace h:=CM h;refine gQ (of_decide_eq_true rfl:(0:Int)<=32) ?_;exact lp h
theorem aMo(rd:Option Nat)(h:aAl a8 aA aD=some bH):Lq 89 rd 29 ⟨sp 25 0 [sD 0 dU a8,sI 2 aA,sD 8 D.b aD],[],[]⟩ (.normal,⟨sp 25 0 [sD 0 dU bH.1,sI 2 bH.2],[],[]⟩):=by unfold aAl at h;apply g0 (o:=bH);cases aD;replace h:=CL h;exact lp h;replace h:=CM h;refine gQ (of_decide_eq_true rfl:(0:Int)<=16) ?_;exact lp h
theorem aMp(rd:Option Nat)(h:aAm a8 aA aD=some bH):Lq 89 rd 61 ⟨sp 25 0 [sD 0 dU a8,sI 2 aA,sD 14 D.b aD],[],[]⟩ (.normal,⟨sp 25 0 [sD 0 dU bH.1,sI 2 bH.2],[],[]⟩):=by unfold aAm at h;apply g0 (o:=bH);cases aD;replace h:=CL h;exact lp h;replace h:=CM h;refine gQ (of_decide_eq_true rfl:(0:Int)<=8) ?_;exact lp h
theorem bA3(h:Z0 a8=some aA):AM Tryz.prog 89 [.d (dU a8)] [] (dI aA) []:=by unfold Z0 at h;apply g0 (o:=aA);obtain⟨o1,h2,h⟩:=bS h;refine gl (aMn none h2) ?_;obtain⟨o2,h4,h⟩:=bS h;refine gl (aMo none h4) ?_;obtain⟨o3,h6,h⟩:=bS h;refine gl (aMp none h6)<|gG 21 (.int (u8w o3.1).toNat) (K4 o3.1) ?_;obtain⟨x4,h7,h⟩:=xS h;refine gG 22 (.int x4.toNat) (HO h7)<|gG 23 (.int x4.toNat) (P5 x4) ?_;exact lf h
theorem aQr(h:Qc a8=some aA):AM Tryz.prog 62 [.d (dU a8)] [] (dI aA) []:=by unfold Qc at h;apply g0 (o:=aA);obtain⟨r1,h1,h⟩:=bS h;refine gC 7 (bA3 h1) ?_;exact lf h
theorem aUz(h:Qd a8=some aD):AM Tryz.prog 124 [.d (dU a8)] [] (.d (D.b aD)) []:=by unfold Qd at h;apply g0 (o:=aD);exact lf h
theorem E4(h:Yk a8 aA=some aD):AM Tryz.prog 101 [.d (dU a8),.d (dU aA)] [] (.d (D.b aD)) []:=by unfold Yk at h;apply g0 (o:=aD);obtain⟨r1,h1,h⟩:=bS h;refine gQ (aUz h1) ?_;cases r1;replace h:=CL h;refine gW 6 (.ret (.d (D.b false))) ?_;exact lf h;replace h:=CM h;refine gW 6 (.ret (.d (D.b true))) ?_;obtain⟨r2,h3,h⟩:=bS h;refine gC 9 (aUz h3) ?_;refine iB 12 h (fun h=>?_) fun h=>?_;exact lf h;exact lf h
def XB(us:List Value)(s1 s2:Int)(s6 s7:Int)(w0:List Int):St:=⟨sp 49 0 [rx 0,sI 1 s1,sI 2 s2,sI 6 s6,sI 7 s7],[rW 0 49 1 dU w0,(997,.vals [.row 0] us)],[]⟩
def XC(us:List Value)(s1 s2 s6:Int)(o:(List Int)):Ex×St:=(.exit 2,⟨sp 49 0 [rx 0,sI 1 s1,sI 2 s2,sI 6 s6],[rW 0 49 1 dU o,(997,.vals [.row 0] us)],[]⟩)
theorem aJ4(rd:Option Nat)(us:List Value)(h:TA a8 aA aN aR aZ=some b6):Lq 95 rd 402 (XB us a8 aA aN aR aZ) ((XC us a8 aA aN) b6):=
 lL (fun s:Int×List Int=>XB us a8 aA aN s.1 s.2) (XC us a8 aA aN) (aR,aZ) (fun⟨aR,aZ⟩ o h=>by
 unfold E1 at h
 refine iB 19 h (fun h=>?_) fun h=>?_
 obtain⟨h3,h⟩:=cS h
 refine gQ h3.1<|gQ (AF dU h3.2) ?_
 obtain⟨x1,h4,h⟩:=xS h
 refine gG 23 (.el (dU x1)) (AH dU h4) ?_
 obtain⟨h5,h⟩:=cS h
 refine gQ h5.1<|gQ (AF dU h5.2) ?_
 obtain⟨x2,h6,h⟩:=xS h
 refine gG 28 (.el (dU x2)) (AH dU h6) ?_
 obtain⟨r3,h7,h⟩:=bS h
 refine gQ (E4 h7) ?_
 cases r3
 replace h:=CL h
 refine gW 29 (.ret (.d (D.b false))) ?_
 exact lb h
 replace h:=CM h
 refine gW 29 (.ret (.d (D.b true))) ?_
 obtain⟨h9,h⟩:=cS h
 refine gQ h9.1<|gQ (AF dU h9.2) ?_
 obtain⟨x4,h10,h⟩:=xS h
 refine gG 42 (.el (dU x4)) (AH dU h10)<|gW 10047 (.sl ((aZ.set aR.toNat x4).map dU)) ?_
 obtain⟨h11,h⟩:=cS h
 refine gQ h11.1<|gQ (AF dU h11.2) ?_
 obtain⟨x5,h12,h⟩:=xS h
 refine gG 46 (.el (dU x5)) (AH dU h12)<|gW 10048 (.sl (((aZ.set aR.toNat x4).set (AA .sub .i64 aR 1).toNat x5).map dU)) ?_
 obtain⟨h13,h⟩:=cS h
 refine gQ h13.1<|gQ (AF dU h13.2) ?_
 obtain⟨h14,h⟩:=cS h
 refine gQ (Ay dU h14)<|gQ (AS dU aZ aR x4) ?_
 obtain⟨h15,h⟩:=cS h
 refine gQ h15.1<|gQ (AF dU h15.2) ?_
 obtain⟨h16,h⟩:=cS h
 refine gQ (Ay dU h16)<|gQ (AS dU (aZ.set aR.toNat x4) (AA .sub .i64 aR 1) x5) ?_
 exact lb h
 exact lb h) h
def W9(us:List Value)(s1 s2 s6:Int)(w0:List Int):St:=⟨sp 49 0 [rx 0,sI 1 s1,sI 2 s2,sI 6 s6],[rW 0 49 1 dU w0,(997,.vals [.row 0] us)],[]⟩
def XA(us:List Value)(s1 s2:Int)(o:(List Int)):Ex×St:=(.exit 0,⟨sp 49 0 [],[rW 0 49 1 dU o,(997,.vals [.row 0] us)],[]⟩)
theorem aJ3(rd:Option Nat)(us:List Value)(h:S9 a8 aA aN aZ=some b6):Lq 95 rd 6 (W9 us a8 aA aN aZ) ((XA us a8 aA) b6):=
 lL (fun s:Int×List Int=>W9 us a8 aA s.1 s.2) (XA us a8 aA) (aN,aZ) (fun⟨aN,aZ⟩ o h=>by
 unfold HC at h
 refine iB 12 h (fun h=>?_) fun h=>?_
 obtain⟨o6,h17,h⟩:=bS h
 refine gl (aJ4 rd us h17) ?_
 exact lb h
 exact lb h) h
theorem aZr(h:Y3 a8 aA aZ=some bZ):AM Tryz.prog 95 [.row 0,dI a8,dI aA] [rW 0 49 1 dU aZ] (.tup []) [rW 0 49 1 dU bZ]:=by unfold Y3 at h;refine XG.call (ks:=[0]) mixed fun us=>?_;apply g0 (o:=bZ);obtain⟨o7,h18,h⟩:=bS h;refine gl (aJ3 none us h18) ?_;exact lX h (lv [] [0,997])
theorem QV(rd:Option Nat)(us:List Value)(h:LI a8 aA aN aR aD aZ=some bB):Lq 121 rd 397 ⟨sp 76 0 [rx 0,sI 2 a8,sI 3 aA,sI 8 aN,sI 9 aR,sD 36 D.b aD],[rW 0 49 1 dU aZ,(997,.vals [.row 0] us)],[]⟩ (.normal,⟨sp 76 0 [rx 0,sI 2 a8,sI 3 aA,sI 8 aN,sI 9 bB],[rW 0 49 1 dU aZ,(997,.vals [.row 0] us)],[]⟩):=by unfold LI at h;apply g0 (o:=bB);cases aD;replace h:=CL h;exact lp h;replace h:=CM h;exact lp h
theorem aJl(rd:Option Nat)(us:List Value)(h:KK a8 aA aN aZ=some c9):Lq 121 rd 12 ⟨sp 76 0 [rx 0,sI 2 a8,sI 3 aA,sI 8 aN],[rW 0 49 1 dU aZ,(997,.vals [.row 0] us)],[]⟩ (match (generalizing:=false) c9 with
 | .inl c9=>(.normal,⟨sp 76 0 [rx 0,sI 2 a8,sI 3 aA,sI 8 c9.1],[rW 0 49 1 dU c9.2,(997,.vals [.row 0] us)],[]⟩)
 | .inr c9=>match (generalizing:=false) c9 with
 | .inl c9=>(.exit 0,⟨sp 76 0 [],[rW 0 49 1 dU aZ,(997,.vals [.row 0] us)],[]⟩)
 | .inr c9=>(.ret,⟨sp 76 0 [],[rW 0 49 1 dU aZ,(997,.vals [.row 0] us)],[]⟩)):=by
 unfold KK at h
 apply g0 (o:=c9)
 refine iB 16 h (fun h=>?_) fun h=>?_
 exact lp h
 refine iB 21 h (fun h=>?_) fun h=>?_
 obtain⟨h3,h⟩:=cS h
 refine gQ h3.1<|gQ (AF dU h3.2) ?_
 obtain⟨x1,h4,h⟩:=xS h
 refine gG 27 (.el (dU x1)) (AH dU h4) ?_
 obtain⟨h5,h⟩:=cS h
 refine gQ h5.1<|gQ (AF dU h5.2) ?_
 obtain⟨x2,h6,h⟩:=xS h
 refine gG 34 (.el (dU x2)) (AH dU h6) ?_
 obtain⟨r3,h7,h⟩:=bS h
 refine gC 35 (E4 h7) ?_
 obtain⟨o4,h9,h⟩:=bS h
 refine gl (QV rd us h9) ?_
 obtain⟨h10,h⟩:=cS h
 refine gQ h10.1<|gQ (AF dU h10.2) ?_
 obtain⟨x5,h11,h⟩:=xS h
 refine gG 44 (.el (dU x5)) (AH dU h11) ?_
 obtain⟨h12,h⟩:=cS h
 refine gQ h12.1<|gQ (AF dU h12.2) ?_
 obtain⟨x6,h13,h⟩:=xS h
 refine gG 50 (.el (dU x6)) (AH dU h13) ?_
 obtain⟨r7,h14,h⟩:=bS h
 refine gC 51 (E4 h14) ?_
 refine iB 52 h (fun h=>?_) fun h=>?_
 exact lp h
 obtain⟨h16,h⟩:=cS h
 refine gQ h16.1<|gQ (AF dU h16.2) ?_
 obtain⟨x8,h17,h⟩:=xS h
 refine gG 66 (.el (dU x8)) (AH dU h17)<|gW 10073 (.sl ((aZ.set (AA .add .i64 aA aN).toNat x8).map dU)) ?_
 obtain⟨h18,h⟩:=cS h
 refine gQ h18.1<|gQ (AF dU h18.2) ?_
 obtain⟨x9,h19,h⟩:=xS h
 refine gG 72 (.el (dU x9)) (AH dU h19)<|gW 10074 (.sl (((aZ.set (AA .add .i64 aA aN).toNat x8).set (AA .add .i64 aA o4).toNat x9).map dU)) ?_
 obtain⟨h20,h⟩:=cS h
 refine gQ h20.1<|gQ (AF dU h20.2) ?_
 obtain⟨h21,h⟩:=cS h
 refine gQ (Ay dU h21)<|gQ (AS dU aZ (AA .add .i64 aA aN) x8) ?_
 obtain⟨h22,h⟩:=cS h
 refine gQ h22.1<|gQ (AF dU h22.2) ?_
 obtain⟨h23,h⟩:=cS h
 refine gQ (Ay dU h23)<|gQ (AS dU (aZ.set (AA .add .i64 aA aN).toNat x8) (AA .add .i64 aA o4) x9) ?_
 exact lp h
 obtain⟨o10,h24,h⟩:=bS h
 refine gl (QV rd us h24) ?_
 obtain⟨h25,h⟩:=cS h
 refine gQ h25.1<|gQ (AF dU h25.2) ?_
 obtain⟨x11,h26,h⟩:=xS h
 refine gG 44 (.el (dU x11)) (AH dU h26) ?_
 obtain⟨h27,h⟩:=cS h
 refine gQ h27.1<|gQ (AF dU h27.2) ?_
 obtain⟨x12,h28,h⟩:=xS h
 refine gG 50 (.el (dU x12)) (AH dU h28) ?_
 obtain⟨r13,h29,h⟩:=bS h
 refine gC 51 (E4 h29) ?_
 refine iB 52 h (fun h=>?_) fun h=>?_
 exact lp h
 obtain⟨h31,h⟩:=cS h
 refine gQ h31.1<|gQ (AF dU h31.2) ?_
 obtain⟨x14,h32,h⟩:=xS h
 refine gG 66 (.el (dU x14)) (AH dU h32)<|gW 10073 (.sl ((aZ.set (AA .add .i64 aA aN).toNat x14).map dU)) ?_
 obtain⟨h33,h⟩:=cS h
 refine gQ h33.1<|gQ (AF dU h33.2) ?_
 obtain⟨x15,h34,h⟩:=xS h
 refine gG 72 (.el (dU x15)) (AH dU h34)<|gW 10074 (.sl (((aZ.set (AA .add .i64 aA aN).toNat x14).set (AA .add .i64 aA o10).toNat x15).map dU)) ?_
 obtain⟨h35,h⟩:=cS h
 refine gQ h35.1<|gQ (AF dU h35.2) ?_
 obtain⟨h36,h⟩:=cS h
 refine gQ (Ay dU h36)<|gQ (AS dU aZ (AA .add .i64 aA aN) x14) ?_
 obtain⟨h37,h⟩:=cS h
 refine gQ h37.1<|gQ (AF dU h37.2) ?_
 obtain⟨h38,h⟩:=cS h
 refine gQ (Ay dU h38)<|gQ (AS dU (aZ.set (AA .add .i64 aA aN).toNat x14) (AA .add .i64 aA o10) x15) ?_
 exact lp h
def Wq(us:List Value)(s2 s3 s8:Int)(w0:List Int):St:=⟨sp 76 0 [rx 0,sI 2 s2,sI 3 s3,sI 8 s8],[rW 0 49 1 dU w0,(997,.vals [.row 0] us)],[]⟩
def Wr(us:List Value)(s2 s3:Int)(o:(List Int)⊕(List Int)):Ex×St:=match o with
 | .inl o=>(.exit 0,⟨sp 76 0 [],[rW 0 49 1 dU o,(997,.vals [.row 0] us)],[]⟩)
 | .inr o=>(.ret,⟨sp 76 0 [],[rW 0 49 1 dU o,(997,.vals [.row 0] us)],[]⟩)
theorem aJm(rd:Option Nat)(us:List Value)(h:S1 a8 aA aN aZ=some cA):Lq 121 rd 6 (Wq us a8 aA aN aZ) ((Wr us a8 aA) cA):=
 lL (fun s:Int×List Int=>Wq us a8 aA s.1 s.2) (Wr us a8 aA) (aN,aZ) (fun⟨aN,aZ⟩ o h=>by
 unfold Ec at h
 obtain⟨o16,h39,h⟩:=bS h
 refine gl (aJl rd us h39) ?_
 replace h:=AL h
 rcases h with⟨o17,rfl,h⟩|⟨o18,rfl,h⟩
 exact lb h
 replace h:=AL h
 rcases h with⟨o19,rfl,h⟩|⟨o20,rfl,h⟩
 exact lb h
 exact lb h) h
theorem aVi(h:Xy a8 aA aN aZ=some bZ):AM Tryz.prog 121 [.row 0,dI a8,dI aA,dI aN] [rW 0 49 1 dU aZ] (.tup []) [rW 0 49 1 dU bZ]:=by
 unfold Xy at h;refine XG.call (ks:=[0]) mixed fun us=>?_;apply g0 (o:=bZ);obtain⟨o21,h40,h⟩:=bS h;refine gl (aJm none us h40) ?_;replace h:=AL h;rcases h with⟨o22,rfl,h⟩|⟨o23,rfl,h⟩
 exact lX h (lv [] [0,997]);exact lX h (lv [] [0,997])
def XN(us:List Value)(s6 s7:Int)(s8 s9:Int)(w0:List Int):St:=⟨sp 56 0 [rx 0,sI 6 s6,sI 7 s7,sI 8 s8,sI 9 s9],[rW 0 49 1 dU w0,(997,.vals [.row 0] us)],[]⟩
def XO(us:List Value)(s6 s7 s8:Int)(o:(List Int)):Ex×St:=(.exit 0,⟨sp 56 0 [rx 0,sI 6 s6,sI 7 s7,sI 8 s8],[rW 0 49 1 dU o,(997,.vals [.row 0] us)],[]⟩)
theorem aKf(rd:Option Nat)(us:List Value)(h:TB a8 aA aN aR aZ=some b6):Lq 96 rd 122 (XN us a8 aA aN aR aZ) ((XO us a8 aA aN) b6):=
 lL (fun s:Int×List Int=>XN us a8 aA aN s.1 s.2) (XO us a8 aA aN) (aR,aZ) (fun⟨aR,aZ⟩ o h=>by
 unfold HD at h
 refine iB 19 h (fun h=>?_) fun h=>?_
 obtain⟨r1,h2,h⟩:=bS h
 refine gG 26 (.cx false [(0,0)] [] (.tup []) [rW 0 49 1 dU r1]) (aVi h2) ?_
 exact lb h
 exact lb h) h
def XP(us:List Value)(s6 s7 s10:Int)(w0:List Int):St:=⟨sp 56 0 [rx 0,sI 6 s6,sI 7 s7,sI 10 s10],[rW 0 49 1 dU w0,(997,.vals [.row 0] us)],[]⟩
def XQ(us:List Value)(s6 s7:Int)(o:(List Int)):Ex×St:=(.exit 2,⟨sp 56 0 [],[rW 0 49 1 dU o,(997,.vals [.row 0] us)],[]⟩)
theorem aKg(rd:Option Nat)(us:List Value)(h:TC a8 aA aN aZ=some b6):Lq 96 rd 126 (XP us a8 aA aN aZ) ((XQ us a8 aA) b6):=
 lL (fun s:Int×List Int=>XP us a8 aA s.1 s.2) (XQ us a8 aA) (aN,aZ) (fun⟨aN,aZ⟩ o h=>by
 unfold HE at h
 refine iB 30 h (fun h=>?_) fun h=>?_
 obtain⟨h5,h⟩:=cS h
 refine gQ h5.1<|gQ (AF dU h5.2) ?_
 obtain⟨x3,h6,h⟩:=xS h
 refine gG 44 (.el (dU x3)) (AH dU h6)<|gW 10049 (.sl ((aZ.set a8.toNat x3).map dU)) ?_
 obtain⟨h7,h⟩:=cS h
 refine gQ h7.1<|gQ (AF dU h7.2) ?_
 obtain⟨x4,h8,h⟩:=xS h
 refine gG 48 (.el (dU x4)) (AH dU h8)<|gW 10050 (.sl (((aZ.set a8.toNat x3).set (AA .add .i64 a8 aN).toNat x4).map dU)) ?_
 obtain⟨h9,h⟩:=cS h
 refine gQ h9.1<|gQ (AF dU h9.2) ?_
 obtain⟨h10,h⟩:=cS h
 refine gQ (Ay dU h10)<|gQ (AS dU aZ a8 x3) ?_
 obtain⟨h11,h⟩:=cS h
 refine gQ h11.1<|gQ (AF dU h11.2) ?_
 obtain⟨h12,h⟩:=cS h
 refine gQ (Ay dU h12)<|gQ (AS dU (aZ.set a8.toNat x3) (AA .add .i64 a8 aN) x4) ?_
 obtain⟨r5,h13,h⟩:=bS h
 refine gG 55 (.cx false [(0,0)] [] (.tup []) [rW 0 49 1 dU r5]) (aVi h13) ?_
 exact lb h
 exact lb h) h
theorem aZx(h:Y6 a8 aA aZ=some bZ):AM Tryz.prog 96 [.row 0,dI a8,dI aA] [rW 0 49 1 dU aZ] (.tup []) [rW 0 49 1 dU bZ]:=by unfold Y6 at h;refine XG.call (ks:=[0]) mixed fun us=>?_;apply g0 (o:=bZ);refine gQ (of_decide_eq_true rfl:(2:Int)≠0) ?_;obtain⟨o2,h3,h⟩:=bS h;refine gl (aKf none us h3) ?_;obtain⟨o6,h14,h⟩:=bS h;refine gl (aKg none us h14) ?_;exact lX h (lv [] [0,997])
theorem aU0(h:Qi a8=some aA):AM Tryz.prog 108 [dI a8] [] (.d (dU aA)) []:=by unfold Qi at h;apply g0 (o:=aA);obtain⟨r1,h1,h⟩:=bS h;refine gC 5 (aQr h1) ?_;obtain⟨h2,h⟩:=cS h;refine gQ h2 ?_;exact lf h
theorem aU1(h:Qj a8=some aH):AM Tryz.prog 109 [.box 0 0] [(0,.cells ([.d (dU a8)]))] (.d (dU aH.1)) [(0,.cells ([.d (dU aH.2)]))]:=by unfold Qj at h;refine XG.call (ks:=[0]) mixed fun us=>?_;apply g0 (o:=aH);refine gQ (of_decide_eq_true rfl:(0:Int)<=13)<|gQ (of_decide_eq_true rfl:(0:Int)<=7)<|gQ (of_decide_eq_true rfl:(0:Int)<=17) ?_;exact lX h (lv [2] [0,997])
theorem aJ1(rd:Option Nat)(us:List Value)(h:Om a8 aA aN aR bB aD aZ bC=some cB):Lq 97 rd 30501 ⟨sp 65 0 [rx 0,sI 1 a8,sI 6 aA,bx 7,sD 8 dU aN,sI 9 aR,sI 10 bB,sD 43 D.b aD],[rW 0 49 1 dU aZ,(7,.cells ([.d (dU bC)])),(997,.vals [.row 0] us)],[]⟩ (.normal,⟨sp 65 0 [rx 0,sI 1 a8,sI 6 aA,bx 7,sD 8 dU aN,sI 9 aR,sI 10 cB],[rW 0 49 1 dU aZ,(7,.cells ([.d (dU bC)])),(997,.vals [.row 0] us)],[]⟩):=by unfold Om at h;apply g0 (o:=cB);cases aD;replace h:=CL h;exact lp h;replace h:=CM h;exact lp h
theorem aJ0(rd:Option Nat)(us:List Value)(h:S7 a8 aA aN aR aZ bB=some cC):Lq 97 rd 1906 ⟨sp 65 0 [rx 0,sI 1 a8,sI 6 aA,bx 7,sD 8 dU aN,sI 9 aR],[rW 0 49 1 dU aZ,(7,.cells ([.d (dU bB)])),(997,.vals [.row 0] us)],[]⟩ (.normal,⟨sp 65 0 [rx 0,sI 1 a8,sI 6 aA,bx 7,sD 8 dU aN,sI 9 aR],[rW 0 49 1 dU cC.1,(7,.cells ([.d (dU cC.2)])),(997,.vals [.row 0] us)],[]⟩):=by unfold S7 at h;apply g0 (o:=cC);obtain⟨r2,h4,h⟩:=bS h;refine gG 36 (.cx false [(0,7)] [] (.d (dU r2.1)) [(0,.cells ([.d (dU r2.2)]))]) (aU1 h4) ?_;obtain⟨o3,h6,h⟩:=bS h;refine gl (aJ1 rd us h6) ?_;obtain⟨h7,h⟩:=cS h;refine gQ h7.1<|gQ (AF dU h7.2) ?_;obtain⟨x4,h8,h⟩:=xS h;refine gG 58 (.el (dU x4)) (AH dU h8)<|gW 10063 (.sl ((aZ.set aR.toNat x4).map dU)) ?_;obtain⟨h9,h⟩:=cS h;refine gQ h9.1<|gQ (AF dU h9.2) ?_;obtain⟨x5,h10,h⟩:=xS h;refine gG 62 (.el (dU x5)) (AH dU h10)<|gW 10064 (.sl (((aZ.set aR.toNat x4).set (AA .add .i64 a8 o3).toNat x5).map dU)) ?_;obtain⟨h11,h⟩:=cS h;refine gQ h11.1<|gQ (AF dU h11.2) ?_;obtain⟨h12,h⟩:=cS h;refine gQ (Ay dU h12)<|gQ (AS dU aZ aR x4) ?_;obtain⟨h13,h⟩:=cS h;refine gQ h13.1<|gQ (AF dU h13.2) ?_;obtain⟨h14,h⟩:=cS h;refine gQ (Ay dU h14)<|gQ (AS dU (aZ.set aR.toNat x4) (AA .add .i64 a8 o3) x5) ?_;exact lp h
def W7(us:List Value)(s1 s6:Int)(s8 s9:Int)(w0:List Int)(w7:Int):St:=⟨sp 65 0 [rx 0,sI 1 s1,sI 6 s6,bx 7,sD 8 dU s8,sI 9 s9],[rW 0 49 1 dU w0,(7,.cells ([.d (dU w7)])),(997,.vals [.row 0] us)],[]⟩
def W8(us:List Value)(s1 s6 s8:Int)(o:(List Int)):Ex×St:=(.exit 0,⟨sp 65 0 [],[rW 0 49 1 dU o,(997,.vals [.row 0] us)],[]⟩)
theorem aJ2(rd:Option Nat)(us:List Value)(h:S8 a8 aA aN aR aZ bB=some b6):Lq 97 rd 238 (W7 us a8 aA aN aR aZ bB) ((W8 us a8 aA aN) b6):=
 lL (fun s:Int×List Int×Int=>W7 us a8 aA aN s.1 s.2.1 s.2.2) (W8 us a8 aA aN) (aR,aZ,bB) (fun⟨aR,aZ,bB⟩ o h=>by
 unfold HB at h
 refine gQ (of_decide_eq_true rfl:(4:Int)≠0) ?_
 refine iB 33 h (fun h=>?_) fun h=>?_
 obtain⟨o6,h15,h⟩:=bS h
 refine gl (aJ0 rd us h15) ?_
 exact lb h
 exact lb h) h
theorem aJz(rd:Option Nat)(us:List Value)(h:S6 a8 aA aD aZ=some b6):Lq 97 rd 7 ⟨sp 65 0 [rx 0,sI 1 a8,sI 6 aA,sD 15 D.b aD],[rW 0 49 1 dU aZ,(997,.vals [.row 0] us)],[]⟩ (.normal,⟨sp 65 0 [],[rW 0 49 1 dU b6,(997,.vals [.row 0] us)],[]⟩):=by unfold S6 at h;apply g0 (o:=b6);cases aD;replace h:=CL h;exact lp h;replace h:=CM h;obtain⟨r1,h2,h⟩:=bS h;refine gC 19 (aU0 h2)<|gQ (of_decide_eq_true rfl:(4:Int)≠0) ?_;obtain⟨o7,h16,h⟩:=bS h;refine gl (aJ2 rd us h16) ?_;exact lp h
theorem aZq(h:Y2 a8 aA aZ=some bZ):AM Tryz.prog 97 [.row 0,dI a8,dI aA] [rW 0 49 1 dU aZ] (.tup []) [rW 0 49 1 dU bZ]:=by unfold Y2 at h;refine XG.call (ks:=[0]) mixed fun us=>?_;apply g0 (o:=bZ);obtain⟨o8,h17,h⟩:=bS h;refine gl (aJz none us h17) ?_;exact lX h (lv [] [0,997])
theorem aSi(h:Zz aZ a8 aA aN=some aM):AM Tryz.prog 132 [.d ((D.l dU) aZ),dI a8,dI aA,.box 0 0] [(0,.cells ([dI aN]))] (.tup [dI aM.1,dI aM.2.1]) [(0,.cells ([dI aM.2.2]))]:=by unfold Zz at h;refine XG.call (ks:=[3]) mixed fun us=>?_;apply g0 (o:=aM);refine xX 12 dU h fun x1 h=>?_;refine xX 16 dU h fun x2 h=>?_;obtain⟨r3,h3,h⟩:=bS h;refine gQ (E4 h3) ?_;cases r3;replace h:=CL h;refine gW 18 (.ret (.d (D.b false))) ?_;exact lX h (lv [8,9] [0,997]);replace h:=CM h;refine gW 18 (.ret (.d (D.b true))) ?_;exact lX h (lv [8,9] [0,997])
theorem aUw(h:Q9 aZ a8 aA aN aR=some aH):AM Tryz.prog 123 [.d ((D.l dU) aZ),dI a8,dI aA,dI aN,.box 0 0] [(0,.cells ([dI aR]))] (dI aH.1) [(0,.cells ([dI aH.2]))]:=by unfold Q9 at h;refine XG.call (ks:=[4]) mixed fun us=>?_;apply g0 (o:=aH);obtain⟨r1,h1,h⟩:=bS h;refine gG 16 (.cx false [(0,0)] [] (.tup [dI r1.1,dI r1.2.1]) [(0,.cells ([dI r1.2.2]))]) (aSi h1) ?_;obtain⟨r2,h2,h⟩:=bS h;refine gG 24 (.cx false [(0,0)] [] (.tup [dI r2.1,dI r2.2.1]) [(0,.cells ([dI r2.2.2]))]) (aSi h2) ?_;obtain⟨r3,h3,h⟩:=bS h;refine gG 32 (.cx false [(0,0)] [] (.tup [dI r3.1,dI r3.2.1]) [(0,.cells ([dI r3.2.2]))]) (aSi h3) ?_;exact lX h (lv [10] [0,997])
theorem aQq(h:Q0 aZ a8 aA=some aH):AM Tryz.prog 122 [.d ((D.l dU) aZ),dI a8,.box 0 0] [(0,.cells ([dI aA]))] (dI aH.1) [(0,.cells ([dI aH.2]))]:=by unfold Q0 at h;refine XG.call (ks:=[2]) mixed fun us=>?_;apply g0 (o:=aH);obtain⟨r1,h1,h⟩:=bS h;refine gG 14 (.cx false [(0,0)] [] (dI r1.1) [(0,.cells ([dI r1.2]))]) (aUw h1) ?_;exact lX h (lv [6] [0,997])
theorem aMt(rd:Option Nat)(h:O1 aZ a8 aA aN aD aR=some cD):Lq 98 rd 4073 ⟨sp 57 0 [sD 0 (D.l dU) aZ,bx 9,sI 10 a8,sI 11 aA,sI 12 aN,sD 34 D.b aD],[(9,.cells ([dI aR]))],[]⟩ (.normal,⟨sp 57 0 [sD 0 (D.l dU) aZ,bx 9,sI 10 cD.1,sI 11 cD.2.1,sI 12 cD.2.2.1],[(9,.cells ([dI cD.2.2.2]))],[]⟩):=by unfold O1 at h;apply g0 (o:=cD);cases aD;replace h:=CL h;exact lp h;replace h:=CM h;obtain⟨r1,h3,h⟩:=bS h;refine gG 37 (.cx false [(0,9)] [] (dI r1.1) [(0,.cells ([dI r1.2]))]) (aQq h3) ?_;obtain⟨r2,h4,h⟩:=bS h;refine gG 40 (.cx false [(0,9)] [] (dI r2.1) [(0,.cells ([dI r2.2]))]) (aQq h4) ?_;obtain⟨r3,h5,h⟩:=bS h;refine gG 43 (.cx false [(0,9)] [] (dI r3.1) [(0,.cells ([dI r3.2]))]) (aQq h5) ?_;exact lp h
theorem aMs(rd:Option Nat)(h:TH aZ a8 aA aN aR aD bB=some bH):Lq 98 rd 509 ⟨sp 57 0 [sD 0 (D.l dU) aZ,sI 8 a8,bx 9,sI 10 aA,sI 11 aN,sI 12 aR,sD 32 D.b aD],[(9,.cells ([dI bB]))],[]⟩ (.normal,⟨sp 57 0 [bx 9,sI 11 bH.1],[(9,.cells ([dI bH.2]))],[]⟩):=by unfold TH at h;apply g0 (o:=bH);cases aD;replace h:=CL h;exact lp h;replace h:=CM h;obtain⟨o4,h6,h⟩:=bS h;refine gl (aMt rd h6) ?_;obtain⟨r5,h7,h⟩:=bS h;refine gG 48 (.cx false [(0,9)] [] (dI r5.1) [(0,.cells ([dI r5.2]))]) (aUw h7) ?_;exact lp h
theorem bA5(h:Z3 aZ a8 aA=some aH):AM Tryz.prog 98 [.d ((D.l dU) aZ),dI a8,dI aA] [] (.tup [dI aH.1,dI aH.2]) []:=by unfold Z3 at h;apply g0 (o:=aH);refine gQ (of_decide_eq_true rfl:(4:Int)≠0)<|gQ (of_decide_eq_true rfl:(4:Int)≠0)<|gQ (of_decide_eq_true rfl:(4:Int)≠0) ?_;obtain⟨o6,h8,h⟩:=bS h;refine gl (aMs none h8) ?_;refine iB 51 h (fun h=>?_) fun h=>?_;exact lf h;refine iB 54 h (fun h=>?_) fun h=>?_;exact lf h;exact lf h
def aAg(us:List Value)(s6 s7:Int)(w0:List Int):St:=⟨sp 32 0 [rx 0,sI 6 s6,sI 7 s7],[rW 0 49 1 dU w0,(997,.vals [.row 0] us)],[]⟩
def aAh(us:List Value)(o:(List Int)):Ex×St:=(.exit 0,⟨sp 32 0 [],[rW 0 49 1 dU o,(997,.vals [.row 0] us)],[]⟩)
theorem aMk(rd:Option Nat)(us:List Value)(h:TG a8 aA aZ=some b6):Lq 99 rd 14 (aAg us a8 aA aZ) ((aAh us) b6):=
 lL (fun s:Int×Int×List Int=>aAg us s.1 s.2.1 s.2.2) (aAh us) (a8,aA,aZ) (fun⟨a8,aA,aZ⟩ o h=>by
 unfold I9 at h
 refine iB 13 h (fun h=>?_) fun h=>?_
 obtain⟨h2,h⟩:=cS h
 refine gQ h2.1<|gQ (AF dU h2.2) ?_
 obtain⟨x1,h3,h⟩:=xS h
 refine gG 21 (.el (dU x1)) (AH dU h3)<|gW 10026 (.sl ((aZ.set a8.toNat x1).map dU)) ?_
 obtain⟨h4,h⟩:=cS h
 refine gQ h4.1<|gQ (AF dU h4.2) ?_
 obtain⟨x2,h5,h⟩:=xS h
 refine gG 25 (.el (dU x2)) (AH dU h5)<|gW 10027 (.sl (((aZ.set a8.toNat x1).set aA.toNat x2).map dU)) ?_
 obtain⟨h6,h⟩:=cS h
 refine gQ h6.1<|gQ (AF dU h6.2) ?_
 obtain⟨h7,h⟩:=cS h
 refine gQ (Ay dU h7)<|gQ (AS dU aZ a8 x1) ?_
 obtain⟨h8,h⟩:=cS h
 refine gQ h8.1<|gQ (AF dU h8.2) ?_
 obtain⟨h9,h⟩:=cS h
 refine gQ (Ay dU h9)<|gQ (AS dU (aZ.set a8.toNat x1) aA x2) ?_
 exact lb h
 exact lb h) h
theorem bA0(h:Yy a8 aA aZ=some bZ):AM Tryz.prog 99 [.row 0,dI a8,dI aA] [rW 0 49 1 dU aZ] (.tup []) [rW 0 49 1 dU bZ]:=by unfold Yy at h;refine XG.call (ks:=[0]) mixed fun us=>?_;apply g0 (o:=bZ);obtain⟨o3,h10,h⟩:=bS h;refine gl (aMk none us h10) ?_;exact lX h (lv [] [0,997])
def Um(us:List Value)(s1 s2 s8:Int)(w0:List Int)(s7:Int):St:=⟨sp 133 0 [rx 0,sI 1 s1,sI 2 s2,sI 7 s7,sI 8 s8],[rW 0 49 1 dU w0,(997,.vals [.row 0] us)],[]⟩
def Un(us:List Value)(s1 s2 s8:Int)(w0:List Int)(o:Int):Ex×St:=(.exit 2,⟨sp 133 0 [rx 0,sI 1 s1,sI 2 s2,sI 7 o,sI 8 s8],[rW 0 49 1 dU w0,(997,.vals [.row 0] us)],[]⟩)
theorem aF8(rd:Option Nat)(us:List Value)(h:SP a8 aA aN aZ aR=some bB):Lq 100 rd 3728 (Um us a8 aA aN aZ aR) ((Un us a8 aA aN aZ) bB):=
 lL (fun s:Int=>Um us a8 aA aN aZ s) (Un us a8 aA aN aZ) aR (fun aR o h=>by
 unfold Gx at h
 refine iB 20 h (fun h=>?_) fun h=>?_
 obtain⟨h3,h⟩:=cS h
 refine gQ h3.1<|gQ (AF dU h3.2) ?_
 obtain⟨x1,h4,h⟩:=xS h
 refine gG 24 (.el (dU x1)) (AH dU h4) ?_
 obtain⟨h5,h⟩:=cS h
 refine gQ h5.1<|gQ (AF dU h5.2) ?_
 obtain⟨x2,h6,h⟩:=xS h
 refine gG 29 (.el (dU x2)) (AH dU h6) ?_
 obtain⟨r3,h7,h⟩:=bS h
 refine gC 30 (E4 h7) ?_
 refine iB 32 h (fun h=>?_) fun h=>?_
 exact lb h
 exact lb h
 exact lb h) h
def Uo(us:List Value)(s1 s2:Int)(s7 s8 s9:Int)(w0:List Int):St:=⟨sp 133 0 [rx 0,sI 1 s1,sI 2 s2,sI 7 s7,sI 8 s8,sI 9 s9],[rW 0 49 1 dU w0,(997,.vals [.row 0] us)],[]⟩
def Up(us:List Value)(s1 s2:Int)(s7 s8:Int)(o:(List Int)):Ex×St:=(.exit 4,⟨sp 133 0 [rx 0,sI 1 s1,sI 2 s2,sI 7 s7,sI 8 s8],[rW 0 49 1 dU o,(997,.vals [.row 0] us)],[]⟩)
theorem aF9(rd:Option Nat)(us:List Value)(h:SQ a8 aA aN aR bB aZ=some b6):Lq 100 rd 477674 (Uo us a8 aA aN aR bB aZ) ((Up us a8 aA aN aR) b6):=
 lL (fun s:Int×List Int=>Uo us a8 aA aN aR s.1 s.2) (Up us a8 aA aN aR) (bB,aZ) (fun⟨bB,aZ⟩ o h=>by
 unfold Gy at h
 refine iB 65 h (fun h=>?_) fun h=>?_
 obtain⟨h22,h⟩:=cS h
 refine gQ h22.1<|gQ (AF dU h22.2) ?_
 obtain⟨x7,h23,h⟩:=xS h
 refine gG 71 (.el (dU x7)) (AH dU h23) ?_
 obtain⟨h24,h⟩:=cS h
 refine gQ h24.1<|gQ (AF dU h24.2) ?_
 obtain⟨x8,h25,h⟩:=xS h
 refine gG 76 (.el (dU x8)) (AH dU h25) ?_
 obtain⟨r9,h26,h⟩:=bS h
 refine gC 77 (E4 h26) ?_
 refine iB 78 h (fun h=>?_) fun h=>?_
 exact lb h
 obtain⟨h28,h⟩:=cS h
 refine gQ h28.1<|gQ (AF dU h28.2) ?_
 obtain⟨x10,h29,h⟩:=xS h
 refine gG 88 (.el (dU x10)) (AH dU h29)<|gW 10093 (.sl ((aZ.set bB.toNat x10).map dU)) ?_
 obtain⟨h30,h⟩:=cS h
 refine gQ h30.1<|gQ (AF dU h30.2) ?_
 obtain⟨x11,h31,h⟩:=xS h
 refine gG 92 (.el (dU x11)) (AH dU h31)<|gW 10094 (.sl (((aZ.set bB.toNat x10).set (AA .sub .i64 bB 1).toNat x11).map dU)) ?_
 obtain⟨h32,h⟩:=cS h
 refine gQ h32.1<|gQ (AF dU h32.2) ?_
 obtain⟨h33,h⟩:=cS h
 refine gQ (Ay dU h33)<|gQ (AS dU aZ bB x10) ?_
 obtain⟨h34,h⟩:=cS h
 refine gQ h34.1<|gQ (AF dU h34.2) ?_
 obtain⟨h35,h⟩:=cS h
 refine gQ (Ay dU h35)<|gQ (AS dU (aZ.set bB.toNat x10) (AA .sub .i64 bB 1) x11) ?_
 exact lb h
 exact lb h) h
theorem aF5(rd:Option Nat)(us:List Value)(h:N4 a8 aA aN aR aD aZ=some b6):Lq 100 rd 59709 ⟨sp 133 0 [rx 0,sI 1 a8,sI 2 aA,sI 7 aN,sI 8 aR,sD 61 D.b aD],[rW 0 49 1 dU aZ,(997,.vals [.row 0] us)],[]⟩ (.normal,⟨sp 133 0 [rx 0,sI 1 a8,sI 2 aA,sI 7 aN,sI 8 aR],[rW 0 49 1 dU b6,(997,.vals [.row 0] us)],[]⟩):=by unfold N4 at h;apply g0 (o:=b6);cases aD;replace h:=CL h;exact lp h;replace h:=CM h;obtain⟨o12,h36,h⟩:=bS h;refine gl (aF9 rd us h36) ?_;exact lp h
def Uq(us:List Value)(s1 s2:Int)(s7 s8 s10:Int)(w0:List Int):St:=⟨sp 133 0 [rx 0,sI 1 s1,sI 2 s2,sI 7 s7,sI 8 s8,sI 10 s10],[rW 0 49 1 dU w0,(997,.vals [.row 0] us)],[]⟩
def Ur(us:List Value)(s1 s2:Int)(s7 s8:Int)(o:(List Int)):Ex×St:=(.exit 6,⟨sp 133 0 [rx 0,sI 1 s1,sI 2 s2,sI 7 s7,sI 8 s8],[rW 0 49 1 dU o,(997,.vals [.row 0] us)],[]⟩)
theorem aGa(rd:Option Nat)(us:List Value)(h:SR a8 aA aN aR bB aZ=some b6):Lq 100 rd 477690 (Uq us a8 aA aN aR bB aZ) ((Ur us a8 aA aN aR) b6):=
 lL (fun s:Int×List Int=>Uq us a8 aA aN aR s.1 s.2) (Ur us a8 aA aN aR) (bB,aZ) (fun⟨bB,aZ⟩ o h=>by
 unfold Gz at h
 refine iB 103 h (fun h=>?_) fun h=>?_
 obtain⟨h40,h⟩:=cS h
 refine gQ h40.1<|gQ (AF dU h40.2) ?_
 obtain⟨x14,h41,h⟩:=xS h
 refine gG 109 (.el (dU x14)) (AH dU h41) ?_
 obtain⟨h42,h⟩:=cS h
 refine gQ h42.1<|gQ (AF dU h42.2) ?_
 obtain⟨x15,h43,h⟩:=xS h
 refine gG 114 (.el (dU x15)) (AH dU h43) ?_
 obtain⟨r16,h44,h⟩:=bS h
 refine gC 115 (E4 h44) ?_
 refine iB 116 h (fun h=>?_) fun h=>?_
 exact lb h
 obtain⟨h46,h⟩:=cS h
 refine gQ h46.1<|gQ (AF dU h46.2) ?_
 obtain⟨x17,h47,h⟩:=xS h
 refine gG 126 (.el (dU x17)) (AH dU h47)<|gW 10131 (.sl ((aZ.set bB.toNat x17).map dU)) ?_
 obtain⟨h48,h⟩:=cS h
 refine gQ h48.1<|gQ (AF dU h48.2) ?_
 obtain⟨x18,h49,h⟩:=xS h
 refine gG 130 (.el (dU x18)) (AH dU h49)<|gW 10132 (.sl (((aZ.set bB.toNat x17).set (AA .sub .i64 bB 1).toNat x18).map dU)) ?_
 obtain⟨h50,h⟩:=cS h
 refine gQ h50.1<|gQ (AF dU h50.2) ?_
 obtain⟨h51,h⟩:=cS h
 refine gQ (Ay dU h51)<|gQ (AS dU aZ bB x17) ?_
 obtain⟨h52,h⟩:=cS h
 refine gQ h52.1<|gQ (AF dU h52.2) ?_
 obtain⟨h53,h⟩:=cS h
 refine gQ (Ay dU h53)<|gQ (AS dU (aZ.set bB.toNat x17) (AA .sub .i64 bB 1) x18) ?_
 exact lb h
 exact lb h) h
theorem aF6(rd:Option Nat)(us:List Value)(h:N5 a8 aA aN aR aD aZ=some b6):Lq 100 rd 59711 ⟨sp 133 0 [rx 0,sI 1 a8,sI 2 aA,sI 7 aN,sI 8 aR,sD 98 D.b aD],[rW 0 49 1 dU aZ,(997,.vals [.row 0] us)],[]⟩ (.normal,⟨sp 133 0 [rx 0,sI 1 a8,sI 2 aA,sI 7 aN,sI 8 aR],[rW 0 49 1 dU b6,(997,.vals [.row 0] us)],[]⟩):=by unfold N5 at h;apply g0 (o:=b6);cases aD;replace h:=CL h;exact lp h;replace h:=CM h;obtain⟨o19,h54,h⟩:=bS h;refine gl (aGa rd us h54) ?_;exact lp h
theorem aF4(rd:Option Nat)(us:List Value)(h:SO a8 aA aN aR aZ=some cE):Lq 100 rd 466 ⟨sp 133 0 [rx 0,sI 1 a8,sI 2 aA,sI 7 aN,sI 8 aR],[rW 0 49 1 dU aZ,(997,.vals [.row 0] us)],[]⟩ (match (generalizing:=false) cE with
 | .inl cE=>(.normal,⟨sp 133 0 [rx 0,sI 1 a8,sI 2 aA,sI 7 cE.1,sI 8 aR],[rW 0 49 1 dU cE.2,(997,.vals [.row 0] us)],[]⟩)
 | .inr cE=>(.ret,⟨sp 133 0 [sD 6 D.b cE],[rW 0 49 1 dU aZ,(997,.vals [.row 0] us)],[]⟩)):=by
 unfold SO at h
 apply g0 (o:=cE)
 obtain⟨o4,h9,h⟩:=bS h
 refine gl (aF8 rd us h9) ?_
 refine iB 37 h (fun h=>?_) fun h=>?_
 exact lp h
 refine iB 41 h (fun h=>?_) fun h=>?_
 exact lp h
 obtain⟨h12,h⟩:=cS h
 refine gQ h12.1<|gQ (AF dU h12.2) ?_
 obtain⟨x5,h13,h⟩:=xS h
 refine gG 51 (.el (dU x5)) (AH dU h13)<|gW 10056 (.sl ((aZ.set o4.toNat x5).map dU)) ?_
 obtain⟨h14,h⟩:=cS h
 refine gQ h14.1<|gQ (AF dU h14.2) ?_
 obtain⟨x6,h15,h⟩:=xS h
 refine gG 55 (.el (dU x6)) (AH dU h15)<|gW 10057 (.sl (((aZ.set o4.toNat x5).set (AA .sub .i64 o4 1).toNat x6).map dU)) ?_
 obtain⟨h16,h⟩:=cS h
 refine gQ h16.1<|gQ (AF dU h16.2) ?_
 obtain⟨h17,h⟩:=cS h
 refine gQ (Ay dU h17)<|gQ (AS dU aZ o4 x5) ?_
 obtain⟨h18,h⟩:=cS h
 refine gQ h18.1<|gQ (AF dU h18.2) ?_
 obtain⟨h19,h⟩:=cS h
 refine gQ (Ay dU h19)<|gQ (AS dU (aZ.set o4.toNat x5) (AA .sub .i64 o4 1) x6) ?_
 obtain⟨o13,h37,h⟩:=bS h
 refine gl (aF5 rd us h37) ?_
 obtain⟨o20,h55,h⟩:=bS h
 refine gl (aF6 rd us h55) ?_
 exact lp h
def Uk(us:List Value)(s1 s2:Int)(s7 s8:Int)(w0:List Int):St:=⟨sp 133 0 [rx 0,sI 1 s1,sI 2 s2,sI 7 s7,sI 8 s8],[rW 0 49 1 dU w0,(997,.vals [.row 0] us)],[]⟩
def Ul(us:List Value)(s1 s2:Int)(o:(List Int)⊕(Bool×List Int)):Ex×St:=match o with
 | .inl o=>(.exit 0,⟨sp 133 0 [],[rW 0 49 1 dU o,(997,.vals [.row 0] us)],[]⟩)
 | .inr o=>(.ret,⟨sp 133 0 [sD 6 D.b o.1],[rW 0 49 1 dU o.2,(997,.vals [.row 0] us)],[]⟩)
theorem aF7(rd:Option Nat)(us:List Value)(h:N6 a8 aA aN aR aZ=some cF):Lq 100 rd 58 (Uk us a8 aA aN aR aZ) ((Ul us a8 aA) cF):=
 lL (fun s:Int×Int×List Int=>Uk us a8 aA s.1 s.2.1 s.2.2) (Ul us a8 aA) (aN,aR,aZ) (fun⟨aN,aR,aZ⟩ o h=>by
 unfold Gw at h
 refine iB 14 h (fun h=>?_) fun h=>?_
 obtain⟨o21,h56,h⟩:=bS h
 refine gl (aF4 rd us h56) ?_
 replace h:=AL h
 rcases h with⟨o22,rfl,h⟩|⟨o23,rfl,h⟩
 exact lb h
 exact lb h
 exact lb h) h
theorem aYm(h:X7 a8 aA aZ=some cG):AM Tryz.prog 100 [.row 0,dI a8,dI aA] [rW 0 49 1 dU aZ] (.d (D.b cG.1)) [rW 0 49 1 dU cG.2]:=by
 unfold X7 at h;refine XG.call (ks:=[0]) mixed fun us=>?_;apply g0 (o:=cG);obtain⟨o24,h57,h⟩:=bS h;refine gl (aF7 none us h57) ?_;replace h:=AL h;rcases h with⟨o25,rfl,h⟩|⟨o26,rfl,h⟩
 exact lX h (lv [6] [0,997]);exact lX h (lv [6] [0,997])
def WB(us:List Value)(s1 s10:Int)(w0:List Int)(s9:Int):St:=⟨sp 84 0 [rx 0,sI 1 s1,sI 9 s9,sI 10 s10],[rW 0 49 1 dU w0,(997,.vals [.row 0] us)],[]⟩
def WC(us:List Value)(s1 s10:Int)(w0:List Int)(o:Int):Ex×St:=(.exit 2,⟨sp 84 0 [rx 0,sI 1 s1,sI 9 o,sI 10 s10],[rW 0 49 1 dU w0,(997,.vals [.row 0] us)],[]⟩)
theorem aIl(rd:Option Nat)(us:List Value)(h:Sr a8 aA aZ aN=some aR):Lq 102 rd 960 (WB us a8 aA aZ aN) ((WC us a8 aA aZ) aR):=
 lL (fun s:Int=>WB us a8 aA aZ s) (WC us a8 aA aZ) aN (fun aN o h=>by
 unfold G5 at h
 refine iB 32 h (fun h=>?_) fun h=>?_
 obtain⟨h10,h⟩:=cS h
 refine gQ h10.1<|gQ (AF dU h10.2) ?_
 obtain⟨x3,h11,h⟩:=xS h
 refine gG 36 (.el (dU x3)) (AH dU h11) ?_
 obtain⟨h12,h⟩:=cS h
 refine gQ h12.1<|gQ (AF dU h12.2) ?_
 obtain⟨x4,h13,h⟩:=xS h
 refine gG 40 (.el (dU x4)) (AH dU h13) ?_
 obtain⟨r5,h14,h⟩:=bS h
 refine gC 41 (E4 h14) ?_
 refine iB 43 h (fun h=>?_) fun h=>?_
 exact lb h
 exact lb h
 exact lb h) h
def WD(us:List Value)(s1 s9:Int)(w0:List Int)(s10:Int):St:=⟨sp 84 0 [rx 0,sI 1 s1,sI 9 s9,sI 10 s10],[rW 0 49 1 dU w0,(997,.vals [.row 0] us)],[]⟩
def WE(us:List Value)(s1 s9:Int)(w0:List Int)(o:Int):Ex×St:=(.exit 4,⟨sp 84 0 [rx 0,sI 1 s1,sI 9 s9,sI 10 o],[rW 0 49 1 dU w0,(997,.vals [.row 0] us)],[]⟩)
theorem aIm(rd:Option Nat)(us:List Value)(h:Ss a8 aA aZ aN=some aR):Lq 102 rd 1924 (WD us a8 aA aZ aN) ((WE us a8 aA aZ) aR):=
 lL (fun s:Int=>WD us a8 aA aZ s) (WE us a8 aA aZ) aN (fun aN o h=>by
 unfold G6 at h
 refine iB 49 h (fun h=>?_) fun h=>?_
 obtain⟨h18,h⟩:=cS h
 refine gQ h18.1<|gQ (AF dU h18.2) ?_
 obtain⟨x7,h19,h⟩:=xS h
 refine gG 53 (.el (dU x7)) (AH dU h19) ?_
 obtain⟨h20,h⟩:=cS h
 refine gQ h20.1<|gQ (AF dU h20.2) ?_
 obtain⟨x8,h21,h⟩:=xS h
 refine gG 57 (.el (dU x8)) (AH dU h21) ?_
 obtain⟨r9,h22,h⟩:=bS h
 refine gQ (E4 h22) ?_
 cases r9
 replace h:=CL h
 refine gW 58 (.ret (.d (D.b false))) ?_
 exact lb h
 replace h:=CM h
 refine gW 58 (.ret (.d (D.b true))) ?_
 exact lb h
 exact lb h) h
def V9(us:List Value)(s1 s9 s10:Int)(w0:List Int):St:=⟨sp 84 0 [rx 0,sI 1 s1,sI 9 s9,sI 10 s10],[rW 0 49 1 dU w0,(997,.vals [.row 0] us)],[]⟩
def WA(us:List Value)(s1:Int)(o:(Int×List Int)):Ex×St:=(.exit 0,⟨sp 84 0 [sI 9 o.1],[rW 0 49 1 dU o.2,(997,.vals [.row 0] us)],[]⟩)
theorem aIk(rd:Option Nat)(us:List Value)(h:Sq a8 aA aN aZ=some cH):Lq 102 rd 60 (V9 us a8 aA aN aZ) ((WA us a8) cH):=
 lL (fun s:Int×Int×List Int=>V9 us a8 s.1 s.2.1 s.2.2) (WA us a8) (aA,aN,aZ) (fun⟨aA,aN,aZ⟩ o h=>by
 unfold If at h
 obtain⟨o6,h16,h⟩:=bS h
 refine gl (aIl rd us h16) ?_
 obtain⟨o10,h24,h⟩:=bS h
 refine gl (aIm rd us h24) ?_
 refine iB 64 h (fun h=>?_) fun h=>?_
 exact lb h
 obtain⟨h26,h⟩:=cS h
 refine gQ h26.1<|gQ (AF dU h26.2) ?_
 obtain⟨x11,h27,h⟩:=xS h
 refine gG 72 (.el (dU x11)) (AH dU h27)<|gW 10077 (.sl ((aZ.set o6.toNat x11).map dU)) ?_
 obtain⟨h28,h⟩:=cS h
 refine gQ h28.1<|gQ (AF dU h28.2) ?_
 obtain⟨x12,h29,h⟩:=xS h
 refine gG 76 (.el (dU x12)) (AH dU h29)<|gW 10078 (.sl (((aZ.set o6.toNat x11).set o10.toNat x12).map dU)) ?_
 obtain⟨h30,h⟩:=cS h
 refine gQ h30.1<|gQ (AF dU h30.2) ?_
 obtain⟨h31,h⟩:=cS h
 refine gQ (Ay dU h31)<|gQ (AS dU aZ o6 x11) ?_
 obtain⟨h32,h⟩:=cS h
 refine gQ h32.1<|gQ (AF dU h32.2) ?_
 obtain⟨h33,h⟩:=cS h
 refine gQ (Ay dU h33)<|gQ (AS dU (aZ.set o6.toNat x11) o10 x12) ?_
 exact lb h) h
theorem aQ9(h:Xo a8 aA aN aZ=some cI):AM Tryz.prog 102 [.row 0,dI a8,dI aA,dI aN] [rW 0 49 1 dU aZ] (dI cI.1) [rW 0 49 1 dU cI.2]:=by unfold Xo at h;refine XG.call (ks:=[0]) mixed fun us=>?_;apply g0 (o:=cI);obtain⟨h1,h⟩:=cS h;refine gQ h1.1<|gQ (AF dU h1.2) ?_;obtain⟨x1,h2,h⟩:=xS h;refine gG 18 (.el (dU x1)) (AH dU h2)<|gW 10023 (.sl ((aZ.set a8.toNat x1).map dU)) ?_;obtain⟨h3,h⟩:=cS h;refine gQ h3.1<|gQ (AF dU h3.2) ?_;obtain⟨x2,h4,h⟩:=xS h;refine gG 22 (.el (dU x2)) (AH dU h4)<|gW 10024 (.sl (((aZ.set a8.toNat x1).set aN.toNat x2).map dU)) ?_;obtain⟨h5,h⟩:=cS h;refine gQ h5.1<|gQ (AF dU h5.2) ?_;obtain⟨h6,h⟩:=cS h;refine gQ (Ay dU h6)<|gQ (AS dU aZ a8 x1) ?_;obtain⟨h7,h⟩:=cS h;refine gQ h7.1<|gQ (AF dU h7.2) ?_;obtain⟨h8,h⟩:=cS h;refine gQ (Ay dU h8)<|gQ (AS dU (aZ.set a8.toNat x1) aN x2) ?_;obtain⟨o13,h34,h⟩:=bS h;refine gl (aIk none us h34) ?_;exact lX h (lv [8] [0,997])
def U3(us:List Value)(s1 s11:Int)(w0:List Int)(s10:Int):St:=⟨sp 168 0 [rx 0,sI 1 s1,sI 10 s10,sI 11 s11],[rW 0 49 1 dU w0,(997,.vals [.row 0] us)],[]⟩
def U4(us:List Value)(s1 s11:Int)(w0:List Int)(o:Int):Ex×St:=(.exit 0,⟨sp 168 0 [rx 0,sI 1 s1,sI 10 o,sI 11 s11],[rW 0 49 1 dU w0,(997,.vals [.row 0] us)],[]⟩)
theorem aGt(rd:Option Nat)(us:List Value)(h:OG a8 aA aZ aN=some aR):Lq 103 rd 60 (U3 us a8 aA aZ aN) ((U4 us a8 aA aZ) aR):=
 lL (fun s:Int=>U3 us a8 aA aZ s) (U4 us a8 aA aZ) aN (fun aN o h=>by
 unfold G1 at h
 refine iB 33 h (fun h=>?_) fun h=>?_
 obtain⟨h10,h⟩:=cS h
 refine gQ h10.1<|gQ (AF dU h10.2) ?_
 obtain⟨x3,h11,h⟩:=xS h
 refine gG 37 (.el (dU x3)) (AH dU h11) ?_
 obtain⟨h12,h⟩:=cS h
 refine gQ h12.1<|gQ (AF dU h12.2) ?_
 obtain⟨x4,h13,h⟩:=xS h
 refine gG 41 (.el (dU x4)) (AH dU h13) ?_
 obtain⟨r5,h14,h⟩:=bS h
 refine gQ (E4 h14) ?_
 cases r5
 replace h:=CL h
 refine gW 42 (.ret (.d (D.b false))) ?_
 exact lb h
 replace h:=CM h
 refine gW 42 (.ret (.d (D.b true))) ?_
 exact lb h
 exact lb h) h
def U5(us:List Value)(s1 s10:Int)(w0:List Int)(s11:Int):St:=⟨sp 168 0 [rx 0,sI 1 s1,sI 10 s10,sI 11 s11],[rW 0 49 1 dU w0,(997,.vals [.row 0] us)],[]⟩
def U6(us:List Value)(s1 s10:Int)(w0:List Int)(o:Int):Ex×St:=(.exit 2,⟨sp 168 0 [rx 0,sI 1 s1,sI 10 s10,sI 11 o],[rW 0 49 1 dU w0,(997,.vals [.row 0] us)],[]⟩)
theorem aGu(rd:Option Nat)(us:List Value)(h:OH a8 aA aZ aN=some aR):Lq 103 rd 124 (U5 us a8 aA aZ aN) ((U6 us a8 aA aZ) aR):=
 lL (fun s:Int=>U5 us a8 aA aZ s) (U6 us a8 aA aZ) aN (fun aN o h=>by
 unfold G2 at h
 refine iB 49 h (fun h=>?_) fun h=>?_
 obtain⟨h18,h⟩:=cS h
 refine gQ h18.1<|gQ (AF dU h18.2) ?_
 obtain⟨x7,h19,h⟩:=xS h
 refine gG 53 (.el (dU x7)) (AH dU h19) ?_
 obtain⟨h20,h⟩:=cS h
 refine gQ h20.1<|gQ (AF dU h20.2) ?_
 obtain⟨x8,h21,h⟩:=xS h
 refine gG 57 (.el (dU x8)) (AH dU h21) ?_
 obtain⟨r9,h22,h⟩:=bS h
 refine gC 58 (E4 h22) ?_
 refine iB 60 h (fun h=>?_) fun h=>?_
 exact lb h
 exact lb h
 exact lb h) h
def U9(us:List Value)(s1 s11:Int)(w0:List Int)(s10:Int):St:=⟨sp 168 0 [rx 0,sI 1 s1,sI 10 s10,sI 11 s11],[rW 0 49 1 dU w0,(997,.vals [.row 0] us)],[]⟩
def VA(us:List Value)(s1 s11:Int)(w0:List Int)(o:Int):Ex×St:=(.exit 6,⟨sp 168 0 [rx 0,sI 1 s1,sI 10 o,sI 11 s11],[rW 0 49 1 dU w0,(997,.vals [.row 0] us)],[]⟩)
theorem aGy(rd:Option Nat)(us:List Value)(h:aGx a8 aA aZ aN=some aR):Lq 103 rd 65472 (U9 us a8 aA aZ aN) ((VA us a8 aA aZ) aR):=
 lL (fun s:Int=>U9 us a8 aA aZ s) (VA us a8 aA aZ) aN (fun aN o h=>by
 unfold OI at h
 refine iB 102 h (fun h=>?_) fun h=>?_
 obtain⟨h43,h⟩:=cS h
 refine gQ h43.1<|gQ (AF dU h43.2) ?_
 obtain⟨x15,h44,h⟩:=xS h
 refine gG 106 (.el (dU x15)) (AH dU h44) ?_
 obtain⟨h45,h⟩:=cS h
 refine gQ h45.1<|gQ (AF dU h45.2) ?_
 obtain⟨x16,h46,h⟩:=xS h
 refine gG 110 (.el (dU x16)) (AH dU h46) ?_
 obtain⟨r17,h47,h⟩:=bS h
 refine gQ (E4 h47) ?_
 cases r17
 replace h:=CL h
 refine gW 111 (.ret (.d (D.b false))) ?_
 exact lb h
 replace h:=CM h
 refine gW 111 (.ret (.d (D.b true))) ?_
 exact lb h
 exact lb h) h
def VB(us:List Value)(s1 s10:Int)(w0:List Int)(s11:Int):St:=⟨sp 168 0 [rx 0,sI 1 s1,sI 10 s10,sI 11 s11],[rW 0 49 1 dU w0,(997,.vals [.row 0] us)],[]⟩
def VC(us:List Value)(s1 s10:Int)(w0:List Int)(o:Int):Ex×St:=(.exit 8,⟨sp 168 0 [rx 0,sI 1 s1,sI 10 s10,sI 11 o],[rW 0 49 1 dU w0,(997,.vals [.row 0] us)],[]⟩)
theorem aG0(rd:Option Nat)(us:List Value)(h:aGz a8 aA aZ aN=some aR):Lq 103 rd 130948 (VB us a8 aA aZ aN) ((VC us a8 aA aZ) aR):=
 lL (fun s:Int=>VB us a8 aA aZ s) (VC us a8 aA aZ) aN (fun aN o h=>by
 unfold OJ at h
 refine iB 118 h (fun h=>?_) fun h=>?_
 obtain⟨h51,h⟩:=cS h
 refine gQ h51.1<|gQ (AF dU h51.2) ?_
 obtain⟨x19,h52,h⟩:=xS h
 refine gG 122 (.el (dU x19)) (AH dU h52) ?_
 obtain⟨h53,h⟩:=cS h
 refine gQ h53.1<|gQ (AF dU h53.2) ?_
 obtain⟨x20,h54,h⟩:=xS h
 refine gG 126 (.el (dU x20)) (AH dU h54) ?_
 obtain⟨r21,h55,h⟩:=bS h
 refine gC 127 (E4 h55) ?_
 refine iB 129 h (fun h=>?_) fun h=>?_
 exact lb h
 exact lb h
 exact lb h) h
def U7(us:List Value)(s1 s10 s11:Int)(w0:List Int):St:=⟨sp 168 0 [rx 0,sI 1 s1,sI 10 s10,sI 11 s11],[rW 0 49 1 dU w0,(997,.vals [.row 0] us)],[]⟩
end Go.Ac
