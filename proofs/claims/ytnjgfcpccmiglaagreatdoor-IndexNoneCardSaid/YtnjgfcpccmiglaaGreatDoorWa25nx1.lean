/- Own work, printed: the functions compute these. -/
import Derived.Test.YtnjgfcpccmiglaaGreatDoorSh25n
import Derived.Test.YtnjgfcpccmiglaaGreatDoorProg
set_option linter.unusedVariables false
set_option linter.unusedSimpArgs false
namespace Go.Ac
open Go.Proofs
variable {a6 bL:AA}
variable {a7 a9 aT b7 cK cP cQ:Int}
variable {a8:Unit⊕Unit}
variable {aA aU cV:Bool}
variable {aB:X9}
variable {aC cH:List UInt8}
variable {aD:List X9}
variable {aE:Unit⊕Int}
variable {aF:Int×Bool}
variable {aG aK:List (List UInt8)}
variable {aH bV cU:List Int}
variable {aI:Unit⊕(Int×Int)}
variable {aJ:Int×Int}
variable {aL:Xc}
variable {aM:List Xc}
variable {aN d7:X4}
variable {aO:Xf}
variable {aP:List Xf}
variable {aQ:(List (List UInt8))}
variable {aR:List Xv}
variable {aS:X2×Bool}
variable {aV:Int⊕(Unit⊕(Unit⊕(Unit⊕(Unit⊕(Unit⊕Unit)))))}
variable {aW:Unit⊕(Unit⊕(Unit⊕(Unit⊕(Unit⊕(Unit⊕Int)))))}
variable {aX:Int⊕(Unit⊕(Unit⊕(Unit⊕(Unit⊕Int))))}
variable {aY:Unit⊕(Unit⊕(Unit⊕(Unit⊕Int)))}
variable {aZ:Unit⊕(Unit⊕(Unit⊕Int))}
variable {b6:Unit⊕(Unit⊕Int)}
variable {b8:List X8}
variable {b9:List X2}
variable {bA:X8}
variable {bB:X2}
variable {bC:(List X2)}
variable {bD:Bool×Int}
variable {bE bG:Ar}
variable {bH:List Ar}
variable {bI bK:X5}
variable {bJ:Bool×List X2×Int}
variable {bM:(List X2×Int)⊕(List X2×Int)}
variable {bN bW:List AT}
variable {bO:AT}
variable {bP bX:X3}
variable {bQ:Bool×Int×List X2}
variable {bR:List X5}
variable {bU:(Int×List X2)⊕(Int×List X2)}
variable {bY:List X3}
variable {bZ:(List Int)}
variable {c9:Unit}
variable {cA:AA×MP Int (List X0)×MP (List UInt8) (List Int)}
variable {cB:X0}
variable {cC cD:List X0}
variable {cE:Unit⊕X4}
variable {cF:X4×Bool}
variable {cG:(List UInt8)}
variable {cI:List X4}
variable {cJ:(List UInt8)⊕Unit}
variable {cM:(Int×Int)}
variable {cN:MP Int (List X0)}
variable {cO:MP (List UInt8) (List Int)}
variable {cR:(AA×MP Int (List X0)×MP (List UInt8) (List Int))}
variable {cT:Bool×AA×MP Int (List X0)×MP (List UInt8) (List Int)}
variable {cW:A8}
variable {cX:(List Int×Bool)}
variable {cY:List Int×AA×MP Int (List X0)×MP (List UInt8) (List Int)}
variable {cZ:List A8}
variable {d2:(List Int×AA×MP Int (List X0)×MP (List UInt8) (List Int))}
variable {d3:(List (List UInt8))⊕Unit}
variable {d4:X4×Int}
variable {d5:Int×Int×Int}
variable {d6:Unit⊕Bool}
theorem mixed:Tryz.prog.follows .mixedOrders=true:=by kernel_rfl
theorem lB{β:Type}{ws:List (Nat×W)}{lw:List Lw}{Q:List Prop}{o v:β}{rd:Option Nat}{root:Code}{q:List Nat}{s:St}{E:β->Ex}{S:β->St}(h:some v=some o)(l:List Ws)(he:(cj Q True/\(E v=E v/\S v=S v))=NP Tryz.prog rd root ws lw q l s (E v) (S v):=by kernel_rfl):Gl ws lw Q (fun o=>Arr Tryz.prog rd root q s (E o) (S o)) o:=lB_ mixed h l he
theorem lP{β:Type}{ws:List (Nat×W)}{lw:List Lw}{Q:List Prop}{o v:β}{rd:Option Nat}{root:Code}{q:List Nat}{s:St}{E:β->Ex}{S:β->St}(h:some v=some o)(l:List Ws)(he:(cj Q True/\(E v=E v/\S v=S v))=NP Tryz.prog rd root ws lw q l s (E v) (S v):=by kernel_rfl):Gl ws lw Q (fun o=>Dz Tryz.prog rd root q s (E o) (S o)) o:=lP_ mixed h l he
theorem lb{β:Type}{ws:List (Nat×W)}{lw:List Lw}{Q:List Prop}{o v:β}{rd:Option Nat}{root:Code}{q:List Nat}{s:St}{E:β->Ex}{S:β->St}(h:some v=some o)(he:(cj Q True/\(E v=E v/\S v=S v))=NP Tryz.prog rd root ws lw q (lvS (S v)) s (E v) (S v):=by kernel_rfl):Gl ws lw Q (fun o=>Arr Tryz.prog rd root q s (E o) (S o)) o:=lB_ mixed h _ he
theorem lp{β:Type}{ws:List (Nat×W)}{lw:List Lw}{Q:List Prop}{o v:β}{rd:Option Nat}{root:Code}{q:List Nat}{s:St}{E:β->Ex}{S:β->St}(h:some v=some o)(he:(cj Q True/\(E v=E v/\S v=S v))=NP Tryz.prog rd root ws lw q (lvS (S v)) s (E v) (S v):=by kernel_rfl):Gl ws lw Q (fun o=>Dz Tryz.prog rd root q s (E o) (S o)) o:=lP_ mixed h _ he
theorem lF{β:Type}{ws:List (Nat×W)}{lw:List Lw}{Q:List Prop}{o v:β}{f:FuncId}{args:List A}{R:β->A}(h:some v=some o)(l:List Ws)(he:(cj Q True/\(R v=R v/\true=true))=Sl Tryz.prog f ws lw l args (R v):=by kernel_rfl):Gl ws lw Q (fun o=>AL Tryz.prog f args [] (R o) []) o:=lF_ mixed h l he
theorem lf{β:Type}{ws:List (Nat×W)}{lw:List Lw}{Q:List Prop}{o v:β}{f:FuncId}{args:List A}{R:β->A}(h:some v=some o)(he:(cj Q True/\(R v=R v/\true=true))=Sl Tryz.prog f ws lw [] args (R v):=by kernel_rfl):Gl ws lw Q (fun o=>AL Tryz.prog f args [] (R o) []) o:=lF_ mixed h [] he
abbrev Lq(n:Nat)(rd:Option Nat)(p:Nat)(s:St)(x:Ex×St):Prop:=Dz Tryz.prog rd (EF Tryz.prog n) (pth p) s x.1 x.2
theorem lI{β:Type}{ws:List (Nat×W)}{lw:List Lw}{Q:List Prop}{o v:β}{f:FuncId}{args:List A}{F0:Bx}(hF:Far F0){r:A}{F:β->Bx}(hc:∀f,∀p∈F f,∀m,p.2.has m=true->m∈AK (F f))(h:some v=some o)(l:List Ws)(he:(cj Q True/\(r=r/\F v=F v/\true=true))=Vk Tryz.prog f ws lw l args F0 r (F v):=by kernel_rfl):Gl ws lw Q (fun o=>IK Tryz.prog f args F0 r (F o)) o:=lI_ mixed hF hc h l he
theorem lX{β:Type}{ws:List (Nat×W)}{lw:List Lw}{Q:List Prop}{o v:β}{f:FuncId}{args:List A}{X:Bx}{ks:List Nat}{us:List Value}{R:β->A}{X1:β->Bx}(h:some v=some o)(l:List Ws)(he:(cj Q True/\(R v=R v/\X1 v++[(vx,.vals (Eg args ks) us)]=X1 v++[(vx,.vals (Eg args ks) us)]/\true=true))=Vl Tryz.prog f ws lw l args X ks us (R v) (X1 v):=by kernel_rfl):Gl ws lw Q (fun o=>XG Tryz.prog f args X ks us (R o) (X1 o)) o:=lX_ h l he
def Nk(w1:AA)(s3:Int):St:=⟨sp 166 0 [bx 1,sI 3 s3],[cL 1 AA.D w1],[]⟩
def Nl(w1:AA)(o:Unit⊕Unit):Ex×St:=match o with
 | .inl o=>(.exit 0,⟨sp 166 0 [bx 1],[cL 1 AA.D w1],[]⟩)
 | .inr o=>(.ret,⟨sp 166 0 [sI 2 0],[],[]⟩)
theorem S1(rd:Option Nat)(h:V9 a6 a7=some a8):Lq 20 rd 58 (Nk a6 a7) ((Nl a6) a8):=
 lL (fun s:Int=>Nk a6 s) (Nl a6) a7 (fun a7 o h=>by
 unfold En at h
 refine gN 58 X9.D a6.decls ?_
 refine iB 59 h (fun h=>?_) fun h=>?_
 refine xX 65 X9.D h fun x1 h=>?_
 refine gN 68 dZ x1.types ?_
 refine iB 70 h (fun h=>?_) fun h=>?_
 exact lb h
 refine xX 74 X9.D h fun x2 h=>?_
 refine gG 77 (.int (x2.name.length:Int)) (A4 x2.name) ?_
 refine iB 79 h (fun h=>?_) fun h=>?_
 exact lb h
 exact lb h
 exact lb h) h
def No(s4:Int)(w1:AA)(s5:Int):St:=⟨sp 166 0 [bx 1,sI 4 s4,sI 5 s5],[cL 1 AA.D w1],[]⟩
def Np(s4:Int)(w1:AA)(o:Unit⊕Unit):Ex×St:=match o with
 | .inl o=>(.exit 4,⟨sp 166 0 [bx 1,sI 4 s4],[cL 1 AA.D w1],[]⟩)
 | .inr o=>(.ret,⟨sp 166 0 [sI 2 0],[],[]⟩)
theorem S3(rd:Option Nat)(h:WB a7 a6 a9=some a8):Lq 20 rd 15654 (No a7 a6 a9) ((Np a7 a6) a8):=
 lL (fun s:Int=>No a7 a6 s) (Np a7 a6) a9 (fun a9 o h=>by
 unfold Ep at h
 refine xX 99 X3.D h fun x7 h=>?_
 refine gN 102 AT.D x7.args ?_
 refine iB 103 h (fun h=>?_) fun h=>?_
 refine xX 109 X3.D h fun x8 h=>?_
 refine xX 113 AT.D h fun x9 h=>?_
 refine gG 117 (.int (x9.value.str.length:Int)) (A4 x9.value.str) ?_
 refine iB 118 h (fun h=>?_) fun h=>?_
 exact lb h
 exact lb h
 exact lb h) h
def Nm(w1:AA)(s4:Int):St:=⟨sp 166 0 [bx 1,sI 4 s4],[cL 1 AA.D w1],[]⟩
def Nn(w1:AA)(o:Unit⊕Unit):Ex×St:=match o with
 | .inl o=>(.exit 2,⟨sp 166 0 [bx 1],[cL 1 AA.D w1],[]⟩)
 | .inr o=>(.ret,⟨sp 166 0 [sI 2 0],[],[]⟩)
theorem S2(rd:Option Nat)(h:WA a6 a7=some a8):Lq 20 rd 122 (Nm a6 a7) ((Nn a6) a8):=
 lL (fun s:Int=>Nm a6 s) (Nn a6) a7 (fun a7 o h=>by
 unfold Eo at h
 refine gN 83 X3.D a6.symbols ?_
 refine iB 84 h (fun h=>?_) fun h=>?_
 refine xX 90 X3.D h fun x6 h=>?_
 refine gN 93 AT.D x6.args ?_
 refine iB 94 h (fun h=>?_) fun h=>?_
 exact lb h
 obtain⟨o10,h23,h⟩:=bS h
 refine gl (S3 rd h23) ?_
 replace h:=AG h
 rcases h with⟨o11,rfl,h⟩|⟨o12,rfl,h⟩
 exact lb h
 exact lb h
 exact lb h) h
def Nq(w1:AA)(s6:Int):St:=⟨sp 166 0 [bx 1,sI 6 s6],[cL 1 AA.D w1],[]⟩
def Nr(w1:AA)(o:Unit⊕Unit):Ex×St:=match o with
 | .inl o=>(.exit 6,⟨sp 166 0 [bx 1],[cL 1 AA.D w1],[]⟩)
 | .inr o=>(.ret,⟨sp 166 0 [sI 2 0],[],[]⟩)
theorem S4(rd:Option Nat)(h:WC a6 a7=some a8):Lq 20 rd 250 (Nq a6 a7) ((Nr a6) a8):=
 lL (fun s:Int=>Nq a6 s) (Nr a6) a7 (fun a7 o h=>by
 unfold Eq at h
 refine gN 122 Xf.D a6.frees ?_
 refine iB 123 h (fun h=>?_) fun h=>?_
 refine xX 129 Xf.D h fun x16 h=>?_
 refine gG 133 (.int (x16.init_.str.length:Int)) (A4 x16.init_.str) ?_
 refine iB 134 h (fun h=>?_) fun h=>?_
 exact lb h
 exact lb h
 exact lb h) h
def Ns(w1:AA)(s7:Int):St:=⟨sp 166 0 [bx 1,sI 7 s7],[cL 1 AA.D w1],[]⟩
def Nt(w1:AA)(o:Unit⊕Unit):Ex×St:=match o with
 | .inl o=>(.exit 8,⟨sp 166 0 [bx 1],[cL 1 AA.D w1],[]⟩)
 | .inr o=>(.ret,⟨sp 166 0 [sI 2 0],[],[]⟩)
theorem S5(rd:Option Nat)(h:WD a6 a7=some a8):Lq 20 rd 506 (Ns a6 a7) ((Nt a6) a8):=
 lL (fun s:Int=>Ns a6 s) (Nt a6) a7 (fun a7 o h=>by
 unfold Er at h
 refine gN 138 X8.D a6.nodes ?_
 refine iB 139 h (fun h=>?_) fun h=>?_
 refine xX 145 X8.D h fun x20 h=>?_
 refine gG 149 (.int (x20.value.str.length:Int)) (A4 x20.value.str) ?_
 refine iB 150 h (fun h=>?_) fun h=>?_
 exact lb h
 exact lb h
 exact lb h) h
def Nu(w1:AA)(s8:Int):St:=⟨sp 166 0 [bx 1,sI 8 s8],[cL 1 AA.D w1],[]⟩
def Nv(w1:AA)(o:Unit⊕Unit):Ex×St:=match o with
 | .inl o=>(.exit 10,⟨sp 166 0 [],[],[]⟩)
 | .inr o=>(.ret,⟨sp 166 0 [sI 2 0],[],[]⟩)
theorem S6(rd:Option Nat)(h:WE a6 a7=some a8):Lq 20 rd 1018 (Nu a6 a7) ((Nv a6) a8):=
 lL (fun s:Int=>Nu a6 s) (Nv a6) a7 (fun a7 o h=>by
 unfold Es at h
 refine gN 154 X5.D a6.trans ?_
 refine iB 155 h (fun h=>?_) fun h=>?_
 refine xX 161 X5.D h fun x24 h=>?_
 refine gN 164 Ar.D x24.sets ?_
 refine iB 165 h (fun h=>?_) fun h=>?_
 exact lb h
 exact lb h
 exact lb h) h
theorem aDn(h:X7 a6=some a7):AL Tryz.prog 20 [.d (AA.D a6)] [] (dI a7) []:=by
 unfold X7 at h;apply g0 (o:=a7);refine gN 11 X9.D a6.decls ?_;refine iB 13 h (fun h=>?_) fun h=>?_;exact lf h;refine gN 16 Xc.D a6.quants ?_;refine iB 19 h (fun h=>?_) fun h=>?_;exact lf h;refine gN 22 Xf.D a6.frees ?_;refine iB 25 h (fun h=>?_) fun h=>?_;exact lf h;refine gN 28 Xv.D a6.states ?_;refine iB 31 h (fun h=>?_) fun h=>?_;exact lf h;refine gN 34 X3.D a6.symbols ?_;refine iB 37 h (fun h=>?_) fun h=>?_;exact lf h;refine gN 40 X5.D a6.trans ?_;refine iB 43 h (fun h=>?_) fun h=>?_;exact lf h;refine gN 46 X8.D a6.nodes ?_;refine iB 49 h (fun h=>?_) fun h=>?_;exact lf h;refine gG 52 (.int (a6.name.length:Int)) (A4 a6.name) ?_;refine iB 54 h (fun h=>?_) fun h=>?_;exact lf h;obtain⟨o3,h14,h⟩:=bS h;refine gl (S1 none h14) ?_;replace h:=AG h;rcases h with⟨o4,rfl,h⟩|⟨o5,rfl,h⟩
 obtain⟨o13,h24,h⟩:=bS h;refine gl (S2 none h24) ?_;replace h:=AG h;rcases h with⟨o14,rfl,h⟩|⟨o15,rfl,h⟩
 obtain⟨o17,h28,h⟩:=bS h;refine gl (S4 none h28) ?_;replace h:=AG h;rcases h with⟨o18,rfl,h⟩|⟨o19,rfl,h⟩
 obtain⟨o21,h32,h⟩:=bS h;refine gl (S5 none h32) ?_;replace h:=AG h;rcases h with⟨o22,rfl,h⟩|⟨o23,rfl,h⟩
 obtain⟨o25,h36,h⟩:=bS h;refine gl (S6 none h36) ?_;replace h:=AG h;rcases h with⟨o26,rfl,h⟩|⟨o27,rfl,h⟩
 exact lf h;exact lf h;exact lf h;exact lf h;exact lf h;exact lf h
theorem aCw(h:Q4 a6=some aA):AL Tryz.prog 46 [.d (AA.D a6)] [] (.d (D.b aA)) []:=by unfold Q4 at h;apply g0 (o:=aA);refine gN 5 Xc.D a6.quants ?_;refine iB 7 h (fun h=>?_) fun h=>?_;refine gN 10 Xf.D a6.frees ?_;refine iB 13 h (fun h=>?_) fun h=>?_;refine gN 16 Xv.D a6.states ?_;refine iB 19 h (fun h=>?_) fun h=>?_;refine gN 22 X3.D a6.symbols ?_;refine iB 25 h (fun h=>?_) fun h=>?_;refine gN 28 X8.D a6.nodes ?_;refine iB 31 h (fun h=>?_) fun h=>?_;refine gN 34 X5.D a6.trans ?_;exact lf h;exact lf h;exact lf h;exact lf h;exact lf h;exact lf h
theorem aC0(h:Qi aB aC=some aA):AL Tryz.prog 170 [.d (X9.D aB),.eptr (D.cells (D.s aC))] [] (.d (D.b aA)) []:=by unfold Qi at h;apply g0 (o:=aA);exact lf h
def PU(s0:List X9)(s1:List UInt8)(s7 s8:Int):St:=⟨sp 19 0 [sD 0 (D.l X9.D) s0,(1,.clo (.func 170) [] [.eptr (D.cells (D.s s1))]),sI 7 s7,sI 8 s8],[],[]⟩
def PV(s0:List X9)(s1:List UInt8)(s7:Int)(o:Unit⊕Int):Ex×St:=match o with
 | .inl o=>(.exit 0,⟨sp 19 0 [],[],[]⟩)
 | .inr o=>(.ret,⟨sp 19 0 [sI 4 o],[],[]⟩)
theorem UH(rd:Option Nat)(h:PT aD aC a7 a9=some aE):Lq 169 rd 26 (PU aD aC a7 a9) ((PV aD aC a7) aE):=
 lL (fun s:Int=>PU aD aC a7 s) (PV aD aC a7) a9 (fun a9 o h=>by
 unfold FI at h
 refine iB 9 h (fun h=>?_) fun h=>?_
 refine xX 14 X9.D h fun x1 h=>?_
 obtain⟨r2,h3,h⟩:=bS h
 refine gQ (aC0 h3) ?_
 cases r2
 replace h:=B2 h
 refine gW 16 (.ret (.d (D.b false))) ?_
 exact lb h
 replace h:=B3 h
 refine gW 16 (.ret (.d (D.b true))) ?_
 exact lb h
 exact lb h) h
theorem aEo(h:Y2 aD aC=some a7):AL Tryz.prog 169 [.d ((D.l X9.D) aD),.clo (.func 170) [] [.eptr (D.cells (D.s aC))]] [] (dI a7) []:=by
 unfold Y2 at h;apply g0 (o:=a7);refine gN 7 X9.D aD ?_;obtain⟨o3,h5,h⟩:=bS h;refine gl (UH none h5) ?_;replace h:=AG h;rcases h with⟨o4,rfl,h⟩|⟨o5,rfl,h⟩
 exact lf h;exact lf h
theorem aF5(h:Z9 aD aC=some aF):AL Tryz.prog 157 [.d ((D.l X9.D) aD),.d (D.s aC)] [] (.tup [dI aF.1,.d (D.b aF.2)]) []:=by unfold Z9 at h;apply g0 (o:=aF);refine gW 3 .frz ?_;obtain⟨r1,h1,h⟩:=bS h;refine gC 9 (aEo h1)<|gG 11 (.int (Ea r1 0)) (rfl:Ea r1 0=Ea r1 0) ?_;exact lf h
theorem aCx(h:Q5 a7=some aA):AL Tryz.prog 160 [.d ((D.i .i32) a7)] [] (.d (D.b aA)) []:=by unfold Q5 at h;apply g0 (o:=aA);refine iB 5 h (fun h=>?_) fun h=>?_;refine iB 8 h (fun h=>?_) fun h=>?_;refine iB 16 h (fun h=>?_) fun h=>?_;refine iB 24 h (fun h=>?_) fun h=>?_;exact lf h;exact lf h;refine iB 21 h (fun h=>?_) fun h=>?_;refine iB 24 h (fun h=>?_) fun h=>?_;exact lf h;exact lf h;exact lf h;refine iB 13 h (fun h=>?_) fun h=>?_;refine iB 16 h (fun h=>?_) fun h=>?_;refine iB 24 h (fun h=>?_) fun h=>?_;exact lf h;exact lf h;refine iB 21 h (fun h=>?_) fun h=>?_;refine iB 24 h (fun h=>?_) fun h=>?_;exact lf h;exact lf h;exact lf h;exact lf h;exact lf h
theorem YN(h:Q7 aC=some a7):AL Tryz.prog 161 [.d (D.s aC),.clo (.func 160) [] []] [] (dI a7) []:=
 VF (ρ:=⟨fun n=>if n=15 then 161 else 172,fun n=>if n=0 then 0 else if n=3 then 3 else if n=4 then 4 else if n=9 then 9 else if n=21 then 21 else 212,id⟩) (XZ mixed (Tryz.func161.trans (by kernel_rfl)) (Tryz.func172.trans (by kernel_rfl)) Tryz.underlying0 Tryz.underlying3 Tryz.underlying4 Tryz.underlying9 Tryz.underlying21 Tryz.underlying212 (by kernel_rfl) (by kernel_rfl) (by kernel_rfl) (by kernel_rfl) (by kernel_rfl) (by kernel_rfl)) (enters_of Tryz.func160 (by kernel_rfl) rfl) (fun _ _ h=>aCx h) h
theorem aBk(h:Zn aC=some aA):AL Tryz.prog 128 [.d (D.s aC)] [] (.d (D.b aA)) []:=by unfold Zn at h;apply g0 (o:=aA);refine iB 6 h (fun h=>?_) fun h=>?_;exact lf h;refine gG 8 (.int (aC.length:Int)) (A4 aC) ?_;refine iB 11 h (fun h=>?_) fun h=>?_;exact lf h;obtain⟨x1,h3,h⟩:=xS h;refine gG 13 (.int x1.toNat) (Cg h3) ?_;refine iB 15 h (fun h=>?_) fun h=>?_;obtain⟨x2,h5,h⟩:=xS h;refine gG 17 (.int x2.toNat) (Cg h5) ?_;refine iB 20 h (fun h=>?_) fun h=>?_;exact lf h;obtain⟨r3,h7,h⟩:=bS h;refine gC 23 (YN h7) ?_;exact lf h;obtain⟨r4,h8,h⟩:=bS h;refine gC 23 (YN h8) ?_;exact lf h
def PN(s0:List (List UInt8))(s1:List UInt8)(s7 s8:Int):St:=⟨sp 19 0 [sD 0 (D.l D.s) s0,sD 1 D.s s1,sI 7 s7,sI 8 s8],[],[]⟩
def PO(s0:List (List UInt8))(s1:List UInt8)(s7:Int)(o:Unit⊕Int):Ex×St:=match o with
 | .inl o=>(.exit 0,⟨sp 19 0 [],[],[]⟩)
 | .inr o=>(.ret,⟨sp 19 0 [sI 4 o],[],[]⟩)
theorem UD(rd:Option Nat)(h:PM aG aC a7 a9=some aE):Lq 132 rd 26 (PN aG aC a7 a9) ((PO aG aC a7) aE):=
 lL (fun s:Int=>PN aG aC a7 s) (PO aG aC a7) a9 (fun a9 o h=>by
 unfold FF at h
 refine iB 9 h (fun h=>?_) fun h=>?_
 refine xX 14 D.s h fun x1 h=>?_
 refine iB 16 h (fun h=>?_) fun h=>?_
 exact lb h
 exact lb h
 exact lb h) h
theorem ZW(h:Xz aG aC=some a7):AL Tryz.prog 132 [.d ((D.l D.s) aG),.d (D.s aC)] [] (dI a7) []:=by
 unfold Xz at h;apply g0 (o:=a7);refine gN 7 D.s aG ?_;obtain⟨o2,h4,h⟩:=bS h;refine gl (UD none h4) ?_;replace h:=AG h;rcases h with⟨o3,rfl,h⟩|⟨o4,rfl,h⟩
 exact lf h;exact lf h
theorem aF7(h:Za aG aC=some aA):AL Tryz.prog 162 [.d ((D.l D.s) aG),.d (D.s aC)] [] (.d (D.b aA)) []:=by unfold Za at h;apply g0 (o:=aA);obtain⟨r1,h1,h⟩:=bS h;refine gC 7 (ZW h1) ?_;exact lf h
theorem aFk(h:Yx aC=some aA):AL Tryz.prog 129 [.d (D.s aC)] [] (.d (D.b aA)) []:=by unfold Yx at h;apply g0 (o:=aA);obtain⟨r1,h1,h⟩:=bS h;refine gQ (aBk h1) ?_;cases r1;replace h:=B2 h;refine gW 4 (.ret (.d (D.b false))) ?_;exact lf h;replace h:=B3 h;refine gW 4 (.ret (.d (D.b true))) ?_;obtain⟨r2,h3,h⟩:=bS h;refine gC 8 (aF7 h3) ?_;exact lf h
theorem Wb(h:Yh aC=some aA):AL Tryz.prog 73 [.d (D.s aC)] [] (.d (D.b aA)) []:=by unfold Yh at h;apply g0 (o:=aA);obtain⟨r1,h1,h⟩:=bS h;refine gQ (aBk h1) ?_;cases r1;replace h:=B2 h;refine gW 4 (.ret (.d (D.b false))) ?_;exact lf h;replace h:=B3 h;refine gW 4 (.ret (.d (D.b true))) ?_;obtain⟨r2,h3,h⟩:=bS h;refine gC 7 (aFk h3) ?_;refine iB 10 h (fun h=>?_) fun h=>?_;exact lf h;exact lf h
theorem Wu(h:Zo a7=some aC):AL Tryz.prog 77 [dI a7] [] (.d (D.s aC)) []:=by unfold Zo at h;apply g0 (o:=aC);refine iB 4 h (fun h=>?_) fun h=>?_;exact lf h;refine iB 6 h (fun h=>?_) fun h=>?_;exact lf h;refine iB 8 h (fun h=>?_) fun h=>?_;exact lf h;exact lf h
theorem aC1(h:Qj a7=some aA):AL Tryz.prog 159 [dI a7] [] (.d (D.b aA)) []:=by unfold Qj at h;apply g0 (o:=aA);obtain⟨r1,h1,h⟩:=bS h;refine gC 4 (Wu h1) ?_;exact lf h
def Pm(s0:List Int)(s7 s8:Int):St:=⟨sp 19 0 [sD 0 (D.l dZ) s0,(1,.clo (.func 159) [] []),sI 7 s7,sI 8 s8],[],[]⟩
def Pn(s0:List Int)(s7:Int)(o:Unit⊕Int):Ex×St:=match o with
 | .inl o=>(.exit 0,⟨sp 19 0 [],[],[]⟩)
 | .inr o=>(.ret,⟨sp 19 0 [sI 4 o],[],[]⟩)
theorem UR(rd:Option Nat)(h:Pl aH a7 a9=some aE):Lq 171 rd 26 (Pm aH a7 a9) ((Pn aH a7) aE):=
 lL (fun s:Int=>Pm aH a7 s) (Pn aH a7) a9 (fun a9 o h=>by
 unfold FN at h
 refine iB 9 h (fun h=>?_) fun h=>?_
 refine xX 14 dZ h fun x1 h=>?_
 obtain⟨r2,h3,h⟩:=bS h
 refine gQ (aC1 h3) ?_
 cases r2
 replace h:=B2 h
 refine gW 16 (.ret (.d (D.b false))) ?_
 exact lb h
 replace h:=B3 h
 refine gW 16 (.ret (.d (D.b true))) ?_
 exact lb h
 exact lb h) h
theorem aEx(h:Y8 aH=some a7):AL Tryz.prog 171 [.d ((D.l dZ) aH),.clo (.func 159) [] []] [] (dI a7) []:=by
 unfold Y8 at h;apply g0 (o:=a7);refine gN 7 dZ aH ?_;obtain⟨o3,h5,h⟩:=bS h;refine gl (UR none h5) ?_;replace h:=AG h;rcases h with⟨o4,rfl,h⟩|⟨o5,rfl,h⟩
 exact lf h;exact lf h
theorem aF9(h:Zb aH=some aA):AL Tryz.prog 158 [.d ((D.l dZ) aH),.clo (.func 159) [] []] [] (.d (D.b aA)) []:=by unfold Zb at h;apply g0 (o:=aA);obtain⟨r1,h1,h⟩:=bS h;refine gC 7 (aEx h1) ?_;exact lf h
theorem aFr(h:Z2 aD a7=some a9):AL Tryz.prog 127 [.d ((D.l X9.D) aD),dI a7] [] (dI a9) []:=by unfold Z2 at h;apply g0 (o:=a9);refine xX 10 X9.D h fun x1 h=>?_;obtain⟨r2,h2,h⟩:=bS h;refine gC 16 (aF5 h2) ?_;obtain⟨r3,h3,h⟩:=bS h;refine gC 22 (Wb h3) ?_;refine iB 19 h (fun h=>?_) fun h=>?_;exact lf h;refine iB 24 h (fun h=>?_) fun h=>?_;exact lf h;refine gN 31 dZ x1.types ?_;refine iB 28 h (fun h=>?_) fun h=>?_;exact lf h;obtain⟨r4,h7,h⟩:=bS h;refine gQ (aF9 h7) ?_;cases r4;replace h:=B2 h;refine gW 36 (.ret (.d (D.b false))) ?_;exact lf h;replace h:=B3 h;refine gW 36 (.ret (.d (D.b true))) ?_;exact lf h
def Oy(s0:List X9)(s10 s11:Int):St:=⟨sp 22 0 [sD 0 (D.l X9.D) s0,sI 10 s10,sI 11 s11],[],[]⟩
def Oz(s0:List X9)(s10:Int)(o:Unit⊕(Int×Int)):Ex×St:=match o with
 | .inl o=>(.exit 0,⟨sp 22 0 [],[],[]⟩)
 | .inr o=>(.ret,⟨sp 22 0 [sI 2 o.1,sI 3 o.2],[],[]⟩)
theorem Tx(rd:Option Nat)(h:Ox aD a7 a9=some aI):Lq 72 rd 58 (Oy aD a7 a9) ((Oz aD a7) aI):=
 lL (fun s:Int=>Oy aD a7 s) (Oz aD a7) a9 (fun a9 o h=>by
 unfold DH at h
 refine iB 12 h (fun h=>?_) fun h=>?_
 obtain⟨r1,h3,h⟩:=bS h
 refine gC 16 (aFr h3) ?_
 refine iB 18 h (fun h=>?_) fun h=>?_
 exact lb h
 exact lb h
 exact lb h) h
theorem aD7(h:Xp aD=some aJ):AL Tryz.prog 72 [.d ((D.l X9.D) aD)] [] (.tup [dI aJ.1,dI aJ.2]) []:=by
 unfold Xp at h;apply g0 (o:=aJ);refine gN 7 X9.D aD ?_;refine iB 8 h (fun h=>?_) fun h=>?_;exact lf h;refine gN 10 X9.D aD ?_;obtain⟨o2,h5,h⟩:=bS h;refine gl (Tx none h5) ?_;replace h:=AG h;rcases h with⟨o3,rfl,h⟩|⟨o4,rfl,h⟩
 exact lf h;exact lf h
theorem aGb(h:Zc a7 aC aG=some aA):AL Tryz.prog 131 [dI a7,.d (D.s aC),.eptr (D.cells ((D.l D.s) aG))] [] (.d (D.b aA)) []:=by unfold Zc at h;apply g0 (o:=aA);obtain⟨r1,h1,h⟩:=bS h;refine gQ (Wb h1) ?_;cases r1;replace h:=B2 h;refine gW 7 (.ret (.d (D.b false))) ?_;exact lf h;replace h:=B3 h;refine gW 7 (.ret (.d (D.b true))) ?_;obtain⟨r2,h3,h⟩:=bS h;refine gC 11 (ZW h3) ?_;exact lf h
def PE(s1 s7:List (List UInt8))(s8 s9:Int):St:=⟨sp 20 0 [(1,.clo (.func 131) [] [.eptr (D.cells ((D.l D.s) s1))]),sD 7 (D.l D.s) s7,sI 8 s8,sI 9 s9],[],[]⟩
def PF(s1 s7:List (List UInt8))(s8:Int)(o:Unit⊕Unit):Ex×St:=match o with
 | .inl o=>(.exit 0,⟨sp 20 0 [],[],[]⟩)
 | .inr o=>(.ret,⟨sp 20 0 [sD 4 D.b false],[],[]⟩)
theorem T7(rd:Option Nat)(h:PD aG aK a7 a9=some a8):Lq 130 rd 26 (PE aG aK a7 a9) ((PF aG aK a7) a8):=
 lL (fun s:Int=>PE aG aK a7 s) (PF aG aK a7) a9 (fun a9 o h=>by
 unfold EA at h
 refine iB 10 h (fun h=>?_) fun h=>?_
 refine xX 12 D.s h fun x1 h=>?_
 obtain⟨r2,h3,h⟩:=bS h
 refine gC 17 (aGb h3) ?_
 refine iB 18 h (fun h=>?_) fun h=>?_
 exact lb h
 exact lb h
 exact lb h) h
theorem aEf(h:Xw aG aK=some aA):AL Tryz.prog 130 [.d ((D.l D.s) aG),.clo (.func 131) [] [.eptr (D.cells ((D.l D.s) aK))]] [] (.d (D.b aA)) []:=by
 unfold Xw at h;apply g0 (o:=aA);refine gN 8 D.s aG ?_;obtain⟨o3,h5,h⟩:=bS h;refine gl (T7 none h5) ?_;replace h:=AG h;rcases h with⟨o4,rfl,h⟩|⟨o5,rfl,h⟩
 exact lf h;exact lf h
theorem aAs(h:Yt aG=some aA):AL Tryz.prog 74 [.d ((D.l D.s) aG)] [] (.d (D.b aA)) []:=by unfold Yt at h;apply g0 (o:=aA);refine gW 1 .frz ?_;obtain⟨r1,h1,h⟩:=bS h;refine gC 5 (aEf h1) ?_;exact lf h
theorem aC2(h:Qk a7 aL=some aA):AL Tryz.prog 76 [dI a7,.d (Xc.D aL)] [] (.d (D.b aA)) []:=by unfold Qk at h;apply g0 (o:=aA);obtain⟨r1,h1,h⟩:=bS h;refine gC 7 (Wu h1) ?_;exact lf h
def PX(s7:List Xc)(s8 s9:Int):St:=⟨sp 20 0 [(1,.clo (.func 76) [] []),sD 7 (D.l Xc.D) s7,sI 8 s8,sI 9 s9],[],[]⟩
def PY(s7:List Xc)(s8:Int)(o:Unit⊕Unit):Ex×St:=match o with
 | .inl o=>(.exit 0,⟨sp 20 0 [],[],[]⟩)
 | .inr o=>(.ret,⟨sp 20 0 [sD 4 D.b false],[],[]⟩)
theorem UI(rd:Option Nat)(h:PW aM a7 a9=some a8):Lq 75 rd 26 (PX aM a7 a9) ((PY aM a7) a8):=
 lL (fun s:Int=>PX aM a7 s) (PY aM a7) a9 (fun a9 o h=>by
 unfold FJ at h
 refine iB 10 h (fun h=>?_) fun h=>?_
 refine xX 12 Xc.D h fun x1 h=>?_
 obtain⟨r2,h3,h⟩:=bS h
 refine gC 17 (aC2 h3) ?_
 refine iB 18 h (fun h=>?_) fun h=>?_
 exact lb h
 exact lb h
 exact lb h) h
theorem aEq(h:Y3 aM=some aA):AL Tryz.prog 75 [.d ((D.l Xc.D) aM),.clo (.func 76) [] []] [] (.d (D.b aA)) []:=by
 unfold Y3 at h;apply g0 (o:=aA);refine gN 8 Xc.D aM ?_;obtain⟨o3,h5,h⟩:=bS h;refine gl (UI none h5) ?_;replace h:=AG h;rcases h with⟨o4,rfl,h⟩|⟨o5,rfl,h⟩
 exact lf h;exact lf h
theorem aC3(h:Ql a7=some aN):AL Tryz.prog 133 [dI a7] [] (.d (X4.D aN)) []:=by unfold Ql at h;apply g0 (o:=aN);exact lf h
theorem aC4(h:Qm aC=some aN):AL Tryz.prog 134 [.d (D.s aC)] [] (.d (X4.D aN)) []:=by unfold Qm at h;apply g0 (o:=aN);exact lf h
theorem aC5(h:Qn aA=some aN):AL Tryz.prog 135 [.d (D.b aA)] [] (.d (X4.D aN)) []:=by unfold Qn at h;apply g0 (o:=aN);exact lf h
theorem Um(h:Yy aN=some aA):AL Tryz.prog 80 [.d (X4.D aN)] [] (.d (D.b aA)) []:=by unfold Yy at h;apply g0 (o:=aA);refine iB 5 h (fun h=>?_) fun h=>?_;obtain⟨r1,h2,h⟩:=bS h;refine gC 10 (aC3 h2) ?_;exact lf h;refine iB 12 h (fun h=>?_) fun h=>?_;obtain⟨r2,h4,h⟩:=bS h;refine gC 17 (aC4 h4) ?_;refine iB 19 h (fun h=>?_) fun h=>?_;refine gG 22 (.int (aN.str.length:Int)) (A4 aN.str) ?_;exact lf h;exact lf h;refine iB 25 h (fun h=>?_) fun h=>?_;obtain⟨r3,h7,h⟩:=bS h;refine gC 30 (aC5 h7) ?_;exact lf h;exact lf h
theorem aC6(h:Qo a7 aO=some aA):AL Tryz.prog 79 [dI a7,.d (Xf.D aO)] [] (.d (D.b aA)) []:=by unfold Qo at h;apply g0 (o:=aA);obtain⟨r1,h1,h⟩:=bS h;refine gC 7 (Um h1) ?_;exact lf h
def Pa(s7:List Xf)(s8 s9:Int):St:=⟨sp 20 0 [(1,.clo (.func 79) [] []),sD 7 (D.l Xf.D) s7,sI 8 s8,sI 9 s9],[],[]⟩
def Pb(s7:List Xf)(s8:Int)(o:Unit⊕Unit):Ex×St:=match o with
 | .inl o=>(.exit 0,⟨sp 20 0 [],[],[]⟩)
 | .inr o=>(.ret,⟨sp 20 0 [sD 4 D.b false],[],[]⟩)
theorem UJ(rd:Option Nat)(h:PZ aP a7 a9=some a8):Lq 78 rd 26 (Pa aP a7 a9) ((Pb aP a7) a8):=
 lL (fun s:Int=>Pa aP a7 s) (Pb aP a7) a9 (fun a9 o h=>by
 unfold FK at h
 refine iB 10 h (fun h=>?_) fun h=>?_
 refine xX 12 Xf.D h fun x1 h=>?_
 obtain⟨r2,h3,h⟩:=bS h
 refine gC 17 (aC6 h3) ?_
 refine iB 18 h (fun h=>?_) fun h=>?_
 exact lb h
 exact lb h
 exact lb h) h
theorem aEs(h:Y4 aP=some aA):AL Tryz.prog 78 [.d ((D.l Xf.D) aP),.clo (.func 79) [] []] [] (.d (D.b aA)) []:=by
 unfold Y4 at h;apply g0 (o:=aA);refine gN 8 Xf.D aP ?_;obtain⟨o3,h5,h⟩:=bS h;refine gl (UJ none h5) ?_;replace h:=AG h;rcases h with⟨o4,rfl,h⟩|⟨o5,rfl,h⟩
 exact lf h;exact lf h
def N4(s14:List Xc)(s15:Int)(w1:AA)(s16:Int)(w3:List (List UInt8)):St:=⟨sp 96 0 [bx 1,rx 3,(4,.nil),sD 14 (D.l Xc.D) s14,sI 15 s15,sI 16 s16],[cL 1 AA.D w1,(3,.row 9 1 (w3.map D.s))],[]⟩
def N5(s14:List Xc)(s15:Int)(w1:AA)(o:(List (List UInt8))):Ex×St:=(.exit 0,⟨sp 96 0 [bx 1,rx 3,(4,.nil)],[cL 1 AA.D w1,(3,.row 9 1 (o.map D.s))],[]⟩)
theorem TD(rd:Option Nat)(h:MZ aM a7 a6 a9 aG=some aQ):Lq 47 rd 58 (N4 aM a7 a6 a9 aG) ((N5 aM a7 a6) aQ):=
 lL (fun s:Int×List (List UInt8)=>N4 aM a7 a6 s.1 s.2) (N5 aM a7 a6) (a9,aG) (fun⟨a9,aG⟩ o h=>by
 unfold D1 at h
 refine iB 17 h (fun h=>?_) fun h=>?_
 refine xX 18 Xc.D h fun x2 h=>?_
 refine gQ (Av D.s [x2.name])<|gG 24 (.sl ((aG++[x2.name]).map D.s)) (Av D.s [x2.name]) ?_
 obtain⟨h6,h⟩:=cS h
 refine gQ (BS D.s h6)<|gQ (BQ D.s aG [x2.name]) ?_
 exact lB h [.live [1,3,4,14,15,16],.keep [1,24],.ren 24 3,.sort]
 exact lb h) h
def N6(s27:List Xf)(s28:Int)(w1:AA)(s29:Int)(w3:List (List UInt8)):St:=⟨sp 96 0 [bx 1,rx 3,(4,.nil),sD 27 (D.l Xf.D) s27,sI 28 s28,sI 29 s29],[cL 1 AA.D w1,(3,.row 9 1 (w3.map D.s))],[]⟩
def N7(s27:List Xf)(s28:Int)(w1:AA)(o:(List (List UInt8))):Ex×St:=(.exit 2,⟨sp 96 0 [bx 1,rx 3,(4,.nil)],[cL 1 AA.D w1,(3,.row 9 1 (o.map D.s))],[]⟩)
theorem TE(rd:Option Nat)(h:Ma aP a7 a6 a9 aG=some aQ):Lq 47 rd 122 (N6 aP a7 a6 a9 aG) ((N7 aP a7 a6) aQ):=
 lL (fun s:Int×List (List UInt8)=>N6 aP a7 a6 s.1 s.2) (N7 aP a7 a6) (a9,aG) (fun⟨a9,aG⟩ o h=>by
 unfold D2 at h
 refine iB 30 h (fun h=>?_) fun h=>?_
 refine xX 31 Xf.D h fun x4 h=>?_
 refine gQ (Av D.s [x4.name])<|gG 37 (.sl ((aG++[x4.name]).map D.s)) (Av D.s [x4.name]) ?_
 obtain⟨h10,h⟩:=cS h
 refine gQ (BS D.s h10)<|gQ (BQ D.s aG [x4.name]) ?_
 exact lB h [.live [1,3,4,27,28,29],.keep [1,37],.ren 37 3,.sort]
 exact lb h) h
def N8(s40:List Xv)(s41:Int)(w1:AA)(w3:List (List UInt8))(s42:Int)(w4:List (List UInt8)):St:=⟨sp 96 0 [bx 1,rx 3,rx 4,sD 40 (D.l Xv.D) s40,sI 41 s41,sI 42 s42],[cL 1 AA.D w1,(3,.row 9 1 (w3.map D.s)),(4,.row 9 1 (w4.map D.s))],[]⟩
def N9(s40:List Xv)(s41:Int)(w1:AA)(w3:List (List UInt8))(o:(List (List UInt8))):Ex×St:=(.exit 4,⟨sp 96 0 [bx 1,rx 3,rx 4],[cL 1 AA.D w1,(3,.row 9 1 (w3.map D.s)),(4,.row 9 1 (o.map D.s))],[]⟩)
theorem TF(rd:Option Nat)(h:Mb aR a7 a6 aG a9 aK=some aQ):Lq 47 rd 250 (N8 aR a7 a6 aG a9 aK) ((N9 aR a7 a6 aG) aQ):=
 lL (fun s:Int×List (List UInt8)=>N8 aR a7 a6 aG s.1 s.2) (N9 aR a7 a6 aG) (a9,aK) (fun⟨a9,aK⟩ o h=>by
 unfold D3 at h
 refine iB 43 h (fun h=>?_) fun h=>?_
 refine xX 44 Xv.D h fun x7 h=>?_
 refine gQ (Av D.s [x7.name])<|gG 50 (.sl ((aK++[x7.name]).map D.s)) (Av D.s [x7.name]) ?_
 obtain⟨h17,h⟩:=cS h
 refine gQ (BS D.s h17)<|gQ (BQ D.s aK [x7.name]) ?_
 exact lB h [.live [1,3,4,40,41,42],.keep [1,3,50],.ren 50 4,.sort]
 exact lb h) h
theorem aDs(h:Xb a6=some aA):AL Tryz.prog 47 [.d (AA.D a6)] [] (.d (D.b aA)) []:=by unfold Xb at h;apply g0 (o:=aA);refine gN 15 Xc.D a6.quants<|gW 28 (.int (a6.frees.length:Int))<|gW 41 (.int (a6.states.length:Int)) ?_;obtain⟨o3,h7,h⟩:=bS h;refine gL [.live [1,3,4,14,15,16],.keep [1],.nil 3 3 9 1,.sort] (TD none h7)<|gQ (DK Xf.D a6.frees) ?_;obtain⟨o5,h11,h⟩:=bS h;refine gl (TE none h11)<|gQ (DK Xv.D a6.states) ?_;obtain⟨o8,h18,h⟩:=bS h;refine gL [.live [1,3,4,40,41,42],.keep [1,3],.nil 4 4 9 1,.sort] (TF none h18) ?_;obtain⟨r9,h19,h⟩:=bS h;refine gC 55 (aD7 h19) ?_;refine iB 60 h (fun h=>?_) fun h=>?_;obtain⟨r10,h21,h⟩:=bS h;refine gQ (Wb h21) ?_;cases r10;replace h:=B2 h;refine gW 63 (.ret (.d (D.b false))) ?_;exact lf h;replace h:=B3 h;refine gW 63 (.ret (.d (D.b true))) ?_;obtain⟨r11,h23,h⟩:=bS h;refine gQ (aAs h23) ?_;cases r11;replace h:=B2 h;refine gW 67 (.ret (.d (D.b false))) ?_;exact lf h;replace h:=B3 h;refine gW 67 (.ret (.d (D.b true))) ?_;obtain⟨r12,h25,h⟩:=bS h;refine gQ (aAs h25) ?_;cases r12;replace h:=B2 h;refine gW 71 (.ret (.d (D.b false))) ?_;exact lf h;replace h:=B3 h;refine gW 71 (.ret (.d (D.b true))) ?_;obtain⟨r13,h27,h⟩:=bS h;refine gQ (aEq h27) ?_;cases r13;replace h:=B2 h;refine gW 76 (.ret (.d (D.b false))) ?_;exact lf h;replace h:=B3 h;refine gW 76 (.ret (.d (D.b true))) ?_;obtain⟨r14,h29,h⟩:=bS h;refine gQ (aEs h29) ?_;cases r14;replace h:=B2 h;refine gW 81 (.ret (.d (D.b false))) ?_;exact lf h;replace h:=B3 h;refine gW 81 (.ret (.d (D.b true))) ?_;refine iB 88 h (fun h=>?_) fun h=>?_;refine gN 93 Xv.D a6.states ?_;exact lf h;exact lf h;exact lf h
theorem aCy(h:Q9 a6 a7=some aS):AL Tryz.prog 136 [.d (AA.D a6),dI a7] [] (.tup [.d (X2.D aS.1),.d (D.b aS.2)]) []:=by
 unfold Q9 at h;apply g0 (o:=aS);refine xX 11 X8.D h fun x1 h=>?_;refine iB 22 h (fun h=>?_) fun h=>?_;refine iB 31 h (fun h=>?_) fun h=>?_;obtain⟨r2,h4,h⟩:=bS h;refine gQ (Um h4) ?_;cases r2;replace h:=B2 h;refine gW 34 (.ret (.d (D.b false))) ?_;refine iB 45 h (fun h=>?_) fun h=>?_;rcases iS h with⟨h7,h⟩|⟨h7,h⟩
 refine gT 50 h7 ?_;rcases iS h with⟨h8,h⟩|⟨h8,h⟩
 refine gT 55 h8<|gN 60 Xc.D a6.quants ?_;refine iB 41 h (fun h=>?_) fun h=>?_;refine xX 67 Xc.D h fun x3 h=>?_;exact lf h;refine iB 76 h (fun h=>?_) fun h=>?_;refine gT 81 h7<|gT 86 h8<|gN 91 Xf.D a6.frees ?_;refine iB 72 h (fun h=>?_) fun h=>?_;refine xX 98 Xf.D h fun x4 h=>?_;exact lf h;exact lf h;exact lf h;refine gF 55 h8 ?_;refine iB 76 h (fun h=>?_) fun h=>?_;refine gT 81 h7<|gF 86 h8 ?_;exact lf h;exact lf h;refine gF 50 h7 ?_;refine iB 76 h (fun h=>?_) fun h=>?_;refine gF 81 h7 ?_;exact lf h;exact lf h;refine iB 76 h (fun h=>?_) fun h=>?_;refine iB 81 h (fun h=>?_) fun h=>?_;refine iB 86 h (fun h=>?_) fun h=>?_;refine gN 91 Xf.D a6.frees ?_;refine iB 72 h (fun h=>?_) fun h=>?_;refine xX 98 Xf.D h fun x5 h=>?_;exact lf h;exact lf h;exact lf h;exact lf h;exact lf h;replace h:=B3 h;refine gW 34 (.ret (.d (D.b true))) ?_;exact lf h;refine iB 45 h (fun h=>?_) fun h=>?_;rcases iS h with⟨h22,h⟩|⟨h22,h⟩
 refine gT 50 h22 ?_;rcases iS h with⟨h23,h⟩|⟨h23,h⟩
 refine gT 55 h23<|gN 60 Xc.D a6.quants ?_;refine iB 41 h (fun h=>?_) fun h=>?_;refine xX 67 Xc.D h fun x6 h=>?_;exact lf h;refine iB 76 h (fun h=>?_) fun h=>?_;refine gT 81 h22<|gT 86 h23<|gN 91 Xf.D a6.frees ?_;refine iB 72 h (fun h=>?_) fun h=>?_;refine xX 98 Xf.D h fun x7 h=>?_;exact lf h;exact lf h;exact lf h;refine gF 55 h23 ?_;refine iB 76 h (fun h=>?_) fun h=>?_;refine gT 81 h22<|gF 86 h23 ?_;exact lf h;exact lf h;refine gF 50 h22 ?_;refine iB 76 h (fun h=>?_) fun h=>?_;refine gF 81 h22 ?_;exact lf h;exact lf h;refine iB 76 h (fun h=>?_) fun h=>?_;refine iB 81 h (fun h=>?_) fun h=>?_;refine iB 86 h (fun h=>?_) fun h=>?_;refine gN 91 Xf.D a6.frees ?_;refine iB 72 h (fun h=>?_) fun h=>?_;refine xX 98 Xf.D h fun x8 h=>?_;exact lf h;exact lf h;exact lf h;exact lf h;exact lf h;refine iB 45 h (fun h=>?_) fun h=>?_;rcases iS h with⟨h37,h⟩|⟨h37,h⟩
 refine gT 50 h37 ?_;rcases iS h with⟨h38,h⟩|⟨h38,h⟩
 refine gT 55 h38<|gN 60 Xc.D a6.quants ?_;refine iB 41 h (fun h=>?_) fun h=>?_;refine xX 67 Xc.D h fun x9 h=>?_;exact lf h;refine iB 76 h (fun h=>?_) fun h=>?_;refine gT 81 h37<|gT 86 h38<|gN 91 Xf.D a6.frees ?_;refine iB 72 h (fun h=>?_) fun h=>?_;refine xX 98 Xf.D h fun x10 h=>?_;exact lf h;exact lf h;exact lf h;refine gF 55 h38 ?_;refine iB 76 h (fun h=>?_) fun h=>?_;refine gT 81 h37<|gF 86 h38 ?_;exact lf h;exact lf h;refine gF 50 h37 ?_;refine iB 76 h (fun h=>?_) fun h=>?_;refine gF 81 h37 ?_;exact lf h;exact lf h;refine iB 76 h (fun h=>?_) fun h=>?_;refine iB 81 h (fun h=>?_) fun h=>?_;refine iB 86 h (fun h=>?_) fun h=>?_;refine gN 91 Xf.D a6.frees ?_;refine iB 72 h (fun h=>?_) fun h=>?_;refine xX 98 Xf.D h fun x11 h=>?_;exact lf h;exact lf h;exact lf h;exact lf h;exact lf h
theorem ET(h:Yi aA a7=some a9):AL Tryz.prog 163 [.d (D.b aA),dI a7] [] (dI a9) []:=by unfold Yi at h;apply g0 (o:=a9);refine iB 6 h (fun h=>?_) fun h=>?_;exact lf h;exact lf h
theorem TN(rd:Option Nat)(h:WQ a7 a9 aT aA=some aU):Lq 137 rd 13631497 ⟨sp 81 0 [sI 1 a7,sI 2 a9,sI 7 aT,sD 10 D.b aA],[],[]⟩ (.normal,⟨sp 81 0 [sI 1 a7,sI 2 a9,sI 7 aT,sD 10 D.b aU],[],[]⟩):=by unfold WQ at h;apply g0 (o:=aU);cases aA;replace h:=B2 h;exact lp h;replace h:=B3 h;exact lp h
theorem OD(rd:Option Nat)(h:OC a7 a9 aT aA=some aU):Lq 137 rd 872416159 ⟨sp 81 0 [sI 1 a7,sI 2 a9,sI 7 aT,sD 15 D.b aA],[],[]⟩ (.normal,⟨sp 81 0 [sI 1 a7,sI 2 a9,sI 7 aT,sD 15 D.b aU],[],[]⟩):=by unfold OC at h;apply g0 (o:=aU);cases aA;replace h:=B2 h;exact lp h;replace h:=B3 h;exact lp h
theorem OB(rd:Option Nat)(h:OA a7 a9 aT aA=some aU):Lq 137 rd 218104039 ⟨sp 81 0 [sI 1 a7,sI 2 a9,sI 7 aT,sD 15 D.b aA],[],[]⟩ (.normal,⟨sp 81 0 [sI 1 a7,sI 2 a9,sI 7 aT,sD 15 D.b aU],[],[]⟩):=by unfold OA at h;apply g0 (o:=aU);cases aA;replace h:=B2 h;obtain⟨o2,h9,h⟩:=bS h;refine gl (OD rd h9) ?_;exact lp h;replace h:=B3 h;exact lp h
theorem TO(rd:Option Nat)(h:WR a7 a9 aT aA=some aU):Lq 137 rd 54526009 ⟨sp 81 0 [sI 1 a7,sI 2 a9,sI 7 aT,sD 15 D.b aA],[],[]⟩ (.normal,⟨sp 81 0 [sI 1 a7,sI 2 a9,sI 7 aT,sD 15 D.b aU],[],[]⟩):=by unfold WR at h;apply g0 (o:=aU);cases aA;replace h:=B2 h;obtain⟨o3,h10,h⟩:=bS h;refine gl (OB rd h10) ?_;exact lp h;replace h:=B3 h;exact lp h
theorem OF(rd:Option Nat)(h:OE a7 a9 aT aA=some aU):Lq 137 rd 218104057 ⟨sp 81 0 [sI 1 a7,sI 2 a9,sI 7 aT,sD 22 D.b aA],[],[]⟩ (.normal,⟨sp 81 0 [sI 1 a7,sI 2 a9,sI 7 aT,sD 22 D.b aU],[],[]⟩):=by unfold OE at h;apply g0 (o:=aU);cases aA;replace h:=B2 h;exact lp h;replace h:=B3 h;exact lp h
theorem OH(rd:Option Nat)(h:OG a7 a9 aT aA=some aU):Lq 137 rd 218104061 ⟨sp 81 0 [sI 1 a7,sI 2 a9,sI 7 aT,sD 25 D.b aA],[],[]⟩ (.normal,⟨sp 81 0 [sI 1 a7,sI 2 a9,sD 25 D.b aU],[],[]⟩):=by unfold OG at h;apply g0 (o:=aU);cases aA;replace h:=B2 h;exact lp h;replace h:=B3 h;exact lp h
def WP(s1 s2 s7:Int)(o:Int⊕(Unit⊕(Unit⊕(Unit⊕(Unit⊕(Unit⊕Unit)))))):Ex×St:=match o with
 | .inl o=>(.normal,⟨sp 81 0 [sI 1 s1,sI 2 o],[],[]⟩)
 | .inr o=>match o with
 | .inl o=>(.exit 0,⟨sp 81 0 [],[],[]⟩)
 | .inr o=>match o with
 | .inl o=>(.exit 3,⟨sp 81 0 [sI 1 s1],[],[]⟩)
 | .inr o=>match o with
 | .inl o=>(.exit 4,⟨sp 81 0 [sI 1 s1,sI 2 s2],[],[]⟩)
 | .inr o=>match o with
 | .inl o=>(.exit 5,⟨sp 81 0 [sI 1 s1,sI 2 s2],[],[]⟩)
 | .inr o=>match o with
 | .inl o=>(.exit 6,⟨sp 81 0 [sI 1 s1,sI 2 s2],[],[]⟩)
 | .inr o=>(.exit 7,⟨sp 81 0 [sI 1 s1,sI 2 s2],[],[]⟩)
theorem TM(rd:Option Nat)(h:WO a7 a9 aT=some aV):Lq 137 rd 53248 ⟨sp 81 0 [sI 1 a7,sI 2 a9,sI 7 aT],[],[]⟩ (WP a7 a9 aT aV):=by unfold WO at h;apply g0 (o:=aV);refine iB 8 h (fun h=>?_) fun h=>?_;exact lp h;obtain⟨o1,h3,h⟩:=bS h;refine gl (TN rd h3) ?_;cases o1;replace h:=B2 h;refine iB 13 h (fun h=>?_) fun h=>?_;exact lp h;obtain⟨o4,h11,h⟩:=bS h;refine gl (TO rd h11) ?_;cases o4;replace h:=B2 h;refine iB 20 h (fun h=>?_) fun h=>?_;exact lp h;obtain⟨o5,h15,h⟩:=bS h;refine gl (OF rd h15) ?_;cases o5;replace h:=B2 h;obtain⟨o6,h18,h⟩:=bS h;refine gl (OH rd h18) ?_;cases o6;replace h:=B2 h;exact lp h;replace h:=B3 h;exact lp h;replace h:=B3 h;exact lp h;replace h:=B3 h;exact lp h;replace h:=B3 h;exact lp h
def WN(s1 s2 s7:Int)(o:Unit⊕(Unit⊕(Unit⊕(Unit⊕(Unit⊕(Unit⊕Int)))))):Ex×St:=match o with
 | .inl o=>(.normal,⟨sp 81 0 [sI 1 s1],[],[]⟩)
 | .inr o=>match o with
 | .inl o=>(.exit 0,⟨sp 81 0 [],[],[]⟩)
 | .inr o=>match o with
 | .inl o=>(.exit 4,⟨sp 81 0 [sI 1 s1,sI 2 s2],[],[]⟩)
 | .inr o=>match o with
 | .inl o=>(.exit 5,⟨sp 81 0 [sI 1 s1,sI 2 s2],[],[]⟩)
 | .inr o=>match o with
 | .inl o=>(.exit 6,⟨sp 81 0 [sI 1 s1,sI 2 s2],[],[]⟩)
 | .inr o=>match o with
 | .inl o=>(.exit 7,⟨sp 81 0 [sI 1 s1,sI 2 s2],[],[]⟩)
 | .inr o=>(.ret,⟨sp 81 0 [sI 6 o],[],[]⟩)
theorem TL(rd:Option Nat)(h:WM a7 a9 aT=some aW):Lq 137 rd 13312 ⟨sp 81 0 [sI 1 a7,sI 2 a9,sI 7 aT],[],[]⟩ (WN a7 a9 aT aW):=by
 unfold WM at h;apply g0 (o:=aW);obtain⟨o7,h20,h⟩:=bS h;refine gl (TM rd h20) ?_;replace h:=AG h;rcases h with⟨o8,rfl,h⟩|⟨o9,rfl,h⟩
 refine iB 31 h (fun h=>?_) fun h=>?_;obtain⟨r10,h22,h⟩:=bS h;refine gC 36 (ET h22) ?_;exact lp h;obtain⟨r11,h23,h⟩:=bS h;refine gC 36 (ET h23) ?_;exact lp h;replace h:=AG h;rcases h with⟨o12,rfl,h⟩|⟨o13,rfl,h⟩
 exact lp h;replace h:=AG h;rcases h with⟨o14,rfl,h⟩|⟨o15,rfl,h⟩
 exact lp h;replace h:=AG h;rcases h with⟨o16,rfl,h⟩|⟨o17,rfl,h⟩
 exact lp h;replace h:=AG h;rcases h with⟨o18,rfl,h⟩|⟨o19,rfl,h⟩
 exact lp h;replace h:=AG h;rcases h with⟨o20,rfl,h⟩|⟨o21,rfl,h⟩
 exact lp h;exact lp h
def WL(s1 s2 s7:Int)(o:Int⊕(Unit⊕(Unit⊕(Unit⊕(Unit⊕Int))))):Ex×St:=match o with
 | .inl o=>(.normal,⟨sp 81 0 [sI 1 s1,sI 2 o],[],[]⟩)
 | .inr o=>match o with
 | .inl o=>(.exit 0,⟨sp 81 0 [],[],[]⟩)
 | .inr o=>match o with
 | .inl o=>(.exit 5,⟨sp 81 0 [sI 1 s1,sI 2 s2],[],[]⟩)
 | .inr o=>match o with
 | .inl o=>(.exit 6,⟨sp 81 0 [sI 1 s1,sI 2 s2],[],[]⟩)
 | .inr o=>match o with
 | .inl o=>(.exit 7,⟨sp 81 0 [sI 1 s1,sI 2 s2],[],[]⟩)
 | .inr o=>(.ret,⟨sp 81 0 [sI 6 o],[],[]⟩)
theorem TK(rd:Option Nat)(h:WK a7 a9 aT=some aX):Lq 137 rd 3328 ⟨sp 81 0 [sI 1 a7,sI 2 a9,sI 7 aT],[],[]⟩ (WL a7 a9 aT aX):=by
 unfold WK at h;apply g0 (o:=aX);obtain⟨o22,h24,h⟩:=bS h;refine gl (TL rd h24) ?_;replace h:=AG h;rcases h with⟨o23,rfl,h⟩|⟨o24,rfl,h⟩
 exact lp h;replace h:=AG h;rcases h with⟨o25,rfl,h⟩|⟨o26,rfl,h⟩
 exact lp h;replace h:=AG h;rcases h with⟨o27,rfl,h⟩|⟨o28,rfl,h⟩
 exact lp h;replace h:=AG h;rcases h with⟨o29,rfl,h⟩|⟨o30,rfl,h⟩
 exact lp h;replace h:=AG h;rcases h with⟨o31,rfl,h⟩|⟨o32,rfl,h⟩
 exact lp h;replace h:=AG h;rcases h with⟨o33,rfl,h⟩|⟨o34,rfl,h⟩
 exact lp h;exact lp h
def WJ(s1 s2 s7:Int)(o:Unit⊕(Unit⊕(Unit⊕(Unit⊕Int)))):Ex×St:=match o with
 | .inl o=>(.normal,⟨sp 81 0 [sI 1 s1,sI 2 s2],[],[]⟩)
 | .inr o=>match o with
 | .inl o=>(.exit 0,⟨sp 81 0 [],[],[]⟩)
 | .inr o=>match o with
 | .inl o=>(.exit 6,⟨sp 81 0 [sI 1 s1,sI 2 s2],[],[]⟩)
 | .inr o=>match o with
 | .inl o=>(.exit 7,⟨sp 81 0 [sI 1 s1,sI 2 s2],[],[]⟩)
 | .inr o=>(.ret,⟨sp 81 0 [sI 6 o],[],[]⟩)
theorem TJ(rd:Option Nat)(h:WI a7 a9 aT=some aY):Lq 137 rd 832 ⟨sp 81 0 [sI 1 a7,sI 2 a9,sI 7 aT],[],[]⟩ (WJ a7 a9 aT aY):=by
 unfold WI at h;apply g0 (o:=aY);obtain⟨o35,h25,h⟩:=bS h;refine gl (TK rd h25) ?_;replace h:=AG h;rcases h with⟨o36,rfl,h⟩|⟨o37,rfl,h⟩
 refine iB 40 h (fun h=>?_) fun h=>?_;obtain⟨r38,h27,h⟩:=bS h;refine gC 46 (ET h27) ?_;exact lp h;obtain⟨r39,h28,h⟩:=bS h;refine gC 46 (ET h28) ?_;exact lp h;replace h:=AG h;rcases h with⟨o40,rfl,h⟩|⟨o41,rfl,h⟩
 exact lp h;replace h:=AG h;rcases h with⟨o42,rfl,h⟩|⟨o43,rfl,h⟩
 exact lp h;replace h:=AG h;rcases h with⟨o44,rfl,h⟩|⟨o45,rfl,h⟩
 exact lp h;replace h:=AG h;rcases h with⟨o46,rfl,h⟩|⟨o47,rfl,h⟩
 exact lp h;exact lp h
theorem TI(rd:Option Nat)(h:WH a7 a9 aT=some aZ):Lq 137 rd 208 ⟨sp 81 0 [sI 1 a7,sI 2 a9,sI 7 aT],[],[]⟩ (match (generalizing:=false) aZ with
 | .inl aZ=>(.normal,⟨sp 81 0 [sI 1 a7,sI 2 a9],[],[]⟩)
 | .inr aZ=>match (generalizing:=false) aZ with
 | .inl aZ=>(.exit 0,⟨sp 81 0 [],[],[]⟩)
 | .inr aZ=>match (generalizing:=false) aZ with
 | .inl aZ=>(.exit 7,⟨sp 81 0 [sI 1 a7,sI 2 a9],[],[]⟩)
 | .inr aZ=>(.ret,⟨sp 81 0 [sI 6 aZ],[],[]⟩)):=by
 unfold WH at h
 apply g0 (o:=aZ)
 obtain⟨o48,h29,h⟩:=bS h
 refine gl (TJ rd h29) ?_
 replace h:=AG h
 rcases h with⟨o49,rfl,h⟩|⟨o50,rfl,h⟩
 refine iB 49 h (fun h=>?_) fun h=>?_
 obtain⟨r51,h31,h⟩:=bS h
 refine gC 59 (ET h31) ?_
 exact lp h
 refine iB 53 h (fun h=>?_) fun h=>?_
 obtain⟨r52,h33,h⟩:=bS h
 refine gC 59 (ET h33) ?_
 exact lp h
 obtain⟨r53,h34,h⟩:=bS h
 refine gC 59 (ET h34) ?_
 exact lp h
 replace h:=AG h
 rcases h with⟨o54,rfl,h⟩|⟨o55,rfl,h⟩
 exact lp h
 replace h:=AG h
 rcases h with⟨o56,rfl,h⟩|⟨o57,rfl,h⟩
 exact lp h
 replace h:=AG h
 rcases h with⟨o58,rfl,h⟩|⟨o59,rfl,h⟩
 exact lp h
 exact lp h
theorem TH(rd:Option Nat)(h:WG a7 a9 aT=some b6):Lq 137 rd 52 ⟨sp 81 0 [sI 1 a7,sI 2 a9,sI 7 aT],[],[]⟩ (match (generalizing:=false) b6 with
 | .inl b6=>(.normal,⟨sp 81 0 [sI 1 a7,sI 2 a9],[],[]⟩)
 | .inr b6=>match (generalizing:=false) b6 with
 | .inl b6=>(.exit 0,⟨sp 81 0 [],[],[]⟩)
 | .inr b6=>(.ret,⟨sp 81 0 [sI 6 b6],[],[]⟩)):=by
 unfold WG at h
 apply g0 (o:=b6)
 obtain⟨o60,h35,h⟩:=bS h
 refine gl (TI rd h35) ?_
 replace h:=AG h
 rcases h with⟨o61,rfl,h⟩|⟨o62,rfl,h⟩
 obtain⟨r63,h36,h⟩:=bS h
 refine gC 61 (Wu h36) ?_
 refine iB 63 h (fun h=>?_) fun h=>?_
 obtain⟨r64,h38,h⟩:=bS h
 refine gC 68 (ET h38) ?_
 exact lp h
 obtain⟨r65,h39,h⟩:=bS h
 refine gC 68 (ET h39) ?_
 exact lp h
 replace h:=AG h
 rcases h with⟨o66,rfl,h⟩|⟨o67,rfl,h⟩
 exact lp h
 replace h:=AG h
 rcases h with⟨o68,rfl,h⟩|⟨o69,rfl,h⟩
 exact lp h
 exact lp h
theorem TG(rd:Option Nat)(h:WF a7 a9 aT=some aE):Lq 137 rd 13 ⟨sp 81 0 [sI 1 a7,sI 2 a9,sI 7 aT],[],[]⟩ (match (generalizing:=false) aE with
 | .inl aE=>(.normal,⟨sp 81 0 [],[],[]⟩)
 | .inr aE=>(.ret,⟨sp 81 0 [sI 6 aE],[],[]⟩)):=by
 unfold WF at h
 apply g0 (o:=aE)
 obtain⟨o70,h40,h⟩:=bS h
 refine gl (TH rd h40) ?_
 replace h:=AG h
 rcases h with⟨o71,rfl,h⟩|⟨o72,rfl,h⟩
 refine iB 71 h (fun h=>?_) fun h=>?_
 obtain⟨r73,h42,h⟩:=bS h
 refine gC 80 (ET h42) ?_
 exact lp h
 refine iB 75 h (fun h=>?_) fun h=>?_
 obtain⟨r74,h44,h⟩:=bS h
 refine gC 80 (ET h44) ?_
 exact lp h
 obtain⟨r75,h45,h⟩:=bS h
 refine gC 80 (ET h45) ?_
 exact lp h
 replace h:=AG h
 rcases h with⟨o76,rfl,h⟩|⟨o77,rfl,h⟩
 exact lp h
 exact lp h
theorem ZC(h:Xd a7 a9 aT=some b7):AL Tryz.prog 137 [dI a7,dI a9,dI aT] [] (dI b7) []:=by
 unfold Xd at h;apply g0 (o:=b7);obtain⟨o78,h46,h⟩:=bS h;refine gl (TG none h46) ?_;replace h:=AG h;rcases h with⟨o79,rfl,h⟩|⟨o80,rfl,h⟩
 exact lf h;exact lf h
theorem LK(rd:Option Nat)(h:JZ a7 b8 a9 aT aA a6 b9 bA bB=some bC):Lq 81 rd 956905 ⟨sp 147 0 [bx 1,rx 3,sI 4 a7,bx 5,bx 8,sD 15 (D.l X8.D) b8,sI 16 a9,sI 17 aT,sD 77 D.b aA],[cL 1 AA.D a6,(3,.buf true 152 3 (b9.map X2.D)),cL 5 X8.D bA,cL 8 X2.D bB],[]⟩ (.normal,⟨sp 147 0 [bx 1,rx 3,sD 15 (D.l X8.D) b8,sI 16 a9,sI 17 aT],[cL 1 AA.D a6,(3,.buf true 152 3 (bC.map X2.D))],[]⟩):=by unfold JZ at h;apply g0 (o:=bC);cases aA;replace h:=B2 h;exact lp h;replace h:=B3 h;obtain⟨r5,h20,h⟩:=bS h;refine gC 86 (ZC h20)<|gW 10093 (.sl ((b9.set a7.toNat (X2.mk r5 (AB .add .i64 bB.depth 1) bB.from_)).map X2.D)) ?_;obtain⟨h21,h⟩:=cS h;refine gQ h21.1<|gQ (Db X2.D h21.2) ?_;obtain⟨h22,h⟩:=cS h;refine gQ (Rx X2.D h22)<|gQ (F8 X2.D b9 a7 (X2.mk r5 (AB .add .i64 bB.depth 1) bB.from_)) ?_;exact lp h
theorem Ee(rd:Option Nat)(h:Ez a7 b8 a9 aT aA a6 b9 bA bB=some bC):Lq 81 rd 119615 ⟨sp 147 0 [bx 1,rx 3,sI 4 a7,bx 5,bx 8,sD 15 (D.l X8.D) b8,sI 16 a9,sI 17 aT,sD 120 D.b aA],[cL 1 AA.D a6,(3,.buf true 152 3 (b9.map X2.D)),cL 5 X8.D bA,cL 8 X2.D bB],[]⟩ (.normal,⟨sp 147 0 [bx 1,rx 3,sD 15 (D.l X8.D) b8,sI 16 a9,sI 17 aT],[cL 1 AA.D a6,(3,.buf true 152 3 (bC.map X2.D))],[]⟩):=by unfold Ez at h;apply g0 (o:=bC);cases aA;replace h:=B2 h;exact lp h;replace h:=B3 h;obtain⟨h31,h⟩:=cS h;refine gQ h31.1<|gQ (Db X2.D h31.2) ?_;obtain⟨x9,h32,h⟩:=xS h;refine gG 125 (.el (X2.D x9)) (Fi X2.D h32)<|gW 139 (.int (Ea x9.depth bB.depth)) ?_;obtain⟨r10,h33,h⟩:=bS h;refine gC 134 (ZC h33)<|gQ (rfl:Ea x9.depth bB.depth=Ea x9.depth bB.depth)<|gW 10144 (.sl ((b9.set a7.toNat (X2.mk r10 (AB .add .i64 (Ea x9.depth bB.depth) 1) x9.from_)).map X2.D)) ?_;obtain⟨h34,h⟩:=cS h;refine gQ h34.1<|gQ (Db X2.D h34.2) ?_;obtain⟨h35,h⟩:=cS h;refine gQ (Rx X2.D h35)<|gQ (F8 X2.D b9 a7 (X2.mk r10 (AB .add .i64 (Ea x9.depth bB.depth) 1) x9.from_)) ?_;exact lp h
theorem Tc(rd:Option Nat)(h:OV b8 a7 a9 a6 b9=some bC):Lq 81 rd 934 ⟨sp 147 0 [bx 1,rx 3,sD 15 (D.l X8.D) b8,sI 16 a7,sI 17 a9],[cL 1 AA.D a6,(3,.buf true 152 3 (b9.map X2.D))],[]⟩ (.normal,⟨sp 147 0 [bx 1,rx 3,sD 15 (D.l X8.D) b8,sI 16 a7,sI 17 a9],[cL 1 AA.D a6,(3,.buf true 152 3 (bC.map X2.D))],[]⟩):=by unfold OV at h;apply g0 (o:=bC);refine xX 20 X8.D h fun x1 h=>?_;obtain⟨r2,h4,h⟩:=bS h;refine gC 25 (aCy h4) ?_;refine iB 28 h (fun h=>?_) fun h=>?_;refine gW 10032 (.sl ((b9.set a9.toNat r2.1).map X2.D)) ?_;obtain⟨h6,h⟩:=cS h;refine gQ h6.1<|gQ (Db X2.D h6.2) ?_;obtain⟨h7,h⟩:=cS h;refine gQ (Rx X2.D h7)<|gQ (F8 X2.D b9 a9 r2.1) ?_;exact lp h;refine iB 36 h (fun h=>?_) fun h=>?_;exact lp h;refine iB 41 h (fun h=>?_) fun h=>?_;exact lp h;refine iB 45 h (fun h=>?_) fun h=>?_;exact lp h;obtain⟨h11,h⟩:=cS h;refine gQ h11.1<|gQ (Db X2.D h11.2) ?_;obtain⟨x3,h12,h⟩:=xS h;refine gG 51 (.el (X2.D x3)) (Fi X2.D h12) ?_;refine iB 54 h (fun h=>?_) fun h=>?_;exact lp h;refine iB 59 h (fun h=>?_) fun h=>?_;exact lp h;obtain⟨h15,h⟩:=cS h;refine gQ h15.1<|gQ (Db X2.D h15.2) ?_;obtain⟨x4,h16,h⟩:=xS h;refine gG 64 (.el (X2.D x4)) (Fi X2.D h16) ?_;refine iB 67 h (fun h=>?_) fun h=>?_;refine iB 73 h (fun h=>?_) fun h=>?_;obtain⟨o6,h23,h⟩:=bS h;refine gl (LK rd h23) ?_;exact lp h;obtain⟨o7,h24,h⟩:=bS h;refine gl (LK rd h24) ?_;exact lp h;refine iB 99 h (fun h=>?_) fun h=>?_;refine iB 107 h (fun h=>?_) fun h=>?_;refine iB 112 h (fun h=>?_) fun h=>?_;obtain⟨h28,h⟩:=cS h;refine gQ h28.1<|gQ (Db X2.D h28.2) ?_;obtain⟨x8,h29,h⟩:=xS h;refine gG 118 (.el (X2.D x8)) (Fi X2.D h29) ?_;obtain⟨o11,h36,h⟩:=bS h;refine gl (Ee rd h36) ?_;exact lp h;obtain⟨o12,h37,h⟩:=bS h;refine gl (Ee rd h37) ?_;exact lp h;obtain⟨o13,h38,h⟩:=bS h;refine gl (Ee rd h38) ?_;exact lp h;obtain⟨o14,h39,h⟩:=bS h;refine gl (Ee rd h39) ?_;exact lp h
def OW(s15:List X8)(s16:Int)(w1:AA)(s17:Int)(w3:List X2):St:=⟨sp 147 0 [bx 1,rx 3,sD 15 (D.l X8.D) s15,sI 16 s16,sI 17 s17],[cL 1 AA.D w1,(3,.buf true 152 3 (w3.map X2.D))],[]⟩
def OX(s15:List X8)(s16:Int)(w1:AA)(o:(List X2)):Ex×St:=(.exit 0,⟨sp 147 0 [rx 3],[(3,.buf true 152 3 (o.map X2.D))],[]⟩)
theorem Td(rd:Option Nat)(h:Ja b8 a7 a6 a9 b9=some bC):Lq 81 rd 58 (OW b8 a7 a6 a9 b9) ((OX b8 a7 a6) bC):=
 lL (fun s:Int×List X2=>OW b8 a7 a6 s.1 s.2) (OX b8 a7 a6) (a9,b9) (fun⟨a9,b9⟩ o h=>by
 unfold E0 at h
 refine iB 18 h (fun h=>?_) fun h=>?_
 obtain⟨o15,h40,h⟩:=bS h
 refine gl (Tc rd h40) ?_
 exact lb h
 exact lb h) h
theorem aDx(h:Xh a6=some b9):AL Tryz.prog 81 [.d (AA.D a6)] [] (.d ((D.l X2.D) b9)) []:=by unfold Xh at h;apply g0 (o:=b9);refine gN 12 X8.D a6.nodes<|gW 13 (.sl ((List.replicate (a6.nodes.length:Int).toNat (X2.mk 0 0 0)).map X2.D))<|gW 16 (.int (a6.nodes.length:Int)) ?_;obtain⟨h1,h⟩:=cS h;refine gQ h1.1<|gQ (Int.le_refl (a6.nodes.length:Int))<|gQ (Int.le_refl (a6.nodes.length:Int))<|gQ (R6 X2.D (X2.mk 0 0 0) h1.2)<|gQ (R5 X2.D (a6.nodes.length:Int) (X2.mk 0 0 0))<|gQ (DK X8.D a6.nodes) ?_;obtain⟨o16,h41,h⟩:=bS h;refine gL [.live [1,3,15,16,17],.keep [1,13],.ren 13 3,.sort] (Td none h41) ?_;exact lF h [.frz 3]
theorem aBt(h:Zw a7 a9 b9 aT=some bD):AL Tryz.prog 82 [dI a7,dI a9,.box 0 0,.eptr (D.cells ((D.l X2.D) b9))] [(0,.cells ([dI aT]))] (.d (D.b bD.1)) [(0,.cells ([dI bD.2]))]:=by unfold Zw at h;refine XG.call (ks:=[2]) mixed fun us=>?_;apply g0 (o:=bD);refine iB 10 h (fun h=>?_) fun h=>?_;exact lX h (lv [6] [0,997]);refine gN 13 X2.D b9 ?_;refine iB 16 h (fun h=>?_) fun h=>?_;exact lX h (lv [6] [0,997]);refine xX 19 X2.D h fun x1 h=>?_;refine iB 25 h (fun h=>?_) fun h=>?_;exact lX h (lv [6] [0,997]);refine iB 29 h (fun h=>?_) fun h=>?_;exact lX h (lv [6] [0,997]);refine xX 32 X2.D h fun x2 h=>?_;refine iB 38 h (fun h=>?_) fun h=>?_;exact lX h (lv [6] [0,997]);refine xX 41 X2.D h fun x3 h=>?_;refine iB 45 h (fun h=>?_) fun h=>?_;exact lX h (lv [6] [0,997]);exact lX h (lv [6] [0,997])
theorem aC7(h:Qp bE bG=some aA):AL Tryz.prog 86 [.d (Ar.D bE),.eptr (D.cells (Ar.D bG))] [] (.d (D.b aA)) []:=by unfold Qp at h;apply g0 (o:=aA);exact lf h
def Pp(s0:List Ar)(s1:Ar)(s7 s8:Int):St:=⟨sp 19 0 [sD 0 (D.l Ar.D) s0,(1,.clo (.func 86) [] [.eptr (D.cells (Ar.D s1))]),sI 7 s7,sI 8 s8],[],[]⟩
def Pq(s0:List Ar)(s1:Ar)(s7:Int)(o:Unit⊕Int):Ex×St:=match o with
 | .inl o=>(.exit 0,⟨sp 19 0 [],[],[]⟩)
 | .inr o=>(.ret,⟨sp 19 0 [sI 4 o],[],[]⟩)
theorem US(rd:Option Nat)(h:Po bH bE a7 a9=some aE):Lq 138 rd 26 (Pp bH bE a7 a9) ((Pq bH bE a7) aE):=
 lL (fun s:Int=>Pp bH bE a7 s) (Pq bH bE a7) a9 (fun a9 o h=>by
 unfold FO at h
 refine iB 9 h (fun h=>?_) fun h=>?_
 refine xX 14 Ar.D h fun x1 h=>?_
 obtain⟨r2,h3,h⟩:=bS h
 refine gQ (aC7 h3) ?_
 cases r2
 replace h:=B2 h
 refine gW 16 (.ret (.d (D.b false))) ?_
 exact lb h
 replace h:=B3 h
 refine gW 16 (.ret (.d (D.b true))) ?_
 exact lb h
 exact lb h) h
theorem aEz(h:Y9 bH bE=some a7):AL Tryz.prog 138 [.d ((D.l Ar.D) bH),.clo (.func 86) [] [.eptr (D.cells (Ar.D bE))]] [] (dI a7) []:=by
 unfold Y9 at h;apply g0 (o:=a7);refine gN 7 Ar.D bH ?_;obtain⟨o3,h5,h⟩:=bS h;refine gl (US none h5) ?_;replace h:=AG h;rcases h with⟨o4,rfl,h⟩|⟨o5,rfl,h⟩
 exact lf h;exact lf h
theorem aFt(h:Z3 bH bE=some aA):AL Tryz.prog 85 [.d ((D.l Ar.D) bH),.clo (.func 86) [] [.eptr (D.cells (Ar.D bE))]] [] (.d (D.b aA)) []:=by unfold Z3 at h;apply g0 (o:=aA);obtain⟨r1,h1,h⟩:=bS h;refine gC 7 (aEz h1) ?_;exact lf h
theorem aGd(h:Zd a7 bE bI a6 b9 a9=some bJ):AL Tryz.prog 84 [dI a7,.d (Ar.D bE),.eptr (D.cells (X5.D bI)),.eptr (D.cells (AA.D a6)),.box 0 0] [(0,.cells ([.clo (.func 82) [] [.box 1 0,.eptr (D.cells ((D.l X2.D) b9))]])),(1,.cells ([dI a9]))] (.d (D.b bJ.1)) [(0,.cells ([.clo (.func 82) [] [.box 1 0,.eptr (D.cells ((D.l X2.D) bJ.2.1))]])),(1,.cells ([dI bJ.2.2]))]:=by unfold Zd at h;refine XG.call (ks:=[4,1001]) mixed fun us=>?_;apply g0 (o:=bJ);refine gW 6 .frz<|gW 12 (.sl ((sub bI.sets 0 a7).map Ar.D)) ?_;obtain⟨h1,h⟩:=cS h;refine gQ (Hp Ar.D h1) ?_;obtain⟨r1,h2,h⟩:=bS h;refine gC 14 (aFt h2) ?_;refine iB 18 h (fun h=>?_) fun h=>?_;refine gN 23 Xf.D a6.frees ?_;refine iB 26 h (fun h=>?_) fun h=>?_;refine iB 30 h (fun h=>?_) fun h=>?_;refine xX 38 Xf.D h fun x2 h=>?_;obtain⟨r3,h7,h⟩:=bS h;refine gG 42 (.cx false [(0,1)] [] (.d (D.b r3.1)) [(0,.cells ([dI r3.2]))]) (aBt h7) ?_;exact lX h (lv [7] [0,1,997]);exact lX h (lv [7] [0,1,997]);exact lX h (lv [7] [0,1,997]);exact lX h (lv [7] [0,1,997])
def Of(us:List Value)(s1_1:X5)(s1_2:AA)(s7:List Ar)(s8:Int)(w997_1:X5)(w997_2:AA)(s9:Int)(w0:List X2)(w1:Int):St:=⟨sp 20 0 [(1,.clo (.func 84) [] [.eptr (D.cells (X5.D s1_1)),.eptr (D.cells (AA.D s1_2)),.box 0 0]),sD 7 (D.l Ar.D) s7,sI 8 s8,sI 9 s9],[(0,.cells ([.clo (.func 82) [] [.box 1 0,.eptr (D.cells ((D.l X2.D) w0))]])),(1,.cells ([dI w1])),(997,.vals [.clo (.func 84) [] [.eptr (D.cells (X5.D w997_1)),.eptr (D.cells (AA.D w997_2)),.box 0 0],.box 1 0] us)],[]⟩
def Og(us:List Value)(s1_1:X5)(s1_2:AA)(s7:List Ar)(s8:Int)(w997_1:X5)(w997_2:AA)(o:(List X2×Int)⊕(List X2×Int)):Ex×St:=match o with
 | .inl o=>(.exit 0,⟨sp 20 0 [],[(0,.cells ([.clo (.func 82) [] [.box 1 0,.eptr (D.cells ((D.l X2.D) o.1))]])),(1,.cells ([dI o.2])),(997,.vals [.clo (.func 84) [] [.eptr (D.cells (X5.D w997_1)),.eptr (D.cells (AA.D w997_2)),.box 0 0],.box 1 0] us)],[]⟩)
 | .inr o=>(.ret,⟨sp 20 0 [sD 4 D.b false],[(0,.cells ([.clo (.func 82) [] [.box 1 0,.eptr (D.cells ((D.l X2.D) o.1))]])),(1,.cells ([dI o.2])),(997,.vals [.clo (.func 84) [] [.eptr (D.cells (X5.D w997_1)),.eptr (D.cells (AA.D w997_2)),.box 0 0],.box 1 0] us)],[]⟩)
theorem Tm(rd:Option Nat)(us:List Value)(h:Jg bI a6 bH a7 bK bL a9 b9 aT=some bM):Lq 87 rd 26 (Of us bI a6 bH a7 bK bL a9 b9 aT) ((Og us bI a6 bH a7 bK bL) bM):=
 lL (fun s:Int×List X2×Int=>Of us bI a6 bH a7 bK bL s.1 s.2.1 s.2.2) (Og us bI a6 bH a7 bK bL) (a9,b9,aT) (fun⟨a9,b9,aT⟩ o h=>by
 unfold Co at h
 refine iB 10 h (fun h=>?_) fun h=>?_
 refine xX 12 Ar.D h fun x1 h=>?_
 obtain⟨r2,h3,h⟩:=bS h
 refine gG 17 (.cx false [(0,0),(1,1)] [] (.d (D.b r2.1)) [(0,.cells ([.clo (.func 82) [] [.box 1 0,.eptr (D.cells ((D.l X2.D) r2.2.1))]])),(1,.cells ([dI r2.2.2]))]) (aGd h3) ?_
 refine iB 18 h (fun h=>?_) fun h=>?_
 exact lb h
 exact lb h
 exact lb h) h
theorem ZI(h:Xk bH bI a6 b9 a7=some bJ):AL Tryz.prog 87 [.d ((D.l Ar.D) bH),.clo (.func 84) [] [.eptr (D.cells (X5.D bI)),.eptr (D.cells (AA.D a6)),.box 0 0]] [(0,.cells ([.clo (.func 82) [] [.box 1 0,.eptr (D.cells ((D.l X2.D) b9))]])),(1,.cells ([dI a7]))] (.d (D.b bJ.1)) [(0,.cells ([.clo (.func 82) [] [.box 1 0,.eptr (D.cells ((D.l X2.D) bJ.2.1))]])),(1,.cells ([dI bJ.2.2]))]:=by
 unfold Xk at h;refine XG.call (ks:=[1,1001]) mixed fun us=>?_;apply g0 (o:=bJ);refine gN 8 Ar.D bH ?_;obtain⟨o3,h5,h⟩:=bS h;refine gl (Tm none us h5) ?_;replace h:=AG h;rcases h with⟨o4,rfl,h⟩|⟨o5,rfl,h⟩
 exact lX h (lv [4] [0,1,997]);exact lX h (lv [4] [0,1,997])
def Ps(s0:List AT)(s7:Int)(w3:AT)(s8:Int):St:=⟨sp 19 0 [sD 0 (D.l AT.D) s0,bx 3,sI 7 s7,sI 8 s8],[cL 3 AT.D w3],[]⟩
def Pt(s0:List AT)(s7:Int)(w3:AT)(o:Unit⊕Int):Ex×St:=match o with
 | .inl o=>(.exit 0,⟨sp 19 0 [],[],[]⟩)
 | .inr o=>(.ret,⟨sp 19 0 [sI 4 o],[],[]⟩)
theorem UT(rd:Option Nat)(h:Pr bN a7 bO a9=some aE):Lq 164 rd 26 (Ps bN a7 bO a9) ((Pt bN a7 bO) aE):=
 lL (fun s:Int=>Ps bN a7 bO s) (Pt bN a7 bO) a9 (fun a9 o h=>by
 unfold FQ at h
 refine iB 9 h (fun h=>?_) fun h=>?_
 refine xX 14 AT.D h fun x1 h=>?_
 refine iB 16 h (fun h=>?_) fun h=>?_
 exact lb h
 exact lb h
 exact lb h) h
theorem aE1(h:Ya bN bO=some a7):AL Tryz.prog 164 [.d ((D.l AT.D) bN),.d (AT.D bO)] [] (dI a7) []:=by
 unfold Ya at h;apply g0 (o:=a7);refine gN 7 AT.D bN ?_;obtain⟨o2,h4,h⟩:=bS h;refine gl (UT none h4) ?_;replace h:=AG h;rcases h with⟨o3,rfl,h⟩|⟨o4,rfl,h⟩
 exact lf h;exact lf h
theorem aGf(h:Ze bN bO=some aA):AL Tryz.prog 139 [.d ((D.l AT.D) bN),.d (AT.D bO)] [] (.d (D.b aA)) []:=by unfold Ze at h;apply g0 (o:=aA);obtain⟨r1,h1,h⟩:=bS h;refine gC 7 (aE1 h1) ?_;exact lf h
theorem aAw(h:Yv bP a7=some aA):AL Tryz.prog 90 [.d (X3.D bP),dI a7] [] (.d (D.b aA)) []:=by unfold Yv at h;apply g0 (o:=aA);obtain⟨r1,h1,h⟩:=bS h;refine gC 9 (aGf h1) ?_;exact lf h
theorem aGh(h:Zf a7 bA a6 bI=some aA):AL Tryz.prog 89 [dI a7,.d (X8.D bA),.eptr (D.cells (AA.D a6)),.eptr (D.cells (X5.D bI))] [] (.d (D.b aA)) []:=by unfold Zf at h;apply g0 (o:=aA);refine iB 10 h (fun h=>?_) fun h=>?_;exact lf h;refine xX 15 X3.D h fun x1 h=>?_;obtain⟨r2,h3,h⟩:=bS h;refine gC 19 (aAw h3) ?_;exact lf h
def Ov(s1_1:AA)(s1_2:X5)(s7:List X8)(s8 s9:Int):St:=⟨sp 20 0 [(1,.clo (.func 89) [] [.eptr (D.cells (AA.D s1_1)),.eptr (D.cells (X5.D s1_2))]),sD 7 (D.l X8.D) s7,sI 8 s8,sI 9 s9],[],[]⟩
def Ow(s1_1:AA)(s1_2:X5)(s7:List X8)(s8:Int)(o:Unit⊕Unit):Ex×St:=match o with
 | .inl o=>(.exit 0,⟨sp 20 0 [],[],[]⟩)
 | .inr o=>(.ret,⟨sp 20 0 [sD 4 D.b false],[],[]⟩)
theorem Tw(rd:Option Nat)(h:Ou a6 bI b8 a7 a9=some a8):Lq 88 rd 26 (Ov a6 bI b8 a7 a9) ((Ow a6 bI b8 a7) a8):=
 lL (fun s:Int=>Ov a6 bI b8 a7 s) (Ow a6 bI b8 a7) a9 (fun a9 o h=>by
 unfold D6 at h
 refine iB 10 h (fun h=>?_) fun h=>?_
 refine xX 12 X8.D h fun x1 h=>?_
 obtain⟨r2,h3,h⟩:=bS h
 refine gC 17 (aGh h3) ?_
 refine iB 18 h (fun h=>?_) fun h=>?_
 exact lb h
 exact lb h
 exact lb h) h
theorem ZM(h:Xo b8 a6 bI=some aA):AL Tryz.prog 88 [.d ((D.l X8.D) b8),.clo (.func 89) [] [.eptr (D.cells (AA.D a6)),.eptr (D.cells (X5.D bI))]] [] (.d (D.b aA)) []:=by
 unfold Xo at h;apply g0 (o:=aA);refine gN 8 X8.D b8 ?_;obtain⟨o3,h5,h⟩:=bS h;refine gl (Tw none h5) ?_;replace h:=AG h;rcases h with⟨o4,rfl,h⟩|⟨o5,rfl,h⟩
 exact lf h;exact lf h
theorem aFv(h:Z4 a7 bI a6 a9 b9=some bQ):AL Tryz.prog 83 [dI a7,.d (X5.D bI),.box 0 0,.eptr (D.cells (AA.D a6)),.box 1 0] [(0,.cells ([dI a9])),(1,.cells ([.clo (.func 82) [] [.box 0 0,.eptr (D.cells ((D.l X2.D) b9))]]))] (.d (D.b bQ.1)) [(0,.cells ([dI bQ.2.1])),(1,.cells ([.clo (.func 82) [] [.box 0 0,.eptr (D.cells ((D.l X2.D) bQ.2.2))]]))]:=by unfold Z4 at h;refine XG.call (ks:=[2,4]) mixed fun us=>?_;apply g0 (o:=bQ);refine gW 6 .frz ?_;refine iB 14 h (fun h=>?_) fun h=>?_;exact lX h (lv [7] [0,1,997]);refine gN 19 Xv.D a6.states ?_;refine iB 22 h (fun h=>?_) fun h=>?_;exact lX h (lv [7] [0,1,997]);refine iB 27 h (fun h=>?_) fun h=>?_;exact lX h (lv [7] [0,1,997]);refine gN 32 Xv.D a6.states ?_;refine iB 35 h (fun h=>?_) fun h=>?_;exact lX h (lv [7] [0,1,997]);refine iB 40 h (fun h=>?_) fun h=>?_;exact lX h (lv [7] [0,1,997]);refine gN 45 X3.D a6.symbols ?_;refine iB 48 h (fun h=>?_) fun h=>?_;exact lX h (lv [7] [0,1,997]);refine iB 52 h (fun h=>?_) fun h=>?_;obtain⟨r1,h8,h⟩:=bS h;refine gG 56 (.cx false [(0,0)] [] (.d (D.b r1.1)) [(0,.cells ([dI r1.2]))]) (aBt h8) ?_;refine iB 59 h (fun h=>?_) fun h=>?_;exact lX h (lv [7] [0,1,997]);obtain⟨r2,h10,h⟩:=bS h;refine gG 64 (.cx false [(0,1),(1,0)] [] (.d (D.b r2.1)) [(0,.cells ([.clo (.func 82) [] [.box 1 0,.eptr (D.cells ((D.l X2.D) r2.2.1))]])),(1,.cells ([dI r2.2.2]))]) (ZI h10) ?_;refine iB 65 h (fun h=>?_) fun h=>?_;refine gW 70 (.sl ((sub a6.nodes a9 r2.2.2).map X8.D)) ?_;obtain⟨h12,h⟩:=cS h;refine gQ (Hp X8.D h12) ?_;obtain⟨r3,h13,h⟩:=bS h;refine gC 72 (ZM h13) ?_;exact lX h (lv [7] [0,1,997]);exact lX h (lv [7] [0,1,997]);obtain⟨r4,h14,h⟩:=bS h;refine gG 64 (.cx false [(0,1),(1,0)] [] (.d (D.b r4.1)) [(0,.cells ([.clo (.func 82) [] [.box 1 0,.eptr (D.cells ((D.l X2.D) r4.2.1))]])),(1,.cells ([dI r4.2.2]))]) (ZI h14) ?_;refine iB 65 h (fun h=>?_) fun h=>?_;refine gW 70 (.sl ((sub a6.nodes a9 r4.2.2).map X8.D)) ?_;obtain⟨h16,h⟩:=cS h;refine gQ (Hp X8.D h16) ?_;obtain⟨r5,h17,h⟩:=bS h;refine gC 72 (ZM h17) ?_;exact lX h (lv [7] [0,1,997]);exact lX h (lv [7] [0,1,997])
def Oj(us:List Value)(s1:AA)(s7:List X5)(s8:Int)(w997:AA)(s9 w0:Int)(w1:List X2):St:=⟨sp 20 0 [(1,.clo (.func 83) [] [.box 0 0,.eptr (D.cells (AA.D s1)),.box 1 0]),sD 7 (D.l X5.D) s7,sI 8 s8,sI 9 s9],[(0,.cells ([dI w0])),(1,.cells ([.clo (.func 82) [] [.box 0 0,.eptr (D.cells ((D.l X2.D) w1))]])),(997,.vals [.clo (.func 83) [] [.box 0 0,.eptr (D.cells (AA.D w997)),.box 1 0]] us)],[]⟩
def Ok(us:List Value)(s1:AA)(s7:List X5)(s8:Int)(w997:AA)(o:(Int×List X2)⊕(Int×List X2)):Ex×St:=match o with
 | .inl o=>(.exit 0,⟨sp 20 0 [],[(0,.cells ([dI o.1])),(1,.cells ([.clo (.func 82) [] [.box 0 0,.eptr (D.cells ((D.l X2.D) o.2))]])),(997,.vals [.clo (.func 83) [] [.box 0 0,.eptr (D.cells (AA.D w997)),.box 1 0]] us)],[]⟩)
 | .inr o=>(.ret,⟨sp 20 0 [sD 4 D.b false],[(0,.cells ([dI o.1])),(1,.cells ([.clo (.func 82) [] [.box 0 0,.eptr (D.cells ((D.l X2.D) o.2))]])),(997,.vals [.clo (.func 83) [] [.box 0 0,.eptr (D.cells (AA.D w997)),.box 1 0]] us)],[]⟩)
theorem Tr(rd:Option Nat)(us:List Value)(h:IP a6 bR a7 bL a9 aT b9=some bU):Lq 91 rd 26 (Oj us a6 bR a7 bL a9 aT b9) ((Ok us a6 bR a7 bL) bU):=
 lL (fun s:Int×Int×List X2=>Oj us a6 bR a7 bL s.1 s.2.1 s.2.2) (Ok us a6 bR a7 bL) (a9,aT,b9) (fun⟨a9,aT,b9⟩ o h=>by
 unfold DG at h
 refine iB 10 h (fun h=>?_) fun h=>?_
 refine xX 12 X5.D h fun x1 h=>?_
 obtain⟨r2,h3,h⟩:=bS h
 refine gG 17 (.cx false [(0,0),(1,1)] [] (.d (D.b r2.1)) [(0,.cells ([dI r2.2.1])),(1,.cells ([.clo (.func 82) [] [.box 0 0,.eptr (D.cells ((D.l X2.D) r2.2.2))]]))]) (aFv h3) ?_
 refine iB 18 h (fun h=>?_) fun h=>?_
 exact lb h
 exact lb h
 exact lb h) h
theorem aD4(h:Xm bR a6 a7 b9=some bQ):AL Tryz.prog 91 [.d ((D.l X5.D) bR),.clo (.func 83) [] [.box 0 0,.eptr (D.cells (AA.D a6)),.box 1 0]] [(0,.cells ([dI a7])),(1,.cells ([.clo (.func 82) [] [.box 0 0,.eptr (D.cells ((D.l X2.D) b9))]]))] (.d (D.b bQ.1)) [(0,.cells ([dI bQ.2.1])),(1,.cells ([.clo (.func 82) [] [.box 0 0,.eptr (D.cells ((D.l X2.D) bQ.2.2))]]))]:=by
 unfold Xm at h;refine XG.call (ks:=[1]) mixed fun us=>?_;apply g0 (o:=bQ);refine gN 8 X5.D bR ?_;obtain⟨o3,h5,h⟩:=bS h;refine gl (Tr none us h5) ?_;replace h:=AG h;rcases h with⟨o4,rfl,h⟩|⟨o5,rfl,h⟩
 exact lX h (lv [4] [0,1,997]);exact lX h (lv [4] [0,1,997])
theorem aFn(h:Yz a6=some aA):AL Tryz.prog 48 [.d (AA.D a6)] [] (.d (D.b aA)) []:=by unfold Yz at h;apply g0 (o:=aA);refine gW 1 .frz<|gW 10003 .frz ?_;obtain⟨r1,h1,h⟩:=bS h;refine gC 8 (aDx h1) ?_;obtain⟨r2,h2,h⟩:=bS h;refine gG 14 (.cx false [(0,4),(1,5)] [] (.d (D.b r2.1)) [(0,.cells ([dI r2.2.1])),(1,.cells ([.clo (.func 82) [] [.box 0 0,.eptr (D.cells ((D.l X2.D) r2.2.2))]]))]) (aD4 h2) ?_;refine iB 15 h (fun h=>?_) fun h=>?_;refine gN 18 X2.D r1 ?_;exact lf h;exact lf h
def Pv(s0:List Int)(s1 s7 s8:Int):St:=⟨sp 19 0 [sD 0 (D.l dZ) s0,sI 1 s1,sI 7 s7,sI 8 s8],[],[]⟩
def Pw(s0:List Int)(s1 s7:Int)(o:Unit⊕Int):Ex×St:=match o with
 | .inl o=>(.exit 0,⟨sp 19 0 [],[],[]⟩)
 | .inr o=>(.ret,⟨sp 19 0 [sI 4 o],[],[]⟩)
theorem UU(rd:Option Nat)(h:Pu aH a7 a9 aT=some aE):Lq 140 rd 26 (Pv aH a7 a9 aT) ((Pw aH a7 a9) aE):=
 lL (fun s:Int=>Pv aH a7 a9 s) (Pw aH a7 a9) aT (fun aT o h=>by
 unfold FR at h
 refine iB 9 h (fun h=>?_) fun h=>?_
 refine xX 14 dZ h fun x1 h=>?_
 refine iB 16 h (fun h=>?_) fun h=>?_
 exact lb h
 exact lb h
 exact lb h) h
theorem aE3(h:Yb aH a7=some a9):AL Tryz.prog 140 [.d ((D.l dZ) aH),dI a7] [] (dI a9) []:=by
 unfold Yb at h;apply g0 (o:=a9);refine gN 7 dZ aH ?_;obtain⟨o2,h4,h⟩:=bS h;refine gl (UU none h4) ?_;replace h:=AG h;rcases h with⟨o3,rfl,h⟩|⟨o4,rfl,h⟩
 exact lf h;exact lf h
theorem aFx(h:Z5 aH a7=some aA):AL Tryz.prog 92 [.d ((D.l dZ) aH),dI a7] [] (.d (D.b aA)) []:=by unfold Z5 at h;apply g0 (o:=aA);obtain⟨r1,h1,h⟩:=bS h;refine gC 7 (aE3 h1) ?_;exact lf h
theorem aC8(h:Qq a7 a9 a6 aH=some aA):AL Tryz.prog 99 [dI a7,dI a9,.eptr (D.cells (AA.D a6)),.eptr (D.cells ((D.l dZ) aH))] [] (.d (D.b aA)) []:=by unfold Qq at h;apply g0 (o:=aA);refine gN 10 X3.D a6.symbols<|gN 12 dZ aH ?_;exact lf h
def Pd(s1_1:AA)(s1_2 s7:List Int)(s8 s9:Int):St:=⟨sp 20 0 [(1,.clo (.func 99) [] [.eptr (D.cells (AA.D s1_1)),.eptr (D.cells ((D.l dZ) s1_2))]),sD 7 (D.l dZ) s7,sI 8 s8,sI 9 s9],[],[]⟩
def Pe(s1_1:AA)(s1_2 s7:List Int)(s8:Int)(o:Unit⊕Unit):Ex×St:=match o with
 | .inl o=>(.exit 0,⟨sp 20 0 [],[],[]⟩)
 | .inr o=>(.ret,⟨sp 20 0 [sD 4 D.b false],[],[]⟩)
theorem UK(rd:Option Nat)(h:Pc a6 aH bV a7 a9=some a8):Lq 98 rd 26 (Pd a6 aH bV a7 a9) ((Pe a6 aH bV a7) a8):=
 lL (fun s:Int=>Pd a6 aH bV a7 s) (Pe a6 aH bV a7) a9 (fun a9 o h=>by
 unfold FL at h
 refine iB 10 h (fun h=>?_) fun h=>?_
 refine xX 12 dZ h fun x1 h=>?_
 obtain⟨r2,h3,h⟩:=bS h
 refine gC 17 (aC8 h3) ?_
 refine iB 18 h (fun h=>?_) fun h=>?_
 exact lb h
 exact lb h
 exact lb h) h
theorem aEu(h:Y5 aH a6 bV=some aA):AL Tryz.prog 98 [.d ((D.l dZ) aH),.clo (.func 99) [] [.eptr (D.cells (AA.D a6)),.eptr (D.cells ((D.l dZ) bV))]] [] (.d (D.b aA)) []:=by
 unfold Y5 at h;apply g0 (o:=aA);refine gN 8 dZ aH ?_;obtain⟨o3,h5,h⟩:=bS h;refine gl (UK none h5) ?_;replace h:=AG h;rcases h with⟨o4,rfl,h⟩|⟨o5,rfl,h⟩
 exact lf h;exact lf h
theorem aCv(h:Q0 a6 bO a7=some aA):AL Tryz.prog 143 [.d (AA.D a6),.d (AT.D bO),dI a7] [] (.d (D.b aA)) []:=by unfold Q0 at h;apply g0 (o:=aA);refine iB 9 h (fun h=>?_) fun h=>?_;refine iB 14 h (fun h=>?_) fun h=>?_;obtain⟨r1,h3,h⟩:=bS h;refine gQ (Um h3) ?_;cases r1;replace h:=B2 h;refine gW 17 (.ret (.d (D.b false))) ?_;exact lf h;replace h:=B3 h;refine gW 17 (.ret (.d (D.b true))) ?_;exact lf h;exact lf h;refine iB 26 h (fun h=>?_) fun h=>?_;refine iB 31 h (fun h=>?_) fun h=>?_;refine gN 36 Xc.D a6.quants ?_;refine iB 39 h (fun h=>?_) fun h=>?_;refine xX 44 Xc.D h fun x2 h=>?_;refine iB 50 h (fun h=>?_) fun h=>?_;exact lf h;exact lf h;exact lf h;exact lf h;refine iB 56 h (fun h=>?_) fun h=>?_;refine iB 61 h (fun h=>?_) fun h=>?_;refine gN 66 Xf.D a6.frees ?_;refine iB 69 h (fun h=>?_) fun h=>?_;refine xX 74 Xf.D h fun x3 h=>?_;refine iB 81 h (fun h=>?_) fun h=>?_;exact lf h;exact lf h;exact lf h;exact lf h;exact lf h
theorem aC9(h:Qr bO a7 a6=some aA):AL Tryz.prog 142 [.d (AT.D bO),dI a7,.eptr (D.cells (AA.D a6))] [] (.d (D.b aA)) []:=by unfold Qr at h;apply g0 (o:=aA);obtain⟨r1,h1,h⟩:=bS h;refine gC 9 (aCv h1) ?_;exact lf h
def Py(s1:List Int)(s2:AA)(s15:List AT)(s16 s17:Int):St:=⟨sp 32 0 [sD 1 (D.l dZ) s1,(2,.clo (.func 142) [] [.eptr (D.cells (AA.D s2))]),sD 15 (D.l AT.D) s15,sI 16 s16,sI 17 s17],[],[]⟩
def Pz(s1:List Int)(s2:AA)(s15:List AT)(s16:Int)(o:Unit⊕Unit):Ex×St:=match o with
 | .inl o=>(.exit 0,⟨sp 32 0 [],[],[]⟩)
 | .inr o=>(.ret,⟨sp 32 0 [sD 6 D.b false],[],[]⟩)
theorem UV(rd:Option Nat)(h:Px aH a6 bN a7 a9=some a8):Lq 141 rd 58 (Py aH a6 bN a7 a9) ((Pz aH a6 bN a7) a8):=
 lL (fun s:Int=>Py aH a6 bN a7 s) (Pz aH a6 bN a7) a9 (fun a9 o h=>by
 unfold FS at h
 refine iB 18 h (fun h=>?_) fun h=>?_
 refine xX 20 AT.D h fun x1 h=>?_
 refine xX 24 dZ h fun x2 h=>?_
 obtain⟨r3,h5,h⟩:=bS h
 refine gC 29 (aC9 h5) ?_
 refine iB 30 h (fun h=>?_) fun h=>?_
 exact lb h
 exact lb h
 exact lb h) h
theorem aE5(h:Yc bN aH a6=some aA):AL Tryz.prog 141 [.d ((D.l AT.D) bN),.d ((D.l dZ) aH),.clo (.func 142) [] [.eptr (D.cells (AA.D a6))]] [] (.d (D.b aA)) []:=by
 unfold Yc at h;apply g0 (o:=aA);refine gN 11 AT.D bN<|gN 13 dZ aH ?_;refine iB 14 h (fun h=>?_) fun h=>?_;exact lf h;refine gN 16 AT.D bN ?_;obtain⟨o4,h7,h⟩:=bS h;refine gl (UV none h7) ?_;replace h:=AG h;rcases h with⟨o5,rfl,h⟩|⟨o6,rfl,h⟩
 exact lf h;exact lf h
theorem aFz(h:Z6 a6 bP=some aA):AL Tryz.prog 94 [.d (AA.D a6),.d (X3.D bP)] [] (.d (D.b aA)) []:=by unfold Z6 at h;apply g0 (o:=aA);refine gW 2 .frz ?_;refine iB 8 h (fun h=>?_) fun h=>?_;exact lf h;refine gN 13 X9.D a6.decls ?_;refine iB 15 h (fun h=>?_) fun h=>?_;exact lf h;refine xX 22 X9.D h fun x1 h=>?_;obtain⟨r2,h4,h⟩:=bS h;refine gC 26 (aE5 h4) ?_;exact lf h
def P1(s0 s1:List AT)(s12 s13:Int):St:=⟨sp 26 0 [sD 0 (D.l AT.D) s0,sD 1 (D.l AT.D) s1,sI 12 s12,sI 13 s13],[],[]⟩
def P2(s0 s1:List AT)(s12:Int)(o:Unit⊕Unit):Ex×St:=match o with
 | .inl o=>(.exit 0,⟨sp 26 0 [],[],[]⟩)
 | .inr o=>(.ret,⟨sp 26 0 [sD 4 D.b false],[],[]⟩)
theorem UW(rd:Option Nat)(h:P0 bN bW a7 a9=some a8):Lq 144 rd 58 (P1 bN bW a7 a9) ((P2 bN bW a7) a8):=
 lL (fun s:Int=>P1 bN bW a7 s) (P2 bN bW a7) a9 (fun a9 o h=>by
 unfold FT at h
 refine iB 14 h (fun h=>?_) fun h=>?_
 refine xX 18 AT.D h fun x1 h=>?_
 refine xX 22 AT.D h fun x2 h=>?_
 refine iB 24 h (fun h=>?_) fun h=>?_
 exact lb h
 exact lb h
 exact lb h) h
theorem aE7(h:Yd bN bW=some aA):AL Tryz.prog 144 [.d ((D.l AT.D) bN),.d ((D.l AT.D) bW)] [] (.d (D.b aA)) []:=by
 unfold Yd at h;apply g0 (o:=aA);refine gN 7 AT.D bN<|gN 9 AT.D bW ?_;refine iB 10 h (fun h=>?_) fun h=>?_;exact lf h;refine gN 12 AT.D bN ?_;obtain⟨o3,h6,h⟩:=bS h;refine gl (UW none h6) ?_;replace h:=AG h;rcases h with⟨o4,rfl,h⟩|⟨o5,rfl,h⟩
 exact lf h;exact lf h
theorem aF1(h:Z7 bP bX=some aA):AL Tryz.prog 97 [.d (X3.D bP),.d (X3.D bX)] [] (.d (D.b aA)) []:=by unfold Z7 at h;apply g0 (o:=aA);refine iB 10 h (fun h=>?_) fun h=>?_;obtain⟨r1,h2,h⟩:=bS h;refine gC 15 (aE7 h2) ?_;exact lf h;exact lf h
theorem aGj(h:Zg bP bX=some aA):AL Tryz.prog 96 [.d (X3.D bP),.eptr (D.cells (X3.D bX))] [] (.d (D.b aA)) []:=by unfold Zg at h;apply g0 (o:=aA);obtain⟨r1,h1,h⟩:=bS h;refine gC 6 (aF1 h1) ?_;exact lf h
def O1(s0:List X3)(s1:X3)(s7 s8:Int):St:=⟨sp 19 0 [sD 0 (D.l X3.D) s0,(1,.clo (.func 96) [] [.eptr (D.cells (X3.D s1))]),sI 7 s7,sI 8 s8],[],[]⟩
def O2(s0:List X3)(s1:X3)(s7:Int)(o:Unit⊕Int):Ex×St:=match o with
 | .inl o=>(.exit 0,⟨sp 19 0 [],[],[]⟩)
 | .inr o=>(.ret,⟨sp 19 0 [sI 4 o],[],[]⟩)
theorem Ty(rd:Option Nat)(h:O0 bY bP a7 a9=some aE):Lq 95 rd 26 (O1 bY bP a7 a9) ((O2 bY bP a7) aE):=
 lL (fun s:Int=>O1 bY bP a7 s) (O2 bY bP a7) a9 (fun a9 o h=>by
 unfold D7 at h
 refine iB 9 h (fun h=>?_) fun h=>?_
 refine xX 14 X3.D h fun x1 h=>?_
 obtain⟨r2,h3,h⟩:=bS h
 refine gQ (aGj h3) ?_
 cases r2
 replace h:=B2 h
 refine gW 16 (.ret (.d (D.b false))) ?_
 exact lb h
 replace h:=B3 h
 refine gW 16 (.ret (.d (D.b true))) ?_
 exact lb h
 exact lb h) h
theorem aD9(h:Xq bY bP=some a7):AL Tryz.prog 95 [.d ((D.l X3.D) bY),.clo (.func 96) [] [.eptr (D.cells (X3.D bP))]] [] (dI a7) []:=by
 unfold Xq at h;apply g0 (o:=a7);refine gN 7 X3.D bY ?_;obtain⟨o3,h5,h⟩:=bS h;refine gl (Ty none h5) ?_;replace h:=AG h;rcases h with⟨o4,rfl,h⟩|⟨o5,rfl,h⟩
 exact lf h;exact lf h
theorem aGl(h:Zh a7 bP a6=some aA):AL Tryz.prog 93 [dI a7,.d (X3.D bP),.eptr (D.cells (AA.D a6))] [] (.d (D.b aA)) []:=by unfold Zh at h;apply g0 (o:=aA);refine gW 4 .frz ?_;obtain⟨r1,h1,h⟩:=bS h;refine gQ (aFz h1) ?_;cases r1;replace h:=B2 h;refine gW 8 (.ret (.d (D.b false))) ?_;exact lf h;replace h:=B3 h;refine gW 8 (.ret (.d (D.b true))) ?_;obtain⟨r2,h3,h⟩:=bS h;refine gC 13 (aD9 h3) ?_;exact lf h
def O4(s1:AA)(s7:List X3)(s8 s9:Int):St:=⟨sp 20 0 [(1,.clo (.func 93) [] [.eptr (D.cells (AA.D s1))]),sD 7 (D.l X3.D) s7,sI 8 s8,sI 9 s9],[],[]⟩
def O5(s1:AA)(s7:List X3)(s8:Int)(o:Unit⊕Unit):Ex×St:=match o with
 | .inl o=>(.exit 0,⟨sp 20 0 [],[],[]⟩)
 | .inr o=>(.ret,⟨sp 20 0 [sD 4 D.b false],[],[]⟩)
theorem Tz(rd:Option Nat)(h:O3 a6 bY a7 a9=some a8):Lq 100 rd 26 (O4 a6 bY a7 a9) ((O5 a6 bY a7) a8):=
 lL (fun s:Int=>O4 a6 bY a7 s) (O5 a6 bY a7) a9 (fun a9 o h=>by
 unfold D8 at h
 refine iB 10 h (fun h=>?_) fun h=>?_
 refine xX 12 X3.D h fun x1 h=>?_
 obtain⟨r2,h3,h⟩:=bS h
 refine gC 17 (aGl h3) ?_
 refine iB 18 h (fun h=>?_) fun h=>?_
 exact lb h
 exact lb h
 exact lb h) h
theorem aEb(h:Xr bY a6=some aA):AL Tryz.prog 100 [.d ((D.l X3.D) bY),.clo (.func 93) [] [.eptr (D.cells (AA.D a6))]] [] (.d (D.b aA)) []:=by
 unfold Xr at h;apply g0 (o:=aA);refine gN 8 X3.D bY ?_;obtain⟨o3,h5,h⟩:=bS h;refine gl (Tz none h5) ?_;replace h:=AG h;rcases h with⟨o4,rfl,h⟩|⟨o5,rfl,h⟩
 exact lf h;exact lf h
theorem aGn(h:Zi bP a7=some aA):AL Tryz.prog 103 [.d (X3.D bP),.eptr (D.cells (dZ a7))] [] (.d (D.b aA)) []:=by unfold Zi at h;apply g0 (o:=aA);obtain⟨r1,h1,h⟩:=bS h;refine gC 6 (aAw h1) ?_;exact lf h
def PH(s0:List X3)(s1 s7 s8:Int):St:=⟨sp 19 0 [sD 0 (D.l X3.D) s0,(1,.clo (.func 103) [] [.eptr (D.cells (dZ s1))]),sI 7 s7,sI 8 s8],[],[]⟩
def PI(s0:List X3)(s1 s7:Int)(o:Unit⊕Int):Ex×St:=match o with
 | .inl o=>(.exit 0,⟨sp 19 0 [],[],[]⟩)
 | .inr o=>(.ret,⟨sp 19 0 [sI 4 o],[],[]⟩)
theorem T8(rd:Option Nat)(h:PG bY a7 a9 aT=some aE):Lq 95 rd 26 (PH bY a7 a9 aT) ((PI bY a7 a9) aE):=
 lL (fun s:Int=>PH bY a7 a9 s) (PI bY a7 a9) aT (fun aT o h=>by
 unfold EB at h
 refine iB 9 h (fun h=>?_) fun h=>?_
 refine xX 14 X3.D h fun x1 h=>?_
 obtain⟨r2,h3,h⟩:=bS h
 refine gQ (aGn h3) ?_
 cases r2
 replace h:=B2 h
 refine gW 16 (.ret (.d (D.b false))) ?_
 exact lb h
 replace h:=B3 h
 refine gW 16 (.ret (.d (D.b true))) ?_
 exact lb h
 exact lb h) h
theorem aEh(h:Xx bY a7=some a9):AL Tryz.prog 95 [.d ((D.l X3.D) bY),.clo (.func 103) [] [.eptr (D.cells (dZ a7))]] [] (dI a9) []:=by
 unfold Xx at h;apply g0 (o:=a9);refine gN 7 X3.D bY ?_;obtain⟨o3,h5,h⟩:=bS h;refine gl (T8 none h5) ?_;replace h:=AG h;rcases h with⟨o4,rfl,h⟩|⟨o5,rfl,h⟩
 exact lf h;exact lf h
theorem aF3(h:Z8 bY a7=some aA):AL Tryz.prog 102 [.d ((D.l X3.D) bY),.clo (.func 103) [] [.eptr (D.cells (dZ a7))]] [] (.d (D.b aA)) []:=by unfold Z8 at h;apply g0 (o:=aA);obtain⟨r1,h1,h⟩:=bS h;refine gC 7 (aEh h1) ?_;exact lf h
theorem aGp(h:Zj a7 aL a6=some aA):AL Tryz.prog 101 [dI a7,.d (Xc.D aL),.eptr (D.cells (AA.D a6))] [] (.d (D.b aA)) []:=by unfold Zj at h;apply g0 (o:=aA);refine gW 3 .frz ?_;obtain⟨r1,h1,h⟩:=bS h;refine gC 9 (aF3 h1) ?_;exact lf h
def O7(s1:AA)(s7:List Xc)(s8 s9:Int):St:=⟨sp 20 0 [(1,.clo (.func 101) [] [.eptr (D.cells (AA.D s1))]),sD 7 (D.l Xc.D) s7,sI 8 s8,sI 9 s9],[],[]⟩
def O8(s1:AA)(s7:List Xc)(s8:Int)(o:Unit⊕Unit):Ex×St:=match o with
 | .inl o=>(.exit 0,⟨sp 20 0 [],[],[]⟩)
 | .inr o=>(.ret,⟨sp 20 0 [sD 4 D.b false],[],[]⟩)
theorem T0(rd:Option Nat)(h:O6 a6 aM a7 a9=some a8):Lq 75 rd 26 (O7 a6 aM a7 a9) ((O8 a6 aM a7) a8):=
 lL (fun s:Int=>O7 a6 aM a7 s) (O8 a6 aM a7) a9 (fun a9 o h=>by
 unfold D9 at h
 refine iB 10 h (fun h=>?_) fun h=>?_
 refine xX 12 Xc.D h fun x1 h=>?_
 obtain⟨r2,h3,h⟩:=bS h
 refine gC 17 (aGp h3) ?_
 refine iB 18 h (fun h=>?_) fun h=>?_
 exact lb h
 exact lb h
 exact lb h) h
theorem aEd(h:Xs aM a6=some aA):AL Tryz.prog 75 [.d ((D.l Xc.D) aM),.clo (.func 101) [] [.eptr (D.cells (AA.D a6))]] [] (.d (D.b aA)) []:=by
 unfold Xs at h;apply g0 (o:=aA);refine gN 8 Xc.D aM ?_;obtain⟨o3,h5,h⟩:=bS h;refine gl (T0 none h5) ?_;replace h:=AG h;rcases h with⟨o4,rfl,h⟩|⟨o5,rfl,h⟩
 exact lf h;exact lf h
theorem Tf(rd:Option Nat)(h:OY a6 bR a7 a9 aA bI aH=some bZ):Lq 49 rd 7475 ⟨sp 41 0 [eP 1 AA.D a6,bx 3,bx 5,sD 8 (D.l X5.D) bR,sI 9 a7,sI 10 a9,sD 18 D.b aA],[(3,.cells ([.row 600])),cL 5 X5.D bI,(600,.row 3 1 (aH.map dZ))],[]⟩ (.normal,⟨sp 41 0 [eP 1 AA.D a6,bx 3,sD 8 (D.l X5.D) bR,sI 9 a7,sI 10 a9],[(3,.cells ([.row 523])),(523,.row 3 1 (bZ.map dZ))],[]⟩):=by unfold OY at h;apply g0 (o:=bZ);cases aA;replace h:=B2 h;exact lP h [.live [1,3,8,9,10],.keep [3,600],.ren 600 523,.sort];replace h:=B3 h;refine gQ (Av dZ [bI.symbol])<|gG 23 (.sl ((aH++[bI.symbol]).map dZ)) (Av dZ [bI.symbol]) ?_;obtain⟨h12,h⟩:=cS h;refine gQ (BS dZ h12)<|gQ (BQ dZ aH [bI.symbol]) ?_;exact lP h [.live [1,3,8,9,10],.keep [3,23],.ren 23 523,.sort]
theorem Te(rd:Option Nat)(h:Mc a6 bR a7 a9 aH=some bZ):Lq 49 rd 934 ⟨sp 41 0 [eP 1 AA.D a6,bx 3,sD 8 (D.l X5.D) bR,sI 9 a7,sI 10 a9],[(3,.cells ([.row 600])),(600,.row 3 1 (aH.map dZ))],[]⟩ (.normal,⟨sp 41 0 [eP 1 AA.D a6,bx 3,sD 8 (D.l X5.D) bR,sI 9 a7,sI 10 a9],[(3,.cells ([.row 523])),(523,.row 3 1 (bZ.map dZ))],[]⟩):=by unfold Mc at h;apply g0 (o:=bZ);refine xX 12 X5.D h fun x5 h=>?_;obtain⟨r6,h10,h⟩:=bS h;refine gC 17 (aFx h10) ?_;obtain⟨o7,h13,h⟩:=bS h;refine gl (Tf rd h13) ?_;exact lp h
def OZ(s1:AA)(s8:List X5)(s9 s10:Int)(w600:List Int):St:=⟨sp 41 0 [eP 1 AA.D s1,bx 3,sD 8 (D.l X5.D) s8,sI 9 s9,sI 10 s10],[(3,.cells ([.row 600])),(600,.row 3 1 (w600.map dZ))],[]⟩
def Oa(s1:AA)(s8:List X5)(s9:Int)(o:(List Int)):Ex×St:=(.exit 0,⟨sp 41 0 [eP 1 AA.D s1,bx 3],[(3,.cells ([.row 600])),(600,.row 3 1 (o.map dZ))],[]⟩)
theorem Tg(rd:Option Nat)(h:Md a6 bR a7 a9 aH=some bZ):Lq 49 rd 58 (OZ a6 bR a7 a9 aH) ((Oa a6 bR a7) bZ):=
 lL (fun s:Int×List Int=>OZ a6 bR a7 s.1 s.2) (Oa a6 bR a7) (a9,aH) (fun⟨a9,aH⟩ o h=>by
 unfold DF at h
 refine iB 11 h (fun h=>?_) fun h=>?_
 obtain⟨o8,h14,h⟩:=bS h
 refine gl (Te rd h14) ?_
 exact lB h [.live [1,3,8,9,10],.keep [3,523],.ren 523 600,.sort]
 exact lb h) h
theorem aD0(h:Xi a6=some aA):AL Tryz.prog 49 [.d (AA.D a6)] [] (.d (D.b aA)) []:=by unfold Xi at h;apply g0 (o:=aA);refine gN 9 X5.D a6.trans<|gW 1 .frz ?_;obtain⟨o9,h15,h⟩:=bS h;refine gL [.live [1,3,8,9,10],.keep [3],.nilc 3 0 600 3 1,.frz 600,.sort] (Tg none h15) ?_;obtain⟨r10,h16,h⟩:=bS h;refine gQ (aEu h16) ?_;cases r10;replace h:=B2 h;refine gW 28 (.lend [3] (.d (D.b false))) ?_;exact lf h;replace h:=B3 h;refine gW 28 (.lend [3] (.d (D.b true))) ?_;obtain⟨r11,h18,h⟩:=bS h;refine gQ (aEb h18) ?_;cases r11;replace h:=B2 h;refine gW 33 (.ret (.d (D.b false))) ?_;exact lf h;replace h:=B3 h;refine gW 33 (.ret (.d (D.b true))) ?_;obtain⟨r12,h20,h⟩:=bS h;refine gC 39 (aEd h20) ?_;exact lf h
theorem aAu(h:Yu a6=some aA):AL Tryz.prog 26 [.d (AA.D a6)] [] (.d (D.b aA)) []:=by unfold Yu at h;apply g0 (o:=aA);obtain⟨r1,h1,h⟩:=bS h;refine gQ (aCw h1) ?_;cases r1;replace h:=B2 h;refine gW 4 (.ret (.d (D.b false))) ?_;exact lf h;replace h:=B3 h;refine gW 4 (.ret (.d (D.b true))) ?_;obtain⟨r2,h3,h⟩:=bS h;refine gQ (aDs h3) ?_;cases r2;replace h:=B2 h;refine gW 7 (.ret (.d (D.b false))) ?_;exact lf h;replace h:=B3 h;refine gW 7 (.ret (.d (D.b true))) ?_;obtain⟨r3,h5,h⟩:=bS h;refine gQ (aFn h5) ?_;cases r3;replace h:=B2 h;refine gW 11 (.ret (.d (D.b false))) ?_;exact lf h;replace h:=B3 h;refine gW 11 (.ret (.d (D.b true))) ?_;obtain⟨r4,h7,h⟩:=bS h;refine gC 15 (aD0 h7) ?_;exact lf h
theorem aBm(h:Zp a6=some c9):AL Tryz.prog 8 [.d (AA.D a6)] [] (.d (.v (.pointer none))) []:=by
 unfold Zp at h;refine XG.call (ks:=[]) mixed fun us=>?_;apply g0 (o:=c9);refine gW 5 (.bit true) ?_;obtain⟨r1,h1,h⟩:=bS h;refine gC 4 (aAu h1) ?_;rcases iS h with⟨h2,h⟩|⟨h2,h⟩
 refine gQ h2 ?_;exact lX h (lv [2] [997]);cases h
theorem aBs(h:Zv a6=some cA):AL Tryz.prog 8 [.d (AA.D a6)] [] (.box 0 0) [(0,.cells ((Ao (AA.D cA.1))++[.row 1,.row 2])),(1,.map cA.2.1.clk (MP.dl dZ (D.l X0.D) cA.2.1)),(2,.map cA.2.2.clk (MP.dl D.s (D.l dZ) cA.2.2))]:=by
 unfold Zv at h;refine XG.call (ks:=[]) mixed fun us=>?_;apply g0 (o:=cA);refine gW 5 (.bit false) ?_;obtain⟨r1,h1,h⟩:=bS h;refine gC 4 (aAu h1) ?_;rcases iS h with⟨h2,h⟩|⟨h2,h⟩
 cases h;refine gQ h2 ?_;exact lX h [.live [2],.keep [7,8,10,997],.ren 7 1,.ren 8 2,.ren 10 0,.sort]
theorem Wp(h:Zk a7=some cB):AL Tryz.prog 25 [dI a7] [] (.d (X0.D cB)) []:=by unfold Zk at h;apply g0 (o:=cB);exact lf h
theorem aDb(h:Qt cC=some cD):AL Tryz.prog 28 [.d (D.l X0.D cC)] [] (.d (D.l X0.D cD)) []:=
 L8 (ρ:=⟨fun _=>28,fun n=>if n=4 then 4 else if n=22 then 45 else 68,id⟩) (by_:=48) X0.D rfl (Ra mixed ⟨ "slices.Clone[[]proctor/api.Slot,proctor/api.Slot]",by decide,(Tryz.func28).trans (by kernel_rfl)⟩ Tryz.underlying4 Tryz.underlying45 (by kernel_rfl) (by kernel_rfl) (by kernel_rfl) (by kernel_rfl)) (by kernel_rfl) (by decide) cC cD h
theorem YL(h:Q1 a7 a9=some aC):AL Tryz.prog 53 [dI a7,dI a9] [] (.d (D.s aC)) []:=by unfold Q1 at h;apply g0 (o:=aC);refine gG 6 (.int (u8w a7).toNat) (MW a7)<|gG 8 (.int (u8w a9).toNat) (MW a9)<|gQ (Av Ag [u8w a7,u8w a9])<|gG 10 (.str [u8w a7,u8w a9]) (rfl:[u8w a7,u8w a9].map Ag=[u8w a7,u8w a9].map Ag) ?_;exact lf h
def Pf(s1:Int)(s8:List X0)(s9:Int)(w4:X4)(s10:Int):St:=⟨sp 22 0 [sI 1 s1,bx 4,sD 8 (D.l X0.D) s8,sI 9 s9,sI 10 s10],[cL 4 X4.D w4],[]⟩
def Pg(s1:Int)(s8:List X0)(s9:Int)(w4:X4)(o:Unit⊕X4):Ex×St:=match o with
 | .inl o=>(.exit 0,⟨sp 22 0 [bx 4],[cL 4 X4.D w4],[]⟩)
 | .inr o=>(.ret,⟨sp 22 0 [bx 4,sD 5 D.b true],[cL 4 X4.D o],[]⟩)
theorem UM(rd:Option Nat)(h:UL a7 cC a9 aN aT=some cE):Lq 54 rd 26 (Pf a7 cC a9 aN aT) ((Pg a7 cC a9 aN) cE):=
 lL (fun s:Int=>Pf a7 cC a9 aN s) (Pg a7 cC a9 aN) aT (fun aT o h=>by
 unfold J4 at h
 refine iB 11 h (fun h=>?_) fun h=>?_
 refine xX 12 X0.D h fun x1 h=>?_
 refine iB 17 h (fun h=>?_) fun h=>?_
 exact lb h
 exact lb h
 exact lb h) h
theorem aAc(h:Y6 cC a7=some cF):AL Tryz.prog 54 [.d ((D.l X0.D) cC),dI a7] [] (.tup [.d (X4.D cF.1),.d (D.b cF.2)]) []:=by
 unfold Y6 at h;apply g0 (o:=cF);refine gN 9 X0.D cC ?_;obtain⟨o2,h4,h⟩:=bS h;refine gl (UM none h4) ?_;replace h:=AG h;rcases h with⟨o3,rfl,h⟩|⟨o4,rfl,h⟩
 exact lf h;exact lf h
def P3(s3 s10:Int)(w4:List UInt8):St:=⟨sp 27 0 [sD 3 dU s3,bx 4,sI 10 s10],[(4,.buf false 218 1 (w4.map Ag))],[]⟩
def P4(s3:Int)(o:(List UInt8)):Ex×St:=(.exit 0,⟨sp 27 0 [bx 4],[(4,.buf false 218 1 (o.map Ag))],[]⟩)
theorem UY(rd:Option Nat)(h:UX a7 a9 aC=some cG):Lq 145 rd 122 (P3 a7 a9 aC) ((P4 a7) cG):=
 lL (fun s:Int×List UInt8=>P3 a7 s.1 s.2) (P4 a7) (a9,aC) (fun⟨a9,aC⟩ o h=>by
 unfold KC at h
 refine iB 11 h (fun h=>?_) fun h=>?_
 refine gW 19 (.int (u8w (AB .shr .u64 a7 (AB .mul .i64 8 (AB .sub .i64 7 a9)))).toNat)<|gW 10020 (.sl ((aC.set a9.toNat (u8w (AB .shr .u64 a7 (AB .mul .i64 8 (AB .sub .i64 7 a9))))).map Ag)) ?_
 obtain⟨h2,h⟩:=cS h
 refine gQ h2<|gQ (MW (AB .shr .u64 a7 (AB .mul .i64 8 (AB .sub .i64 7 a9)))) ?_
 obtain⟨h3,h⟩:=cS h
 refine gQ h3.1<|gQ h3.2 ?_
 obtain⟨h4,h⟩:=cS h
 refine gQ (Rx Ag h4)<|gQ (F8 Ag aC a9 (u8w (AB .shr .u64 a7 (AB .mul .i64 8 (AB .sub .i64 7 a9))))) ?_
 exact lb h
 exact lb h) h
theorem aE9(h:Ye a7=some aC):AL Tryz.prog 145 [dI a7] [] (.d ((D.l Ag) aC)) []:=by unfold Ye at h;apply g0 (o:=aC);refine gW 22 (.sl ((List.replicate (8:Int).toNat (0:UInt8)).map Ag)) ?_;obtain⟨o1,h5,h⟩:=bS h;refine gl (UY none h5)<|gW 25 (.sl ((o1.take (List.replicate (8:Int).toNat (0:UInt8)).length++(List.replicate (8:Int).toNat (0:UInt8)).drop o1.length).map Ag)) ?_;obtain⟨h6,h⟩:=cS h;refine gQ h6.1<|gQ (Int.le_refl (8:Int))<|gQ (Int.le_refl (8:Int))<|gQ (R6 Ag (0:UInt8) h6.2)<|gQ (R5 Ag (8:Int) (0:UInt8)) ?_;obtain⟨h7,h⟩:=cS h;refine gQ (aB0 Ag h7)<|gQ (U7 Ag (List.replicate (8:Int).toNat (0:UInt8)) o1) ?_;exact lF h [.frz 22]
theorem T9(rd:Option Nat)(h:WV aC a7 a9 aA cH=some cG):Lq 146 rd 14951 ⟨sp 27 0 [sD 0 D.s aC,rx 3,sI 6 a7,sI 7 a9,sD 19 D.b aA],[(3,.row 5 1 (cH.map Ag))],[]⟩ (.normal,⟨sp 27 0 [sD 0 D.s aC,rx 3,sI 6 a7,sI 7 a9],[(3,.row 5 1 (cG.map Ag))],[]⟩):=by unfold WV at h;apply g0 (o:=cG);cases aA;replace h:=B2 h;exact lp h;replace h:=B3 h;refine gQ (Av Ag [(255:UInt8)])<|gG 22 (.sl ((cH++[(255:UInt8)]).map Ag)) (Av Ag [(255:UInt8)]) ?_;obtain⟨h6,h⟩:=cS h;refine gQ (BS Ag h6)<|gQ (BQ Ag cH [(255:UInt8)]) ?_;exact lP h [.live [0,3,6,7],.keep [22],.ren 22 3,.sort]
theorem UA(rd:Option Nat)(h:WW aC a7 a9 cH=some cG):Lq 146 rd 934 ⟨sp 27 0 [sD 0 D.s aC,rx 3,sI 6 a7,sI 7 a9],[(3,.row 5 1 (cH.map Ag))],[]⟩ (.normal,⟨sp 27 0 [sD 0 D.s aC,rx 3,sI 6 a7,sI 7 a9],[(3,.row 5 1 (cG.map Ag))],[]⟩):=by unfold WW at h;apply g0 (o:=cG);obtain⟨x5,h10,h⟩:=xS h;refine gG 13 (.int x5.toNat) (Cg h10)<|gQ (Av Ag [x5])<|gG 15 (.sl ((cH++[x5]).map Ag)) (Av Ag [x5]) ?_;obtain⟨h11,h⟩:=cS h;refine gQ (BS Ag h11)<|gQ (BQ Ag cH [x5]) ?_;obtain⟨x6,h12,h⟩:=xS h;refine gG 18 (.int x6.toNat) (Cg h12) ?_;obtain⟨o7,h13,h⟩:=bS h;refine gL [.live [0,3,6,7,19],.keep [15],.ren 15 3,.sort] (T9 rd h13) ?_;exact lp h
def PJ(s0:List UInt8)(s6 s7:Int)(w3:List UInt8):St:=⟨sp 27 0 [sD 0 D.s s0,rx 3,sI 6 s6,sI 7 s7],[(3,.row 5 1 (w3.map Ag))],[]⟩
def PK(s0:List UInt8)(s6:Int)(o:(List UInt8)):Ex×St:=(.exit 0,⟨sp 27 0 [rx 3],[(3,.row 5 1 (o.map Ag))],[]⟩)
theorem UC(rd:Option Nat)(h:UB aC a7 a9 cH=some cG):Lq 146 rd 58 (PJ aC a7 a9 cH) ((PK aC a7) cG):=
 lL (fun s:Int×List UInt8=>PJ aC a7 s.1 s.2) (PK aC a7) (a9,cH) (fun⟨a9,cH⟩ o h=>by
 unfold Jv at h
 refine iB 8 h (fun h=>?_) fun h=>?_
 obtain⟨o8,h14,h⟩:=bS h
 refine gl (UA rd h14) ?_
 exact lb h
 exact lb h) h
theorem aEj(h:Xy aC=some cH):AL Tryz.prog 146 [.d (D.s aC)] [] (.d ((D.l Ag) cH)) []:=by unfold Xy at h;apply g0 (o:=cH);refine gG 6 (.int (aC.length:Int)) (A4 aC) ?_;obtain⟨o9,h15,h⟩:=bS h;refine gL [.live [0,3,6,7],.keep [],.nil 3 3 5 1,.sort] (UC none h15)<|gQ (Av Ag [(0:UInt8),(1:UInt8)])<|gG 26 (.sl ((o9++[(0:UInt8),(1:UInt8)]).map Ag)) (Av Ag [(0:UInt8),(1:UInt8)]) ?_;obtain⟨h16,h⟩:=cS h;refine gQ (BS Ag h16)<|gQ (BQ Ag o9 [(0:UInt8),(1:UInt8)]) ?_;exact lf h
theorem aGt(h:Zq aN=some aC):AL Tryz.prog 104 [.d (X4.D aN)] [] (.d ((D.l Ag) aC)) []:=by unfold Zq at h;apply g0 (o:=aC);refine gG 6 (.int (u8w aN.kind).toNat) (MW aN.kind)<|gQ (Av Ag [u8w aN.kind]) ?_;refine iB 10 h (fun h=>?_) fun h=>?_;obtain⟨r1,h2,h⟩:=bS h;refine gC 15 (aE9 h2)<|gG 16 (.sl (([u8w aN.kind]++r1).map Ag)) (Av Ag r1) ?_;obtain⟨h3,h⟩:=cS h;refine gQ (BS Ag h3)<|gQ (BQ Ag [u8w aN.kind] r1) ?_;exact lf h;refine iB 17 h (fun h=>?_) fun h=>?_;obtain⟨r2,h5,h⟩:=bS h;refine gC 22 (aEj h5)<|gG 23 (.sl (([u8w aN.kind]++r2).map Ag)) (Av Ag r2) ?_;obtain⟨h6,h⟩:=cS h;refine gQ (BS Ag h6)<|gQ (BQ Ag [u8w aN.kind] r2) ?_;exact lf h;refine iB 25 h (fun h=>?_) fun h=>?_;refine gQ (Av Ag [(1:UInt8)])<|gG 28 (.sl (([u8w aN.kind]++[(1:UInt8)]).map Ag)) (Av Ag [(1:UInt8)]) ?_;obtain⟨h8,h⟩:=cS h;refine gQ (BS Ag h8)<|gQ (BQ Ag [u8w aN.kind] [(1:UInt8)]) ?_;exact lf h;refine gQ (Av Ag [(0:UInt8)])<|gG 31 (.sl (([u8w aN.kind]++[(0:UInt8)]).map Ag)) (Av Ag [(0:UInt8)]) ?_;obtain⟨h9,h⟩:=cS h;refine gQ (BS Ag h9)<|gQ (BQ Ag [u8w aN.kind] [(0:UInt8)]) ?_;exact lf h
def O9(s6:List X4)(s7 s8:Int)(w3:List UInt8):St:=⟨sp 21 0 [rx 3,sD 6 (D.l X4.D) s6,sI 7 s7,sI 8 s8],[(3,.row 5 1 (w3.map Ag))],[]⟩
def PA(s6:List X4)(s7:Int)(o:(List UInt8)⊕Unit):Ex×St:=match o with
 | .inl o=>(.exit 0,⟨sp 21 0 [rx 3],[(3,.row 5 1 (o.map Ag))],[]⟩)
 | .inr o=>(.ret,⟨sp 21 0 [(2,.nil)],[],[]⟩)
theorem T2(rd:Option Nat)(h:T1 cI a7 a9 aC=some cJ):Lq 55 rd 58 (O9 cI a7 a9 aC) ((PA cI a7) cJ):=
 lL (fun s:Int×List UInt8=>O9 cI a7 s.1 s.2) (PA cI a7) (a9,aC) (fun⟨a9,aC⟩ o h=>by
 unfold HO at h
 refine iB 9 h (fun h=>?_) fun h=>?_
 refine xX 10 X4.D h fun x4 h=>?_
 obtain⟨r5,h9,h⟩:=bS h
 refine gC 13 (Um h9) ?_
 refine iB 14 h (fun h=>?_) fun h=>?_
 exact lb h
 obtain⟨r6,h11,h⟩:=bS h
 refine gC 17 (aGt h11)<|gG 18 (.sl ((aC++r6).map Ag)) (Av Ag r6) ?_
 obtain⟨h12,h⟩:=cS h
 refine gQ (BS Ag h12)<|gQ (BQ Ag aC r6) ?_
 exact lB h [.live [3,6,7,8],.keep [18],.ren 18 3,.sort]
 exact lb h) h
theorem ZR(h:Xt cI=some aC):AL Tryz.prog 55 [.d ((D.l X4.D) cI)] [] (.d ((D.l Ag) aC)) []:=by
 unfold Xt at h;apply g0 (o:=aC);refine gN 7 X4.D cI ?_;obtain⟨o7,h13,h⟩:=bS h;refine gL [.live [3,6,7,8],.keep [],.nil 3 3 5 1,.sort] (T2 none h13) ?_;replace h:=AG h;rcases h with⟨o8,rfl,h⟩|⟨o9,rfl,h⟩
 exact lf h;exact lf h
theorem aBr(h:Zu a7=some aA):AL Tryz.prog 147 [dI a7] [] (.d (D.b aA)) []:=by unfold Zu at h;apply g0 (o:=aA);exact lf h
theorem aDc(h:Qu a7 a9=some aA):AL Tryz.prog 105 [dI a7,dI a9] [] (.d (D.b aA)) []:=by unfold Qu at h;apply g0 (o:=aA);obtain⟨r1,h1,h⟩:=bS h;refine gQ (aBr h1) ?_;cases r1;replace h:=B2 h;refine gW 6 (.ret (.d (D.b false))) ?_;exact lf h;replace h:=B3 h;refine gW 6 (.ret (.d (D.b true))) ?_;obtain⟨r2,h3,h⟩:=bS h;refine gC 9 (aBr h3) ?_;refine iB 12 h (fun h=>?_) fun h=>?_;exact lf h;exact lf h
theorem CI(h:Zu a7=some aA):AL Tryz.prog 106 [dI a7] [] (.d (D.b aA)) []:=by unfold Zu at h;apply g0 (o:=aA);exact lf h
theorem To(rd:Option Nat)(h:WT aH a7 a9 aT b7 cK aA=some cM):Lq 56 rd 1931 ⟨sp 54 0 [sD 0 (D.l dZ) aH,sI 1 a7,sI 6 a9,sI 7 aT,sI 8 b7,sI 9 cK,sD 27 D.b aA],[],[]⟩ (.normal,⟨sp 54 0 [sD 0 (D.l dZ) aH,sI 1 a7,sI 6 a9,sI 7 cM.1,sI 8 cM.2],[],[]⟩):=by unfold WT at h;apply g0 (o:=cM);cases aA;replace h:=B2 h;exact lp h;replace h:=B3 h;exact lp h
theorem Tn(rd:Option Nat)(h:WS aH a7 a9 aT b7=some cM):Lq 56 rd 241 ⟨sp 54 0 [sD 0 (D.l dZ) aH,sI 1 a7,sI 6 a9,sI 7 aT,sI 8 b7],[],[]⟩ (.normal,⟨sp 54 0 [sD 0 (D.l dZ) aH,sI 1 a7,sI 6 a9,sI 7 cM.1,sI 8 cM.2],[],[]⟩):=by unfold WS at h;apply g0 (o:=cM);refine gQ (of_decide_eq_true rfl:(0:Int)<=1)<|xX 24 dZ h fun x1 h=>?_;obtain⟨r2,h3,h⟩:=bS h;refine gC 27 (aDc h3) ?_;obtain⟨o3,h5,h⟩:=bS h;refine gl (To rd h5) ?_;exact lp h
def Oh(s0:List Int)(s1 s6:Int)(s7 s8:Int):St:=⟨sp 54 0 [sD 0 (D.l dZ) s0,sI 1 s1,sI 6 s6,sI 7 s7,sI 8 s8],[],[]⟩
def Oi(s0:List Int)(s1 s6 o:Int):Ex×St:=(.exit 0,⟨sp 54 0 [sD 0 (D.l dZ) s0,sI 1 s1,sI 6 s6,sI 7 o],[],[]⟩)
theorem Tq(rd:Option Nat)(h:Tp aH a7 a9 aT b7=some cK):Lq 56 rd 60 (Oh aH a7 a9 aT b7) ((Oi aH a7 a9) cK):=
 lL (fun s:Int×Int=>Oh aH a7 a9 s.1 s.2) (Oi aH a7 a9) (aT,b7) (fun⟨aT,b7⟩ o h=>by
 unfold Jj at h
 refine iB 15 h (fun h=>?_) fun h=>?_
 obtain⟨o4,h6,h⟩:=bS h
 refine gl (Tn rd h6) ?_
 exact lb h
 exact lb h) h
theorem WU(h:Xl aH a7=some aF):AL Tryz.prog 56 [.d ((D.l dZ) aH),dI a7] [] (.tup [dI aF.1,.d (D.b aF.2)]) []:=by unfold Xl at h;apply g0 (o:=aF);refine gN 11 dZ aH ?_;obtain⟨o5,h7,h⟩:=bS h;refine gl (Tq none h7) ?_;refine iB 35 h (fun h=>?_) fun h=>?_;refine xX 38 dZ h fun x6 h=>?_;refine iB 42 h (fun h=>?_) fun h=>?_;exact lf h;refine xX 45 dZ h fun x7 h=>?_;obtain⟨r8,h12,h⟩:=bS h;refine gQ (CI h12) ?_;cases r8;replace h:=B2 h;refine gW 47 (.ret (.d (D.b false))) ?_;exact lf h;replace h:=B3 h;refine gW 47 (.ret (.d (D.b true))) ?_;obtain⟨r9,h14,h⟩:=bS h;refine gC 50 (CI h14) ?_;exact lf h;exact lf h
theorem aDd(h:Qv a7 aH=some bV):AL Tryz.prog 57 [.nil,.d (D.i .i64 a7),.row 0] [(0,.row 3 1 (aH.map dZ))] (.row 1) [rW 1 3 1 dZ bV]:=
 XM (ρ:=⟨fun n=>if n=22 then 57 else if n=29 then 107 else 108,fun n=>if n=0 then 0 else if n=3 then 3 else if n=4 then 4 else if n=24 then 52 else 3,id⟩) (by_:=8) dZ mixed rfl ⟨ "slices.Insert[[]int,int]",by decide,(Tryz.func57).trans (by kernel_rfl)⟩ Tryz.underlying3 Tryz.underlying4 Tryz.underlying52 (by kernel_rfl) (by decide) a7 aH bV h
theorem aGv(h:Zr a7=some aH):AL Tryz.prog 31 [.nil,dI a7] [] (.d ((D.l dZ) aH)) []:=by unfold Zr at h;apply g0 (o:=aH);obtain⟨r1,h1,h⟩:=bS h;refine gC 10 (WU h1) ?_;refine iB 13 h (fun h=>?_) fun h=>?_;exact lf h;refine gQ (Av dZ [a7]) ?_;obtain⟨r2,h3,h⟩:=bS h;refine gG 19 (.cx true [(0,18)] [(1,19)] (.row 1) [rW 1 3 1 dZ r2]) (aDd h3) ?_;exact lF h [.frz 19]
theorem aGx(h:Zs aC a7 a6 cN cO=some cA):AL Tryz.prog 30 [.d (D.s aC),.box 0 0,.eptr (D.cells (dZ a7))] [(0,.cells ([.box 1 0])),(1,.cells ((Ao (AA.D a6))++[.row 2,.row 3])),(2,.map cN.clk (MP.dl dZ (D.l X0.D) cN)),(3,.map cO.clk (MP.dl D.s (D.l dZ) cO))] (.tup []) [(0,.cells ([.box 1 0])),(1,.cells ((Ao (AA.D cA.1))++[.row 4,.row 5])),(4,.map cA.2.1.clk (MP.dl dZ (D.l X0.D) cA.2.1)),(5,.map cA.2.2.clk (MP.dl D.s (D.l dZ) cA.2.2))]:=by unfold Zs at h;refine XG.call (ks:=[1,1001]) mixed fun us=>?_;apply g0 (o:=cA);refine gW 14 (.bit false) ?_;obtain⟨h1,h⟩:=cS h;refine gQ (VL (aCp Tryz.underlying9) (D.l dZ) ([]:List Int) cO aC h1) ?_;obtain⟨r1,h2,h⟩:=bS h;refine gG 16 (.cx true [] [] (.d ((D.l dZ) r1)) []) (aGv h2)<|gQ (R7 (aCp Tryz.underlying9) (D.l dZ) cO aC r1)<|gW 10007 (.mp (GH cO aC r1).clk (MP.dl D.s (D.l dZ) (GH cO aC r1))) ?_;exact lX h [.live [],.keep [0,1,2,3,997],.ren 2 4,.ren 3 5,.sort]
theorem S8(rd:Option Nat)(us:List Value)(h:Ny cC a7 a9 aC bY aT b7 bN cK cP aA a6 aN cN cO cQ=some cG):Lq 29 rd 3355451 ⟨sp 57 0 [sD 1 (D.l X0.D) cC,(2,.clo (.func 30) [] [.box 1 0,.eptr (D.cells (dZ a7))]),sI 6 a9,sD 10 D.s aC,bx 11,sD 17 (D.l X3.D) bY,sI 18 aT,sI 19 b7,sD 25 (D.l AT.D) bN,sI 26 cK,sI 27 cP,sD 45 D.b aA],[(0,.cells ((Ao (AA.D a6))++[.row 502,.row 503])),(1,.cells ([.box 0 0])),cL 11 X4.D aN,(502,.map cN.clk (MP.dl dZ (D.l X0.D) cN)),(503,.map cO.clk (MP.dl D.s (D.l dZ) cO)),(997,.vals [.box 0 0,.clo (.func 30) [] [.box 1 0,.eptr (D.cells (dZ cQ))]] us)],[]⟩ (.normal,⟨sp 57 0 [sD 1 (D.l X0.D) cC,(2,.clo (.func 30) [] [.box 1 0,.eptr (D.cells (dZ a7))]),sI 6 a9,sD 10 D.s cG,sD 17 (D.l X3.D) bY,sI 18 aT,sI 19 b7,sD 25 (D.l AT.D) bN,sI 26 cK,sI 27 cP],[(0,.cells ((Ao (AA.D a6))++[.row 502,.row 503])),(1,.cells ([.box 0 0])),(502,.map cN.clk (MP.dl dZ (D.l X0.D) cN)),(503,.map cO.clk (MP.dl D.s (D.l dZ) cO)),(997,.vals [.box 0 0,.clo (.func 30) [] [.box 1 0,.eptr (D.cells (dZ cQ))]] us)],[]⟩):=by unfold Ny at h;apply g0 (o:=cG);cases aA;replace h:=B2 h;exact lp h;replace h:=B3 h;refine gQ (Av X4.D [aN]) ?_;obtain⟨r5,h9,h⟩:=bS h;refine gC 49 (ZR h9)<|gG 50 (.str r5) (rfl:r5.map Ag=r5.map Ag)<|gW 51 (.str (aC++r5)) ?_;obtain⟨h10,h⟩:=cS h;refine gQ (F2 h10) ?_;exact lp h
theorem S7(rd:Option Nat)(us:List Value)(h:Nw cC a7 a9 bY aT b7 bN cK cP a6 cN cO cQ=some cR):Lq 29 rd 26214 ⟨sp 57 0 [sD 1 (D.l X0.D) cC,(2,.clo (.func 30) [] [.box 1 0,.eptr (D.cells (dZ a7))]),sI 6 a9,sD 17 (D.l X3.D) bY,sI 18 aT,sI 19 b7,sD 25 (D.l AT.D) bN,sI 26 cK,sI 27 cP],[(0,.cells ((Ao (AA.D a6))++[.row 502,.row 503])),(1,.cells ([.box 0 0])),(502,.map cN.clk (MP.dl dZ (D.l X0.D) cN)),(503,.map cO.clk (MP.dl D.s (D.l dZ) cO)),(997,.vals [.box 0 0,.clo (.func 30) [] [.box 1 0,.eptr (D.cells (dZ cQ))]] us)],[]⟩ (.normal,⟨sp 57 0 [sD 1 (D.l X0.D) cC,(2,.clo (.func 30) [] [.box 1 0,.eptr (D.cells (dZ a7))]),sI 6 a9,sD 17 (D.l X3.D) bY,sI 18 aT,sI 19 b7,sD 25 (D.l AT.D) bN,sI 26 cK,sI 27 cP],[(0,.cells ((Ao (AA.D cR.1))++[.row 502,.row 503])),(1,.cells ([.box 0 0])),(502,.map cR.2.1.clk (MP.dl dZ (D.l X0.D) cR.2.1)),(503,.map cR.2.2.clk (MP.dl D.s (D.l dZ) cR.2.2)),(997,.vals [.box 0 0,.clo (.func 30) [] [.box 1 0,.eptr (D.cells (dZ cQ))]] us)],[]⟩):=by unfold Nw at h;apply g0 (o:=cR);refine xX 30 AT.D h fun x2 h=>?_;refine iB 34 h (fun h=>?_) fun h=>?_;exact lp h;obtain⟨r3,h6,h⟩:=bS h;refine gC 37 (YL h6) ?_;obtain⟨r4,h7,h⟩:=bS h;refine gC 42 (aAc h7) ?_;obtain⟨o6,h11,h⟩:=bS h;refine gl (S8 rd us h11) ?_;obtain⟨r7,h12,h⟩:=bS h;refine gG 54 (.cx false [(0,1),(1,0),(2,502),(3,503)] [(4,54),(5,461)] (.tup []) [(0,.cells ([.box 1 0])),(1,.cells ((Ao (AA.D r7.1))++[.row 4,.row 5])),(4,.map r7.2.1.clk (MP.dl dZ (D.l X0.D) r7.2.1)),(5,.map r7.2.2.clk (MP.dl D.s (D.l dZ) r7.2.2))]) (aGx h12) ?_;exact lP h [.live [1,2,6,17,18,19,25,26,27],.keep [0,1,54,461,997],.ren 54 502,.ren 461 503,.sort]
def N1(us:List Value)(s1:List X0)(s2 s6:Int)(s17:List X3)(s18 s19:Int)(s25:List AT)(s26 w997 s27:Int)(w0:AA)(w502:MP Int (List X0))(w503:MP (List UInt8) (List Int)):St:=⟨sp 57 0 [sD 1 (D.l X0.D) s1,(2,.clo (.func 30) [] [.box 1 0,.eptr (D.cells (dZ s2))]),sI 6 s6,sD 17 (D.l X3.D) s17,sI 18 s18,sI 19 s19,sD 25 (D.l AT.D) s25,sI 26 s26,sI 27 s27],[(0,.cells ((Ao (AA.D w0))++[.row 502,.row 503])),(1,.cells ([.box 0 0])),(502,.map w502.clk (MP.dl dZ (D.l X0.D) w502)),(503,.map w503.clk (MP.dl D.s (D.l dZ) w503)),(997,.vals [.box 0 0,.clo (.func 30) [] [.box 1 0,.eptr (D.cells (dZ w997))]] us)],[]⟩
def N3(us:List Value)(s1:List X0)(s2 s6:Int)(s17:List X3)(s18 s19:Int)(s25:List AT)(s26 w997:Int)(o:(AA×MP Int (List X0)×MP (List UInt8) (List Int))):Ex×St:=(.exit 2,⟨sp 57 0 [sD 1 (D.l X0.D) s1,(2,.clo (.func 30) [] [.box 1 0,.eptr (D.cells (dZ s2))]),sD 17 (D.l X3.D) s17,sI 18 s18,sI 19 s19],[(0,.cells ((Ao (AA.D o.1))++[.row 502,.row 503])),(1,.cells ([.box 0 0])),(502,.map o.2.1.clk (MP.dl dZ (D.l X0.D) o.2.1)),(503,.map o.2.2.clk (MP.dl D.s (D.l dZ) o.2.2)),(997,.vals [.box 0 0,.clo (.func 30) [] [.box 1 0,.eptr (D.cells (dZ w997))]] us)],[]⟩)
theorem TC(rd:Option Nat)(us:List Value)(h:TB cC a7 a9 bY aT b7 bN cK cP cQ a6 cN cO=some cR):Lq 29 rd 1638 (N1 us cC a7 a9 bY aT b7 bN cK cP cQ a6 cN cO) ((N3 us cC a7 a9 bY aT b7 bN cK cP) cR):=
 lL (fun s:Int×AA×MP Int (List X0)×MP (List UInt8) (List Int)=>N1 us cC a7 a9 bY aT b7 bN cK cP s.1 s.2.1 s.2.2.1 s.2.2.2) (N3 us cC a7 a9 bY aT b7 bN cK cP) (cQ,a6,cN,cO) (fun⟨cQ,a6,cN,cO⟩ o h=>by
 unfold HJ at h
 refine iB 28 h (fun h=>?_) fun h=>?_
 obtain⟨o8,h13,h⟩:=bS h
 refine gl (S7 rd us h13) ?_
 exact lb h
 exact lb h) h
def Nz(us:List Value)(s1:List X0)(s2:Int)(s17:List X3)(s18 w997 s19:Int)(w0:AA)(w502:MP Int (List X0))(w503:MP (List UInt8) (List Int)):St:=⟨sp 57 0 [sD 1 (D.l X0.D) s1,(2,.clo (.func 30) [] [.box 1 0,.eptr (D.cells (dZ s2))]),sD 17 (D.l X3.D) s17,sI 18 s18,sI 19 s19],[(0,.cells ((Ao (AA.D w0))++[.row 502,.row 503])),(1,.cells ([.box 0 0])),(502,.map w502.clk (MP.dl dZ (D.l X0.D) w502)),(503,.map w503.clk (MP.dl D.s (D.l dZ) w503)),(997,.vals [.box 0 0,.clo (.func 30) [] [.box 1 0,.eptr (D.cells (dZ w997))]] us)],[]⟩
def N0(us:List Value)(s1:List X0)(s2:Int)(s17:List X3)(s18 w997:Int)(o:(AA×MP Int (List X0)×MP (List UInt8) (List Int))):Ex×St:=(.exit 0,⟨sp 57 0 [],[(0,.cells ((Ao (AA.D o.1))++[.row 502,.row 503])),(1,.cells ([.box 0 0])),(502,.map o.2.1.clk (MP.dl dZ (D.l X0.D) o.2.1)),(503,.map o.2.2.clk (MP.dl D.s (D.l dZ) o.2.2)),(997,.vals [.box 0 0,.clo (.func 30) [] [.box 1 0,.eptr (D.cells (dZ w997))]] us)],[]⟩)
theorem TA(rd:Option Nat)(us:List Value)(h:S9 cC a7 bY a9 aT b7 a6 cN cO=some cR):Lq 29 rd 6 (Nz us cC a7 bY a9 aT b7 a6 cN cO) ((N0 us cC a7 bY a9 aT) cR):=
 lL (fun s:Int×AA×MP Int (List X0)×MP (List UInt8) (List Int)=>Nz us cC a7 bY a9 aT s.1 s.2.1 s.2.2.1 s.2.2.2) (N0 us cC a7 bY a9 aT) (b7,a6,cN,cO) (fun⟨b7,a6,cN,cO⟩ o h=>by
 unfold HI at h
 refine iB 20 h (fun h=>?_) fun h=>?_
 refine xX 22 X3.D h fun x1 h=>?_
 refine gN 26 AT.D x1.args ?_
 obtain⟨o9,h14,h⟩:=bS h
 refine gl (TC rd us h14) ?_
 exact lb h
 exact lb h) h
theorem aDp(h:Xa cC a7 a6 cN cO=some cA):AL Tryz.prog 29 [.box 0 0,.d ((D.l X0.D) cC),.clo (.func 30) [] [.box 1 0,.eptr (D.cells (dZ a7))]] [(0,.cells ((Ao (AA.D a6))++[.row 2,.row 3])),(1,.cells ([.box 0 0])),(2,.map cN.clk (MP.dl dZ (D.l X0.D) cN)),(3,.map cO.clk (MP.dl D.s (D.l dZ) cO))] (.tup []) [(0,.cells ((Ao (AA.D cA.1))++[.row 4,.row 5])),(1,.cells ([.box 0 0])),(4,.map cA.2.1.clk (MP.dl dZ (D.l X0.D) cA.2.1)),(5,.map cA.2.2.clk (MP.dl D.s (D.l dZ) cA.2.2))]:=by unfold Xa at h;refine XG.call (ks:=[0,2]) mixed fun us=>?_;apply g0 (o:=cA);refine gN 18 X3.D a6.symbols ?_;obtain⟨o10,h15,h⟩:=bS h;refine gL [.live [1,2,17,18,19],.keep [0,1,2,3,997],.ren 2 502,.ren 3 503,.sort] (TA none us h15) ?_;exact lX h [.live [],.keep [0,1,502,503,997],.ren 502 4,.ren 503 5,.sort]
theorem Wm(h:Yr a7 cC a6 cN cO=some cT):AL Tryz.prog 11 [.box 0 0,dI a7,.d ((D.l X0.D) cC)] [(0,.cells ((Ao (AA.D a6))++[.row 1,.row 2])),(1,.map cN.clk (MP.dl dZ (D.l X0.D) cN)),(2,.map cO.clk (MP.dl D.s (D.l dZ) cO))] (.d (D.b cT.1)) [(0,.cells ((Ao (AA.D cT.2.1))++[.row 3,.row 4])),(3,.map cT.2.2.1.clk (MP.dl dZ (D.l X0.D) cT.2.2.1)),(4,.map cT.2.2.2.clk (MP.dl D.s (D.l dZ) cT.2.2.2))]:=by unfold Yr at h;refine XG.call (ks:=[0]) mixed fun us=>?_;apply g0 (o:=cT);refine gG 17 (.mg ((D.l X0.D) (Cs ([]:List X0) cN a7).1) (Cs ([]:List X0) cN a7).2) (H3 (aHg Tryz.underlying3) (D.l X0.D) ([]:List X0) cN a7)<|gW 4 .frz ?_;refine iB 20 h (fun h=>?_) fun h=>?_;exact lX h [.live [6],.keep [0,1,2,997],.ren 1 3,.ren 2 4,.sort];obtain⟨r1,h2,h⟩:=bS h;refine gC 27 (aDb h2)<|gQ (R7 (aHg Tryz.underlying3) (D.l X0.D) cN a7 r1)<|gW 10024 (.mp (GH cN a7 r1).clk (MP.dl dZ (D.l X0.D) (GH cN a7 r1))) ?_;obtain⟨r2,h3,h⟩:=bS h;refine gG 31 (.cx false [(0,0),(1,3),(2,1),(3,2)] [(4,31),(5,438)] (.tup []) [(0,.cells ((Ao (AA.D r2.1))++[.row 4,.row 5])),(1,.cells ([.box 0 0])),(4,.map r2.2.1.clk (MP.dl dZ (D.l X0.D) r2.2.1)),(5,.map r2.2.2.clk (MP.dl D.s (D.l dZ) r2.2.2))]) (aDp h3) ?_;exact lX h [.live [6],.keep [0,31,438,997],.ren 31 3,.ren 438 4,.sort]
theorem aDe(h:Qw aH=some bV):AL Tryz.prog 109 [.d (D.l dZ aH)] [] (.row 0) [rW 0 3 1 dZ bV]:=
 Mz (ρ:=⟨fun _=>109,fun n=>if n=4 then 4 else if n=22 then 52 else 3,id⟩) (by_:=8) dZ rfl rfl (Ra mixed ⟨ "slices.Clone[[]int,int]",by decide,(Tryz.func109).trans (by kernel_rfl)⟩ Tryz.underlying4 Tryz.underlying52 (by kernel_rfl) (by kernel_rfl) (by kernel_rfl) (by kernel_rfl)) (by kernel_rfl) (by decide) aH bV h
theorem aDf(h:Qx a7 aH bV=some cU):AL Tryz.prog 57 [.row 0,.d (D.i .i64 a7),.row 1] [rW 0 3 1 dZ aH,(1,.row 3 1 (bV.map dZ))] (.row 2) [rW 2 3 1 dZ cU]:=
 XL (ρ:=⟨fun n=>if n=22 then 57 else if n=29 then 107 else 108,fun n=>if n=0 then 0 else if n=3 then 3 else if n=4 then 4 else if n=24 then 52 else 3,id⟩) (by_:=8) dZ mixed rfl ⟨ "slices.Insert[[]int,int]",by decide,(Tryz.func57).trans (by kernel_rfl)⟩ Tryz.underlying3 Tryz.underlying4 Tryz.underlying52 (by kernel_rfl) (by decide) (by decide)
  (fun args w=>run_callFunc_extern Tryz.func107 (by kernel_rfl) (by kernel_rfl) (by kernel_rfl) (e:=Go.Extern.SlicesOverlaps.overlaps #[52,52] #[4]) (by kernel_rfl) args w) a7 aH bV cU h
theorem aGz(h:Zt a7 aH=some bV):AL Tryz.prog 31 [.row 0,dI a7] [rW 0 3 1 dZ aH] (.row 1) [rW 1 3 1 dZ bV]:=by unfold Zt at h;refine XG.call (ks:=[]) mixed fun us=>?_;apply g0 (o:=bV);obtain⟨r1,h1,h⟩:=bS h;refine gG 10 (.lend [0] (.tup [dI r1.1,.d (D.b r1.2)])) (WU h1) ?_;refine iB 13 h (fun h=>?_) fun h=>?_;exact lX h [.live [4],.keep [0,997],.ren 0 1,.sort];refine gQ (Av dZ [a7]) ?_;obtain⟨r2,h3,h⟩:=bS h;refine gG 19 (.cx true [(0,0),(1,18)] [(2,19)] (.row 2) [rW 2 3 1 dZ r2]) (aDf h3) ?_;exact lX h [.live [4],.keep [19,997],.ren 19 1,.sort]
def PB(s10:List Int)(s11 s12:Int)(w5:List Int):St:=⟨sp 21 0 [rx 5,sD 10 (D.l dZ) s10,sI 11 s11,sI 12 s12],[rW 5 3 1 dZ w5],[]⟩
def PC(s10:List Int)(s11:Int)(o:(List Int)):Ex×St:=(.exit 0,⟨sp 21 0 [rx 5],[rW 5 3 1 dZ o],[]⟩)
theorem T5(rd:Option Nat)(h:T4 aH a7 a9 bV=some bZ):Lq 59 rd 58 (PB aH a7 a9 bV) ((PC aH a7) bZ):=
 lL (fun s:Int×List Int=>PB aH a7 s.1 s.2) (PC aH a7) (a9,bV) (fun⟨a9,bV⟩ o h=>by
 unfold HP at h
 refine iB 13 h (fun h=>?_) fun h=>?_
 refine xX 14 dZ h fun x2 h=>?_
 obtain⟨r3,h4,h⟩:=bS h
 refine gG 18 (.cx false [(0,5)] [(1,18)] (.row 1) [rW 1 3 1 dZ r3]) (aGz h4) ?_
 exact lB h [.live [5,10,11,12],.keep [18],.ren 18 5,.sort]
 exact lb h) h
theorem ZS(h:Xu aH bV=some cU):AL Tryz.prog 59 [.d ((D.l dZ) aH),.d ((D.l dZ) bV)] [] (.d ((D.l dZ) cU)) []:=by unfold Xu at h;apply g0 (o:=cU);refine gW 11 (.int (bV.length:Int)) ?_;obtain⟨r1,h1,h⟩:=bS h;refine gG 9 (.cx true [] [(0,9)] (.row 0) [rW 0 3 1 dZ r1]) (aDe h1)<|gQ (DK dZ bV) ?_;obtain⟨o4,h5,h⟩:=bS h;refine gL [.live [5,10,11,12],.keep [9],.ren 9 5,.sort] (T5 none h5) ?_;exact lF h [.frz 5]
theorem aDg(h:Qy aH=some bV):AL Tryz.prog 109 [.d (D.l dZ aH)] [] (.d (D.l dZ bV)) []:=
 L8 (ρ:=⟨fun _=>109,fun n=>if n=4 then 4 else if n=22 then 52 else 3,id⟩) (by_:=8) dZ rfl (Ra mixed ⟨ "slices.Clone[[]int,int]",by decide,(Tryz.func109).trans (by kernel_rfl)⟩ Tryz.underlying4 Tryz.underlying52 (by kernel_rfl) (by kernel_rfl) (by kernel_rfl) (by kernel_rfl)) (by kernel_rfl) (by decide) aH bV h
theorem Tj(rd:Option Nat)(h:Ti aH a7 bV a9 aT aA cU=some bZ):Lq 110 rd 14951 ⟨sp 29 0 [sD 1 (D.l dZ) aH,rx 5,sI 7 a7,sD 10 (D.l dZ) bV,sI 11 a9,sI 12 aT,sD 22 D.b aA],[(5,.row 3 1 (cU.map dZ))],[]⟩ (.normal,⟨sp 29 0 [sD 1 (D.l dZ) aH,rx 5,sD 10 (D.l dZ) bV,sI 11 a9,sI 12 aT],[(5,.row 3 1 (bZ.map dZ))],[]⟩):=by unfold Ti at h;apply g0 (o:=bZ);cases aA;replace h:=B2 h;exact lp h;replace h:=B3 h;refine gQ (Av dZ [a7])<|gG 26 (.sl ((cU++[a7]).map dZ)) (Av dZ [a7]) ?_;obtain⟨h12,h⟩:=cS h;refine gQ (BS dZ h12)<|gQ (BQ dZ cU [a7]) ?_;exact lP h [.live [1,5,10,11,12],.keep [26],.ren 26 5,.sort]
theorem Th(rd:Option Nat)(h:Oc aH bV a7 a9 cU=some bZ):Lq 110 rd 934 ⟨sp 29 0 [sD 1 (D.l dZ) aH,rx 5,sD 10 (D.l dZ) bV,sI 11 a7,sI 12 a9],[(5,.row 3 1 (cU.map dZ))],[]⟩ (.normal,⟨sp 29 0 [sD 1 (D.l dZ) aH,rx 5,sD 10 (D.l dZ) bV,sI 11 a7,sI 12 a9],[(5,.row 3 1 (bZ.map dZ))],[]⟩):=by unfold Oc at h;apply g0 (o:=bZ);refine xX 14 dZ h fun x5 h=>?_;obtain⟨r6,h10,h⟩:=bS h;refine gC 19 (WU h10) ?_;obtain⟨o7,h13,h⟩:=bS h;refine gl (Tj rd h13) ?_;exact lp h
def Od(s1 s10:List Int)(s11 s12:Int)(w5:List Int):St:=⟨sp 29 0 [sD 1 (D.l dZ) s1,rx 5,sD 10 (D.l dZ) s10,sI 11 s11,sI 12 s12],[(5,.row 3 1 (w5.map dZ))],[]⟩
def Oe(s1 s10:List Int)(s11:Int)(o:(List Int)):Ex×St:=(.exit 0,⟨sp 29 0 [rx 5],[(5,.row 3 1 (o.map dZ))],[]⟩)
theorem Tl(rd:Option Nat)(h:Tk aH bV a7 a9 cU=some bZ):Lq 110 rd 58 (Od aH bV a7 a9 cU) ((Oe aH bV a7) bZ):=
 lL (fun s:Int×List Int=>Od aH bV a7 s.1 s.2) (Oe aH bV a7) (a9,cU) (fun⟨a9,cU⟩ o h=>by
 unfold HM at h
 refine iB 13 h (fun h=>?_) fun h=>?_
 obtain⟨o8,h14,h⟩:=bS h
 refine gl (Th rd h14) ?_
 exact lb h
 exact lb h) h
theorem aD2(h:Xj aH bV=some cU):AL Tryz.prog 110 [.d ((D.l dZ) aH),.d ((D.l dZ) bV)] [] (.d ((D.l dZ) cU)) []:=by unfold Xj at h;apply g0 (o:=cU);refine gN 11 dZ aH ?_;obtain⟨o9,h15,h⟩:=bS h;refine gL [.live [1,5,10,11,12],.keep [],.nil 5 5 3 1,.sort] (Tl none h15) ?_;exact lf h
theorem TQ(rd:Option Nat)(us:List Value)(h:OJ aA aH aU aC bV bN a7 a9 cV a6 cW cN cO=some bZ):Lq 60 rd 239229 ⟨sp 78 0 [bx 0,sD 2 D.b aA,bx 4,sD 7 (D.l dZ) aH,sD 8 D.b aU,sD 13 D.s aC,sD 14 (D.l dZ) bV,sD 24 (D.l AT.D) bN,sI 25 a7,sI 26 a9,sD 58 D.b cV],[(0,.cells ((Ao (AA.D a6))++[.row 501,.row 502])),cL 4 A8.D cW,(501,.map cN.clk (MP.dl dZ (D.l X0.D) cN)),(502,.map cO.clk (MP.dl D.s (D.l dZ) cO)),(997,.vals [.box 0 0] us)],[]⟩ (.normal,⟨sp 78 0 [bx 0,sD 2 D.b aA,bx 4,sD 7 (D.l dZ) aH,sD 8 D.b aU,sD 14 (D.l dZ) bZ,sD 24 (D.l AT.D) bN,sI 25 a7,sI 26 a9],[(0,.cells ((Ao (AA.D a6))++[.row 501,.row 502])),cL 4 A8.D cW,(501,.map cN.clk (MP.dl dZ (D.l X0.D) cN)),(502,.map cO.clk (MP.dl D.s (D.l dZ) cO)),(997,.vals [.box 0 0] us)],[]⟩):=by unfold OJ at h;apply g0 (o:=bZ);cases cV;replace h:=B2 h;exact lp h;replace h:=B3 h;refine gG 65 (.mg ((D.l dZ) (Cs ([]:List Int) cO aC).1) (Cs ([]:List Int) cO aC).2) (H3 (aCp Tryz.underlying9) (D.l dZ) ([]:List Int) cO aC) ?_;obtain⟨r16,h25,h⟩:=bS h;refine gC 66 (ZS h25) ?_;exact lp h
theorem TR(rd:Option Nat)(us:List Value)(h:OK aA aH aU bV bN a7 a9 cV a6 cW cN cO=some cX):Lq 60 rd 239231 ⟨sp 78 0 [bx 0,sD 2 D.b aA,bx 4,sD 7 (D.l dZ) aH,sD 8 D.b aU,sD 14 (D.l dZ) bV,sD 24 (D.l AT.D) bN,sI 25 a7,sI 26 a9,sD 67 D.b cV],[(0,.cells ((Ao (AA.D a6))++[.row 501,.row 502])),cL 4 A8.D cW,(501,.map cN.clk (MP.dl dZ (D.l X0.D) cN)),(502,.map cO.clk (MP.dl D.s (D.l dZ) cO)),(997,.vals [.box 0 0] us)],[]⟩ (.normal,⟨sp 78 0 [bx 0,sD 2 D.b aA,bx 4,sD 7 (D.l dZ) cX.1,sD 8 D.b cX.2,sD 24 (D.l AT.D) bN,sI 25 a7,sI 26 a9],[(0,.cells ((Ao (AA.D a6))++[.row 501,.row 502])),cL 4 A8.D cW,(501,.map cN.clk (MP.dl dZ (D.l X0.D) cN)),(502,.map cO.clk (MP.dl D.s (D.l dZ) cO)),(997,.vals [.box 0 0] us)],[]⟩):=by unfold OK at h;apply g0 (o:=cX);cases cV;replace h:=B2 h;obtain⟨r19,h29,h⟩:=bS h;refine gC 72 (aD2 h29) ?_;exact lp h;replace h:=B3 h;obtain⟨r18,h28,h⟩:=bS h;refine gC 69 (aDg h28) ?_;exact lp h
theorem TP(rd:Option Nat)(us:List Value)(h:OI aA aH aU bN a7 a9 a6 cW cN cO=some cX):Lq 60 rd 934 ⟨sp 78 0 [bx 0,sD 2 D.b aA,bx 4,sD 7 (D.l dZ) aH,sD 8 D.b aU,sD 24 (D.l AT.D) bN,sI 25 a7,sI 26 a9],[(0,.cells ((Ao (AA.D a6))++[.row 501,.row 502])),cL 4 A8.D cW,(501,.map cN.clk (MP.dl dZ (D.l X0.D) cN)),(502,.map cO.clk (MP.dl D.s (D.l dZ) cO)),(997,.vals [.box 0 0] us)],[]⟩ (.normal,⟨sp 78 0 [bx 0,sD 2 D.b aA,bx 4,sD 7 (D.l dZ) cX.1,sD 8 D.b cX.2,sD 24 (D.l AT.D) bN,sI 25 a7,sI 26 a9],[(0,.cells ((Ao (AA.D a6))++[.row 501,.row 502])),cL 4 A8.D cW,(501,.map cN.clk (MP.dl dZ (D.l X0.D) cN)),(502,.map cO.clk (MP.dl D.s (D.l dZ) cO)),(997,.vals [.box 0 0] us)],[]⟩):=by unfold OI at h;apply g0 (o:=cX);refine xX 29 AT.D h fun x12 h=>?_;refine iB 33 h (fun h=>?_) fun h=>?_;exact lp h;obtain⟨r13,h20,h⟩:=bS h;refine gC 39 (aAc h20) ?_;obtain⟨r14,h21,h⟩:=bS h;refine gC 45 (YL h21)<|gQ (Av X4.D [r13.1]) ?_;obtain⟨r15,h22,h⟩:=bS h;refine gC 53 (ZR h22)<|gG 54 (.str r15) (rfl:r15.map Ag=r15.map Ag)<|gW 55 (.str (r14++r15))<|gW 56 (.mg ((D.l dZ) (Cs ([]:List Int) cO (r14++r15)).1) (Cs ([]:List Int) cO (r14++r15)).2) ?_;obtain⟨h23,h⟩:=cS h;refine gQ (F2 h23)<|gQ (H3 (aCp Tryz.underlying9) (D.l dZ) ([]:List Int) cO (r14++r15)) ?_;obtain⟨o17,h26,h⟩:=bS h;refine gl (TQ rd us h26) ?_;obtain⟨o20,h30,h⟩:=bS h;refine gl (TR rd us h30) ?_;exact lp h
def OL(us:List Value)(s2:Bool)(s24:List AT)(s25:Int)(w0:AA)(w4:A8)(w501:MP Int (List X0))(w502:MP (List UInt8) (List Int))(s7:List Int)(s8:Bool)(s26:Int):St:=⟨sp 78 0 [bx 0,sD 2 D.b s2,bx 4,sD 7 (D.l dZ) s7,sD 8 D.b s8,sD 24 (D.l AT.D) s24,sI 25 s25,sI 26 s26],[(0,.cells ((Ao (AA.D w0))++[.row 501,.row 502])),cL 4 A8.D w4,(501,.map w501.clk (MP.dl dZ (D.l X0.D) w501)),(502,.map w502.clk (MP.dl D.s (D.l dZ) w502)),(997,.vals [.box 0 0] us)],[]⟩
def OM(us:List Value)(s2:Bool)(s24:List AT)(s25:Int)(w0:AA)(w4:A8)(w501:MP Int (List X0))(w502:MP (List UInt8) (List Int))(o:(List Int×Bool)):Ex×St:=(.exit 0,⟨sp 78 0 [bx 0,sD 7 (D.l dZ) o.1,sD 8 D.b o.2],[(0,.cells ((Ao (AA.D w0))++[.row 501,.row 502])),(501,.map w501.clk (MP.dl dZ (D.l X0.D) w501)),(502,.map w502.clk (MP.dl D.s (D.l dZ) w502)),(997,.vals [.box 0 0] us)],[]⟩)
theorem TT(rd:Option Nat)(us:List Value)(h:TS aA bN a7 a6 cW cN cO aH aU a9=some cX):Lq 60 rd 58 (OL us aA bN a7 a6 cW cN cO aH aU a9) ((OM us aA bN a7 a6 cW cN cO) cX):=
 lL (fun s:List Int×Bool×Int=>OL us aA bN a7 a6 cW cN cO s.1 s.2.1 s.2.2) (OM us aA bN a7 a6 cW cN cO) (aH,aU,a9) (fun⟨aH,aU,a9⟩ o h=>by
 unfold HK at h
 refine iB 27 h (fun h=>?_) fun h=>?_
 obtain⟨o21,h31,h⟩:=bS h
 refine gl (TP rd us h31) ?_
 exact lb h
 exact lb h) h
theorem aDu(h:Xe cW aA a6 cN cO=some cY):AL Tryz.prog 60 [.box 0 0,.d (A8.D cW),.d (D.b aA)] [(0,.cells ((Ao (AA.D a6))++[.row 1,.row 2])),(1,.map cN.clk (MP.dl dZ (D.l X0.D) cN)),(2,.map cO.clk (MP.dl D.s (D.l dZ) cO))] (.d ((D.l dZ) cY.1)) [(0,.cells ((Ao (AA.D cY.2.1))++[.row 3,.row 4])),(3,.map cY.2.2.1.clk (MP.dl dZ (D.l X0.D) cY.2.2.1)),(4,.map cY.2.2.2.clk (MP.dl D.s (D.l dZ) cY.2.2.2))]:=by
 unfold Xe at h;refine XG.call (ks:=[0]) mixed fun us=>?_;apply g0 (o:=cY);refine gW 74 (.bit false)<|xX 22 X3.D h fun x1 h=>?_;refine gN 25 AT.D x1.args ?_;obtain⟨o22,h32,h⟩:=bS h;refine gL [.look 7,.live [0,2,4,7,8,24,25,26],.keep [0,1,2,4,997],.ren 1 501,.ren 2 502,.sort] (TT none us h32) ?_;rcases iS h with⟨h33,h⟩|⟨h33,h⟩
 cases h;refine gQ h33 ?_;exact lX h [.live [6],.keep [0,501,502,997],.ren 501 3,.ren 502 4,.sort]
def PR(us:List Value)(s2:Bool)(s12:List A8)(s13:Int)(s7:List Int)(s14:Int)(w0:AA)(w501:MP Int (List X0))(w502:MP (List UInt8) (List Int)):St:=⟨sp 26 0 [bx 0,sD 2 D.b s2,sD 7 (D.l dZ) s7,sD 12 (D.l A8.D) s12,sI 13 s13,sI 14 s14],[(0,.cells ((Ao (AA.D w0))++[.row 501,.row 502])),(501,.map w501.clk (MP.dl dZ (D.l X0.D) w501)),(502,.map w502.clk (MP.dl D.s (D.l dZ) w502)),(997,.vals [.box 0 0] us)],[]⟩
def PS(us:List Value)(s2:Bool)(s12:List A8)(s13:Int)(o:(List Int×AA×MP Int (List X0)×MP (List UInt8) (List Int))):Ex×St:=(.exit 0,⟨sp 26 0 [sD 7 (D.l dZ) o.1],[(0,.cells ((Ao (AA.D o.2.1))++[.row 501,.row 502])),(501,.map o.2.2.1.clk (MP.dl dZ (D.l X0.D) o.2.2.1)),(502,.map o.2.2.2.clk (MP.dl D.s (D.l dZ) o.2.2.2)),(997,.vals [.box 0 0] us)],[]⟩)
theorem UG(rd:Option Nat)(us:List Value)(h:UF aA cZ a7 aH a9 a6 cN cO=some d2):Lq 34 rd 122 (PR us aA cZ a7 aH a9 a6 cN cO) ((PS us aA cZ a7) d2):=
 lL (fun s:List Int×Int×AA×MP Int (List X0)×MP (List UInt8) (List Int)=>PR us aA cZ a7 s.1 s.2.1 s.2.2.1 s.2.2.2.1 s.2.2.2.2) (PS us aA cZ a7) (aH,a9,a6,cN,cO) (fun⟨aH,a9,a6,cN,cO⟩ o h=>by
 unfold HQ at h
 refine iB 15 h (fun h=>?_) fun h=>?_
 refine xX 16 A8.D h fun x4 h=>?_
 obtain⟨r5,h7,h⟩:=bS h
 refine gG 22 (.cx false [(0,0),(1,501),(2,502)] [(3,22),(4,429)] (.d ((D.l dZ) r5.1)) [(0,.cells ((Ao (AA.D r5.2.1))++[.row 3,.row 4])),(3,.map r5.2.2.1.clk (MP.dl dZ (D.l X0.D) r5.2.2.1)),(4,.map r5.2.2.2.clk (MP.dl D.s (D.l dZ) r5.2.2.2))]) (aDu h7) ?_
 obtain⟨r6,h8,h⟩:=bS h
 refine gC 23 (ZS h8) ?_
 exact lB h [.live [0,2,7,12,13,14],.keep [0,22,429,997],.ren 22 501,.ren 429 502,.sort]
 exact lb h) h
theorem aEm(h:Y1 cZ aA a6 cN cO=some cY):AL Tryz.prog 34 [.box 0 0,.d ((D.l A8.D) cZ),.d (D.b aA)] [(0,.cells ((Ao (AA.D a6))++[.row 1,.row 2])),(1,.map cN.clk (MP.dl dZ (D.l X0.D) cN)),(2,.map cO.clk (MP.dl D.s (D.l dZ) cO))] (.d ((D.l dZ) cY.1)) [(0,.cells ((Ao (AA.D cY.2.1))++[.row 3,.row 4])),(3,.map cY.2.2.1.clk (MP.dl dZ (D.l X0.D) cY.2.2.1)),(4,.map cY.2.2.2.clk (MP.dl D.s (D.l dZ) cY.2.2.2))]:=by unfold Y1 at h;refine XG.call (ks:=[0]) mixed fun us=>?_;apply g0 (o:=cY);refine gN 13 A8.D cZ ?_;obtain⟨o7,h9,h⟩:=bS h;refine gL [.look 7,.live [0,2,7,12,13,14],.keep [0,1,2,997],.ren 1 501,.ren 2 502,.sort] (UG none us h9) ?_;exact lX h [.live [6],.keep [0,501,502,997],.ren 501 3,.ren 502 4,.sort]
theorem aGr(h:Zl cZ a6 cN cO=some cY):AL Tryz.prog 15 [.box 0 0,.d ((D.l A8.D) cZ)] [(0,.cells ((Ao (AA.D a6))++[.row 1,.row 2])),(1,.map cN.clk (MP.dl dZ (D.l X0.D) cN)),(2,.map cO.clk (MP.dl D.s (D.l dZ) cO))] (.d ((D.l dZ) cY.1)) [(0,.cells ((Ao (AA.D cY.2.1))++[.row 3,.row 4])),(3,.map cY.2.2.1.clk (MP.dl dZ (D.l X0.D) cY.2.2.1)),(4,.map cY.2.2.2.clk (MP.dl D.s (D.l dZ) cY.2.2.2))]:=by unfold Zl at h;refine XG.call (ks:=[0]) mixed fun us=>?_;apply g0 (o:=cY);obtain⟨r1,h1,h⟩:=bS h;refine gG 7 (.cx false [(0,0),(1,1),(2,2)] [(3,7),(4,414)] (.d ((D.l dZ) r1.1)) [(0,.cells ((Ao (AA.D r1.2.1))++[.row 3,.row 4])),(3,.map r1.2.2.1.clk (MP.dl dZ (D.l X0.D) r1.2.2.1)),(4,.map r1.2.2.2.clk (MP.dl D.s (D.l dZ) r1.2.2.2))]) (aEm h1) ?_;exact lX h [.live [4],.keep [0,7,414,997],.ren 7 3,.ren 414 4,.sort]
theorem Wr(h:Zm=some aA):AL Tryz.prog 7 [] [] (.d (D.b aA)) []:=by
 unfold Zm at h;apply g0 (o:=aA);refine gQ (Av dZ [1])<|gQ (Av X9.D ([X9.mk ([97]:List UInt8) [1]]))<|gQ (Av Xc.D ([Xc.mk false ([120]:List UInt8) 1]))<|gQ (Av Xv.D ([Xv.mk ([115]:List UInt8) false false]))<|gQ (Av AT.D ([AT.mk 2 0 (X4.mk 0 0 ([]:List UInt8) false)]))<|gQ (Av X3.D ([X3.mk 0 ([AT.mk 2 0 (X4.mk 0 0 ([]:List UInt8) false)])])) ?_;obtain⟨o1,h1,h⟩:=bS h;replace h:=AG h;rcases h with⟨o2,rfl,h⟩|⟨o3,rfl,h⟩
 refine gG 17 (.cx false [] [] (.d (.v (.pointer none))) []) (aBm (aHb h1)) ?_;exact lf h;refine gG 17 (.cx false [] [(0,424),(1,431),(2,438)] (.box 0 0) [(0,.cells ((Ao (AA.D o3.1))++[.row 1,.row 2])),(1,.map o3.2.1.clk (MP.dl dZ (D.l X0.D) o3.2.1)),(2,.map o3.2.2.clk (MP.dl D.s (D.l dZ) o3.2.2))]) (aBs (aHc h1)) ?_;obtain⟨r4,h2,h⟩:=bS h;refine gC 21 (Wp h2)<|gQ (Av X0.D [r4]) ?_;obtain⟨r5,h3,h⟩:=bS h;refine gG 23 (.cx false [(0,424),(1,431),(2,438)] [(3,23),(4,430)] (.d (D.b r5.1)) [(0,.cells ((Ao (AA.D r5.2.1))++[.row 3,.row 4])),(3,.map r5.2.2.1.clk (MP.dl dZ (D.l X0.D) r5.2.2.1)),(4,.map r5.2.2.2.clk (MP.dl D.s (D.l dZ) r5.2.2.2))]) (Wm h3) ?_;obtain⟨r6,h4,h⟩:=bS h;refine gC 25 (Wp h4)<|gQ (Av X0.D [r6]) ?_;obtain⟨r7,h5,h⟩:=bS h;refine gG 27 (.cx false [(0,424),(1,23),(2,430)] [(3,27),(4,434)] (.d (D.b r7.1)) [(0,.cells ((Ao (AA.D r7.2.1))++[.row 3,.row 4])),(3,.map r7.2.2.1.clk (MP.dl dZ (D.l X0.D) r7.2.2.1)),(4,.map r7.2.2.2.clk (MP.dl D.s (D.l dZ) r7.2.2.2))]) (Wm h5) ?_;obtain⟨r8,h6,h⟩:=bS h;refine gG 29 (.cx false [(0,424),(1,27),(2,434)] [(3,29),(4,436)] (.d (D.b r8.1)) [(0,.cells ((Ao (AA.D r8.2.1))++[.row 3,.row 4])),(3,.map r8.2.2.1.clk (MP.dl dZ (D.l X0.D) r8.2.2.1)),(4,.map r8.2.2.2.clk (MP.dl D.s (D.l dZ) r8.2.2.2))]) (Wm h6) ?_;obtain⟨r9,h7,h⟩:=bS h;refine gC 31 (Wp h7)<|gQ (Av X0.D [r9])<|gQ (Av A8.D ([A8.mk 0 [r9] ([]:List X0)])) ?_;obtain⟨r10,h8,h⟩:=bS h;refine gG 35 (.cx false [(0,424),(1,29),(2,436)] [(3,35),(4,442)] (.d ((D.l dZ) r10.1)) [(0,.cells ((Ao (AA.D r10.2.1))++[.row 3,.row 4])),(3,.map r10.2.2.1.clk (MP.dl dZ (D.l X0.D) r10.2.2.1)),(4,.map r10.2.2.2.clk (MP.dl D.s (D.l dZ) r10.2.2.2))]) (aGr h8)<|gN 37 dZ r10.1 ?_;refine iB 39 h (fun h=>?_) fun h=>?_;refine xX 41 dZ h fun x11 h=>?_;refine iB 45 h (fun h=>?_) fun h=>?_;refine xX 47 dZ h fun x12 h=>?_;exact lf h;exact lf h;exact lf h
theorem aDa(h:Qs=some aG):AL Tryz.prog 123 [] [] (.d ((D.l D.s) aG)) []:=by unfold Qs at h;apply g0 (o:=aG);refine gQ (Av D.s ([([97,99,99,101,112,116]:List UInt8),([97,108,115,111]:List UInt8),([97,110,100]:List UInt8),([98,111,111,108]:List UInt8),([100,111]:List UInt8),([101,118,101,110,116]:List UInt8),([101,120,105,115,116,115]:List UInt8),([102,97,108,115,101]:List UInt8),([102,111,114,97,108,108]:List UInt8),([102,114,101,101]:List UInt8),([105,102]:List UInt8),([105,110,116]:List UInt8),([110,101,120,116]:List UInt8),([110,111,116]:List UInt8),([111,110]:List UInt8),([111,114]:List UInt8),([113,101,97]:List UInt8),([115,107,105,112]:List UInt8),([115,116,97,114,116]:List UInt8),([115,116,114,105,110,103]:List UInt8),([116,111]:List UInt8),([116,114,117,101]:List UInt8)])) ?_;exact lf h
def P9(s0:List UInt8)(s3:Int):St:=⟨sp 55 0 [sD 0 D.s s0,sI 3 s3],[],[]⟩
def QA(s0:List UInt8)(o:Unit⊕Unit):Ex×St:=match o with
 | .inl o=>(.exit 0,⟨sp 55 0 [],[],[]⟩)
 | .inr o=>(.ret,⟨sp 55 0 [sD 2 D.b false],[],[]⟩)
theorem Ud(rd:Option Nat)(h:Wc aC a7=some a8):Lq 124 rd 58 (P9 aC a7) ((QA aC) a8):=
 lL (fun s:Int=>P9 aC s) (QA aC) a7 (fun a7 o h=>by
 unfold HT at h
 refine gG 16 (.int (aC.length:Int)) (A4 aC) ?_
 refine iB 17 h (fun h=>?_) fun h=>?_
 obtain⟨x1,h4,h⟩:=xS h
 refine gG 22 (.int x1.toNat) (Cg h4) ?_
 refine iB 25 h (fun h=>?_) fun h=>?_
 refine iB 29 h (fun h=>?_) fun h=>?_
 exact lb h
 refine iB 32 h (fun h=>?_) fun h=>?_
 refine iB 37 h (fun h=>?_) fun h=>?_
 exact lb h
 refine iB 43 h (fun h=>?_) fun h=>?_
 refine iB 46 h (fun h=>?_) fun h=>?_
 exact lb h
 refine iB 50 h (fun h=>?_) fun h=>?_
 exact lb h
 refine iB 54 h (fun h=>?_) fun h=>?_
 exact lb h
 exact lb h
 exact lb h
 refine iB 43 h (fun h=>?_) fun h=>?_
 refine iB 46 h (fun h=>?_) fun h=>?_
 exact lb h
 refine iB 50 h (fun h=>?_) fun h=>?_
 exact lb h
 refine iB 54 h (fun h=>?_) fun h=>?_
 exact lb h
 exact lb h
 exact lb h
 refine iB 32 h (fun h=>?_) fun h=>?_
 refine iB 37 h (fun h=>?_) fun h=>?_
 exact lb h
 refine iB 43 h (fun h=>?_) fun h=>?_
 refine iB 46 h (fun h=>?_) fun h=>?_
 exact lb h
 refine iB 50 h (fun h=>?_) fun h=>?_
 exact lb h
 refine iB 54 h (fun h=>?_) fun h=>?_
 exact lb h
 exact lb h
 exact lb h
 refine iB 43 h (fun h=>?_) fun h=>?_
 refine iB 46 h (fun h=>?_) fun h=>?_
 exact lb h
 refine iB 50 h (fun h=>?_) fun h=>?_
 exact lb h
 refine iB 54 h (fun h=>?_) fun h=>?_
 exact lb h
 exact lb h
 exact lb h
 exact lb h) h
theorem aFb(h:Yj aC=some aA):AL Tryz.prog 124 [.d (D.s aC)] [] (.d (D.b aA)) []:=by
 unfold Yj at h;apply g0 (o:=aA);refine gG 7 (.int (aC.length:Int)) (A4 aC) ?_;refine iB 9 h (fun h=>?_) fun h=>?_;exact lf h;refine gG 11 (.int (aC.length:Int)) (A4 aC) ?_;refine iB 13 h (fun h=>?_) fun h=>?_;exact lf h;obtain⟨o2,h27,h⟩:=bS h;refine gl (Ud none h27) ?_;replace h:=AG h;rcases h with⟨o3,rfl,h⟩|⟨o4,rfl,h⟩
 exact lf h;exact lf h
def P5(s0:List UInt8)(s3:List (List UInt8))(s4:Int):St:=⟨sp 24 0 [sD 0 D.s s0,sD 3 (D.l D.s) s3,sI 4 s4],[],[]⟩
def P6(s0:List UInt8)(s3:List (List UInt8))(o:Unit⊕Unit):Ex×St:=match o with
 | .inl o=>(.exit 0,⟨sp 24 0 [sD 0 D.s s0],[],[]⟩)
 | .inr o=>(.ret,⟨sp 24 0 [sD 2 D.b false],[],[]⟩)
theorem Ua(rd:Option Nat)(h:WZ aC aG a7=some a8):Lq 65 rd 58 (P5 aC aG a7) ((P6 aC aG) a8):=
 lL (fun s:Int=>P5 aC aG s) (P6 aC aG) a7 (fun a7 o h=>by
 unfold HS at h
 refine gN 8 D.s aG ?_
 refine iB 9 h (fun h=>?_) fun h=>?_
 refine xX 14 D.s h fun x2 h=>?_
 refine iB 17 h (fun h=>?_) fun h=>?_
 exact lb h
 exact lb h
 exact lb h) h
theorem Ub(h:Yf aC=some aA):AL Tryz.prog 65 [.d (D.s aC)] [] (.d (D.b aA)) []:=by
 unfold Yf at h;apply g0 (o:=aA);obtain⟨r1,h1,h⟩:=bS h;refine gC 5 (aDa h1) ?_;obtain⟨o3,h5,h⟩:=bS h;refine gl (Ua none h5) ?_;replace h:=AG h;rcases h with⟨o4,rfl,h⟩|⟨o5,rfl,h⟩
 obtain⟨r6,h6,h⟩:=bS h;refine gQ (aFb h6) ?_;cases r6;replace h:=B2 h;refine gW 19 (.ret (.d (D.b false))) ?_;exact lf h;replace h:=B3 h;refine gW 19 (.ret (.d (D.b true))) ?_;exact lf h;exact lf h
def QF(s0:List X9)(s1:List UInt8)(s5:Int):St:=⟨sp 20 0 [sD 0 (D.l X9.D) s0,sD 1 D.s s1,sI 5 s5],[],[]⟩
def QG(s0:List X9)(s1:List UInt8)(o:Unit⊕Int):Ex×St:=match o with
 | .inl o=>(.exit 0,⟨sp 20 0 [],[],[]⟩)
 | .inr o=>(.ret,⟨sp 20 0 [sI 4 o],[],[]⟩)
theorem Ug(rd:Option Nat)(h:Wg aD aC a7=some aE):Lq 23 rd 26 (QF aD aC a7) ((QG aD aC) aE):=
 lL (fun s:Int=>QF aD aC s) (QG aD aC) a7 (fun a7 o h=>by
 unfold HW at h
 refine gN 8 X9.D aD ?_
 refine iB 9 h (fun h=>?_) fun h=>?_
 refine xX 14 X9.D h fun x1 h=>?_
 refine iB 18 h (fun h=>?_) fun h=>?_
 exact lb h
 exact lb h
 exact lb h) h
theorem aFc(h:Ym aD aC=some a7):AL Tryz.prog 23 [.d ((D.l X9.D) aD),.d (D.s aC)] [] (dI a7) []:=by
 unfold Ym at h;apply g0 (o:=a7);obtain⟨o2,h4,h⟩:=bS h;refine gl (Ug none h4) ?_;replace h:=AG h;rcases h with⟨o3,rfl,h⟩|⟨o4,rfl,h⟩
 exact lf h;exact lf h
def Pj(s0:List X9)(s4 s5:Int):St:=⟨sp 72 0 [sD 0 (D.l X9.D) s0,sI 4 s4,sI 5 s5],[],[]⟩
def Pk(s0:List X9)(s4:Int)(o:Unit⊕Unit):Ex×St:=match o with
 | .inl o=>(.exit 2,⟨sp 72 0 [sD 0 (D.l X9.D) s0,sI 4 s4],[],[]⟩)
 | .inr o=>(.ret,⟨sp 72 0 [sI 2 8,sI 3 s4],[],[]⟩)
theorem UQ(rd:Option Nat)(h:UP aD a7 a9=some a8):Lq 42 rd 29854 (Pj aD a7 a9) ((Pk aD a7) a8):=
 lL (fun s:Int=>Pj aD a7 s) (Pk aD a7) a9 (fun a9 o h=>by
 unfold HR at h
 refine xX 44 X9.D h fun x6 h=>?_
 refine gN 47 dZ x6.types ?_
 refine iB 48 h (fun h=>?_) fun h=>?_
 refine xX 53 X9.D h fun x7 h=>?_
 refine xX 57 dZ h fun x8 h=>?_
 refine iB 60 h (fun h=>?_) fun h=>?_
 exact lb h
 refine xX 63 X9.D h fun x9 h=>?_
 refine xX 67 dZ h fun x10 h=>?_
 refine iB 70 h (fun h=>?_) fun h=>?_
 exact lb h
 exact lb h
 exact lb h) h
def Ph(s0:List X9)(s4:Int):St:=⟨sp 72 0 [sD 0 (D.l X9.D) s0,sI 4 s4],[],[]⟩
def Pi(s0:List X9)(o:Unit⊕(Int×Int)):Ex×St:=match o with
 | .inl o=>(.exit 0,⟨sp 72 0 [],[],[]⟩)
 | .inr o=>(.ret,⟨sp 72 0 [sI 2 o.1,sI 3 o.2],[],[]⟩)
theorem UO(rd:Option Nat)(h:WY aD a7=some aI):Lq 42 rd 58 (Ph aD a7) ((Pi aD) aI):=
 lL (fun s:Int=>Ph aD s) (Pi aD) a7 (fun a7 o h=>by
 unfold FM at h
 refine gN 11 X9.D aD ?_
 refine iB 12 h (fun h=>?_) fun h=>?_
 refine xX 17 X9.D h fun x1 h=>?_
 obtain⟨r2,h4,h⟩:=bS h
 refine gC 20 (Ub h4) ?_
 refine iB 21 h (fun h=>?_) fun h=>?_
 exact lb h
 refine xX 26 X9.D h fun x3 h=>?_
 obtain⟨r4,h7,h⟩:=bS h
 refine gC 29 (aFc h7) ?_
 refine iB 31 h (fun h=>?_) fun h=>?_
 exact lb h
 refine xX 35 X9.D h fun x5 h=>?_
 refine gN 38 dZ x5.types ?_
 refine iB 39 h (fun h=>?_) fun h=>?_
 exact lb h
 obtain⟨o11,h19,h⟩:=bS h
 refine gl (UQ rd h19) ?_
 replace h:=AG h
 rcases h with⟨o12,rfl,h⟩|⟨o13,rfl,h⟩
 exact lb h
 exact lb h
 exact lb h) h
theorem aEv(h:Y7 aD=some aJ):AL Tryz.prog 42 [.d ((D.l X9.D) aD)] [] (.tup [dI aJ.1,dI aJ.2]) []:=by
 unfold Y7 at h;apply g0 (o:=aJ);refine gN 7 X9.D aD ?_;refine iB 8 h (fun h=>?_) fun h=>?_;exact lf h;obtain⟨o14,h20,h⟩:=bS h;refine gl (UO none h20) ?_;replace h:=AG h;rcases h with⟨o15,rfl,h⟩|⟨o16,rfl,h⟩
 exact lf h;exact lf h
theorem Wo(h:Z0 aN=some aA):AL Tryz.prog 24 [.d (X4.D aN)] [] (.d (D.b aA)) []:=by unfold Z0 at h;apply g0 (o:=aA);refine iB 5 h (fun h=>?_) fun h=>?_;refine iB 9 h (fun h=>?_) fun h=>?_;exact lf h;exact lf h;refine iB 16 h (fun h=>?_) fun h=>?_;refine iB 20 h (fun h=>?_) fun h=>?_;refine iB 25 h (fun h=>?_) fun h=>?_;refine gG 28 (.int (aN.str.length:Int)) (A4 aN.str) ?_;exact lf h;exact lf h;exact lf h;refine iB 34 h (fun h=>?_) fun h=>?_;refine iB 39 h (fun h=>?_) fun h=>?_;exact lf h;exact lf h;exact lf h
def QB(s0:List (List UInt8))(s1 s5:Int):St:=⟨sp 20 0 [sD 0 (D.l D.s) s0,sI 1 s1,sI 5 s5],[],[]⟩
def QC(s0:List (List UInt8))(s1:Int)(o:Unit⊕Unit):Ex×St:=match o with
 | .inl o=>(.exit 0,⟨sp 20 0 [],[],[]⟩)
 | .inr o=>(.ret,⟨sp 20 0 [sD 4 D.b true],[],[]⟩)
theorem Ue(rd:Option Nat)(h:Wd aG a7 a9=some a8):Lq 66 rd 26 (QB aG a7 a9) ((QC aG a7) a8):=
 lL (fun s:Int=>QB aG a7 s) (QC aG a7) a9 (fun a9 o h=>by
 unfold HU at h
 refine iB 8 h (fun h=>?_) fun h=>?_
 refine xX 13 D.s h fun x1 h=>?_
 refine xX 17 D.s h fun x2 h=>?_
 refine iB 19 h (fun h=>?_) fun h=>?_
 exact lb h
 exact lb h
 exact lb h) h
theorem aAm(h:Yk aG a7=some aA):AL Tryz.prog 66 [.d ((D.l D.s) aG),dI a7] [] (.d (D.b aA)) []:=by
 unfold Yk at h;apply g0 (o:=aA);obtain⟨o3,h5,h⟩:=bS h;refine gl (Ue none h5) ?_;replace h:=AG h;rcases h with⟨o4,rfl,h⟩|⟨o5,rfl,h⟩
 exact lf h;exact lf h
def ON(w1:AA)(s4:Int)(w3:List (List UInt8)):St:=⟨sp 112 0 [bx 1,rx 3,sI 4 s4],[cL 1 AA.D w1,(3,.row 9 1 (w3.map D.s))],[]⟩
def OO(w1:AA)(o:(List (List UInt8))⊕Unit):Ex×St:=match o with
 | .inl o=>(.exit 0,⟨sp 112 0 [bx 1,rx 3],[cL 1 AA.D w1,(3,.row 9 1 (o.map D.s))],[]⟩)
 | .inr o=>(.ret,⟨sp 112 0 [sD 2 D.b false],[],[]⟩)
theorem TV(rd:Option Nat)(h:TU a6 a7 aG=some d3):Lq 43 rd 58 (ON a6 a7 aG) ((OO a6) d3):=
 lL (fun s:Int×List (List UInt8)=>ON a6 s.1 s.2) (OO a6) (a7,aG) (fun⟨a7,aG⟩ o h=>by
 unfold Ew at h
 refine gN 12 Xc.D a6.quants ?_
 refine iB 13 h (fun h=>?_) fun h=>?_
 refine xX 20 Xc.D h fun x4 h=>?_
 refine gQ (Av D.s [x4.name])<|gG 24 (.sl ((aG++[x4.name]).map D.s)) (Av D.s [x4.name]) ?_
 obtain⟨h10,h⟩:=cS h
 refine gQ (BS D.s h10)<|gQ (BQ D.s aG [x4.name])<|xX 28 Xc.D h fun x5 h=>?_
 refine iB 32 h (fun h=>?_) fun h=>?_
 exact lb h
 refine xX 36 Xc.D h fun x6 h=>?_
 refine iB 40 h (fun h=>?_) fun h=>?_
 exact lb h
 exact lB h [.live [1,3,4],.keep [1,24],.ren 24 3,.sort]
 exact lb h) h
def OP(w1:AA)(s5:Int)(w3:List (List UInt8)):St:=⟨sp 112 0 [bx 1,rx 3,sI 5 s5],[cL 1 AA.D w1,(3,.row 9 1 (w3.map D.s))],[]⟩
def OQ(w1:AA)(o:(List (List UInt8))⊕Unit):Ex×St:=match o with
 | .inl o=>(.exit 2,⟨sp 112 0 [bx 1,rx 3],[cL 1 AA.D w1,(3,.row 9 1 (o.map D.s))],[]⟩)
 | .inr o=>(.ret,⟨sp 112 0 [sD 2 D.b false],[],[]⟩)
theorem TX(rd:Option Nat)(h:TW a6 a7 aG=some d3):Lq 43 rd 122 (OP a6 a7 aG) ((OQ a6) d3):=
 lL (fun s:Int×List (List UInt8)=>OP a6 s.1 s.2) (OQ a6) (a7,aG) (fun⟨a7,aG⟩ o h=>by
 unfold Ey at h
 refine gN 44 Xf.D a6.frees ?_
 refine iB 45 h (fun h=>?_) fun h=>?_
 refine xX 52 Xf.D h fun x10 h=>?_
 refine gQ (Av D.s [x10.name])<|gG 56 (.sl ((aG++[x10.name]).map D.s)) (Av D.s [x10.name]) ?_
 obtain⟨h18,h⟩:=cS h
 refine gQ (BS D.s h18)<|gQ (BQ D.s aG [x10.name])<|xX 60 Xf.D h fun x11 h=>?_
 obtain⟨r12,h20,h⟩:=bS h
 refine gC 63 (Wo h20) ?_
 refine iB 64 h (fun h=>?_) fun h=>?_
 exact lb h
 exact lB h [.live [1,3,5],.keep [1,56],.ren 56 3,.sort]
 exact lb h) h
def OR(w1:AA)(w3:List (List UInt8))(s6:Int):St:=⟨sp 112 0 [bx 1,rx 3,sI 6 s6],[cL 1 AA.D w1,(3,.row 9 1 (w3.map D.s))],[]⟩
def OS(w1:AA)(w3:List (List UInt8))(o:Unit⊕Unit):Ex×St:=match o with
 | .inl o=>(.exit 4,⟨sp 112 0 [bx 1],[cL 1 AA.D w1],[]⟩)
 | .inr o=>(.ret,⟨sp 112 0 [sD 2 D.b false],[],[]⟩)
theorem TZ(rd:Option Nat)(h:TY a6 aG a7=some a8):Lq 43 rd 250 (OR a6 aG a7) ((OS a6 aG) a8):=
 lL (fun s:Int=>OR a6 aG s) (OS a6 aG) a7 (fun a7 o h=>by
 unfold HL at h
 refine gN 67 D.s aG ?_
 refine iB 68 h (fun h=>?_) fun h=>?_
 refine xX 73 D.s h fun x16 h=>?_
 obtain⟨r17,h25,h⟩:=bS h
 refine gC 75 (Ub h25) ?_
 refine iB 77 h (fun h=>?_) fun h=>?_
 exact lb h
 obtain⟨r18,h27,h⟩:=bS h
 refine gQ (aAm h27) ?_
 cases r18
 replace h:=B2 h
 refine gW 80 (.ret (.d (D.b false))) ?_
 exact lb h
 replace h:=B3 h
 refine gW 80 (.ret (.d (D.b true))) ?_
 exact lb h
 exact lb h) h
def OT(w1:AA)(s8:Int)(w7:List (List UInt8)):St:=⟨sp 112 0 [bx 1,rx 7,sI 8 s8],[cL 1 AA.D w1,(7,.row 9 1 (w7.map D.s))],[]⟩
def OU(w1:AA)(o:Unit⊕Unit):Ex×St:=match o with
 | .inl o=>(.exit 6,⟨sp 112 0 [bx 1],[cL 1 AA.D w1],[]⟩)
 | .inr o=>(.ret,⟨sp 112 0 [sD 2 D.b false],[],[]⟩)
theorem Tb(rd:Option Nat)(h:Ta a6 a7 aG=some a8):Lq 43 rd 1018 (OT a6 a7 aG) ((OU a6) a8):=
 lL (fun s:Int×List (List UInt8)=>OT a6 s.1 s.2) (OU a6) (a7,aG) (fun⟨a7,aG⟩ o h=>by
 unfold D4 at h
 refine gN 85 Xv.D a6.states ?_
 refine iB 86 h (fun h=>?_) fun h=>?_
 refine xX 93 Xv.D h fun x26 h=>?_
 refine gQ (Av D.s [x26.name])<|gG 97 (.sl ((aG++[x26.name]).map D.s)) (Av D.s [x26.name]) ?_
 obtain⟨h40,h⟩:=cS h
 refine gQ (BS D.s h40)<|gQ (BQ D.s aG [x26.name])<|xX 100 D.s h fun x27 h=>?_
 obtain⟨r28,h42,h⟩:=bS h
 refine gC 102 (Ub h42) ?_
 refine iB 104 h (fun h=>?_) fun h=>?_
 exact lb h
 obtain⟨r29,h44,h⟩:=bS h
 refine gQ (aAm h44) ?_
 cases r29
 replace h:=B2 h
 refine gW 107 (.ret (.d (D.b false))) ?_
 exact lB h [.live [1,7,8],.keep [1,97],.ren 97 7,.sort]
 replace h:=B3 h
 refine gW 107 (.ret (.d (D.b true))) ?_
 exact lb h
 exact lb h) h
theorem aDv(h:Xg a6=some aA):AL Tryz.prog 43 [.d (AA.D a6)] [] (.d (D.b aA)) []:=by
 unfold Xg at h;apply g0 (o:=aA);obtain⟨o7,h15,h⟩:=bS h;refine gL [.live [1,3,4],.keep [1],.nil 3 3 9 1,.sort] (TV none h15) ?_;replace h:=AG h;rcases h with⟨o8,rfl,h⟩|⟨o9,rfl,h⟩
 obtain⟨o13,h22,h⟩:=bS h;refine gl (TX none h22) ?_;replace h:=AG h;rcases h with⟨o14,rfl,h⟩|⟨o15,rfl,h⟩
 obtain⟨o19,h29,h⟩:=bS h;refine gl (TZ none h29) ?_;replace h:=AG h;rcases h with⟨o20,rfl,h⟩|⟨o21,rfl,h⟩
 obtain⟨o30,h46,h⟩:=bS h;refine gL [.live [1,7,8],.keep [1],.nil 7 7 9 1,.sort] (Tb none h46) ?_;replace h:=AG h;rcases h with⟨o31,rfl,h⟩|⟨o32,rfl,h⟩
 obtain⟨r33,h47,h⟩:=bS h;refine gC 111 (Ub h47) ?_;exact lf h;exact lf h;exact lf h;exact lf h;exact lf h
theorem Ha(h:Ys aA=some d4):AL Tryz.prog 181 [.d (D.b aA)] [] (.tup [.d (X4.D d4.1),dI d4.2]) []:=by unfold Ys at h;apply g0 (o:=d4);exact lf h
theorem aDh(h:Qz a7 a9=some aF):AL Tryz.prog 187 [dI a7,dI a9] [] (.tup [dI aF.1,.d (D.b aF.2)]) []:=by unfold Qz at h;apply g0 (o:=aF);refine iB 8 h (fun h=>?_) fun h=>?_;refine iB 14 h (fun h=>?_) fun h=>?_;exact lf h;refine iB 17 h (fun h=>?_) fun h=>?_;refine iB 23 h (fun h=>?_) fun h=>?_;exact lf h;exact lf h;exact lf h;refine iB 17 h (fun h=>?_) fun h=>?_;refine iB 23 h (fun h=>?_) fun h=>?_;exact lf h;exact lf h;exact lf h
theorem Up(h:Zx a7 aA=some d4):AL Tryz.prog 188 [dI a7,.d (D.b aA)] [] (.tup [.d (X4.D d4.1),dI d4.2]) []:=by unfold Zx at h;apply g0 (o:=d4);refine iB 7 h (fun h=>?_) fun h=>?_;exact lf h;exact lf h
theorem Uq(h:Zy a7 a9=some aF):AL Tryz.prog 189 [dI a7,dI a9] [] (.tup [dI aF.1,.d (D.b aF.2)]) []:=by unfold Zy at h;apply g0 (o:=aF);refine iB 8 h (fun h=>?_) fun h=>?_;refine iB 14 h (fun h=>?_) fun h=>?_;exact lf h;refine iB 17 h (fun h=>?_) fun h=>?_;refine iB 23 h (fun h=>?_) fun h=>?_;exact lf h;exact lf h;exact lf h;refine iB 17 h (fun h=>?_) fun h=>?_;refine iB 23 h (fun h=>?_) fun h=>?_;exact lf h;exact lf h;exact lf h
theorem aDi(h:U0 a7 a9=some aF):AL Tryz.prog 190 [dI a7,dI a9] [] (.tup [dI aF.1,.d (D.b aF.2)]) []:=by
 unfold U0 at h;apply g0 (o:=aF);refine iB 8 h (fun h=>?_) fun h=>?_;exact lf h;refine iB 11 h (fun h=>?_) fun h=>?_;exact lf h;refine iB 13 h (fun h=>?_) fun h=>?_;obtain⟨r1,h4,h⟩:=bS h;refine gC 15 (Uq h4) ?_;exact lf h;refine iB 19 h (fun h=>?_) fun h=>?_;obtain⟨r2,h6,h⟩:=bS h;refine gC 21 (Uq h6) ?_;exact lf h;rcases iS h with⟨h7,h⟩|⟨h7,h⟩
 refine gT 26 h7 ?_;rcases iS h with⟨h8,h⟩|⟨h8,h⟩
 refine gT 30 h8 ?_;obtain⟨h9,h⟩:=cS h;refine gQ h9 ?_;refine iB 36 h (fun h=>?_) fun h=>?_;exact lf h;refine gT 39 h7 ?_;rcases iS h with⟨h11,h⟩|⟨h11,h⟩
 refine gT 43 h11 ?_;obtain⟨h12,h⟩:=cS h;refine gQ h12 ?_;refine iB 50 h (fun h=>?_) fun h=>?_;exact lf h;rcases iS h with⟨h14,h⟩|⟨h14,h⟩
 refine gT 53 h14<|gT 57 h8 ?_;obtain⟨h15,h⟩:=cS h;refine gQ h15 ?_;refine iB 64 h (fun h=>?_) fun h=>?_;exact lf h;refine gT 67 h14<|gT 71 h11 ?_;obtain⟨h17,h⟩:=cS h;refine gQ h17 ?_;refine iB 77 h (fun h=>?_) fun h=>?_;exact lf h;exact lf h;refine gF 53 h14<|gF 67 h14 ?_;exact lf h;refine gF 43 h11 ?_;rcases iS h with⟨h19,h⟩|⟨h19,h⟩
 refine gT 53 h19<|gT 57 h8 ?_;obtain⟨h20,h⟩:=cS h;refine gQ h20 ?_;refine iB 64 h (fun h=>?_) fun h=>?_;exact lf h;refine gT 67 h19<|gF 71 h11 ?_;exact lf h;refine gF 53 h19<|gF 67 h19 ?_;exact lf h;refine gF 30 h8<|gT 39 h7 ?_;rcases iS h with⟨h22,h⟩|⟨h22,h⟩
 refine gT 43 h22 ?_;obtain⟨h23,h⟩:=cS h;refine gQ h23 ?_;refine iB 50 h (fun h=>?_) fun h=>?_;exact lf h;rcases iS h with⟨h25,h⟩|⟨h25,h⟩
 refine gT 53 h25<|gF 57 h8<|gT 67 h25<|gT 71 h22 ?_;obtain⟨h26,h⟩:=cS h;refine gQ h26 ?_;refine iB 77 h (fun h=>?_) fun h=>?_;exact lf h;exact lf h;refine gF 53 h25<|gF 67 h25 ?_;exact lf h;refine gF 43 h22 ?_;rcases iS h with⟨h28,h⟩|⟨h28,h⟩
 refine gT 53 h28<|gF 57 h8<|gT 67 h28<|gF 71 h22 ?_;exact lf h;refine gF 53 h28<|gF 67 h28 ?_;exact lf h;refine gF 26 h7<|gF 39 h7 ?_;rcases iS h with⟨h29,h⟩|⟨h29,h⟩
 refine gT 53 h29 ?_;refine iB 57 h (fun h=>?_) fun h=>?_;obtain⟨h31,h⟩:=cS h;refine gQ h31 ?_;refine iB 64 h (fun h=>?_) fun h=>?_;exact lf h;refine gT 67 h29 ?_;refine iB 71 h (fun h=>?_) fun h=>?_;obtain⟨h34,h⟩:=cS h;refine gQ h34 ?_;refine iB 77 h (fun h=>?_) fun h=>?_;exact lf h;exact lf h;exact lf h;refine gT 67 h29 ?_;refine iB 71 h (fun h=>?_) fun h=>?_;obtain⟨h37,h⟩:=cS h;refine gQ h37 ?_;refine iB 77 h (fun h=>?_) fun h=>?_;exact lf h;exact lf h;exact lf h;refine gF 53 h29<|gF 67 h29 ?_;exact lf h
theorem aDj(h:U1 a7 a9=some d5):AL Tryz.prog 191 [dI a7,dI a9] [] (.tup [dI d5.1,dI d5.2.1,dI d5.2.2]) []:=by unfold U1 at h;apply g0 (o:=d5);refine iB 10 h (fun h=>?_) fun h=>?_;exact lf h;refine iB 12 h (fun h=>?_) fun h=>?_;obtain⟨r1,h3,h⟩:=bS h;refine gC 15 (Uq h3) ?_;refine iB 19 h (fun h=>?_) fun h=>?_;exact lf h;exact lf h;obtain⟨h5,h⟩:=cS h;refine gQ h5 ?_;obtain⟨h6,h⟩:=cS h;refine gQ h6 ?_;exact lf h
theorem YP(h:Qa a7 a9 aT=some d4):AL Tryz.prog 182 [dI a7,dI a9,dI aT] [] (.tup [.d (X4.D d4.1),dI d4.2]) []:=by unfold Qa at h;apply g0 (o:=d4);refine iB 18 h (fun h=>?_) fun h=>?_;obtain⟨r1,h2,h⟩:=bS h;refine gC 22 (aDh h2) ?_;obtain⟨r2,h3,h⟩:=bS h;refine gC 27 (Up h3) ?_;exact lf h;refine iB 31 h (fun h=>?_) fun h=>?_;obtain⟨r3,h5,h⟩:=bS h;refine gC 35 (Uq h5) ?_;obtain⟨r4,h6,h⟩:=bS h;refine gC 40 (Up h6) ?_;exact lf h;refine iB 44 h (fun h=>?_) fun h=>?_;obtain⟨r5,h8,h⟩:=bS h;refine gC 48 (aDi h8) ?_;obtain⟨r6,h9,h⟩:=bS h;refine gC 53 (Up h9) ?_;exact lf h;obtain⟨r7,h10,h⟩:=bS h;refine gC 59 (aDj h10) ?_;refine iB 64 h (fun h=>?_) fun h=>?_;exact lf h;refine iB 67 h (fun h=>?_) fun h=>?_;exact lf h;obtain⟨r8,h13,h⟩:=bS h;refine gC 73 (Up h13) ?_;exact lf h
def QH(s0 s1:List UInt8)(s5:Int):St:=⟨sp 37 0 [sD 0 D.s s0,sD 1 D.s s1,sI 5 s5],[],[]⟩
def QI(s0 s1:List UInt8)(o:Unit⊕Bool):Ex×St:=match o with
 | .inl o=>(.exit 0,⟨sp 37 0 [sD 0 D.s s0,sD 1 D.s s1],[],[]⟩)
 | .inr o=>(.ret,⟨sp 37 0 [sD 4 D.b o],[],[]⟩)
theorem Uh(rd:Option Nat)(h:Wh aC cH a7=some d6):Lq 64 rd 26 (QH aC cH a7) ((QI aC cH) d6):=
 lL (fun s:Int=>QH aC cH s) (QI aC cH) a7 (fun a7 o h=>by
 unfold KD at h
 refine gG 8 (.int (aC.length:Int)) (A4 aC) ?_
 refine iB 10 h (fun h=>?_) fun h=>?_
 refine gG 13 (.int (cH.length:Int)) (A4 cH) ?_
 refine iB 15 h (fun h=>?_) fun h=>?_
 obtain⟨x1,h3,h⟩:=xS h
 refine gG 20 (.int x1.toNat) (Cg h3) ?_
 obtain⟨x2,h4,h⟩:=xS h
 refine gG 23 (.int x2.toNat) (Cg h4) ?_
 refine iB 24 h (fun h=>?_) fun h=>?_
 obtain⟨x3,h6,h⟩:=xS h
 refine gG 27 (.int x3.toNat) (Cg h6) ?_
 obtain⟨x4,h7,h⟩:=xS h
 refine gG 30 (.int x4.toNat) (Cg h7) ?_
 exact lb h
 exact lb h
 exact lb h
 exact lb h) h
theorem aFd(h:Yn aC cH=some aA):AL Tryz.prog 64 [.d (D.s aC),.d (D.s cH)] [] (.d (D.b aA)) []:=by
 unfold Yn at h;apply g0 (o:=aA);obtain⟨o5,h8,h⟩:=bS h;refine gl (Uh none h8) ?_;replace h:=AG h;rcases h with⟨o6,rfl,h⟩|⟨o7,rfl,h⟩
 refine gG 33 (.int (aC.length:Int)) (A4 aC)<|gG 35 (.int (cH.length:Int)) (A4 cH) ?_;exact lf h;exact lf h
theorem aBu(h:Zz aN d7=some aA):AL Tryz.prog 183 [.d (X4.D aN),.d (X4.D d7)] [] (.d (D.b aA)) []:=by unfold Zz at h;apply g0 (o:=aA);refine iB 9 h (fun h=>?_) fun h=>?_;exact lf h;refine iB 17 h (fun h=>?_) fun h=>?_;exact lf h;refine iB 25 h (fun h=>?_) fun h=>?_;obtain⟨r1,h4,h⟩:=bS h;refine gC 30 (aFd h4) ?_;exact lf h;refine iB 34 h (fun h=>?_) fun h=>?_;exact lf h;exact lf h
theorem aDk(h:U2 a7 aN d7=some d4):AL Tryz.prog 168 [dI a7,.d (X4.D aN),.d (X4.D d7)] [] (.tup [.d (X4.D d4.1),dI d4.2]) []:=by unfold U2 at h;apply g0 (o:=d4);refine iB 10 h (fun h=>?_) fun h=>?_;exact lf h;refine iB 13 h (fun h=>?_) fun h=>?_;exact lf h;refine iB 16 h (fun h=>?_) fun h=>?_;refine iB 19 h (fun h=>?_) fun h=>?_;exact lf h;obtain⟨r1,h5,h⟩:=bS h;refine gC 24 (Ha h5) ?_;exact lf h;refine iB 28 h (fun h=>?_) fun h=>?_;refine iB 31 h (fun h=>?_) fun h=>?_;exact lf h;obtain⟨r2,h8,h⟩:=bS h;refine gC 35 (YP h8) ?_;exact lf h;refine iB 42 h (fun h=>?_) fun h=>?_;exact lf h;refine iB 45 h (fun h=>?_) fun h=>?_;obtain⟨r3,h11,h⟩:=bS h;refine gC 49 (Ha h11) ?_;exact lf h;refine iB 53 h (fun h=>?_) fun h=>?_;obtain⟨r4,h13,h⟩:=bS h;refine gC 57 (Ha h13) ?_;exact lf h;refine iB 62 h (fun h=>?_) fun h=>?_;refine iB 64 h (fun h=>?_) fun h=>?_;refine iB 67 h (fun h=>?_) fun h=>?_;obtain⟨r5,h17,h⟩:=bS h;refine gC 71 (Ha h17) ?_;exact lf h;obtain⟨r6,h18,h⟩:=bS h;refine gC 71 (Ha h18) ?_;exact lf h;refine iB 75 h (fun h=>?_) fun h=>?_;refine iB 78 h (fun h=>?_) fun h=>?_;obtain⟨r7,h21,h⟩:=bS h;refine gC 82 (Ha h21) ?_;exact lf h;obtain⟨r8,h22,h⟩:=bS h;refine gC 82 (Ha h22) ?_;exact lf h;exact lf h;refine iB 87 h (fun h=>?_) fun h=>?_;obtain⟨r9,h24,h⟩:=bS h;refine gC 90 (aBu h24) ?_;obtain⟨r10,h25,h⟩:=bS h;refine gC 91 (Ha h25) ?_;exact lf h;refine iB 95 h (fun h=>?_) fun h=>?_;obtain⟨r11,h27,h⟩:=bS h;refine gC 98 (aBu h27) ?_;obtain⟨r12,h28,h⟩:=bS h;refine gC 100 (Ha h28) ?_;exact lf h;refine iB 106 h (fun h=>?_) fun h=>?_;refine iB 110 h (fun h=>?_) fun h=>?_;refine iB 113 h (fun h=>?_) fun h=>?_;obtain⟨r13,h32,h⟩:=bS h;refine gC 119 (YP h32) ?_;exact lf h;refine iB 125 h (fun h=>?_) fun h=>?_;refine iB 128 h (fun h=>?_) fun h=>?_;refine gG 131 (.int (aN.str.length:Int)) (A4 aN.str)<|gG 134 (.int (d7.str.length:Int)) (A4 d7.str) ?_;refine iB 136 h (fun h=>?_) fun h=>?_;exact lf h;refine gW 142 (.str (aN.str++d7.str)) ?_;obtain⟨h36,h⟩:=cS h;refine gQ (F2 h36) ?_;exact lf h;exact lf h;exact lf h;refine iB 125 h (fun h=>?_) fun h=>?_;refine iB 128 h (fun h=>?_) fun h=>?_;refine gG 131 (.int (aN.str.length:Int)) (A4 aN.str)<|gG 134 (.int (d7.str.length:Int)) (A4 d7.str) ?_;refine iB 136 h (fun h=>?_) fun h=>?_;exact lf h;refine gW 142 (.str (aN.str++d7.str)) ?_;obtain⟨h40,h⟩:=cS h;refine gQ (F2 h40) ?_;exact lf h;exact lf h;exact lf h;refine iB 125 h (fun h=>?_) fun h=>?_;refine iB 128 h (fun h=>?_) fun h=>?_;refine gG 131 (.int (aN.str.length:Int)) (A4 aN.str)<|gG 134 (.int (d7.str.length:Int)) (A4 d7.str) ?_;refine iB 136 h (fun h=>?_) fun h=>?_;exact lf h;refine gW 142 (.str (aN.str++d7.str)) ?_;obtain⟨h44,h⟩:=cS h;refine gQ (F2 h44) ?_;exact lf h;exact lf h;exact lf h
theorem aAx(h:Yw a7 a9 aT=some b7):AL Tryz.prog 156 [dI a7,dI a9,dI aT] [] (dI b7) []:=by unfold Yw at h;apply g0 (o:=b7);refine iB 11 h (fun h=>?_) fun h=>?_;exact lf h;refine iB 15 h (fun h=>?_) fun h=>?_;exact lf h;obtain⟨r1,h3,h⟩:=bS h;refine gC 22 (aDk h3) ?_;refine iB 26 h (fun h=>?_) fun h=>?_;exact lf h;refine iB 28 h (fun h=>?_) fun h=>?_;exact lf h;exact lf h
end Go.Ac
