/- Own work, printed: the functions compute these. -/
import Derived.Test.YtbmojpadjglncaaGreatSh22zs
import Derived.Test.YtbmojpadjglncaaGreatProg
set_option linter.unusedVariables false
set_option linter.unusedSimpArgs false
namespace Go.Ac
open Go.Proofs
variable {a7 : AE}
variable {a8 aA aN aR bB bC cB : Int}
variable {a9 : Unit ⊕ Unit}
variable {aB : List (List UInt8)}
variable {aC aO : List UInt8}
variable {aD b8 : Bool}
variable {aE : List X6}
variable {aF : Unit ⊕ Int}
variable {aG : Unit ⊕ (Int × Int)}
variable {aH : Int × Int}
variable {aI aQ bP : X0}
variable {aJ : (List (List UInt8)) ⊕ Unit}
variable {aK : X0 × Int}
variable {aL : Int × Bool}
variable {aM : Int × Int × Int}
variable {aP : Unit ⊕ Bool}
variable {aS aX : X5}
variable {aT : Xm}
variable {aU : Int ⊕ Unit}
variable {aV : EG}
variable {aW : Av}
variable {aY : List Bool}
variable {aZ bZ : List Int}
variable {b6 : (List Int)}
variable {b7 : (List Bool × List Int)}
variable {b9 : List X2}
variable {bA : List X5}
variable {bD : Unit}
variable {bE bG bK : List X0}
variable {bH : (Int × Int)}
variable {bI : (List X0)}
variable {bJ : Bool × List X0}
variable {bL : List X0 × List X0}
variable {bM : List Av}
variable {bN bO : List (List X0)}
variable {bQ : X0 × Bool}
variable {bR : X2}
variable {bU : Xh}
variable {bV : Unit ⊕ X0}
variable {bW bX : List (Int × Bool)}
variable {bY : (List (Int × Bool))}
variable {c9 : (Int × List Int) ⊕ (Unit ⊕ Unit)}
variable {cA : (List Int) ⊕ (List Int)}
variable {cC : (List Int × Int)}
variable {cD : (Int × Int × Int × Int)}
variable {cE : (Int × List Int) ⊕ Bool}
variable {cF : (List Int) ⊕ (Bool × List Int)}
variable {cG : Bool × List Int}
variable {cH : (Int × List Int)}
variable {cI : Int × List Int}
theorem mixed : Tryz.prog.follows .mixedOrders = true := by kernel_rfl
theorem lB {β : Type} {ws : List (Nat × W)} {lw : List Lw} {Q : List Prop} {o v : β} {rd : Option Nat} {root : Code} {q : List Nat} {s : St} {E : β → Ex} {S : β → St} (h : some v = some o) (l : List Ws) (he : (cj Q True ∧ (E v = E v ∧ S v = S v)) = Pd Tryz.prog rd root ws lw q l s (E v) (S v) := by kernel_rfl) : Gl ws lw Q (fun o => Arr Tryz.prog rd root q s (E o) (S o)) o := lB_ mixed h l he
theorem lP {β : Type} {ws : List (Nat × W)} {lw : List Lw} {Q : List Prop} {o v : β} {rd : Option Nat} {root : Code} {q : List Nat} {s : St} {E : β → Ex} {S : β → St} (h : some v = some o) (l : List Ws) (he : (cj Q True ∧ (E v = E v ∧ S v = S v)) = Pd Tryz.prog rd root ws lw q l s (E v) (S v) := by kernel_rfl) : Gl ws lw Q (fun o => Cl Tryz.prog rd root q s (E o) (S o)) o := lP_ mixed h l he
theorem lb {β : Type} {ws : List (Nat × W)} {lw : List Lw} {Q : List Prop} {o v : β} {rd : Option Nat} {root : Code} {q : List Nat} {s : St} {E : β → Ex} {S : β → St} (h : some v = some o) (he : (cj Q True ∧ (E v = E v ∧ S v = S v)) = Pd Tryz.prog rd root ws lw q (lvS (S v)) s (E v) (S v) := by kernel_rfl) : Gl ws lw Q (fun o => Arr Tryz.prog rd root q s (E o) (S o)) o := lB_ mixed h _ he
theorem lp {β : Type} {ws : List (Nat × W)} {lw : List Lw} {Q : List Prop} {o v : β} {rd : Option Nat} {root : Code} {q : List Nat} {s : St} {E : β → Ex} {S : β → St} (h : some v = some o) (he : (cj Q True ∧ (E v = E v ∧ S v = S v)) = Pd Tryz.prog rd root ws lw q (lvS (S v)) s (E v) (S v) := by kernel_rfl) : Gl ws lw Q (fun o => Cl Tryz.prog rd root q s (E o) (S o)) o := lP_ mixed h _ he
theorem lF {β : Type} {ws : List (Nat × W)} {lw : List Lw} {Q : List Prop} {o v : β} {f : FuncId} {args : List A} {R : β → A} (h : some v = some o) (l : List Ws) (he : (cj Q True ∧ (R v = R v ∧ true = true)) = XF Tryz.prog f ws lw l args (R v) := by kernel_rfl) : Gl ws lw Q (fun o => AL Tryz.prog f args [] (R o) []) o := lF_ mixed h l he
theorem lf {β : Type} {ws : List (Nat × W)} {lw : List Lw} {Q : List Prop} {o v : β} {f : FuncId} {args : List A} {R : β → A} (h : some v = some o) (he : (cj Q True ∧ (R v = R v ∧ true = true)) = XF Tryz.prog f ws lw [] args (R v) := by kernel_rfl) : Gl ws lw Q (fun o => AL Tryz.prog f args [] (R o) []) o := lF_ mixed h [] he
abbrev Lq (n : Nat) (rd : Option Nat) (p : Nat) (s : St) (x : Ex × St) : Prop := Cl Tryz.prog rd (Bu Tryz.prog n) (pth p) s x.1 x.2
theorem lI {β : Type} {ws : List (Nat × W)} {lw : List Lw} {Q : List Prop} {o v : β} {f : FuncId} {args : List A} {F0 : Bx} (hF : Far F0) {r : A} {F : β → Bx} (hc : ∀ f, ∀ p ∈ F f, ∀ m,p.2.has m = true → m ∈ AG (F f)) (h : some v = some o) (l : List Ws) (he : (cj Q True ∧ (r = r ∧ F v = F v ∧ true = true)) = aGw Tryz.prog f ws lw l args F0 r (F v) := by kernel_rfl) : Gl ws lw Q (fun o => IY Tryz.prog f args F0 r (F o)) o := lI_ mixed hF hc h l he
theorem lX {β : Type} {ws : List (Nat × W)} {lw : List Lw} {Q : List Prop} {o v : β} {f : FuncId} {args : List A} {X : Bx} {ks : List Nat} {us : List Value} {R : β → A} {X1 : β → Bx} (h : some v = some o) (l : List Ws) (he : (cj Q True ∧ (R v = R v ∧ X1 v ++ [(vx,.vals (Hm args ks) us)] = X1 v ++ [(vx,.vals (Hm args ks) us)] ∧ true = true)) = aGx Tryz.prog f ws lw l args X ks us (R v) (X1 v) := by kernel_rfl) : Gl ws lw Q (fun o => XG Tryz.prog f args X ks us (R o) (X1 o)) o := lX_ h l he
def RX (w1 : AE) (s3 : Int) : St := ⟨sp 166 0 [bx 1,sI 3 s3],[cL 1 AE.D w1],[]⟩
def RY (w1 : AE) (o : Unit ⊕ Unit) : Ex × St := match o with
  | .inl o => (.exit 0,⟨sp 166 0 [bx 1],[cL 1 AE.D w1],[]⟩)
  | .inr o => (.ret,⟨sp 166 0 [sI 2 0],[],[]⟩)
theorem YY (rd : Option Nat) (h : aIa a7 a8 = some a9) : Lq 19 rd 58 (RX a7 a8) ((RY a7) a9) :=
  lL (fun s : Int => RX a7 s) (RY a7) a8 (fun a8 o h => by
  unfold GW at h
  refine gN 58 X6.D a7.decls ?_
  refine iB 59 h (fun h => ?_) fun h => ?_
  refine xX 65 X6.D h fun x1 h => ?_
  refine gN 68 dZ x1.types ?_
  refine iB 70 h (fun h => ?_) fun h => ?_
  exact lb h
  refine xX 74 X6.D h fun x2 h => ?_
  refine gG 77 (.int (x2.name.length : Int)) (BM x2.name) ?_
  refine iB 79 h (fun h => ?_) fun h => ?_
  exact lb h
  exact lb h
  exact lb h) h
def Rb (s4 : Int) (w1 : AE) (s5 : Int) : St := ⟨sp 166 0 [bx 1,sI 4 s4,sI 5 s5],[cL 1 AE.D w1],[]⟩
def Re (s4 : Int) (w1 : AE) (o : Unit ⊕ Unit) : Ex × St := match o with
  | .inl o => (.exit 4,⟨sp 166 0 [bx 1,sI 4 s4],[cL 1 AE.D w1],[]⟩)
  | .inr o => (.ret,⟨sp 166 0 [sI 2 0],[],[]⟩)
theorem ZA (rd : Option Nat) (h : aIc a8 a7 aA = some a9) : Lq 19 rd 15654 (Rb a8 a7 aA) ((Re a8 a7) a9) :=
  lL (fun s : Int => Rb a8 a7 s) (Re a8 a7) aA (fun aA o h => by
  unfold GY at h
  refine xX 99 X5.D h fun x7 h => ?_
  refine gN 102 Av.D x7.args ?_
  refine iB 103 h (fun h => ?_) fun h => ?_
  refine xX 109 X5.D h fun x8 h => ?_
  refine xX 113 Av.D h fun x9 h => ?_
  refine gG 117 (.int (x9.value.str.length : Int)) (BM x9.value.str) ?_
  refine iB 118 h (fun h => ?_) fun h => ?_
  exact lb h
  exact lb h
  exact lb h) h
def RZ (w1 : AE) (s4 : Int) : St := ⟨sp 166 0 [bx 1,sI 4 s4],[cL 1 AE.D w1],[]⟩
def Ra (w1 : AE) (o : Unit ⊕ Unit) : Ex × St := match o with
  | .inl o => (.exit 2,⟨sp 166 0 [bx 1],[cL 1 AE.D w1],[]⟩)
  | .inr o => (.ret,⟨sp 166 0 [sI 2 0],[],[]⟩)
theorem YZ (rd : Option Nat) (h : aIb a7 a8 = some a9) : Lq 19 rd 122 (RZ a7 a8) ((Ra a7) a9) :=
  lL (fun s : Int => RZ a7 s) (Ra a7) a8 (fun a8 o h => by
  unfold GX at h
  refine gN 83 X5.D a7.symbols ?_
  refine iB 84 h (fun h => ?_) fun h => ?_
  refine xX 90 X5.D h fun x6 h => ?_
  refine gN 93 Av.D x6.args ?_
  refine iB 94 h (fun h => ?_) fun h => ?_
  exact lb h
  obtain ⟨o10,h23,h⟩ := bS h
  refine gl (ZA rd h23) ?_
  replace h := AK h
  rcases h with ⟨o11,rfl,h⟩ | ⟨o12,rfl,h⟩
  exact lb h
  exact lb h
  exact lb h) h
def Rf (w1 : AE) (s6 : Int) : St := ⟨sp 166 0 [bx 1,sI 6 s6],[cL 1 AE.D w1],[]⟩
def Rg (w1 : AE) (o : Unit ⊕ Unit) : Ex × St := match o with
  | .inl o => (.exit 6,⟨sp 166 0 [bx 1],[cL 1 AE.D w1],[]⟩)
  | .inr o => (.ret,⟨sp 166 0 [sI 2 0],[],[]⟩)
theorem ZB (rd : Option Nat) (h : aId a7 a8 = some a9) : Lq 19 rd 250 (Rf a7 a8) ((Rg a7) a9) :=
  lL (fun s : Int => Rf a7 s) (Rg a7) a8 (fun a8 o h => by
  unfold GZ at h
  refine gN 122 Ya.D a7.frees ?_
  refine iB 123 h (fun h => ?_) fun h => ?_
  refine xX 129 Ya.D h fun x16 h => ?_
  refine gG 133 (.int (x16.init_.str.length : Int)) (BM x16.init_.str) ?_
  refine iB 134 h (fun h => ?_) fun h => ?_
  exact lb h
  exact lb h
  exact lb h) h
def Rh (w1 : AE) (s7 : Int) : St := ⟨sp 166 0 [bx 1,sI 7 s7],[cL 1 AE.D w1],[]⟩
def Ri (w1 : AE) (o : Unit ⊕ Unit) : Ex × St := match o with
  | .inl o => (.exit 8,⟨sp 166 0 [bx 1],[cL 1 AE.D w1],[]⟩)
  | .inr o => (.ret,⟨sp 166 0 [sI 2 0],[],[]⟩)
theorem ZC (rd : Option Nat) (h : aIe a7 a8 = some a9) : Lq 19 rd 506 (Rh a7 a8) ((Ri a7) a9) :=
  lL (fun s : Int => Rh a7 s) (Ri a7) a8 (fun a8 o h => by
  unfold Ga at h
  refine gN 138 Ym.D a7.nodes ?_
  refine iB 139 h (fun h => ?_) fun h => ?_
  refine xX 145 Ym.D h fun x20 h => ?_
  refine gG 149 (.int (x20.value.str.length : Int)) (BM x20.value.str) ?_
  refine iB 150 h (fun h => ?_) fun h => ?_
  exact lb h
  exact lb h
  exact lb h) h
def Rj (w1 : AE) (s8 : Int) : St := ⟨sp 166 0 [bx 1,sI 8 s8],[cL 1 AE.D w1],[]⟩
def Rk (w1 : AE) (o : Unit ⊕ Unit) : Ex × St := match o with
  | .inl o => (.exit 10,⟨sp 166 0 [],[],[]⟩)
  | .inr o => (.ret,⟨sp 166 0 [sI 2 0],[],[]⟩)
theorem ZD (rd : Option Nat) (h : aIf a7 a8 = some a9) : Lq 19 rd 1018 (Rj a7 a8) ((Rk a7) a9) :=
  lL (fun s : Int => Rj a7 s) (Rk a7) a8 (fun a8 o h => by
  unfold Gb at h
  refine gN 154 Xm.D a7.trans ?_
  refine iB 155 h (fun h => ?_) fun h => ?_
  refine xX 161 Xm.D h fun x24 h => ?_
  refine gN 164 EG.D x24.sets ?_
  refine iB 165 h (fun h => ?_) fun h => ?_
  exact lb h
  exact lb h
  exact lb h) h
theorem aPr (h : Xb a7 = some a8) : AL Tryz.prog 19 [.d (AE.D a7)] [] (dI a8) [] := by
  unfold Xb at h
  apply g0 (o := a8)
  refine gN 11 X6.D a7.decls ?_
  refine iB 13 h (fun h => ?_) fun h => ?_
  exact lf h
  refine gN 16 Y4.D a7.quants ?_
  refine iB 19 h (fun h => ?_) fun h => ?_
  exact lf h
  refine gN 22 Ya.D a7.frees ?_
  refine iB 25 h (fun h => ?_) fun h => ?_
  exact lf h
  refine gN 28 Yh.D a7.states ?_
  refine iB 31 h (fun h => ?_) fun h => ?_
  exact lf h
  refine gN 34 X5.D a7.symbols ?_
  refine iB 37 h (fun h => ?_) fun h => ?_
  exact lf h
  refine gN 40 Xm.D a7.trans ?_
  refine iB 43 h (fun h => ?_) fun h => ?_
  exact lf h
  refine gN 46 Ym.D a7.nodes ?_
  refine iB 49 h (fun h => ?_) fun h => ?_
  exact lf h
  refine gG 52 (.int (a7.name.length : Int)) (BM a7.name) ?_
  refine iB 54 h (fun h => ?_) fun h => ?_
  exact lf h
  obtain ⟨o3,h14,h⟩ := bS h
  refine gl (YY none h14) ?_
  replace h := AK h
  rcases h with ⟨o4,rfl,h⟩ | ⟨o5,rfl,h⟩
  obtain ⟨o13,h24,h⟩ := bS h
  refine gl (YZ none h24) ?_
  replace h := AK h
  rcases h with ⟨o14,rfl,h⟩ | ⟨o15,rfl,h⟩
  obtain ⟨o17,h28,h⟩ := bS h
  refine gl (ZB none h28) ?_
  replace h := AK h
  rcases h with ⟨o18,rfl,h⟩ | ⟨o19,rfl,h⟩
  obtain ⟨o21,h32,h⟩ := bS h
  refine gl (ZC none h32) ?_
  replace h := AK h
  rcases h with ⟨o22,rfl,h⟩ | ⟨o23,rfl,h⟩
  obtain ⟨o25,h36,h⟩ := bS h
  refine gl (ZD none h36) ?_
  replace h := AK h
  rcases h with ⟨o26,rfl,h⟩ | ⟨o27,rfl,h⟩
  exact lf h
  exact lf h
  exact lf h
  exact lf h
  exact lf h
  exact lf h
theorem aO1 (h : Qs = some aB) : AL Tryz.prog 101 [] [] (.d ((D.l D.s) aB)) [] := by
  unfold Qs at h
  apply g0 (o := aB)
  refine gQ (Ak D.s ([([97,99,99,101,112,116] : List UInt8),([97,108,115,111] : List UInt8),([97,110,100] : List UInt8),([98,111,111,108] : List UInt8),([100,111] : List UInt8),([101,118,101,110,116] : List UInt8),([101,120,105,115,116,115] : List UInt8),([102,97,108,115,101] : List UInt8),([102,111,114,97,108,108] : List UInt8),([102,114,101,101] : List UInt8),([105,102] : List UInt8),([105,110,116] : List UInt8),([110,101,120,116] : List UInt8),([110,111,116] : List UInt8),([111,110] : List UInt8),([111,114] : List UInt8),([113,101,97] : List UInt8),([115,107,105,112] : List UInt8),([115,116,97,114,116] : List UInt8),([115,116,114,105,110,103] : List UInt8),([116,111] : List UInt8),([116,114,117,101] : List UInt8)])) ?_
  exact lf h
def Uf (s0 : List UInt8) (s3 : Int) : St := ⟨sp 55 0 [sD 0 D.s s0,sI 3 s3],[],[]⟩
def Ug (s0 : List UInt8) (o : Unit ⊕ Unit) : Ex × St := match o with
  | .inl o => (.exit 0,⟨sp 55 0 [],[],[]⟩)
  | .inr o => (.ret,⟨sp 55 0 [sD 2 D.b false],[],[]⟩)
theorem aEf (rd : Option Nat) (h : aI8 aC a8 = some a9) : Lq 102 rd 58 (Uf aC a8) ((Ug aC) a9) :=
  lL (fun s : Int => Uf aC s) (Ug aC) a8 (fun a8 o h => by
  unfold HK at h
  refine gG 16 (.int (aC.length : Int)) (BM aC) ?_
  refine iB 17 h (fun h => ?_) fun h => ?_
  obtain ⟨x1,h4,h⟩ := xS h
  refine gG 22 (.int x1.toNat) (FU h4) ?_
  refine iB 25 h (fun h => ?_) fun h => ?_
  refine iB 29 h (fun h => ?_) fun h => ?_
  exact lb h
  refine iB 32 h (fun h => ?_) fun h => ?_
  refine iB 37 h (fun h => ?_) fun h => ?_
  exact lb h
  refine iB 43 h (fun h => ?_) fun h => ?_
  refine iB 46 h (fun h => ?_) fun h => ?_
  exact lb h
  refine iB 50 h (fun h => ?_) fun h => ?_
  exact lb h
  refine iB 54 h (fun h => ?_) fun h => ?_
  exact lb h
  exact lb h
  exact lb h
  refine iB 43 h (fun h => ?_) fun h => ?_
  refine iB 46 h (fun h => ?_) fun h => ?_
  exact lb h
  refine iB 50 h (fun h => ?_) fun h => ?_
  exact lb h
  refine iB 54 h (fun h => ?_) fun h => ?_
  exact lb h
  exact lb h
  exact lb h
  refine iB 32 h (fun h => ?_) fun h => ?_
  refine iB 37 h (fun h => ?_) fun h => ?_
  exact lb h
  refine iB 43 h (fun h => ?_) fun h => ?_
  refine iB 46 h (fun h => ?_) fun h => ?_
  exact lb h
  refine iB 50 h (fun h => ?_) fun h => ?_
  exact lb h
  refine iB 54 h (fun h => ?_) fun h => ?_
  exact lb h
  exact lb h
  exact lb h
  refine iB 43 h (fun h => ?_) fun h => ?_
  refine iB 46 h (fun h => ?_) fun h => ?_
  exact lb h
  refine iB 50 h (fun h => ?_) fun h => ?_
  exact lb h
  refine iB 54 h (fun h => ?_) fun h => ?_
  exact lb h
  exact lb h
  exact lb h
  exact lb h) h
theorem aRk (h : Yw aC = some aD) : AL Tryz.prog 102 [.d (D.s aC)] [] (.d (D.b aD)) [] := by
  unfold Yw at h
  apply g0 (o := aD)
  refine gG 7 (.int (aC.length : Int)) (BM aC) ?_
  refine iB 9 h (fun h => ?_) fun h => ?_
  exact lf h
  refine gG 11 (.int (aC.length : Int)) (BM aC) ?_
  refine iB 13 h (fun h => ?_) fun h => ?_
  exact lf h
  obtain ⟨o2,h27,h⟩ := bS h
  refine gl (aEf none h27) ?_
  replace h := AK h
  rcases h with ⟨o3,rfl,h⟩ | ⟨o4,rfl,h⟩
  exact lf h
  exact lf h
def T9 (s0 : List UInt8) (s3 : List (List UInt8)) (s4 : Int) : St := ⟨sp 24 0 [sD 0 D.s s0,sD 3 (D.l D.s) s3,sI 4 s4],[],[]⟩
def UA (s0 : List UInt8) (s3 : List (List UInt8)) (o : Unit ⊕ Unit) : Ex × St := match o with
  | .inl o => (.exit 0,⟨sp 24 0 [sD 0 D.s s0],[],[]⟩)
  | .inr o => (.ret,⟨sp 24 0 [sD 2 D.b false],[],[]⟩)
theorem aDu (rd : Option Nat) (h : aI4 aC aB a8 = some a9) : Lq 62 rd 58 (T9 aC aB a8) ((UA aC aB) a9) :=
  lL (fun s : Int => T9 aC aB s) (UA aC aB) a8 (fun a8 o h => by
  unfold HC at h
  refine gN 8 D.s aB ?_
  refine iB 9 h (fun h => ?_) fun h => ?_
  refine xX 14 D.s h fun x2 h => ?_
  refine iB 17 h (fun h => ?_) fun h => ?_
  exact lb h
  exact lb h
  exact lb h) h
theorem aDv (h : Yi aC = some aD) : AL Tryz.prog 62 [.d (D.s aC)] [] (.d (D.b aD)) [] := by
  unfold Yi at h
  apply g0 (o := aD)
  obtain ⟨r1,h1,h⟩ := bS h
  refine gC 5 (aO1 h1) ?_
  obtain ⟨o3,h5,h⟩ := bS h
  refine gl (aDu none h5) ?_
  replace h := AK h
  rcases h with ⟨o4,rfl,h⟩ | ⟨o5,rfl,h⟩
  obtain ⟨r6,h6,h⟩ := bS h
  refine gQ (aRk h6) ?_
  cases r6
  replace h := B1 h
  refine gW 19 (.ret (.d (D.b false))) ?_
  exact lf h
  replace h := B2 h
  refine gW 19 (.ret (.d (D.b true))) ?_
  exact lf h
  exact lf h
def UR (s0 : List X6) (s1 : List UInt8) (s5 : Int) : St := ⟨sp 20 0 [sD 0 (D.l X6.D) s0,sD 1 D.s s1,sI 5 s5],[],[]⟩
def US (s0 : List X6) (s1 : List UInt8) (o : Unit ⊕ Int) : Ex × St := match o with
  | .inl o => (.exit 0,⟨sp 20 0 [],[],[]⟩)
  | .inr o => (.ret,⟨sp 20 0 [sI 4 o],[],[]⟩)
theorem aD8 (rd : Option Nat) (h : aI5 aE aC a8 = some aF) : Lq 23 rd 26 (UR aE aC a8) ((US aE aC) aF) :=
  lL (fun s : Int => UR aE aC s) (US aE aC) a8 (fun a8 o h => by
  unfold JQ at h
  refine gN 8 X6.D aE ?_
  refine iB 9 h (fun h => ?_) fun h => ?_
  refine xX 14 X6.D h fun x1 h => ?_
  refine iB 18 h (fun h => ?_) fun h => ?_
  exact lb h
  exact lb h
  exact lb h) h
theorem aL7 (h : Yq aE aC = some a8) : AL Tryz.prog 23 [.d ((D.l X6.D) aE),.d (D.s aC)] [] (dI a8) [] := by
  unfold Yq at h
  apply g0 (o := a8)
  obtain ⟨o2,h4,h⟩ := bS h
  refine gl (aD8 none h4) ?_
  replace h := AK h
  rcases h with ⟨o3,rfl,h⟩ | ⟨o4,rfl,h⟩
  exact lf h
  exact lf h
def TF (s0 : List X6) (s4 s5 : Int) : St := ⟨sp 72 0 [sD 0 (D.l X6.D) s0,sI 4 s4,sI 5 s5],[],[]⟩
def TG (s0 : List X6) (s4 : Int) (o : Unit ⊕ Unit) : Ex × St := match o with
  | .inl o => (.exit 2,⟨sp 72 0 [sD 0 (D.l X6.D) s0,sI 4 s4],[],[]⟩)
  | .inr o => (.ret,⟨sp 72 0 [sI 2 8,sI 3 s4],[],[]⟩)
theorem aBx (rd : Option Nat) (h : aBw aE a8 aA = some a9) : Lq 39 rd 29854 (TF aE a8 aA) ((TG aE a8) a9) :=
  lL (fun s : Int => TF aE a8 s) (TG aE a8) aA (fun aA o h => by
  unfold DW at h
  refine xX 44 X6.D h fun x6 h => ?_
  refine gN 47 dZ x6.types ?_
  refine iB 48 h (fun h => ?_) fun h => ?_
  refine xX 53 X6.D h fun x7 h => ?_
  refine xX 57 dZ h fun x8 h => ?_
  refine iB 60 h (fun h => ?_) fun h => ?_
  exact lb h
  refine xX 63 X6.D h fun x9 h => ?_
  refine xX 67 dZ h fun x10 h => ?_
  refine iB 70 h (fun h => ?_) fun h => ?_
  exact lb h
  exact lb h
  exact lb h) h
def TD (s0 : List X6) (s4 : Int) : St := ⟨sp 72 0 [sD 0 (D.l X6.D) s0,sI 4 s4],[],[]⟩
def TE (s0 : List X6) (o : Unit ⊕ (Int × Int)) : Ex × St := match o with
  | .inl o => (.exit 0,⟨sp 72 0 [],[],[]⟩)
  | .inr o => (.ret,⟨sp 72 0 [sI 2 o.1,sI 3 o.2],[],[]⟩)
theorem aBv (rd : Option Nat) (h : aBu aE a8 = some aG) : Lq 39 rd 58 (TD aE a8) ((TE aE) aG) :=
  lL (fun s : Int => TD aE s) (TE aE) a8 (fun a8 o h => by
  unfold DV at h
  refine gN 11 X6.D aE ?_
  refine iB 12 h (fun h => ?_) fun h => ?_
  refine xX 17 X6.D h fun x1 h => ?_
  obtain ⟨r2,h4,h⟩ := bS h
  refine gC 20 (aDv h4) ?_
  refine iB 21 h (fun h => ?_) fun h => ?_
  exact lb h
  refine xX 26 X6.D h fun x3 h => ?_
  obtain ⟨r4,h7,h⟩ := bS h
  refine gC 29 (aL7 h7) ?_
  refine iB 31 h (fun h => ?_) fun h => ?_
  exact lb h
  refine xX 35 X6.D h fun x5 h => ?_
  refine gN 38 dZ x5.types ?_
  refine iB 39 h (fun h => ?_) fun h => ?_
  exact lb h
  obtain ⟨o11,h19,h⟩ := bS h
  refine gl (aBx rd h19) ?_
  replace h := AK h
  rcases h with ⟨o12,rfl,h⟩ | ⟨o13,rfl,h⟩
  exact lb h
  exact lb h
  exact lb h) h
theorem aQm (h : Xv aE = some aH) : AL Tryz.prog 39 [.d ((D.l X6.D) aE)] [] (.tup [dI aH.1,dI aH.2]) [] := by
  unfold Xv at h
  apply g0 (o := aH)
  refine gN 7 X6.D aE ?_
  refine iB 8 h (fun h => ?_) fun h => ?_
  exact lf h
  obtain ⟨o14,h20,h⟩ := bS h
  refine gl (aBv none h20) ?_
  replace h := AK h
  rcases h with ⟨o15,rfl,h⟩ | ⟨o16,rfl,h⟩
  exact lf h
  exact lf h
theorem Up (h : Z2 aI = some aD) : AL Tryz.prog 24 [.d (X0.D aI)] [] (.d (D.b aD)) [] := by
  unfold Z2 at h
  apply g0 (o := aD)
  refine iB 5 h (fun h => ?_) fun h => ?_
  refine iB 9 h (fun h => ?_) fun h => ?_
  exact lf h
  exact lf h
  refine iB 16 h (fun h => ?_) fun h => ?_
  refine iB 20 h (fun h => ?_) fun h => ?_
  refine iB 25 h (fun h => ?_) fun h => ?_
  refine gG 28 (.int (aI.str.length : Int)) (BM aI.str) ?_
  exact lf h
  exact lf h
  exact lf h
  refine iB 34 h (fun h => ?_) fun h => ?_
  refine iB 39 h (fun h => ?_) fun h => ?_
  exact lf h
  exact lf h
  exact lf h
def Uq (s0 : List (List UInt8)) (s1 s5 : Int) : St := ⟨sp 20 0 [sD 0 (D.l D.s) s0,sI 1 s1,sI 5 s5],[],[]⟩
def Ur (s0 : List (List UInt8)) (s1 : Int) (o : Unit ⊕ Unit) : Ex × St := match o with
  | .inl o => (.exit 0,⟨sp 20 0 [],[],[]⟩)
  | .inr o => (.ret,⟨sp 20 0 [sD 4 D.b true],[],[]⟩)
theorem aEn (rd : Option Nat) (h : aMd aB a8 aA = some a9) : Lq 63 rd 26 (Uq aB a8 aA) ((Ur aB a8) a9) :=
  lL (fun s : Int => Uq aB a8 s) (Ur aB a8) aA (fun aA o h => by
  unfold HO at h
  refine iB 8 h (fun h => ?_) fun h => ?_
  refine xX 13 D.s h fun x1 h => ?_
  refine xX 17 D.s h fun x2 h => ?_
  refine iB 19 h (fun h => ?_) fun h => ?_
  exact lb h
  exact lb h
  exact lb h) h
theorem aMe (h : Z3 aB a8 = some aD) : AL Tryz.prog 63 [.d ((D.l D.s) aB),dI a8] [] (.d (D.b aD)) [] := by
  unfold Z3 at h
  apply g0 (o := aD)
  obtain ⟨o3,h5,h⟩ := bS h
  refine gl (aEn none h5) ?_
  replace h := AK h
  rcases h with ⟨o4,rfl,h⟩ | ⟨o5,rfl,h⟩
  exact lf h
  exact lf h
def SK (w1 : AE) (s4 : Int) (w3 : List (List UInt8)) : St := ⟨sp 112 0 [bx 1,rx 3,sI 4 s4],[cL 1 AE.D w1,(3,.row 9 1 (w3.map D.s))],[]⟩
def SL (w1 : AE) (o : (List (List UInt8)) ⊕ Unit) : Ex × St := match o with
  | .inl o => (.exit 0,⟨sp 112 0 [bx 1,rx 3],[cL 1 AE.D w1,(3,.row 9 1 (o.map D.s))],[]⟩)
  | .inr o => (.ret,⟨sp 112 0 [sD 2 D.b false],[],[]⟩)
theorem aAk (rd : Option Nat) (h : aLo a7 a8 aB = some aJ) : Lq 40 rd 58 (SK a7 a8 aB) ((SL a7) aJ) :=
  lL (fun s : Int × List (List UInt8) => SK a7 s.1 s.2) (SL a7) (a8,aB) (fun ⟨a8,aB⟩ o h => by
  unfold Gi at h
  refine gN 12 Y4.D a7.quants ?_
  refine iB 13 h (fun h => ?_) fun h => ?_
  refine xX 20 Y4.D h fun x4 h => ?_
  refine gQ (Ak D.s [x4.name]) <| gG 24 (.sl ((aB ++ [x4.name]).map D.s)) (Ak D.s [x4.name]) ?_
  obtain ⟨h10,h⟩ := cS h
  refine gQ (Ap D.s h10) <| gQ (Ao D.s aB [x4.name]) <| xX 28 Y4.D h fun x5 h => ?_
  refine iB 32 h (fun h => ?_) fun h => ?_
  exact lb h
  refine xX 36 Y4.D h fun x6 h => ?_
  refine iB 40 h (fun h => ?_) fun h => ?_
  exact lb h
  exact lB h [.live [1,3,4],.keep [1,24],.ren 24 3,.sort]
  exact lb h) h
def SM (w1 : AE) (s5 : Int) (w3 : List (List UInt8)) : St := ⟨sp 112 0 [bx 1,rx 3,sI 5 s5],[cL 1 AE.D w1,(3,.row 9 1 (w3.map D.s))],[]⟩
def SN (w1 : AE) (o : (List (List UInt8)) ⊕ Unit) : Ex × St := match o with
  | .inl o => (.exit 2,⟨sp 112 0 [bx 1,rx 3],[cL 1 AE.D w1,(3,.row 9 1 (o.map D.s))],[]⟩)
  | .inr o => (.ret,⟨sp 112 0 [sD 2 D.b false],[],[]⟩)
theorem aAl (rd : Option Nat) (h : aLp a7 a8 aB = some aJ) : Lq 40 rd 122 (SM a7 a8 aB) ((SN a7) aJ) :=
  lL (fun s : Int × List (List UInt8) => SM a7 s.1 s.2) (SN a7) (a8,aB) (fun ⟨a8,aB⟩ o h => by
  unfold Gj at h
  refine gN 44 Ya.D a7.frees ?_
  refine iB 45 h (fun h => ?_) fun h => ?_
  refine xX 52 Ya.D h fun x10 h => ?_
  refine gQ (Ak D.s [x10.name]) <| gG 56 (.sl ((aB ++ [x10.name]).map D.s)) (Ak D.s [x10.name]) ?_
  obtain ⟨h18,h⟩ := cS h
  refine gQ (Ap D.s h18) <| gQ (Ao D.s aB [x10.name]) <| xX 60 Ya.D h fun x11 h => ?_
  obtain ⟨r12,h20,h⟩ := bS h
  refine gC 63 (Up h20) ?_
  refine iB 64 h (fun h => ?_) fun h => ?_
  exact lb h
  exact lB h [.live [1,3,5],.keep [1,56],.ren 56 3,.sort]
  exact lb h) h
def SO (w1 : AE) (w3 : List (List UInt8)) (s6 : Int) : St := ⟨sp 112 0 [bx 1,rx 3,sI 6 s6],[cL 1 AE.D w1,(3,.row 9 1 (w3.map D.s))],[]⟩
def SP (w1 : AE) (w3 : List (List UInt8)) (o : Unit ⊕ Unit) : Ex × St := match o with
  | .inl o => (.exit 4,⟨sp 112 0 [bx 1],[cL 1 AE.D w1],[]⟩)
  | .inr o => (.ret,⟨sp 112 0 [sD 2 D.b false],[],[]⟩)
theorem aAm (rd : Option Nat) (h : aLq a7 aB a8 = some a9) : Lq 40 rd 250 (SO a7 aB a8) ((SP a7 aB) a9) :=
  lL (fun s : Int => SO a7 aB s) (SP a7 aB) a8 (fun a8 o h => by
  unfold Gk at h
  refine gN 67 D.s aB ?_
  refine iB 68 h (fun h => ?_) fun h => ?_
  refine xX 73 D.s h fun x16 h => ?_
  obtain ⟨r17,h25,h⟩ := bS h
  refine gC 75 (aDv h25) ?_
  refine iB 77 h (fun h => ?_) fun h => ?_
  exact lb h
  obtain ⟨r18,h27,h⟩ := bS h
  refine gQ (aMe h27) ?_
  cases r18
  replace h := B1 h
  refine gW 80 (.ret (.d (D.b false))) ?_
  exact lb h
  replace h := B2 h
  refine gW 80 (.ret (.d (D.b true))) ?_
  exact lb h
  exact lb h) h
def SQ (w1 : AE) (s8 : Int) (w7 : List (List UInt8)) : St := ⟨sp 112 0 [bx 1,rx 7,sI 8 s8],[cL 1 AE.D w1,(7,.row 9 1 (w7.map D.s))],[]⟩
def SR (w1 : AE) (o : Unit ⊕ Unit) : Ex × St := match o with
  | .inl o => (.exit 6,⟨sp 112 0 [bx 1],[cL 1 AE.D w1],[]⟩)
  | .inr o => (.ret,⟨sp 112 0 [sD 2 D.b false],[],[]⟩)
theorem aAn (rd : Option Nat) (h : aLr a7 a8 aB = some a9) : Lq 40 rd 1018 (SQ a7 a8 aB) ((SR a7) a9) :=
  lL (fun s : Int × List (List UInt8) => SQ a7 s.1 s.2) (SR a7) (a8,aB) (fun ⟨a8,aB⟩ o h => by
  unfold Gm at h
  refine gN 85 Yh.D a7.states ?_
  refine iB 86 h (fun h => ?_) fun h => ?_
  refine xX 93 Yh.D h fun x26 h => ?_
  refine gQ (Ak D.s [x26.name]) <| gG 97 (.sl ((aB ++ [x26.name]).map D.s)) (Ak D.s [x26.name]) ?_
  obtain ⟨h40,h⟩ := cS h
  refine gQ (Ap D.s h40) <| gQ (Ao D.s aB [x26.name]) <| xX 100 D.s h fun x27 h => ?_
  obtain ⟨r28,h42,h⟩ := bS h
  refine gC 102 (aDv h42) ?_
  refine iB 104 h (fun h => ?_) fun h => ?_
  exact lb h
  obtain ⟨r29,h44,h⟩ := bS h
  refine gQ (aMe h44) ?_
  cases r29
  replace h := B1 h
  refine gW 107 (.ret (.d (D.b false))) ?_
  exact lB h [.live [1,7,8],.keep [1,97],.ren 97 7,.sort]
  replace h := B2 h
  refine gW 107 (.ret (.d (D.b true))) ?_
  exact lb h
  exact lb h) h
theorem aP4 (h : Xj a7 = some aD) : AL Tryz.prog 40 [.d (AE.D a7)] [] (.d (D.b aD)) [] := by
  unfold Xj at h
  apply g0 (o := aD)
  obtain ⟨o7,h15,h⟩ := bS h
  refine gL [.live [1,3,4],.keep [1],.nil 3 3 9 1,.sort] (aAk none h15) ?_
  replace h := AK h
  rcases h with ⟨o8,rfl,h⟩ | ⟨o9,rfl,h⟩
  obtain ⟨o13,h22,h⟩ := bS h
  refine gl (aAl none h22) ?_
  replace h := AK h
  rcases h with ⟨o14,rfl,h⟩ | ⟨o15,rfl,h⟩
  obtain ⟨o19,h29,h⟩ := bS h
  refine gl (aAm none h29) ?_
  replace h := AK h
  rcases h with ⟨o20,rfl,h⟩ | ⟨o21,rfl,h⟩
  obtain ⟨o30,h46,h⟩ := bS h
  refine gL [.live [1,7,8],.keep [1],.nil 7 7 9 1,.sort] (aAn none h46) ?_
  replace h := AK h
  rcases h with ⟨o31,rfl,h⟩ | ⟨o32,rfl,h⟩
  obtain ⟨r33,h47,h⟩ := bS h
  refine gC 111 (aDv h47) ?_
  exact lf h
  exact lf h
  exact lf h
  exact lf h
  exact lf h
theorem JY (h : Zf aD = some aK) : AL Tryz.prog 141 [.d (D.b aD)] [] (.tup [.d (X0.D aK.1),dI aK.2]) [] := by
  unfold Zf at h
  apply g0 (o := aK)
  exact lf h
theorem aOs (h : Qj a8 aA = some aL) : AL Tryz.prog 148 [dI a8,dI aA] [] (.tup [dI aL.1,.d (D.b aL.2)]) [] := by
  unfold Qj at h
  apply g0 (o := aL)
  refine iB 8 h (fun h => ?_) fun h => ?_
  refine iB 14 h (fun h => ?_) fun h => ?_
  exact lf h
  refine iB 17 h (fun h => ?_) fun h => ?_
  refine iB 23 h (fun h => ?_) fun h => ?_
  exact lf h
  exact lf h
  exact lf h
  refine iB 17 h (fun h => ?_) fun h => ?_
  refine iB 23 h (fun h => ?_) fun h => ?_
  exact lf h
  exact lf h
  exact lf h
theorem aE4 (h : Zs a8 aD = some aK) : AL Tryz.prog 149 [dI a8,.d (D.b aD)] [] (.tup [.d (X0.D aK.1),dI aK.2]) [] := by
  unfold Zs at h
  apply g0 (o := aK)
  refine iB 7 h (fun h => ?_) fun h => ?_
  exact lf h
  exact lf h
theorem aE3 (h : Zm a8 aA = some aL) : AL Tryz.prog 150 [dI a8,dI aA] [] (.tup [dI aL.1,.d (D.b aL.2)]) [] := by
  unfold Zm at h
  apply g0 (o := aL)
  refine iB 8 h (fun h => ?_) fun h => ?_
  refine iB 14 h (fun h => ?_) fun h => ?_
  exact lf h
  refine iB 17 h (fun h => ?_) fun h => ?_
  refine iB 23 h (fun h => ?_) fun h => ?_
  exact lf h
  exact lf h
  exact lf h
  refine iB 17 h (fun h => ?_) fun h => ?_
  refine iB 23 h (fun h => ?_) fun h => ?_
  exact lf h
  exact lf h
  exact lf h
theorem aOt (h : Qk a8 aA = some aL) : AL Tryz.prog 151 [dI a8,dI aA] [] (.tup [dI aL.1,.d (D.b aL.2)]) [] := by
  unfold Qk at h
  apply g0 (o := aL)
  refine iB 8 h (fun h => ?_) fun h => ?_
  exact lf h
  refine iB 11 h (fun h => ?_) fun h => ?_
  exact lf h
  refine iB 13 h (fun h => ?_) fun h => ?_
  obtain ⟨r1,h4,h⟩ := bS h
  refine gC 15 (aE3 h4) ?_
  exact lf h
  refine iB 19 h (fun h => ?_) fun h => ?_
  obtain ⟨r2,h6,h⟩ := bS h
  refine gC 21 (aE3 h6) ?_
  exact lf h
  rcases iS h with ⟨h7,h⟩ | ⟨h7,h⟩
  refine gT 26 h7 ?_
  rcases iS h with ⟨h8,h⟩ | ⟨h8,h⟩
  refine gT 30 h8 ?_
  obtain ⟨h9,h⟩ := cS h
  refine gQ h9 ?_
  refine iB 36 h (fun h => ?_) fun h => ?_
  exact lf h
  refine gT 39 h7 ?_
  rcases iS h with ⟨h11,h⟩ | ⟨h11,h⟩
  refine gT 43 h11 ?_
  obtain ⟨h12,h⟩ := cS h
  refine gQ h12 ?_
  refine iB 50 h (fun h => ?_) fun h => ?_
  exact lf h
  rcases iS h with ⟨h14,h⟩ | ⟨h14,h⟩
  refine gT 53 h14 <| gT 57 h8 ?_
  obtain ⟨h15,h⟩ := cS h
  refine gQ h15 ?_
  refine iB 64 h (fun h => ?_) fun h => ?_
  exact lf h
  refine gT 67 h14 <| gT 71 h11 ?_
  obtain ⟨h17,h⟩ := cS h
  refine gQ h17 ?_
  refine iB 77 h (fun h => ?_) fun h => ?_
  exact lf h
  exact lf h
  refine gF 53 h14 <| gF 67 h14 ?_
  exact lf h
  refine gF 43 h11 ?_
  rcases iS h with ⟨h19,h⟩ | ⟨h19,h⟩
  refine gT 53 h19 <| gT 57 h8 ?_
  obtain ⟨h20,h⟩ := cS h
  refine gQ h20 ?_
  refine iB 64 h (fun h => ?_) fun h => ?_
  exact lf h
  refine gT 67 h19 <| gF 71 h11 ?_
  exact lf h
  refine gF 53 h19 <| gF 67 h19 ?_
  exact lf h
  refine gF 30 h8 <| gT 39 h7 ?_
  rcases iS h with ⟨h22,h⟩ | ⟨h22,h⟩
  refine gT 43 h22 ?_
  obtain ⟨h23,h⟩ := cS h
  refine gQ h23 ?_
  refine iB 50 h (fun h => ?_) fun h => ?_
  exact lf h
  rcases iS h with ⟨h25,h⟩ | ⟨h25,h⟩
  refine gT 53 h25 <| gF 57 h8 <| gT 67 h25 <| gT 71 h22 ?_
  obtain ⟨h26,h⟩ := cS h
  refine gQ h26 ?_
  refine iB 77 h (fun h => ?_) fun h => ?_
  exact lf h
  exact lf h
  refine gF 53 h25 <| gF 67 h25 ?_
  exact lf h
  refine gF 43 h22 ?_
  rcases iS h with ⟨h28,h⟩ | ⟨h28,h⟩
  refine gT 53 h28 <| gF 57 h8 <| gT 67 h28 <| gF 71 h22 ?_
  exact lf h
  refine gF 53 h28 <| gF 67 h28 ?_
  exact lf h
  refine gF 26 h7 <| gF 39 h7 ?_
  rcases iS h with ⟨h29,h⟩ | ⟨h29,h⟩
  refine gT 53 h29 ?_
  refine iB 57 h (fun h => ?_) fun h => ?_
  obtain ⟨h31,h⟩ := cS h
  refine gQ h31 ?_
  refine iB 64 h (fun h => ?_) fun h => ?_
  exact lf h
  refine gT 67 h29 ?_
  refine iB 71 h (fun h => ?_) fun h => ?_
  obtain ⟨h34,h⟩ := cS h
  refine gQ h34 ?_
  refine iB 77 h (fun h => ?_) fun h => ?_
  exact lf h
  exact lf h
  exact lf h
  refine gT 67 h29 ?_
  refine iB 71 h (fun h => ?_) fun h => ?_
  obtain ⟨h37,h⟩ := cS h
  refine gQ h37 ?_
  refine iB 77 h (fun h => ?_) fun h => ?_
  exact lf h
  exact lf h
  exact lf h
  refine gF 53 h29 <| gF 67 h29 ?_
  exact lf h
theorem aOu (h : Ql a8 aA = some aM) : AL Tryz.prog 152 [dI a8,dI aA] [] (.tup [dI aM.1,dI aM.2.1,dI aM.2.2]) [] := by
  unfold Ql at h
  apply g0 (o := aM)
  refine iB 10 h (fun h => ?_) fun h => ?_
  exact lf h
  refine iB 12 h (fun h => ?_) fun h => ?_
  obtain ⟨r1,h3,h⟩ := bS h
  refine gC 15 (aE3 h3) ?_
  refine iB 19 h (fun h => ?_) fun h => ?_
  exact lf h
  exact lf h
  obtain ⟨h5,h⟩ := cS h
  refine gQ h5 ?_
  obtain ⟨h6,h⟩ := cS h
  refine gQ h6 ?_
  exact lf h
theorem aMk (h : Zn a8 aA aN = some aK) : AL Tryz.prog 142 [dI a8,dI aA,dI aN] [] (.tup [.d (X0.D aK.1),dI aK.2]) [] := by
  unfold Zn at h
  apply g0 (o := aK)
  refine iB 18 h (fun h => ?_) fun h => ?_
  obtain ⟨r1,h2,h⟩ := bS h
  refine gC 22 (aOs h2) ?_
  obtain ⟨r2,h3,h⟩ := bS h
  refine gC 27 (aE4 h3) ?_
  exact lf h
  refine iB 31 h (fun h => ?_) fun h => ?_
  obtain ⟨r3,h5,h⟩ := bS h
  refine gC 35 (aE3 h5) ?_
  obtain ⟨r4,h6,h⟩ := bS h
  refine gC 40 (aE4 h6) ?_
  exact lf h
  refine iB 44 h (fun h => ?_) fun h => ?_
  obtain ⟨r5,h8,h⟩ := bS h
  refine gC 48 (aOt h8) ?_
  obtain ⟨r6,h9,h⟩ := bS h
  refine gC 53 (aE4 h9) ?_
  exact lf h
  obtain ⟨r7,h10,h⟩ := bS h
  refine gC 59 (aOu h10) ?_
  refine iB 64 h (fun h => ?_) fun h => ?_
  exact lf h
  refine iB 67 h (fun h => ?_) fun h => ?_
  exact lf h
  obtain ⟨r8,h13,h⟩ := bS h
  refine gC 73 (aE4 h13) ?_
  exact lf h
def UJ (s0 s1 : List UInt8) (s5 : Int) : St := ⟨sp 37 0 [sD 0 D.s s0,sD 1 D.s s1,sI 5 s5],[],[]⟩
def UK (s0 s1 : List UInt8) (o : Unit ⊕ Bool) : Ex × St := match o with
  | .inl o => (.exit 0,⟨sp 37 0 [sD 0 D.s s0,sD 1 D.s s1],[],[]⟩)
  | .inr o => (.ret,⟨sp 37 0 [sD 4 D.b o],[],[]⟩)
theorem aD3 (rd : Option Nat) (h : aD2 aC aO a8 = some aP) : Lq 107 rd 26 (UJ aC aO a8) ((UK aC aO) aP) :=
  lL (fun s : Int => UJ aC aO s) (UK aC aO) a8 (fun a8 o h => by
  unfold FR at h
  refine gG 8 (.int (aC.length : Int)) (BM aC) ?_
  refine iB 10 h (fun h => ?_) fun h => ?_
  refine gG 13 (.int (aO.length : Int)) (BM aO) ?_
  refine iB 15 h (fun h => ?_) fun h => ?_
  obtain ⟨x1,h3,h⟩ := xS h
  refine gG 20 (.int x1.toNat) (FU h3) ?_
  obtain ⟨x2,h4,h⟩ := xS h
  refine gG 23 (.int x2.toNat) (FU h4) ?_
  refine iB 24 h (fun h => ?_) fun h => ?_
  obtain ⟨x3,h6,h⟩ := xS h
  refine gG 27 (.int x3.toNat) (FU h6) ?_
  obtain ⟨x4,h7,h⟩ := xS h
  refine gG 30 (.int x4.toNat) (FU h7) ?_
  exact lb h
  exact lb h
  exact lb h
  exact lb h) h
theorem aRb (h : Yn aC aO = some aD) : AL Tryz.prog 107 [.d (D.s aC),.d (D.s aO)] [] (.d (D.b aD)) [] := by
  unfold Yn at h
  apply g0 (o := aD)
  obtain ⟨o5,h8,h⟩ := bS h
  refine gl (aD3 none h8) ?_
  replace h := AK h
  rcases h with ⟨o6,rfl,h⟩ | ⟨o7,rfl,h⟩
  refine gG 33 (.int (aC.length : Int)) (BM aC) <| gG 35 (.int (aO.length : Int)) (BM aO) ?_
  exact lf h
  exact lf h
theorem aJl (h : Zj aI aQ = some aD) : AL Tryz.prog 74 [.d (X0.D aI),.d (X0.D aQ)] [] (.d (D.b aD)) [] := by
  unfold Zj at h
  apply g0 (o := aD)
  refine iB 9 h (fun h => ?_) fun h => ?_
  exact lf h
  refine iB 17 h (fun h => ?_) fun h => ?_
  exact lf h
  refine iB 25 h (fun h => ?_) fun h => ?_
  obtain ⟨r1,h4,h⟩ := bS h
  refine gC 30 (aRb h4) ?_
  exact lf h
  refine iB 34 h (fun h => ?_) fun h => ?_
  exact lf h
  exact lf h
theorem aN9 (h : Q3 a8 aI aQ = some aK) : AL Tryz.prog 130 [dI a8,.d (X0.D aI),.d (X0.D aQ)] [] (.tup [.d (X0.D aK.1),dI aK.2]) [] := by
  unfold Q3 at h
  apply g0 (o := aK)
  refine iB 10 h (fun h => ?_) fun h => ?_
  exact lf h
  refine iB 13 h (fun h => ?_) fun h => ?_
  exact lf h
  refine iB 16 h (fun h => ?_) fun h => ?_
  refine iB 19 h (fun h => ?_) fun h => ?_
  exact lf h
  obtain ⟨r1,h5,h⟩ := bS h
  refine gC 24 (JY h5) ?_
  exact lf h
  refine iB 28 h (fun h => ?_) fun h => ?_
  refine iB 31 h (fun h => ?_) fun h => ?_
  exact lf h
  obtain ⟨r2,h8,h⟩ := bS h
  refine gC 35 (aMk h8) ?_
  exact lf h
  refine iB 42 h (fun h => ?_) fun h => ?_
  exact lf h
  refine iB 45 h (fun h => ?_) fun h => ?_
  obtain ⟨r3,h11,h⟩ := bS h
  refine gC 49 (JY h11) ?_
  exact lf h
  refine iB 53 h (fun h => ?_) fun h => ?_
  obtain ⟨r4,h13,h⟩ := bS h
  refine gC 57 (JY h13) ?_
  exact lf h
  refine iB 62 h (fun h => ?_) fun h => ?_
  refine iB 64 h (fun h => ?_) fun h => ?_
  refine iB 67 h (fun h => ?_) fun h => ?_
  obtain ⟨r5,h17,h⟩ := bS h
  refine gC 71 (JY h17) ?_
  exact lf h
  obtain ⟨r6,h18,h⟩ := bS h
  refine gC 71 (JY h18) ?_
  exact lf h
  refine iB 75 h (fun h => ?_) fun h => ?_
  refine iB 78 h (fun h => ?_) fun h => ?_
  obtain ⟨r7,h21,h⟩ := bS h
  refine gC 82 (JY h21) ?_
  exact lf h
  obtain ⟨r8,h22,h⟩ := bS h
  refine gC 82 (JY h22) ?_
  exact lf h
  exact lf h
  refine iB 87 h (fun h => ?_) fun h => ?_
  obtain ⟨r9,h24,h⟩ := bS h
  refine gC 90 (aJl h24) ?_
  obtain ⟨r10,h25,h⟩ := bS h
  refine gC 91 (JY h25) ?_
  exact lf h
  refine iB 95 h (fun h => ?_) fun h => ?_
  obtain ⟨r11,h27,h⟩ := bS h
  refine gC 98 (aJl h27) ?_
  obtain ⟨r12,h28,h⟩ := bS h
  refine gC 100 (JY h28) ?_
  exact lf h
  refine iB 106 h (fun h => ?_) fun h => ?_
  refine iB 110 h (fun h => ?_) fun h => ?_
  refine iB 113 h (fun h => ?_) fun h => ?_
  obtain ⟨r13,h32,h⟩ := bS h
  refine gC 119 (aMk h32) ?_
  exact lf h
  refine iB 125 h (fun h => ?_) fun h => ?_
  refine iB 128 h (fun h => ?_) fun h => ?_
  refine gG 131 (.int (aI.str.length : Int)) (BM aI.str) <| gG 134 (.int (aQ.str.length : Int)) (BM aQ.str) ?_
  refine iB 136 h (fun h => ?_) fun h => ?_
  exact lf h
  refine gW 142 (.str (aI.str ++ aQ.str)) ?_
  obtain ⟨h36,h⟩ := cS h
  refine gQ (H9 h36) ?_
  exact lf h
  exact lf h
  exact lf h
  refine iB 125 h (fun h => ?_) fun h => ?_
  refine iB 128 h (fun h => ?_) fun h => ?_
  refine gG 131 (.int (aI.str.length : Int)) (BM aI.str) <| gG 134 (.int (aQ.str.length : Int)) (BM aQ.str) ?_
  refine iB 136 h (fun h => ?_) fun h => ?_
  exact lf h
  refine gW 142 (.str (aI.str ++ aQ.str)) ?_
  obtain ⟨h40,h⟩ := cS h
  refine gQ (H9 h40) ?_
  exact lf h
  exact lf h
  exact lf h
  refine iB 125 h (fun h => ?_) fun h => ?_
  refine iB 128 h (fun h => ?_) fun h => ?_
  refine gG 131 (.int (aI.str.length : Int)) (BM aI.str) <| gG 134 (.int (aQ.str.length : Int)) (BM aQ.str) ?_
  refine iB 136 h (fun h => ?_) fun h => ?_
  exact lf h
  refine gW 142 (.str (aI.str ++ aQ.str)) ?_
  obtain ⟨h44,h⟩ := cS h
  refine gQ (H9 h44) ?_
  exact lf h
  exact lf h
  exact lf h
theorem aMm (h : Zt a8 aA aN = some aR) : AL Tryz.prog 129 [dI a8,dI aA,dI aN] [] (dI aR) [] := by
  unfold Zt at h
  apply g0 (o := aR)
  refine iB 11 h (fun h => ?_) fun h => ?_
  exact lf h
  refine iB 15 h (fun h => ?_) fun h => ?_
  exact lf h
  obtain ⟨r1,h3,h⟩ := bS h
  refine gC 22 (aN9 h3) ?_
  refine iB 26 h (fun h => ?_) fun h => ?_
  exact lf h
  refine iB 28 h (fun h => ?_) fun h => ?_
  exact lf h
  exact lf h
theorem aJa (self : AE → Int → Option (Int × Int × Int)) (hs : ∀ (a0 : AE) (a1 : Int) (r : Int × Int × Int),self a0 a1 = some r → AL Tryz.prog 103 [.d (AE.D a0),dI a1] [] (.tup [dI r.1,dI r.2.1,dI r.2.2]) []) (a0 : AE) (a1 : Int) (r : Int × Int × Int) (h : aI9 self a0 a1 = some r) : AL Tryz.prog 103 [.d (AE.D a0),dI a1] [] (.tup [dI r.1,dI r.2.1,dI r.2.2]) [] := by
  unfold aI9 at h
  apply g0 (o := r)
  refine iB 17 h (fun h => ?_) fun h => ?_
  exact lf h
  refine gN 21 Ym.D a0.nodes ?_
  refine iB 23 h (fun h => ?_) fun h => ?_
  exact lf h
  refine xX 27 Ym.D h fun x1 h => ?_
  refine iB 32 h (fun h => ?_) fun h => ?_
  refine iB 36 h (fun h => ?_) fun h => ?_
  exact lf h
  refine iB 41 h (fun h => ?_) fun h => ?_
  exact lf h
  obtain ⟨r2,h7,h⟩ := bS h
  refine gC 44 (Up h7) ?_
  refine iB 46 h (fun h => ?_) fun h => ?_
  exact lf h
  exact lf h
  refine iB 54 h (fun h => ?_) fun h => ?_
  exact lf h
  refine iB 57 h (fun h => ?_) fun h => ?_
  refine iB 61 h (fun h => ?_) fun h => ?_
  exact lf h
  refine gN 66 Y4.D a0.quants ?_
  refine iB 69 h (fun h => ?_) fun h => ?_
  exact lf h
  refine iB 73 h (fun h => ?_) fun h => ?_
  exact lf h
  refine xX 78 Y4.D h fun x3 h => ?_
  exact lf h
  refine iB 84 h (fun h => ?_) fun h => ?_
  refine iB 88 h (fun h => ?_) fun h => ?_
  exact lf h
  refine gN 93 Ya.D a0.frees ?_
  refine iB 96 h (fun h => ?_) fun h => ?_
  exact lf h
  refine iB 100 h (fun h => ?_) fun h => ?_
  exact lf h
  refine xX 105 Ya.D h fun x4 h => ?_
  exact lf h
  refine iB 113 h (fun h => ?_) fun h => ?_
  exact lf h
  refine iB 117 h (fun h => ?_) fun h => ?_
  exact lf h
  obtain ⟨r5,h22,h⟩ := bS h
  refine gG 122 (.ret (.tup [dI r5.1,dI r5.2.1,dI r5.2.2])) (hs a0 (AA .sub .i64 a1 1) r5 h22) ?_
  refine iB 128 h (fun h => ?_) fun h => ?_
  refine iB 131 h (fun h => ?_) fun h => ?_
  exact lf h
  refine iB 138 h (fun h => ?_) fun h => ?_
  exact lf h
  refine iB 142 h (fun h => ?_) fun h => ?_
  exact lf h
  obtain ⟨r6,h27,h⟩ := bS h
  refine gC 147 (aMm h27) ?_
  exact lf h
  refine iB 153 h (fun h => ?_) fun h => ?_
  exact lf h
  refine iB 160 h (fun h => ?_) fun h => ?_
  exact lf h
  refine iB 166 h (fun h => ?_) fun h => ?_
  exact lf h
  obtain ⟨r7,h31,h⟩ := bS h
  refine gG 171 (.ret (.tup [dI r7.1,dI r7.2.1,dI r7.2.2])) (hs a0 (AA .sub .i64 r5.2.2 1) r7 h31) <| gW 182 (.int (W5 r5.2.1 r7.2.1)) ?_
  obtain ⟨r8,h32,h⟩ := bS h
  refine gC 179 (aMm h32) <| gQ (rfl : W5 r5.2.1 r7.2.1 = W5 r5.2.1 r7.2.1) ?_
  exact lf h
theorem Uh : ∀ (n : Nat) (a0 : AE) (a1 : Int) (r : Int × Int × Int),aGz n a0 a1 = some r → AL Tryz.prog 103 [.d (AE.D a0),dI a1] [] (.tup [dI r.1,dI r.2.1,dI r.2.2]) []
  | 0,a0,a1,r,h => by simp [aGz] at h
  | n + 1,a0,a1,r,h => aJa _ (Uh n) a0 a1 r h
theorem aRl (h : Yx a7 a8 = some aM) : AL Tryz.prog 103 [.d (AE.D a7),dI a8] [] (.tup [dI aM.1,dI aM.2.1,dI aM.2.2]) [] := Uh 100000 a7 a8 aM h
theorem aLd (h : Q0 a7 a8 aA = some aH) : AL Tryz.prog 64 [.d (AE.D a7),dI a8,dI aA] [] (.tup [dI aH.1,dI aH.2]) [] := by
  unfold Q0 at h
  apply g0 (o := aH)
  obtain ⟨r1,h1,h⟩ := bS h
  refine gC 14 (aRl h1) ?_
  refine iB 20 h (fun h => ?_) fun h => ?_
  exact lf h
  refine iB 24 h (fun h => ?_) fun h => ?_
  exact lf h
  exact lf h
def Ua (s1 : Int) (w2 : X5) (s5 : Int) : St := ⟨sp 30 0 [sI 1 s1,bx 2,sI 5 s5],[cL 2 X5.D w2],[]⟩
def Ub (s1 : Int) (w2 : X5) (o : Unit ⊕ Unit) : Ex × St := match o with
  | .inl o => (.exit 0,⟨sp 30 0 [],[],[]⟩)
  | .inr o => (.ret,⟨sp 30 0 [sD 4 D.b true],[],[]⟩)
theorem aEc (rd : Option Nat) (h : aI7 a8 aS aA = some a9) : Lq 68 rd 26 (Ua a8 aS aA) ((Ub a8 aS) a9) :=
  lL (fun s : Int => Ua a8 aS s) (Ub a8 aS) aA (fun aA o h => by
  unfold HJ at h
  refine gN 9 Av.D aS.args ?_
  refine iB 10 h (fun h => ?_) fun h => ?_
  refine xX 16 Av.D h fun x1 h => ?_
  refine iB 20 h (fun h => ?_) fun h => ?_
  refine xX 24 Av.D h fun x2 h => ?_
  refine iB 29 h (fun h => ?_) fun h => ?_
  exact lb h
  exact lb h
  exact lb h
  exact lb h) h
theorem aL9 (h : Yu aS a8 = some aD) : AL Tryz.prog 68 [.d (X5.D aS),dI a8] [] (.d (D.b aD)) [] := by
  unfold Yu at h
  apply g0 (o := aD)
  obtain ⟨o3,h6,h⟩ := bS h
  refine gl (aEc none h6) ?_
  replace h := AK h
  rcases h with ⟨o4,rfl,h⟩ | ⟨o5,rfl,h⟩
  exact lf h
  exact lf h
def VA (s3 : Int) (w4 : AE) (w5 : X5) (s9 : Int) : St := ⟨sp 34 0 [sI 3 s3,bx 4,bx 5,sI 9 s9],[cL 4 AE.D w4,cL 5 X5.D w5],[]⟩
def VB (s3 : Int) (w4 : AE) (w5 : X5) (o : Unit ⊕ Unit) : Ex × St := match o with
  | .inl o => (.exit 0,⟨sp 34 0 [],[],[]⟩)
  | .inr o => (.ret,⟨sp 34 0 [sD 8 D.b false],[],[]⟩)
theorem aEt (rd : Option Nat) (h : aJh a8 a7 aS aA = some a9) : Lq 65 rd 26 (VA a8 a7 aS aA) ((VB a8 a7 aS) a9) :=
  lL (fun s : Int => VA a8 a7 aS s) (VB a8 a7 aS) aA (fun aA o h => by
  unfold HR at h
  refine iB 13 h (fun h => ?_) fun h => ?_
  refine xX 19 Ym.D h fun x1 h => ?_
  refine iB 23 h (fun h => ?_) fun h => ?_
  refine xX 28 Ym.D h fun x2 h => ?_
  obtain ⟨r3,h5,h⟩ := bS h
  refine gC 31 (aL9 h5) ?_
  refine iB 33 h (fun h => ?_) fun h => ?_
  exact lb h
  exact lb h
  exact lb h
  exact lb h) h
theorem aR0 (h : Z9 a7 aS a8 aA = some aD) : AL Tryz.prog 65 [.d (AE.D a7),.d (X5.D aS),dI a8,dI aA] [] (.d (D.b aD)) [] := by
  unfold Z9 at h
  apply g0 (o := aD)
  obtain ⟨o4,h7,h⟩ := bS h
  refine gl (aEt none h7) ?_
  replace h := AK h
  rcases h with ⟨o5,rfl,h⟩ | ⟨o6,rfl,h⟩
  exact lf h
  exact lf h
theorem aBy (rd : Option Nat) (h : TH a8 aA aD a7 aT = some aU) : Lq 41 rd 61 ⟨sp 153 0 [sI 2 a8,bx 3,bx 4,sI 8 aA,sD 56 D.b aD],[cL 3 AE.D a7,cL 4 Xm.D aT],[]⟩ (match (generalizing := false) aU with
  | .inl aU => (.normal,⟨sp 153 0 [sI 2 a8,bx 3,bx 4,sI 8 aU],[cL 3 AE.D a7,cL 4 Xm.D aT],[]⟩)
  | .inr aU => (.ret,⟨sp 153 0 [sI 6 0,sD 7 D.b false],[],[]⟩)) := by
  unfold TH at h
  apply g0 (o := aU)
  cases aD
  replace h := B1 h
  exact lp h
  replace h := B2 h
  obtain ⟨r1,h8,h⟩ := bS h
  refine gC 62 (aLd h8) ?_
  refine iB 67 h (fun h => ?_) fun h => ?_
  exact lp h
  refine iB 70 h (fun h => ?_) fun h => ?_
  exact lp h
  exact lp h
def TK (s2 s11 : Int) (w3 : AE) (w4 : Xm) (w12 : EG) (s15 : Int) : St := ⟨sp 153 0 [sI 2 s2,bx 3,bx 4,sI 11 s11,bx 12,sI 15 s15],[cL 3 AE.D w3,cL 4 Xm.D w4,cL 12 EG.D w12],[]⟩
def TL (s2 s11 : Int) (w3 : AE) (w4 : Xm) (w12 : EG) (o : Unit ⊕ Unit) : Ex × St := match o with
  | .inl o => (.exit 2,⟨sp 153 0 [sI 2 s2,bx 3,bx 4,sI 11 s11,bx 12],[cL 3 AE.D w3,cL 4 Xm.D w4,cL 12 EG.D w12],[]⟩)
  | .inr o => (.ret,⟨sp 153 0 [sI 6 0,sD 7 D.b false],[],[]⟩)
theorem aB0 (rd : Option Nat) (h : aIn a8 aA a7 aT aV aN = some a9) : Lq 41 rd 256314 (TK a8 aA a7 aT aV aN) ((TL a8 aA a7 aT aV) a9) :=
  lL (fun s : Int => TK a8 aA a7 aT aV s) (TL a8 aA a7 aT aV) aN (fun aN o h => by
  unfold Gx at h
  refine iB 127 h (fun h => ?_) fun h => ?_
  refine xX 133 EG.D h fun x8 h => ?_
  refine iB 138 h (fun h => ?_) fun h => ?_
  exact lb h
  exact lb h
  exact lb h) h
def TI (s2 : Int) (w3 : AE) (w4 : Xm) (s8 s11 : Int) : St := ⟨sp 153 0 [sI 2 s2,bx 3,bx 4,sI 8 s8,sI 11 s11],[cL 3 AE.D w3,cL 4 Xm.D w4],[]⟩
def TJ (s2 : Int) (w3 : AE) (w4 : Xm) (o : Int ⊕ Unit) : Ex × St := match o with
  | .inl o => (.exit 0,⟨sp 153 0 [sI 2 s2,bx 3,bx 4,sI 8 o],[cL 3 AE.D w3,cL 4 Xm.D w4],[]⟩)
  | .inr o => (.ret,⟨sp 153 0 [sI 6 0,sD 7 D.b false],[],[]⟩)
theorem aBz (rd : Option Nat) (h : aIm a8 a7 aT aA aN = some aU) : Lq 41 rd 250 (TI a8 a7 aT aA aN) ((TJ a8 a7 aT) aU) :=
  lL (fun s : Int × Int => TI a8 a7 aT s.1 s.2) (TJ a8 a7 aT) (aA,aN) (fun ⟨aA,aN⟩ o h => by
  unfold Gw at h
  refine gN 77 EG.D aT.sets ?_
  refine iB 78 h (fun h => ?_) fun h => ?_
  refine xX 84 EG.D h fun x5 h => ?_
  obtain ⟨r6,h14,h⟩ := bS h
  refine gC 91 (aLd h14) ?_
  refine iB 97 h (fun h => ?_) fun h => ?_
  exact lb h
  refine gN 102 Ya.D a7.frees ?_
  refine iB 105 h (fun h => ?_) fun h => ?_
  exact lb h
  refine iB 109 h (fun h => ?_) fun h => ?_
  exact lb h
  refine iB 113 h (fun h => ?_) fun h => ?_
  exact lb h
  refine xX 119 Ya.D h fun x7 h => ?_
  refine iB 124 h (fun h => ?_) fun h => ?_
  exact lb h
  obtain ⟨o9,h24,h⟩ := bS h
  refine gl (aB0 rd h24) ?_
  replace h := AK h
  rcases h with ⟨o10,rfl,h⟩ | ⟨o11,rfl,h⟩
  exact lb h
  exact lb h
  exact lb h) h
theorem aQn (h : Xw a7 aT a8 = some aL) : AL Tryz.prog 41 [.d (AE.D a7),.d (Xm.D aT),dI a8] [] (.tup [dI aL.1,.d (D.b aL.2)]) [] := by
  unfold Xw at h
  apply g0 (o := aL)
  refine iB 19 h (fun h => ?_) fun h => ?_
  exact lf h
  refine gN 24 Yh.D a7.states ?_
  refine iB 27 h (fun h => ?_) fun h => ?_
  exact lf h
  refine iB 32 h (fun h => ?_) fun h => ?_
  exact lf h
  refine gN 37 Yh.D a7.states ?_
  refine iB 40 h (fun h => ?_) fun h => ?_
  exact lf h
  refine iB 45 h (fun h => ?_) fun h => ?_
  exact lf h
  refine gN 50 X5.D a7.symbols ?_
  refine iB 52 h (fun h => ?_) fun h => ?_
  exact lf h
  obtain ⟨o2,h11,h⟩ := bS h
  refine gl (aBy none h11) ?_
  replace h := AK h
  rcases h with ⟨o3,rfl,h⟩ | ⟨o4,rfl,h⟩
  obtain ⟨o12,h25,h⟩ := bS h
  refine gl (aBz none h25) ?_
  replace h := AK h
  rcases h with ⟨o13,rfl,h⟩ | ⟨o14,rfl,h⟩
  refine xX 148 X5.D h fun x15 h => ?_
  obtain ⟨r16,h27,h⟩ := bS h
  refine gC 152 (aR0 h27) ?_
  exact lf h
  exact lf h
  exact lf h
theorem aOb (h : Q4 a7 aW a8 = some aD) : AL Tryz.prog 104 [.d (AE.D a7),.d (Av.D aW),dI a8] [] (.d (D.b aD)) [] := by
  unfold Q4 at h
  apply g0 (o := aD)
  refine iB 11 h (fun h => ?_) fun h => ?_
  refine iB 15 h (fun h => ?_) fun h => ?_
  obtain ⟨r1,h3,h⟩ := bS h
  refine gQ (Up h3) ?_
  cases r1
  replace h := B1 h
  refine gW 18 (.ret (.d (D.b false))) ?_
  exact lf h
  replace h := B2 h
  refine gW 18 (.ret (.d (D.b true))) ?_
  exact lf h
  exact lf h
  refine iB 30 h (fun h => ?_) fun h => ?_
  exact lf h
  refine iB 33 h (fun h => ?_) fun h => ?_
  refine iB 37 h (fun h => ?_) fun h => ?_
  refine gN 42 Y4.D a7.quants ?_
  refine iB 45 h (fun h => ?_) fun h => ?_
  refine xX 50 Y4.D h fun x2 h => ?_
  exact lf h
  exact lf h
  exact lf h
  refine iB 58 h (fun h => ?_) fun h => ?_
  refine iB 62 h (fun h => ?_) fun h => ?_
  refine gN 67 Ya.D a7.frees ?_
  refine iB 70 h (fun h => ?_) fun h => ?_
  refine xX 75 Ya.D h fun x3 h => ?_
  exact lf h
  exact lf h
  exact lf h
  refine iB 85 h (fun h => ?_) fun h => ?_
  exact lf h
  exact lf h
def Us (w2 : AE) (w3 : X5) (s5 : Int) : St := ⟨sp 56 0 [bx 2,bx 3,sI 5 s5],[cL 2 AE.D w2,cL 3 X5.D w3],[]⟩
def Ut (w2 : AE) (w3 : X5) (o : Unit ⊕ Unit) : Ex × St := match o with
  | .inl o => (.exit 0,⟨sp 56 0 [],[],[]⟩)
  | .inr o => (.ret,⟨sp 56 0 [sD 4 D.b false],[],[]⟩)
theorem aEo (rd : Option Nat) (h : aMf a7 aS a8 = some a9) : Lq 66 rd 58 (Us a7 aS a8) ((Ut a7 aS) a9) :=
  lL (fun s : Int => Us a7 aS s) (Ut a7 aS) a8 (fun a8 o h => by
  unfold HP at h
  refine gN 34 Av.D aS.args ?_
  refine iB 35 h (fun h => ?_) fun h => ?_
  refine xX 42 Av.D h fun x2 h => ?_
  refine xX 48 X6.D h fun x3 h => ?_
  refine xX 52 dZ h fun x4 h => ?_
  obtain ⟨r5,h9,h⟩ := bS h
  refine gC 54 (aOb h9) ?_
  refine iB 55 h (fun h => ?_) fun h => ?_
  exact lb h
  exact lb h
  exact lb h) h
theorem aRs (h : Z4 a7 aS = some aD) : AL Tryz.prog 66 [.d (AE.D a7),.d (X5.D aS)] [] (.d (D.b aD)) [] := by
  unfold Z4 at h
  apply g0 (o := aD)
  refine iB 9 h (fun h => ?_) fun h => ?_
  exact lf h
  refine gN 14 X6.D a7.decls ?_
  refine iB 17 h (fun h => ?_) fun h => ?_
  exact lf h
  refine gN 20 Av.D aS.args <| xX 25 X6.D h fun x1 h => ?_
  refine gN 28 dZ x1.types ?_
  refine iB 30 h (fun h => ?_) fun h => ?_
  exact lf h
  obtain ⟨o6,h11,h⟩ := bS h
  refine gl (aEo none h11) ?_
  replace h := AK h
  rcases h with ⟨o7,rfl,h⟩ | ⟨o8,rfl,h⟩
  exact lf h
  exact lf h
def VE (w2 w3 : X5) (s5 : Int) : St := ⟨sp 38 0 [bx 2,bx 3,sI 5 s5],[cL 2 X5.D w2,cL 3 X5.D w3],[]⟩
def VF (w2 w3 : X5) (o : Unit ⊕ Unit) : Ex × St := match o with
  | .inl o => (.exit 0,⟨sp 38 0 [],[],[]⟩)
  | .inr o => (.ret,⟨sp 38 0 [sD 4 D.b false],[],[]⟩)
theorem aEv (rd : Option Nat) (h : aMg aS aX a8 = some a9) : Lq 67 rd 58 (VE aS aX a8) ((VF aS aX) a9) :=
  lL (fun s : Int => VE aS aX s) (VF aS aX) a8 (fun a8 o h => by
  unfold HT at h
  refine gN 23 Av.D aS.args ?_
  refine iB 24 h (fun h => ?_) fun h => ?_
  refine xX 30 Av.D h fun x1 h => ?_
  refine xX 35 Av.D h fun x2 h => ?_
  refine iB 37 h (fun h => ?_) fun h => ?_
  exact lb h
  exact lb h
  exact lb h) h
theorem aR2 (h : Zb aS aX = some aD) : AL Tryz.prog 67 [.d (X5.D aS),.d (X5.D aX)] [] (.d (D.b aD)) [] := by
  unfold Zb at h
  apply g0 (o := aD)
  refine iB 11 h (fun h => ?_) fun h => ?_
  exact lf h
  refine gN 14 Av.D aS.args <| gN 17 Av.D aX.args ?_
  refine iB 19 h (fun h => ?_) fun h => ?_
  exact lf h
  obtain ⟨o3,h7,h⟩ := bS h
  refine gl (aEv none h7) ?_
  replace h := AK h
  rcases h with ⟨o4,rfl,h⟩ | ⟨o5,rfl,h⟩
  exact lf h
  exact lf h
theorem YE (rd : Option Nat) (h : QF a8 aA aD a7 aY aZ = some b6) : Lq 42 rd 15653 ⟨sp 118 0 [bx 1,rx 3,rx 4,sI 5 a8,sI 6 aA,sD 34 D.b aD],[cL 1 AE.D a7,(3,.buf true 4 1 (aY.map D.b)),(4,.row 3 1 (aZ.map dZ))],[]⟩ (.normal,⟨sp 118 0 [bx 1,rx 3,rx 4,sI 5 a8,sI 6 aA],[cL 1 AE.D a7,(3,.buf true 4 1 (aY.map D.b)),(4,.row 3 1 (b6.map dZ))],[]⟩) := by
  unfold QF at h
  apply g0 (o := b6)
  cases aD
  replace h := B1 h
  exact lp h
  replace h := B2 h
  refine gQ (Ak dZ [aA]) <| gG 38 (.sl ((aZ ++ [aA]).map dZ)) (Ak dZ [aA]) ?_
  obtain ⟨h17,h⟩ := cS h
  refine gQ (Ap dZ h17) <| gQ (Ao dZ aZ [aA]) ?_
  exact lP h [.live [1,3,4,5,6],.keep [1,3,38],.ren 38 4,.sort]
theorem YD (rd : Option Nat) (h : YC a8 a7 aY aZ = some b7) : Lq 42 rd 978 ⟨sp 118 0 [bx 1,rx 3,rx 4,sI 5 a8],[cL 1 AE.D a7,(3,.buf true 4 1 (aY.map D.b)),(4,.row 3 1 (aZ.map dZ))],[]⟩ (.normal,⟨sp 118 0 [bx 1,rx 3,rx 4,sI 5 a8],[cL 1 AE.D a7,(3,.buf true 4 1 (b7.1.map D.b)),(4,.row 3 1 (b7.2.map dZ))],[]⟩) := by
  unfold YC at h
  apply g0 (o := b7)
  refine xX 27 Xm.D h fun x5 h => ?_
  refine gW 10041 (.sl ((aY.set x5.symbol.toNat true).map D.b)) ?_
  obtain ⟨h14,h⟩ := cS h
  refine gQ h14.1 <| gQ (AP D.b h14.2) ?_
  obtain ⟨x6,h15,h⟩ := xS h
  refine gG 33 (.el (D.b x6)) (AR D.b h15) ?_
  obtain ⟨o7,h18,h⟩ := bS h
  refine gl (YE rd h18) ?_
  obtain ⟨h19,h⟩ := cS h
  refine gQ h19.1 <| gQ (AP D.b h19.2) ?_
  obtain ⟨h20,h⟩ := cS h
  refine gQ (Bt D.b h20) <| gQ (Ar D.b aY x5.symbol true) ?_
  exact lp h
def QI (w1 : AE) (s5 : Int) (w3 : List Bool) (w4 : List Int) : St := ⟨sp 118 0 [bx 1,rx 3,rx 4,sI 5 s5],[cL 1 AE.D w1,(3,.buf true 4 1 (w3.map D.b)),(4,.row 3 1 (w4.map dZ))],[]⟩
def QJ (w1 : AE) (o : (List Int)) : Ex × St := (.exit 0,⟨sp 118 0 [bx 1,rx 4],[cL 1 AE.D w1,(4,.row 3 1 (o.map dZ))],[]⟩)
theorem YF (rd : Option Nat) (h : aLj a7 a8 aY aZ = some b6) : Lq 42 rd 122 (QI a7 a8 aY aZ) ((QJ a7) b6) :=
  lL (fun s : Int × List Bool × List Int => QI a7 s.1 s.2.1 s.2.2) (QJ a7) (a8,aY,aZ) (fun ⟨a8,aY,aZ⟩ o h => by
  unfold GL at h
  refine gN 20 Xm.D a7.trans ?_
  refine iB 21 h (fun h => ?_) fun h => ?_
  obtain ⟨o8,h21,h⟩ := bS h
  refine gl (YD rd h21) ?_
  exact lb h
  exact lb h) h
def QK (w1 : AE) (w4 : List Int) (s7 : Int) : St := ⟨sp 118 0 [bx 1,rx 4,sI 7 s7],[cL 1 AE.D w1,(4,.row 3 1 (w4.map dZ))],[]⟩
def QL (w1 : AE) (w4 : List Int) (o : Unit ⊕ Unit) : Ex × St := match o with
  | .inl o => (.exit 2,⟨sp 118 0 [bx 1],[cL 1 AE.D w1],[]⟩)
  | .inr o => (.ret,⟨sp 118 0 [sD 2 D.b false],[],[]⟩)
theorem YG (rd : Option Nat) (h : aLk a7 aZ a8 = some a9) : Lq 42 rd 250 (QK a7 aZ a8) ((QL a7 aZ) a9) :=
  lL (fun s : Int => QK a7 aZ s) (QL a7 aZ) a8 (fun a8 o h => by
  unfold GM at h
  refine gN 44 dZ aZ ?_
  refine iB 45 h (fun h => ?_) fun h => ?_
  refine gW 54 (.int (a7.symbols.length : Int)) <| gW 56 (.int (aZ.length : Int)) <| xX 50 dZ h fun x10 h => ?_
  refine gQ (DC X5.D a7.symbols) <| gQ (DC dZ aZ) ?_
  refine iB 60 h (fun h => ?_) fun h => ?_
  exact lb h
  exact lb h
  exact lb h) h
def QO (s8 : Int) (w1 : AE) (s9 : Int) : St := ⟨sp 118 0 [bx 1,sI 8 s8,sI 9 s9],[cL 1 AE.D w1],[]⟩
def QP (s8 : Int) (w1 : AE) (o : Unit ⊕ Unit) : Ex × St := match o with
  | .inl o => (.exit 6,⟨sp 118 0 [bx 1,sI 8 s8],[cL 1 AE.D w1],[]⟩)
  | .inr o => (.ret,⟨sp 118 0 [sD 2 D.b false],[],[]⟩)
theorem YI (rd : Option Nat) (h : aH7 a8 a7 aA = some a9) : Lq 42 rd 64806 (QO a8 a7 aA) ((QP a8 a7) a9) :=
  lL (fun s : Int => QO a8 a7 s) (QP a8 a7) aA (fun aA o h => by
  unfold GO at h
  refine iB 78 h (fun h => ?_) fun h => ?_
  refine xX 84 X5.D h fun x16 h => ?_
  refine xX 89 X5.D h fun x17 h => ?_
  obtain ⟨r18,h34,h⟩ := bS h
  refine gQ (aR2 h34) ?_
  cases r18
  replace h := B1 h
  refine gW 91 (.ret (.d (D.b false))) ?_
  exact lb h
  replace h := B2 h
  refine gW 91 (.ret (.d (D.b true))) ?_
  exact lb h
  exact lb h) h
def QM (w1 : AE) (s8 : Int) : St := ⟨sp 118 0 [bx 1,sI 8 s8],[cL 1 AE.D w1],[]⟩
def QN (w1 : AE) (o : Unit ⊕ Unit) : Ex × St := match o with
  | .inl o => (.exit 4,⟨sp 118 0 [bx 1],[cL 1 AE.D w1],[]⟩)
  | .inr o => (.ret,⟨sp 118 0 [sD 2 D.b false],[],[]⟩)
theorem YH (rd : Option Nat) (h : aLl a7 a8 = some a9) : Lq 42 rd 506 (QM a7 a8) ((QN a7) a9) :=
  lL (fun s : Int => QM a7 s) (QN a7) a8 (fun a8 o h => by
  unfold GN at h
  refine gN 64 X5.D a7.symbols ?_
  refine iB 65 h (fun h => ?_) fun h => ?_
  refine xX 72 X5.D h fun x14 h => ?_
  obtain ⟨r15,h29,h⟩ := bS h
  refine gC 74 (aRs h29) ?_
  refine iB 75 h (fun h => ?_) fun h => ?_
  exact lb h
  obtain ⟨o19,h36,h⟩ := bS h
  refine gl (YI rd h36) ?_
  replace h := AK h
  rcases h with ⟨o20,rfl,h⟩ | ⟨o21,rfl,h⟩
  exact lb h
  exact lb h
  exact lb h) h
def NB (s10 : Int) (w1 : AE) (s11 : Bool) (s12 : Int) : St := ⟨sp 118 0 [bx 1,sI 10 s10,sD 11 D.b s11,sI 12 s12],[cL 1 AE.D w1],[]⟩
def NC (s10 : Int) (w1 : AE) (o : Bool) : Ex × St := (.exit 10,⟨sp 118 0 [bx 1,sI 10 s10,sD 11 D.b o],[cL 1 AE.D w1],[]⟩)
theorem QH (rd : Option Nat) (h : QG a8 a7 aD aA = some b8) : Lq 42 rd 260682 (NB a8 a7 aD aA) ((NC a8 a7) b8) :=
  lL (fun s : Bool × Int => NB a8 a7 s.1 s.2) (NC a8 a7) (aD,aA) (fun ⟨aD,aA⟩ o h => by
  unfold Dp at h
  refine gN 102 X5.D a7.symbols ?_
  refine iB 103 h (fun h => ?_) fun h => ?_
  refine iB 107 h (fun h => ?_) fun h => ?_
  exact lb h
  refine xX 111 X5.D h fun x25 h => ?_
  obtain ⟨r26,h42,h⟩ := bS h
  refine gC 114 (aL9 h42) ?_
  exact lb h
  exact lb h) h
def QQ (w1 : AE) (s10 : Int) : St := ⟨sp 118 0 [bx 1,sI 10 s10],[cL 1 AE.D w1],[]⟩
def QR (w1 : AE) (o : Unit ⊕ Unit) : Ex × St := match o with
  | .inl o => (.exit 8,⟨sp 118 0 [],[],[]⟩)
  | .inr o => (.ret,⟨sp 118 0 [sD 2 D.b false],[],[]⟩)
theorem YJ (rd : Option Nat) (h : aLm a7 a8 = some a9) : Lq 42 rd 1018 (QQ a7 a8) ((QR a7) a9) :=
  lL (fun s : Int => QQ a7 s) (QR a7) a8 (fun a8 o h => by
  unfold GP at h
  refine gN 95 Y4.D a7.quants ?_
  refine iB 96 h (fun h => ?_) fun h => ?_
  obtain ⟨o27,h43,h⟩ := bS h
  refine gl (QH rd h43) ?_
  refine iB 117 h (fun h => ?_) fun h => ?_
  exact lb h
  exact lb h
  exact lb h) h
theorem aPo (h : X8 a7 = some aD) : AL Tryz.prog 42 [.d (AE.D a7)] [] (.d (D.b aD)) [] := by
  unfold X8 at h
  apply g0 (o := aD)
  refine gN 15 X5.D a7.symbols <| gW 16 (.sl ((List.replicate (a7.symbols.length : Int).toNat false).map D.b)) ?_
  obtain ⟨h1,h⟩ := cS h
  refine gQ h1.1 <| gQ (Int.le_refl (a7.symbols.length : Int)) <| gQ (Int.le_refl (a7.symbols.length : Int)) <| gQ (aM9 D.b false h1.2) <| gQ (aM8 D.b (a7.symbols.length : Int) false) ?_
  obtain ⟨o9,h22,h⟩ := bS h
  refine gL [.live [1,3,4,5],.keep [1,16],.ren 16 3,.nil 4 4 3 1,.sort] (YF none h22) ?_
  obtain ⟨o11,h26,h⟩ := bS h
  refine gl (YG none h26) ?_
  replace h := AK h
  rcases h with ⟨o12,rfl,h⟩ | ⟨o13,rfl,h⟩
  obtain ⟨o22,h37,h⟩ := bS h
  refine gl (YH none h37) ?_
  replace h := AK h
  rcases h with ⟨o23,rfl,h⟩ | ⟨o24,rfl,h⟩
  obtain ⟨o28,h45,h⟩ := bS h
  refine gl (YJ none h45) ?_
  replace h := AK h
  rcases h with ⟨o29,rfl,h⟩ | ⟨o30,rfl,h⟩
  exact lf h
  exact lf h
  exact lf h
  exact lf h
def UT (w1 : AE) (s5 s6 : Int) : St := ⟨sp 101 0 [bx 1,sI 5 s5,sI 6 s6],[cL 1 AE.D w1],[]⟩
def UU (w1 : AE) (o : Int ⊕ Unit) : Ex × St := match o with
  | .inl o => (.exit 0,⟨sp 101 0 [bx 1,sI 5 o],[cL 1 AE.D w1],[]⟩)
  | .inr o => (.ret,⟨sp 101 0 [sD 2 D.b false],[],[]⟩)
theorem aD9 (rd : Option Nat) (h : aL8 a7 a8 aA = some aU) : Lq 20 rd 250 (UT a7 a8 aA) ((UU a7) aU) :=
  lL (fun s : Int × Int => UT a7 s.1 s.2) (UU a7) (a8,aA) (fun ⟨a8,aA⟩ o h => by
  unfold HG at h
  refine gN 74 Xm.D a7.trans ?_
  refine iB 75 h (fun h => ?_) fun h => ?_
  refine xX 83 Xm.D h fun x3 h => ?_
  obtain ⟨r4,h15,h⟩ := bS h
  refine gC 86 (aQn h15) ?_
  refine iB 90 h (fun h => ?_) fun h => ?_
  exact lb h
  exact lb h
  exact lb h) h
theorem aRf (h : Yr a7 = some aD) : AL Tryz.prog 20 [.d (AE.D a7)] [] (.d (D.b aD)) [] := by
  unfold Yr at h
  apply g0 (o := aD)
  obtain ⟨r1,h1,h⟩ := bS h
  refine gC 12 (aQm h1) ?_
  refine iB 17 h (fun h => ?_) fun h => ?_
  exact lf h
  refine gN 20 Y4.D a7.quants ?_
  refine iB 23 h (fun h => ?_) fun h => ?_
  exact lf h
  refine gN 26 Ya.D a7.frees ?_
  refine iB 29 h (fun h => ?_) fun h => ?_
  exact lf h
  refine gN 32 Yh.D a7.states ?_
  refine iB 35 h (fun h => ?_) fun h => ?_
  exact lf h
  refine gN 38 X5.D a7.symbols ?_
  refine iB 41 h (fun h => ?_) fun h => ?_
  exact lf h
  refine gN 44 Ym.D a7.nodes ?_
  refine iB 47 h (fun h => ?_) fun h => ?_
  exact lf h
  refine gN 50 Xm.D a7.trans ?_
  refine iB 53 h (fun h => ?_) fun h => ?_
  exact lf h
  refine iB 58 h (fun h => ?_) fun h => ?_
  exact lf h
  refine gN 63 Yh.D a7.states ?_
  refine iB 66 h (fun h => ?_) fun h => ?_
  exact lf h
  obtain ⟨r2,h11,h⟩ := bS h
  refine gC 68 (aP4 h11) ?_
  refine iB 70 h (fun h => ?_) fun h => ?_
  exact lf h
  obtain ⟨o5,h17,h⟩ := bS h
  refine gl (aD9 none h17) ?_
  replace h := AK h
  rcases h with ⟨o6,rfl,h⟩ | ⟨o7,rfl,h⟩
  refine gN 95 Ym.D a7.nodes ?_
  refine iB 97 h (fun h => ?_) fun h => ?_
  obtain ⟨r8,h19,h⟩ := bS h
  refine gC 99 (aPo h19) ?_
  exact lf h
  exact lf h
  exact lf h
def Ui (w1 : AE) (s3 : Int) : St := ⟨sp 40 0 [bx 1,sI 3 s3],[cL 1 AE.D w1],[]⟩
def Uj (w1 : AE) (o : Unit ⊕ Unit) : Ex × St := match o with
  | .inl o => (.exit 0,⟨sp 40 0 [],[],[]⟩)
  | .inr o => (.ret,⟨sp 40 0 [sD 2 D.b false],[],[]⟩)
theorem aEg (rd : Option Nat) (h : aJb a7 a8 = some a9) : Lq 21 rd 58 (Ui a7 a8) ((Uj a7) a9) :=
  lL (fun s : Int => Ui a7 s) (Uj a7) a8 (fun a8 o h => by
  unfold HL at h
  refine gN 29 Xm.D a7.trans ?_
  refine iB 30 h (fun h => ?_) fun h => ?_
  refine xX 36 Xm.D h fun x1 h => ?_
  refine iB 39 h (fun h => ?_) fun h => ?_
  exact lb h
  exact lb h
  exact lb h) h
theorem aRn (h : Yy a7 = some aD) : AL Tryz.prog 21 [.d (AE.D a7)] [] (.d (D.b aD)) [] := by
  unfold Yy at h
  apply g0 (o := aD)
  refine gN 6 Ya.D a7.frees ?_
  refine iB 8 h (fun h => ?_) fun h => ?_
  exact lf h
  refine gN 11 Y4.D a7.quants ?_
  refine iB 14 h (fun h => ?_) fun h => ?_
  exact lf h
  refine gN 17 Yh.D a7.states ?_
  refine iB 20 h (fun h => ?_) fun h => ?_
  exact lf h
  refine gN 23 X5.D a7.symbols ?_
  refine iB 25 h (fun h => ?_) fun h => ?_
  exact lf h
  obtain ⟨o2,h8,h⟩ := bS h
  refine gl (aEg none h8) ?_
  replace h := AK h
  rcases h with ⟨o3,rfl,h⟩ | ⟨o4,rfl,h⟩
  exact lf h
  exact lf h
def VC (s0 : List X2) (s3 : Int) : St := ⟨sp 51 0 [sD 0 (D.l X2.D) s0,sI 3 s3],[],[]⟩
def VD (s0 : List X2) (o : Unit ⊕ Unit) : Ex × St := match o with
  | .inl o => (.exit 0,⟨sp 51 0 [],[],[]⟩)
  | .inr o => (.ret,⟨sp 51 0 [sD 2 D.b false],[],[]⟩)
theorem aEu (rd : Option Nat) (h : aJi b9 a8 = some a9) : Lq 43 rd 26 (VC b9 a8) ((VD b9) a9) :=
  lL (fun s : Int => VC b9 s) (VD b9) a8 (fun a8 o h => by
  unfold HS at h
  refine gN 6 X2.D b9 ?_
  refine iB 7 h (fun h => ?_) fun h => ?_
  refine xX 12 X2.D h fun x1 h => ?_
  refine iB 16 h (fun h => ?_) fun h => ?_
  exact lb h
  refine xX 19 X2.D h fun x2 h => ?_
  refine iB 24 h (fun h => ?_) fun h => ?_
  exact lb h
  refine xX 27 X2.D h fun x3 h => ?_
  obtain ⟨r4,h7,h⟩ := bS h
  refine gC 30 (Up h7) ?_
  refine iB 33 h (fun h => ?_) fun h => ?_
  exact lb h
  refine iB 36 h (fun h => ?_) fun h => ?_
  refine xX 39 X2.D h fun x5 h => ?_
  refine xX 45 X2.D h fun x6 h => ?_
  refine iB 50 h (fun h => ?_) fun h => ?_
  exact lb h
  exact lb h
  exact lb h
  exact lb h) h
theorem aR1 (h : Za b9 = some aD) : AL Tryz.prog 43 [.d ((D.l X2.D) b9)] [] (.d (D.b aD)) [] := by
  unfold Za at h
  apply g0 (o := aD)
  obtain ⟨o7,h13,h⟩ := bS h
  refine gl (aEu none h13) ?_
  replace h := AK h
  rcases h with ⟨o8,rfl,h⟩ | ⟨o9,rfl,h⟩
  exact lf h
  exact lf h
theorem aOd (h : Q5 a7 b9 = some aD) : AL Tryz.prog 22 [.d (AE.D a7),.d ((D.l X2.D) b9)] [] (.d (D.b aD)) [] := by
  unfold Q5 at h
  apply g0 (o := aD)
  refine gN 6 X2.D b9 ?_
  refine iB 7 h (fun h => ?_) fun h => ?_
  exact lf h
  refine gN 9 X2.D b9 ?_
  refine iB 11 h (fun h => ?_) fun h => ?_
  refine gN 14 Y4.D a7.quants ?_
  refine iB 17 h (fun h => ?_) fun h => ?_
  refine xX 19 X2.D h fun x1 h => ?_
  refine iB 24 h (fun h => ?_) fun h => ?_
  refine xX 26 X2.D h fun x2 h => ?_
  refine xX 32 Y4.D h fun x3 h => ?_
  refine iB 37 h (fun h => ?_) fun h => ?_
  obtain ⟨r4,h9,h⟩ := bS h
  refine gC 39 (aR1 h9) ?_
  exact lf h
  exact lf h
  exact lf h
  exact lf h
  exact lf h
def UV (s1 : List X2) (w2 : AE) (s5 : Int) : St := ⟨sp 60 0 [sD 1 (D.l X2.D) s1,bx 2,sI 5 s5],[cL 2 AE.D w2],[]⟩
def UW (s1 : List X2) (w2 : AE) (o : Unit ⊕ Unit) : Ex × St := match o with
  | .inl o => (.exit 0,⟨sp 60 0 [sD 1 (D.l X2.D) s1],[],[]⟩)
  | .inr o => (.ret,⟨sp 60 0 [sD 4 D.b false],[],[]⟩)
theorem aEa (rd : Option Nat) (h : aI6 b9 a7 a8 = some a9) : Lq 5 rd 58 (UV b9 a7 a8) ((UW b9 a7) a9) :=
  lL (fun s : Int => UV b9 a7 s) (UW b9 a7) a8 (fun a8 o h => by
  unfold HH at h
  refine gN 36 X6.D a7.decls ?_
  refine iB 37 h (fun h => ?_) fun h => ?_
  refine xX 43 X6.D h fun x5 h => ?_
  refine gN 46 dZ x5.types ?_
  refine iB 47 h (fun h => ?_) fun h => ?_
  exact lb h
  exact lb h
  exact lb h) h
theorem aRh (h : Ys a7 b9 = some aD) : AL Tryz.prog 5 [.d (AE.D a7),.d ((D.l X2.D) b9)] [] (.d (D.b aD)) [] := by
  unfold Ys at h
  apply g0 (o := aD)
  obtain ⟨r1,h1,h⟩ := bS h
  refine gC 7 (aPr h1) ?_
  refine iB 9 h (fun h => ?_) fun h => ?_
  exact lf h
  obtain ⟨r2,h3,h⟩ := bS h
  refine gC 11 (aRf h3) ?_
  refine iB 14 h (fun h => ?_) fun h => ?_
  exact lf h
  obtain ⟨r3,h5,h⟩ := bS h
  refine gC 16 (aRn h5) ?_
  refine iB 19 h (fun h => ?_) fun h => ?_
  exact lf h
  obtain ⟨r4,h7,h⟩ := bS h
  refine gC 22 (aOd h7) ?_
  refine iB 25 h (fun h => ?_) fun h => ?_
  exact lf h
  refine gN 27 X2.D b9 <| gN 30 Y4.D a7.quants ?_
  refine iB 32 h (fun h => ?_) fun h => ?_
  exact lf h
  obtain ⟨o6,h13,h⟩ := bS h
  refine gl (aEa none h13) ?_
  replace h := AK h
  rcases h with ⟨o7,rfl,h⟩ | ⟨o8,rfl,h⟩
  refine gN 49 X2.D b9 ?_
  refine iB 51 h (fun h => ?_) fun h => ?_
  exact lf h
  refine xX 53 X2.D h fun x9 h => ?_
  refine gG 57 (.int (x9.value.str.length : Int)) (BM x9.value.str) ?_
  exact lf h
  exact lf h
theorem aJn (h : Zu a8 = some aI) : AL Tryz.prog 25 [dI a8] [] (.d (X0.D aI)) [] := by
  unfold Zu at h
  apply g0 (o := aI)
  exact lf h
theorem aBp (rd : Option Nat) (h : aBo a8 aA aN bA aR bB aD = some bC) : Lq 34 rd 7475 ⟨sp 27 0 [sI 1 a8,sD 5 dU aA,sI 6 aN,sD 9 (D.l X5.D) bA,sI 10 aR,sI 11 bB,sD 19 D.b aD],[],[]⟩ (.normal,⟨sp 27 0 [sI 1 a8,sD 5 dU bC,sD 9 (D.l X5.D) bA,sI 10 aR,sI 11 bB],[],[]⟩) := by
  unfold aBo at h
  apply g0 (o := bC)
  cases aD
  replace h := B1 h
  exact lp h
  replace h := B2 h
  obtain ⟨h4,h⟩ := cS h
  refine gQ h4 ?_
  exact lp h
theorem aBn (rd : Option Nat) (h : aBm a8 aA bA aN aR = some bB) : Lq 34 rd 934 ⟨sp 27 0 [sI 1 a8,sD 5 dU aA,sD 9 (D.l X5.D) bA,sI 10 aN,sI 11 aR],[],[]⟩ (.normal,⟨sp 27 0 [sI 1 a8,sD 5 dU bB,sD 9 (D.l X5.D) bA,sI 10 aN,sI 11 aR],[],[]⟩) := by
  unfold aBm at h
  apply g0 (o := bB)
  refine xX 14 X5.D h fun x1 h => ?_
  obtain ⟨o2,h5,h⟩ := bS h
  refine gl (aBp rd h5) ?_
  exact lp h
def S5 (s1 : Int) (s9 : List X5) (s10 s5 s11 : Int) : St := ⟨sp 27 0 [sI 1 s1,sD 5 dU s5,sD 9 (D.l X5.D) s9,sI 10 s10,sI 11 s11],[],[]⟩
def S6 (s1 : Int) (s9 : List X5) (s10 o : Int) : Ex × St := (.exit 0,⟨sp 27 0 [sD 5 dU o],[],[]⟩)
theorem aBr (rd : Option Nat) (h : S4 a8 bA aA aN aR = some bB) : Lq 34 rd 58 (S5 a8 bA aA aN aR) ((S6 a8 bA aA) bB) :=
  lL (fun s : Int × Int => S5 a8 bA aA s.1 s.2) (S6 a8 bA aA) (aN,aR) (fun ⟨aN,aR⟩ o h => by
  unfold FN at h
  refine iB 12 h (fun h => ?_) fun h => ?_
  obtain ⟨o3,h6,h⟩ := bS h
  refine gl (aBn rd h6) ?_
  exact lb h
  exact lb h) h
theorem aQj (h : Xt a7 a8 = some aA) : AL Tryz.prog 34 [.d (AE.D a7),dI a8] [] (.d (dU aA)) [] := by
  unfold Xt at h
  apply g0 (o := aA)
  refine gN 10 X5.D a7.symbols ?_
  obtain ⟨o4,h7,h⟩ := bS h
  refine gl (aBr none h7) ?_
  exact lf h
theorem aOv (h : Qm = some bD) : AL Tryz.prog 109 [.clo (.func 110) [] []] [] (.box 0 0) [(0,.cells ([.nil,.clo (.func 110) [] []]))] := by
  unfold Qm at h
  refine XG.call (ks := []) mixed fun us => ?_
  apply g0 (o := bD)
  exact lX h [.live [2],.keep [5,997],.ren 5 0,.sort]
theorem aJm (h : Zo aD = some aI) : AL Tryz.prog 112 [.d (D.b aD)] [] (.d (X0.D aI)) [] := by
  unfold Zo at h
  apply g0 (o := aI)
  exact lf h
theorem aMo (h : Zv aI aQ = some aD) : AL Tryz.prog 110 [.d (X0.D aI),.d (X0.D aQ)] [] (.d (D.b aD)) [] := by
  unfold Zv at h
  apply g0 (o := aD)
  refine iB 5 h (fun h => ?_) fun h => ?_
  exact lf h
  refine iB 16 h (fun h => ?_) fun h => ?_
  exact lf h
  refine iB 25 h (fun h => ?_) fun h => ?_
  exact lf h
  refine iB 37 h (fun h => ?_) fun h => ?_
  exact lf h
  exact lf h
theorem aMp (h : Zw aI aQ bE = some a8) : AL Tryz.prog 132 [.d (X0.D aI),.d (X0.D aQ),.eptr [.ptr ((D.cells ((D.l X0.D) bE)) ++ [.v (.func (.func 110) #[] #[])])]] [] (dI a8) [] := by
  unfold Zw at h
  apply g0 (o := a8)
  obtain ⟨r1,h1,h⟩ := bS h
  refine gQ (aMo h1) ?_
  cases r1
  replace h := B1 h
  refine gW 13 (.ret (.d (D.b false))) ?_
  obtain ⟨r2,h3,h⟩ := bS h
  refine gQ (aMo h3) ?_
  cases r2
  replace h := B1 h
  refine gW 21 (.ret (.d (D.b false))) ?_
  exact lf h
  replace h := B2 h
  refine gW 21 (.ret (.d (D.b true))) ?_
  exact lf h
  replace h := B2 h
  refine gW 13 (.ret (.d (D.b true))) ?_
  exact lf h
theorem aBc (rd : Option Nat) (h : Sq bE bG a8 aA aN aR aD aI = some bH) : Lq 131 rd 1931 ⟨sp 49 0 [sD 0 (D.l X0.D) bE,(2,.clo (.func 132) [] [.eptr [.ptr ((D.cells ((D.l X0.D) bG)) ++ [.v (.func (.func 110) #[] #[])])]]),bx 4,sI 8 a8,sI 9 aA,sI 10 aN,sI 11 aR,sD 31 D.b aD],[cL 4 X0.D aI],[]⟩ (.normal,⟨sp 49 0 [sD 0 (D.l X0.D) bE,(2,.clo (.func 132) [] [.eptr [.ptr ((D.cells ((D.l X0.D) bG)) ++ [.v (.func (.func 110) #[] #[])])]]),bx 4,sI 8 a8,sI 9 bH.1,sI 10 bH.2],[cL 4 X0.D aI],[]⟩) := by
  unfold Sq at h
  apply g0 (o := bH)
  cases aD
  replace h := B1 h
  exact lp h
  replace h := B2 h
  exact lp h
theorem aBb (rd : Option Nat) (h : aBa bE bG a8 aA aN aI = some bH) : Lq 131 rd 241 ⟨sp 49 0 [sD 0 (D.l X0.D) bE,(2,.clo (.func 132) [] [.eptr [.ptr ((D.cells ((D.l X0.D) bG)) ++ [.v (.func (.func 110) #[] #[])])]]),bx 4,sI 8 a8,sI 9 aA,sI 10 aN],[cL 4 X0.D aI],[]⟩ (.normal,⟨sp 49 0 [sD 0 (D.l X0.D) bE,(2,.clo (.func 132) [] [.eptr [.ptr ((D.cells ((D.l X0.D) bG)) ++ [.v (.func (.func 110) #[] #[])])]]),bx 4,sI 8 a8,sI 9 bH.1,sI 10 bH.2],[cL 4 X0.D aI],[]⟩) := by
  unfold aBa at h
  apply g0 (o := bH)
  refine gQ (of_decide_eq_true rfl : (0 : Int) ≤ 1) <| xX 27 X0.D h fun x1 h => ?_
  obtain ⟨r2,h3,h⟩ := bS h
  refine gC 30 (aMp h3) ?_
  obtain ⟨o3,h5,h⟩ := bS h
  refine gl (aBc rd h5) ?_
  exact lp h
def Sr (s0 s2 : List X0) (s8 : Int) (w4 : X0) (s9 s10 : Int) : St := ⟨sp 49 0 [sD 0 (D.l X0.D) s0,(2,.clo (.func 132) [] [.eptr [.ptr ((D.cells ((D.l X0.D) s2)) ++ [.v (.func (.func 110) #[] #[])])]]),bx 4,sI 8 s8,sI 9 s9,sI 10 s10],[cL 4 X0.D w4],[]⟩
def Ss (s0 s2 : List X0) (s8 : Int) (w4 : X0) (o : Int) : Ex × St := (.exit 0,⟨sp 49 0 [sD 0 (D.l X0.D) s0,(2,.clo (.func 132) [] [.eptr [.ptr ((D.cells ((D.l X0.D) s2)) ++ [.v (.func (.func 110) #[] #[])])]]),bx 4,sI 8 s8,sI 9 o],[cL 4 X0.D w4],[]⟩)
theorem aBe (rd : Option Nat) (h : Ox bE bG a8 aI aA aN = some aR) : Lq 131 rd 60 (Sr bE bG a8 aI aA aN) ((Ss bE bG a8 aI) aR) :=
  lL (fun s : Int × Int => Sr bE bG a8 aI s.1 s.2) (Ss bE bG a8 aI) (aA,aN) (fun ⟨aA,aN⟩ o h => by
  unfold ES at h
  refine iB 17 h (fun h => ?_) fun h => ?_
  obtain ⟨o4,h6,h⟩ := bS h
  refine gl (aBb rd h6) ?_
  exact lb h
  exact lb h) h
theorem aLv (h : Xq bE aI bG = some aL) : AL Tryz.prog 131 [.d ((D.l X0.D) bE),.d (X0.D aI),.clo (.func 132) [] [.eptr [.ptr ((D.cells ((D.l X0.D) bG)) ++ [.v (.func (.func 110) #[] #[])])]]] [] (.tup [dI aL.1,.d (D.b aL.2)]) [] := by
  unfold Xq at h
  apply g0 (o := aL)
  refine gN 13 X0.D bE ?_
  obtain ⟨o5,h7,h⟩ := bS h
  refine gl (aBe none h7) ?_
  refine iB 39 h (fun h => ?_) fun h => ?_
  refine xX 43 X0.D h fun x6 h => ?_
  obtain ⟨r7,h10,h⟩ := bS h
  refine gC 46 (aMp h10) ?_
  exact lf h
  exact lf h
theorem aPc (h : U3 a8 bE = some bG) : AL Tryz.prog 133 [.nil,.d (D.i .i64 a8),.row 0] [(0,.row 54 4 (bE.map X0.D))] (.row 1) [rW 1 54 4 X0.D bG] :=
  V9 (ρ := ⟨fun n => if n = 22 then 133 else if n = 29 then 143 else 144,fun n => if n = 0 then 0 else if n = 3 then 3 else if n = 4 then 4 else if n = 24 then 34 else 54,id⟩) (by_ := 40) X0.D mixed rfl ⟨ "slices.Insert[[]proctor/api.Value,proctor/api.Value]", by decide,(Tryz.func133).trans (by kernel_rfl)⟩ Tryz.underlying3 Tryz.underlying4 Tryz.underlying34 (by kernel_rfl) (by decide) a8 bE bG h
theorem aEx (rd : Option Nat) (us : List Value) (h : VI a8 aD b8 aI = some bI) : Lq 111 rd 61 ⟨sp 34 0 [bx 2,bx 3,sI 5 a8,sD 6 D.b aD,sD 20 D.b b8],[(0,.cells ([.nil,.clo (.func 110) [] []])),(2,.cells ([.box 0 0])),cL 3 X0.D aI,(997,.vals [.box 0 0] us)],[]⟩ (.normal,⟨sp 34 0 [sD 6 D.b aD],[(0,.cells ([.row 529,.clo (.func 110) [] []])),rW 529 54 4 X0.D bI,(997,.vals [.box 0 0] us)],[]⟩) := by
  unfold VI at h
  apply g0 (o := bI)
  cases b8
  replace h := B1 h
  exact lP h [.live [6],.keep [0,997],.nilc 0 0 529 54 4,.sort]
  replace h := B2 h
  refine gQ (Ak X0.D [aI]) ?_
  obtain ⟨r2,h3,h⟩ := bS h
  refine gG 29 (.cx true [(0,28)] [(1,29)] (.row 1) [rW 1 54 4 X0.D r2]) (aPc h3) ?_
  exact lP h [.live [6],.keep [0,29,997],.ren 29 529,.sort]
theorem aR6 (h : Zd aI = some bJ) : AL Tryz.prog 111 [.box 0 0,.d (X0.D aI)] [(0,.cells ([.nil,.clo (.func 110) [] []]))] (.d (D.b bJ.1)) [(0,.cells ([.row 1,.clo (.func 110) [] []])),rW 1 54 4 X0.D bJ.2] := by
  unfold Zd at h
  refine XG.call (ks := [0]) mixed fun us => ?_
  apply g0 (o := bJ)
  obtain ⟨r1,h1,h⟩ := bS h
  refine gG 16 (.lend [0,2] (.tup [dI r1.1,.d (D.b r1.2)])) (aLv h1) ?_
  obtain ⟨o3,h4,h⟩ := bS h
  refine gl (aEx none us h4) ?_
  exact lX h [.live [4],.keep [0,529,997],.ren 529 1,.sort]
theorem aO2 (h : Qt a8 bE bG = some bK) : AL Tryz.prog 133 [.row 0,.d (D.i .i64 a8),.row 1] [rW 0 54 4 X0.D bE,(1,.row 54 4 (bG.map X0.D))] (.row 2) [rW 2 54 4 X0.D bK] :=
  V8 (ρ := ⟨fun n => if n = 22 then 133 else if n = 29 then 143 else 144,fun n => if n = 0 then 0 else if n = 3 then 3 else if n = 4 then 4 else if n = 24 then 34 else 54,id⟩) (by_ := 40) X0.D mixed rfl ⟨ "slices.Insert[[]proctor/api.Value,proctor/api.Value]", by decide,(Tryz.func133).trans (by kernel_rfl)⟩ Tryz.underlying3 Tryz.underlying4 Tryz.underlying34 (by kernel_rfl) (by decide) (by decide)
    (fun args w => run_callFunc_extern Tryz.func143 (by kernel_rfl) (by kernel_rfl) (by kernel_rfl) (e := Go.Extern.SlicesOverlaps.overlaps #[34,34] #[4]) (by kernel_rfl) args w) a8 bE bG bK h
theorem aEh (rd : Option Nat) (us : List Value) (h : Uk a8 aD b8 aI bE = some bI) : Lq 111 rd 61 ⟨sp 34 0 [bx 2,bx 3,sI 5 a8,sD 6 D.b aD,sD 20 D.b b8],[(0,.cells ([.row 501,.clo (.func 110) [] []])),(2,.cells ([.box 0 0])),cL 3 X0.D aI,rW 501 54 4 X0.D bE,(997,.vals [.box 0 0] us)],[]⟩ (.normal,⟨sp 34 0 [sD 6 D.b aD],[(0,.cells ([.row 529,.clo (.func 110) [] []])),rW 529 54 4 X0.D bI,(997,.vals [.box 0 0] us)],[]⟩) := by
  unfold Uk at h
  apply g0 (o := bI)
  cases b8
  replace h := B1 h
  exact lP h [.live [6],.keep [0,501,997],.ren 501 529,.sort]
  replace h := B2 h
  refine gQ (Ak X0.D [aI]) ?_
  obtain ⟨r2,h3,h⟩ := bS h
  refine gG 29 (.cx true [(0,501),(1,28)] [(2,29)] (.row 2) [rW 2 54 4 X0.D r2]) (aO2 h3) ?_
  exact lP h [.live [6],.keep [0,29,997],.ren 29 529,.sort]
theorem aMc (h : Yz aI bE = some bJ) : AL Tryz.prog 111 [.box 0 0,.d (X0.D aI)] [(0,.cells ([.row 1,.clo (.func 110) [] []])),rW 1 54 4 X0.D bE] (.d (D.b bJ.1)) [(0,.cells ([.row 2,.clo (.func 110) [] []])),rW 2 54 4 X0.D bJ.2] := by
  unfold Yz at h
  refine XG.call (ks := [0]) mixed fun us => ?_
  apply g0 (o := bJ)
  obtain ⟨r1,h1,h⟩ := bS h
  refine gG 16 (.lend [0,1,2] (.tup [dI r1.1,.d (D.b r1.2)])) (aLv h1) ?_
  obtain ⟨o3,h4,h⟩ := bS h
  refine gL [.live [2,3,5,6,20],.keep [0,1,2,3,997],.ren 1 501,.sort] (aEh none us h4) ?_
  exact lX h [.live [4],.keep [0,529,997],.ren 529 2,.sort]
theorem aPd (h : U4 bE = some bG) : AL Tryz.prog 134 [.row 0] [rW 0 54 4 X0.D bE] (.row 1) [rW 0 54 4 X0.D bE,rW 1 54 4 X0.D bG] :=
  Vu (ρ := ⟨fun _ => 134,fun n => if n = 4 then 4 else if n = 22 then 34 else 54,id⟩) (by_ := 40) X0.D rfl rfl (aMy mixed ⟨ "slices.Clone[[]proctor/api.Value,proctor/api.Value]", by decide,(Tryz.func134).trans (by kernel_rfl)⟩ Tryz.underlying4 Tryz.underlying34 (by kernel_rfl) (by kernel_rfl) (by kernel_rfl) (by kernel_rfl)) (by kernel_rfl) (by decide) bE bG h
theorem aOe (h : Q7 bE = some bL) : AL Tryz.prog 113 [.box 0 0] [(0,.cells ([.row 1,.clo (.func 110) [] []])),rW 1 54 4 X0.D bE] (.row 2) [(0,.cells ([.row 3,.clo (.func 110) [] []])),rW 2 54 4 X0.D bL.1,rW 3 54 4 X0.D bL.2] := by
  unfold Q7 at h
  refine XG.call (ks := [0]) mixed fun us => ?_
  apply g0 (o := bL)
  obtain ⟨r1,h1,h⟩ := bS h
  refine gG 9 (.cx true [(0,1)] [(1,9)] (.row 1) [rW 0 54 4 X0.D bE,rW 1 54 4 X0.D r1]) (aPd h1) ?_
  exact lX h [.live [2],.keep [0,1,9,997],.ren 1 3,.ren 9 2,.sort]
theorem XU (rd : Option Nat) (us : List Value) (h : Lf a8 aD a7 = some bI) : Lq 80 rd 29 ⟨sp 51 0 [sI 1 a8,bx 2,bx 5,sD 12 D.b aD],[cL 2 AE.D a7,(5,.cells ([.nil,.clo (.func 110) [] []])),(997,.vals [] us)],[]⟩ (.normal,⟨sp 51 0 [sI 1 a8,bx 2,bx 5],[cL 2 AE.D a7,(5,.cells ([.row 518,.clo (.func 110) [] []])),rW 518 54 4 X0.D bI,(997,.vals [] us)],[]⟩) := by
  unfold Lf at h
  apply g0 (o := bI)
  cases aD
  replace h := B1 h
  exact lP h [.live [1,2,5],.keep [2,5,997],.nilc 5 0 518 54 4,.sort]
  replace h := B2 h
  obtain ⟨r2,h3,h⟩ := bS h
  refine gC 14 (aJm h3) ?_
  obtain ⟨r3,h4,h⟩ := bS h
  refine gG 15 (.cx false [(0,5)] [(1,15)] (.d (D.b r3.1)) [(0,.cells ([.row 1,.clo (.func 110) [] []])),rW 1 54 4 X0.D r3.2]) (aR6 h4) ?_
  obtain ⟨r4,h5,h⟩ := bS h
  refine gC 17 (aJm h5) ?_
  obtain ⟨r5,h6,h⟩ := bS h
  refine gG 18 (.cx false [(0,5),(1,15)] [(2,18)] (.d (D.b r5.1)) [(0,.cells ([.row 2,.clo (.func 110) [] []])),rW 2 54 4 X0.D r5.2]) (aMc h6) ?_
  exact lP h [.live [1,2,5],.keep [2,5,18,997],.ren 18 518,.sort]
theorem NA (rd : Option Nat) (us : List Value) (h : Li a8 bA aA aN bM aR bB aD aW bE = some bI) : Lq 80 rd 4010803 ⟨sp 51 0 [sI 1 a8,bx 5,bx 9,sD 20 (D.l X5.D) bA,sI 21 aA,sI 22 aN,sD 27 (D.l Av.D) bM,sI 28 aR,sI 29 bB,sD 42 D.b aD],[(5,.cells ([.row 518,.clo (.func 110) [] []])),cL 9 Av.D aW,rW 518 54 4 X0.D bE,(997,.vals [] us)],[]⟩ (.normal,⟨sp 51 0 [sI 1 a8,bx 5,sD 20 (D.l X5.D) bA,sI 21 aA,sI 22 aN,sD 27 (D.l Av.D) bM,sI 28 aR,sI 29 bB],[(5,.cells ([.row 546,.clo (.func 110) [] []])),rW 546 54 4 X0.D bI,(997,.vals [] us)],[]⟩) := by
  unfold Li at h
  apply g0 (o := bI)
  cases aD
  replace h := B1 h
  exact lP h [.live [1,5,20,21,22,27,28,29],.keep [5,518,997],.ren 518 546,.sort]
  replace h := B2 h
  obtain ⟨r9,h14,h⟩ := bS h
  refine gG 46 (.cx false [(0,5),(1,518)] [(2,46)] (.d (D.b r9.1)) [(0,.cells ([.row 2,.clo (.func 110) [] []])),rW 2 54 4 X0.D r9.2]) (aMc h14) ?_
  exact lP h [.live [1,5,20,21,22,27,28,29],.keep [5,46,997],.ren 46 546,.sort]
theorem XW (rd : Option Nat) (us : List Value) (h : Oc a8 bA aA aN bM aR bB bE = some bI) : Lq 80 rd 501350 ⟨sp 51 0 [sI 1 a8,bx 5,sD 20 (D.l X5.D) bA,sI 21 aA,sI 22 aN,sD 27 (D.l Av.D) bM,sI 28 aR,sI 29 bB],[(5,.cells ([.row 518,.clo (.func 110) [] []])),rW 518 54 4 X0.D bE,(997,.vals [] us)],[]⟩ (.normal,⟨sp 51 0 [sI 1 a8,bx 5,sD 20 (D.l X5.D) bA,sI 21 aA,sI 22 aN,sD 27 (D.l Av.D) bM,sI 28 aR,sI 29 bB],[(5,.cells ([.row 546,.clo (.func 110) [] []])),rW 546 54 4 X0.D bI,(997,.vals [] us)],[]⟩) := by
  unfold Oc at h
  apply g0 (o := bI)
  refine xX 31 Av.D h fun x8 h => ?_
  refine iB 36 h (fun h => ?_) fun h => ?_
  obtain ⟨o10,h15,h⟩ := bS h
  refine gl (NA rd us h15) ?_
  exact lp h
  obtain ⟨o11,h16,h⟩ := bS h
  refine gl (NA rd us h16) ?_
  exact lp h
def QD (us : List Value) (s1 : Int) (s20 : List X5) (s21 s22 : Int) (s27 : List Av) (s28 s29 : Int) (w518 : List X0) : St := ⟨sp 51 0 [sI 1 s1,bx 5,sD 20 (D.l X5.D) s20,sI 21 s21,sI 22 s22,sD 27 (D.l Av.D) s27,sI 28 s28,sI 29 s29],[(5,.cells ([.row 518,.clo (.func 110) [] []])),rW 518 54 4 X0.D w518,(997,.vals [] us)],[]⟩
def QE (us : List Value) (s1 : Int) (s20 : List X5) (s21 s22 : Int) (s27 : List Av) (s28 : Int) (o : (List X0)) : Ex × St := (.exit 2,⟨sp 51 0 [sI 1 s1,bx 5,sD 20 (D.l X5.D) s20,sI 21 s21,sI 22 s22],[(5,.cells ([.row 518,.clo (.func 110) [] []])),rW 518 54 4 X0.D o,(997,.vals [] us)],[]⟩)
theorem YB (rd : Option Nat) (us : List Value) (h : Oe a8 bA aA aN bM aR bB bE = some bI) : Lq 80 rd 31334 (QD us a8 bA aA aN bM aR bB bE) ((QE us a8 bA aA aN bM aR) bI) :=
  lL (fun s : Int × List X0 => QD us a8 bA aA aN bM aR s.1 s.2) (QE us a8 bA aA aN bM aR) (bB,bE) (fun ⟨bB,bE⟩ o h => by
  unfold EK at h
  refine iB 30 h (fun h => ?_) fun h => ?_
  obtain ⟨o12,h17,h⟩ := bS h
  refine gl (XW rd us h17) ?_
  exact lB h [.live [1,5,20,21,22,27,28,29],.keep [5,546,997],.ren 546 518,.sort]
  exact lb h) h
def QB (us : List Value) (s1 : Int) (s20 : List X5) (s21 s22 : Int) (w518 : List X0) : St := ⟨sp 51 0 [sI 1 s1,bx 5,sD 20 (D.l X5.D) s20,sI 21 s21,sI 22 s22],[(5,.cells ([.row 518,.clo (.func 110) [] []])),rW 518 54 4 X0.D w518,(997,.vals [] us)],[]⟩
def QC (us : List Value) (s1 : Int) (s20 : List X5) (s21 : Int) (o : (List X0)) : Ex × St := (.exit 0,⟨sp 51 0 [bx 5],[(5,.cells ([.row 518,.clo (.func 110) [] []])),rW 518 54 4 X0.D o,(997,.vals [] us)],[]⟩)
theorem XZ (rd : Option Nat) (us : List Value) (h : QA a8 bA aA aN bE = some bI) : Lq 80 rd 122 (QB us a8 bA aA aN bE) ((QC us a8 bA aA) bI) :=
  lL (fun s : Int × List X0 => QB us a8 bA aA s.1 s.2) (QC us a8 bA aA) (aN,bE) (fun ⟨aN,bE⟩ o h => by
  unfold EJ at h
  refine iB 23 h (fun h => ?_) fun h => ?_
  refine xX 24 X5.D h fun x7 h => ?_
  refine gN 28 Av.D x7.args ?_
  obtain ⟨o13,h18,h⟩ := bS h
  refine gl (YB rd us h18) ?_
  exact lb h
  exact lb h) h
theorem aPm (h : X7 a7 a8 = some bE) : AL Tryz.prog 80 [.d (AE.D a7),dI a8] [] (.row 0) [rW 0 54 4 X0.D bE] := by
  unfold X7 at h
  refine XG.call (ks := []) mixed fun us => ?_
  apply g0 (o := bE)
  refine gW 10 (.cx false [] [(0,417)] (.box 0 0) [(0,.cells ([.nil,.clo (.func 110) [] []]))]) <| gW 21 (.int (a7.symbols.length : Int)) ?_
  obtain ⟨r1,h1,h⟩ := bS h
  refine gQ (aOv h1) ?_
  obtain ⟨o6,h7,h⟩ := bS h
  refine gL [.live [1,2,5,12],.keep [2,417,997],.ren 417 5,.sort] (XU none us h7) <| gQ (DC X5.D a7.symbols) ?_
  obtain ⟨o14,h19,h⟩ := bS h
  refine gl (XZ none us h19) ?_
  obtain ⟨r15,h20,h⟩ := bS h
  refine gG 50 (.cx false [(0,5),(1,518)] [(2,50),(3,457)] (.row 2) [(0,.cells ([.row 3,.clo (.func 110) [] []])),rW 2 54 4 X0.D r15.1,rW 3 54 4 X0.D r15.2]) (aOe h20) ?_
  exact lX h [.live [4],.keep [50,997],.ren 50 0,.sort]
def Tq (s0 : List X0) (s7 : Int) (w3 : X0) (s8 : Int) : St := ⟨sp 19 0 [sD 0 (D.l X0.D) s0,bx 3,sI 7 s7,sI 8 s8],[cL 3 X0.D w3],[]⟩
def Tr (s0 : List X0) (s7 : Int) (w3 : X0) (o : Unit ⊕ Int) : Ex × St := match o with
  | .inl o => (.exit 0,⟨sp 19 0 [],[],[]⟩)
  | .inr o => (.ret,⟨sp 19 0 [sI 4 o],[],[]⟩)
theorem aC1 (rd : Option Nat) (h : O0 bE a8 aI aA = some aF) : Lq 114 rd 26 (Tq bE a8 aI aA) ((Tr bE a8 aI) aF) :=
  lL (fun s : Int => Tq bE a8 aI s) (Tr bE a8 aI) aA (fun aA o h => by
  unfold FO at h
  refine iB 9 h (fun h => ?_) fun h => ?_
  refine xX 14 X0.D h fun x1 h => ?_
  refine iB 16 h (fun h => ?_) fun h => ?_
  exact lb h
  exact lb h
  exact lb h) h
theorem aQ1 (h : Y7 bE aI = some a8) : AL Tryz.prog 114 [.d ((D.l X0.D) bE),.d (X0.D aI)] [] (dI a8) [] := by
  unfold Y7 at h
  apply g0 (o := a8)
  refine gN 7 X0.D bE ?_
  obtain ⟨o2,h4,h⟩ := bS h
  refine gl (aC1 none h4) ?_
  replace h := AK h
  rcases h with ⟨o3,rfl,h⟩ | ⟨o4,rfl,h⟩
  exact lf h
  exact lf h
theorem aMj (h : Zi bE aI = some aD) : AL Tryz.prog 81 [.d ((D.l X0.D) bE),.d (X0.D aI)] [] (.d (D.b aD)) [] := by
  unfold Zi at h
  apply g0 (o := aD)
  obtain ⟨r1,h1,h⟩ := bS h
  refine gC 7 (aQ1 h1) ?_
  exact lf h
theorem aOw (h : Qn a8 = some bE) : AL Tryz.prog 115 [.nil,.d (D.i .i64 a8)] [] (.row 0) [rW 0 54 4 X0.D bE] :=
  aFs (ρ := ⟨fun _ => 115,fun a8 => if a8 = 0 then 0 else if a8 = 3 then 3 else if a8 = 4 then 4 else if a8 = 9 then 9 else if a8 = 20 then 20 else if a8 = 22 then 34 else 54,id⟩) (by_ := 40) X0.D rfl rfl (aSu mixed ⟨ "slices.Grow[[]proctor/api.Value,proctor/api.Value]", by decide,(Tryz.func115).trans (by kernel_rfl)⟩ Tryz.underlying0 Tryz.underlying3 Tryz.underlying4 Tryz.underlying9 Tryz.underlying20 Tryz.underlying34 (by kernel_rfl) (by kernel_rfl) (by kernel_rfl) (by kernel_rfl) (by kernel_rfl) (by kernel_rfl) (by kernel_rfl) (by kernel_rfl) (by kernel_rfl) (by kernel_rfl) (by kernel_rfl) (by kernel_rfl)) (by kernel_rfl) (by decide) a8 bE h
theorem ZQ (rd : Option Nat) (h : Rz bN a8 bO aA aN aD = some bD) : Lq 83 rd 14951 ⟨sp 36 0 [sD 0 (D.l (D.l X0.D)) bN,sI 3 a8,sD 9 (D.l (D.l X0.D)) bO,sI 10 aA,sI 11 aN,sD 20 D.b aD],[],[]⟩ (.normal,⟨sp 36 0 [sD 0 (D.l (D.l X0.D)) bN,sI 3 a8,sD 9 (D.l (D.l X0.D)) bO,sI 10 aA,sI 11 aN],[],[]⟩) := by
  unfold Rz at h
  apply g0 (o := bD)
  cases aD
  replace h := B1 h
  exact lp h
  replace h := B2 h
  cases h
theorem ZP (rd : Option Nat) (h : Ry bN a8 bO aA aN = some aR) : Lq 83 rd 934 ⟨sp 36 0 [sD 0 (D.l (D.l X0.D)) bN,sI 3 a8,sD 9 (D.l (D.l X0.D)) bO,sI 10 aA,sI 11 aN],[],[]⟩ (.normal,⟨sp 36 0 [sD 0 (D.l (D.l X0.D)) bN,sI 3 aR,sD 9 (D.l (D.l X0.D)) bO,sI 10 aA,sI 11 aN],[],[]⟩) := by
  unfold Ry at h
  apply g0 (o := aR)
  refine xX 13 (D.l X0.D) h fun x1 h => ?_
  refine gN 17 X0.D x1 ?_
  obtain ⟨o2,h4,h⟩ := bS h
  refine gl (ZQ rd h4) ?_
  exact lp h
def R0 (s0 s9 : List (List X0)) (s10 s3 s11 : Int) : St := ⟨sp 36 0 [sD 0 (D.l (D.l X0.D)) s0,sI 3 s3,sD 9 (D.l (D.l X0.D)) s9,sI 10 s10,sI 11 s11],[],[]⟩
def R1 (s0 s9 : List (List X0)) (s10 o : Int) : Ex × St := (.exit 0,⟨sp 36 0 [sD 0 (D.l (D.l X0.D)) s0,sI 3 o],[],[]⟩)
theorem ZS (rd : Option Nat) (h : Lr bN bO a8 aA aN = some aR) : Lq 83 rd 58 (R0 bN bO a8 aA aN) ((R1 bN bO a8) aR) :=
  lL (fun s : Int × Int => R0 bN bO a8 s.1 s.2) (R1 bN bO a8) (aA,aN) (fun ⟨aA,aN⟩ o h => by
  unfold EN at h
  refine iB 12 h (fun h => ?_) fun h => ?_
  obtain ⟨o3,h5,h⟩ := bS h
  refine gl (ZP rd h5) ?_
  exact lb h
  exact lb h) h
def R2 (s25 : List (List X0)) (s26 s27 : Int) (w6 : List X0) : St := ⟨sp 36 0 [rx 6,sD 25 (D.l (D.l X0.D)) s25,sI 26 s26,sI 27 s27],[rW 6 54 4 X0.D w6],[]⟩
def R3 (s25 : List (List X0)) (s26 : Int) (o : (List X0)) : Ex × St := (.exit 2,⟨sp 36 0 [rx 6],[rW 6 54 4 X0.D o],[]⟩)
theorem ZU (rd : Option Nat) (h : Lt bN a8 aA bE = some bI) : Lq 83 rd 250 (R2 bN a8 aA bE) ((R3 bN a8) bI) :=
  lL (fun s : Int × List X0 => R2 bN a8 s.1 s.2) (R3 bN a8) (aA,bE) (fun ⟨aA,bE⟩ o h => by
  unfold EO at h
  refine iB 28 h (fun h => ?_) fun h => ?_
  refine xX 29 (D.l X0.D) h fun x6 h => ?_
  refine gG 33 (.rwl ((bE ++ x6).map X0.D)) (Ak X0.D x6) ?_
  obtain ⟨h10,h⟩ := cS h
  refine gQ (Ap X0.D h10) <| gQ (Ao X0.D bE x6) ?_
  exact lB h [.live [6,25,26,27],.keep [33],.ren 33 6,.sort]
  exact lb h) h
theorem aPy (h : Xe bN = some bE) : AL Tryz.prog 83 [.d ((D.l (D.l X0.D)) bN)] [] (.d ((D.l X0.D) bE)) [] := by
  unfold Xe at h
  apply g0 (o := bE)
  refine gN 10 (D.l X0.D) bN <| gW 26 (.int (bN.length : Int)) ?_
  obtain ⟨o4,h6,h⟩ := bS h
  refine gl (ZS none h6) ?_
  obtain ⟨r5,h7,h⟩ := bS h
  refine gG 24 (.cx true [] [(0,24)] (.row 0) [rW 0 54 4 X0.D r5]) (aOw h7) <| gQ (DC (D.l X0.D) bN) ?_
  obtain ⟨o7,h11,h⟩ := bS h
  refine gL [.live [6,25,26,27],.keep [24],.ren 24 6,.sort] (ZU none h11) ?_
  exact lF h [.frz 6]
theorem aAq (rd : Option Nat) (h : aAp a8 bE aD aI aQ = some bP) : Lq 82 rd 965 ⟨sp 30 0 [sI 0 a8,sD 1 (D.l X0.D) bE,bx 4,bx 6,sD 20 D.b aD],[cL 4 X0.D aI,cL 6 X0.D aQ],[]⟩ (.normal,⟨sp 30 0 [sI 0 a8,sD 1 (D.l X0.D) bE,bx 4,bx 6],[cL 4 X0.D aI,cL 6 X0.D bP],[]⟩) := by
  unfold aAp at h
  apply g0 (o := bP)
  cases aD
  replace h := B1 h
  refine gW 27 (.str (aQ.str ++ ([97] : List UInt8))) ?_
  obtain ⟨h6,h⟩ := cS h
  refine gQ (H9 h6) ?_
  exact lp h
  replace h := B2 h
  exact lp h
theorem aAo (rd : Option Nat) (h : Oq a8 bE aI aQ = some bP) : Lq 82 rd 241 ⟨sp 30 0 [sI 0 a8,sD 1 (D.l X0.D) bE,bx 4,bx 6],[cL 4 X0.D aI,cL 6 X0.D aQ],[]⟩ (.normal,⟨sp 30 0 [sI 0 a8,sD 1 (D.l X0.D) bE,bx 4,bx 6],[cL 4 X0.D aI,cL 6 X0.D bP],[]⟩) := by
  unfold Oq at h
  apply g0 (o := bP)
  obtain ⟨o2,h7,h⟩ := bS h
  refine gl (aAq rd h7) ?_
  exact lp h
def SS (s0 : Int) (s1 : List X0) (w4 w6 : X0) : St := ⟨sp 30 0 [sI 0 s0,sD 1 (D.l X0.D) s1,bx 4,bx 6],[cL 4 X0.D w4,cL 6 X0.D w6],[]⟩
def ST (s0 : Int) (s1 : List X0) (w4 o : X0) : Ex × St := (.exit 0,⟨sp 30 0 [bx 4,bx 6],[cL 4 X0.D w4,cL 6 X0.D o],[]⟩)
theorem NR (rd : Option Nat) (h : KL a8 bE aI aQ = some bP) : Lq 82 rd 60 (SS a8 bE aI aQ) ((ST a8 bE aI) bP) :=
  lL (fun s : X0 => SS a8 bE aI s) (ST a8 bE aI) aQ (fun aQ o h => by
  unfold EQ at h
  obtain ⟨r1,h3,h⟩ := bS h
  refine gQ (aMj h3) ?_
  cases r1
  replace h := B1 h
  refine gW 18 (.ret (.d (D.b false))) ?_
  exact lb h
  replace h := B2 h
  refine gW 18 (.ret (.d (D.b true))) ?_
  obtain ⟨o3,h8,h⟩ := bS h
  refine gl (aAo rd h8) ?_
  exact lb h) h
theorem aP7 (h : Xk a8 bE = some bQ) : AL Tryz.prog 82 [dI a8,.d ((D.l X0.D) bE)] [] (.tup [.d (X0.D bQ.1),.d (D.b bQ.2)]) [] := by
  unfold Xk at h
  apply g0 (o := bQ)
  refine iB 9 h (fun h => ?_) fun h => ?_
  refine iB 12 h (fun h => ?_) fun h => ?_
  exact lf h
  obtain ⟨o4,h9,h⟩ := bS h
  refine gl (NR none h9) ?_
  exact lf h
  obtain ⟨o5,h10,h⟩ := bS h
  refine gl (NR none h10) ?_
  exact lf h
theorem NN (rd : Option Nat) (h : L3 bE a8 b9 aA aN aD bG bR = some bI) : Lq 53 rd 15667 ⟨sp 67 0 [sD 1 (D.l X0.D) bE,sI 5 a8,rx 6,bx 8,sD 28 (D.l X2.D) b9,sI 29 aA,sI 30 aN,sD 45 D.b aD],[rW 6 54 4 X0.D bG,cL 8 X2.D bR],[]⟩ (.normal,⟨sp 67 0 [sD 1 (D.l X0.D) bE,sI 5 a8,rx 6,sD 28 (D.l X2.D) b9,sI 29 aA,sI 30 aN],[rW 6 54 4 X0.D bI],[]⟩) := by
  unfold L3 at h
  apply g0 (o := bI)
  cases aD
  replace h := B1 h
  exact lp h
  replace h := B2 h
  refine gQ (Ak X0.D [bR.value]) <| gG 50 (.rwl ((bG ++ [bR.value]).map X0.D)) (Ak X0.D [bR.value]) ?_
  obtain ⟨h9,h⟩ := cS h
  refine gQ (Ap X0.D h9) <| gQ (Ao X0.D bG [bR.value]) ?_
  exact lP h [.live [1,5,6,28,29,30],.keep [50],.ren 50 6,.sort]
theorem aAc (rd : Option Nat) (h : Om bE a8 b9 aA aN bG = some bI) : Lq 53 rd 1958 ⟨sp 67 0 [sD 1 (D.l X0.D) bE,sI 5 a8,rx 6,sD 28 (D.l X2.D) b9,sI 29 aA,sI 30 aN],[rW 6 54 4 X0.D bG],[]⟩ (.normal,⟨sp 67 0 [sD 1 (D.l X0.D) bE,sI 5 a8,rx 6,sD 28 (D.l X2.D) b9,sI 29 aA,sI 30 aN],[rW 6 54 4 X0.D bI],[]⟩) := by
  unfold Om at h
  apply g0 (o := bI)
  refine xX 32 X2.D h fun x4 h => ?_
  refine iB 39 h (fun h => ?_) fun h => ?_
  obtain ⟨r5,h7,h⟩ := bS h
  refine gG 43 (.lend [6] (.d (D.b r5))) (aMj h7) ?_
  obtain ⟨o6,h10,h⟩ := bS h
  refine gl (NN rd h10) ?_
  exact lp h
  obtain ⟨o7,h11,h⟩ := bS h
  refine gl (NN rd h11) ?_
  exact lp h
def R9 (s1 : List X0) (s5 : Int) (s28 : List X2) (s29 s30 : Int) (w6 : List X0) : St := ⟨sp 67 0 [sD 1 (D.l X0.D) s1,sI 5 s5,rx 6,sD 28 (D.l X2.D) s28,sI 29 s29,sI 30 s30],[rW 6 54 4 X0.D w6],[]⟩
def SA (s1 : List X0) (s5 : Int) (s28 : List X2) (s29 : Int) (o : (List X0)) : Ex × St := (.exit 0,⟨sp 67 0 [sD 1 (D.l X0.D) s1,sI 5 s5,rx 6],[rW 6 54 4 X0.D o],[]⟩)
theorem aAf (rd : Option Nat) (h : On bE a8 b9 aA aN bG = some bI) : Lq 53 rd 122 (R9 bE a8 b9 aA aN bG) ((SA bE a8 b9 aA) bI) :=
  lL (fun s : Int × List X0 => R9 bE a8 b9 aA s.1 s.2) (SA bE a8 b9 aA) (aN,bG) (fun ⟨aN,bG⟩ o h => by
  unfold EP at h
  refine iB 31 h (fun h => ?_) fun h => ?_
  obtain ⟨o8,h12,h⟩ := bS h
  refine gl (aAc rd h12) ?_
  exact lb h
  exact lb h) h
theorem aAd (rd : Option Nat) (h : L4 aD bE aI = some bI) : Lq 53 rd 251 ⟨sp 67 0 [rx 6,bx 9,sD 61 D.b aD],[(6,.row 54 4 (bE.map X0.D)),cL 9 X0.D aI],[]⟩ (.normal,⟨sp 67 0 [rx 6],[(6,.row 54 4 (bI.map X0.D))],[]⟩) := by
  unfold L4 at h
  apply g0 (o := bI)
  cases aD
  replace h := B1 h
  exact lp h
  replace h := B2 h
  refine gQ (Ak X0.D [aI]) <| gG 65 (.sl ((bE ++ [aI]).map X0.D)) (Ak X0.D [aI]) ?_
  obtain ⟨h17,h⟩ := cS h
  refine gQ (Ap X0.D h17) <| gQ (Ao X0.D bE [aI]) ?_
  exact lP h [.live [6],.keep [65],.ren 65 6,.sort]
theorem aP3 (h : Xg bU bE = some bG) : AL Tryz.prog 53 [.d (Xh.D bU),.d ((D.l X0.D) bE)] [] (.d ((D.l X0.D) bG)) [] := by
  unfold Xg at h
  apply g0 (o := bG)
  refine gW 29 (.int (bU.b.length : Int)) <| gW 54 (.fzn 6) <| xX 16 X6.D h fun x1 h => ?_
  refine xX 21 dZ h fun x2 h => ?_
  obtain ⟨r3,h3,h⟩ := bS h
  refine gG 26 (.cx false [] [(0,26)] (.row 0) [rW 0 54 4 X0.D r3]) (aPm h3) <| gQ (DC X2.D bU.b) ?_
  obtain ⟨o9,h13,h⟩ := bS h
  refine gL [.live [1,5,6,28,29,30],.keep [26],.ren 26 6,.sort] (aAf none h13) <| gQ (Ak (D.l X0.D) [o9,bE]) ?_
  obtain ⟨r10,h14,h⟩ := bS h
  refine gC 57 (aPy h14) ?_
  obtain ⟨r11,h15,h⟩ := bS h
  refine gC 58 (aP7 h15) ?_
  obtain ⟨o12,h18,h⟩ := bS h
  refine gl (aAd none h18) ?_
  exact lf h
def Tb (s1 : Int) (s8 : List X2) (s9 : Int) (w4 : X0) (s10 : Int) : St := ⟨sp 22 0 [sI 1 s1,bx 4,sD 8 (D.l X2.D) s8,sI 9 s9,sI 10 s10],[cL 4 X0.D w4],[]⟩
def Tc (s1 : Int) (s8 : List X2) (s9 : Int) (w4 : X0) (o : Unit ⊕ X0) : Ex × St := match o with
  | .inl o => (.exit 0,⟨sp 22 0 [bx 4],[cL 4 X0.D w4],[]⟩)
  | .inr o => (.ret,⟨sp 22 0 [bx 4,sD 5 D.b true],[cL 4 X0.D o],[]⟩)
theorem aCd (rd : Option Nat) (h : Oz a8 b9 aA aI aN = some bV) : Lq 116 rd 26 (Tb a8 b9 aA aI aN) ((Tc a8 b9 aA aI) bV) :=
  lL (fun s : Int => Tb a8 b9 aA aI s) (Tc a8 b9 aA aI) aN (fun aN o h => by
  unfold DX at h
  refine iB 11 h (fun h => ?_) fun h => ?_
  refine xX 12 X2.D h fun x1 h => ?_
  refine iB 17 h (fun h => ?_) fun h => ?_
  exact lb h
  exact lb h
  exact lb h) h
theorem aLy (h : Y0 b9 a8 = some bQ) : AL Tryz.prog 116 [.d ((D.l X2.D) b9),dI a8] [] (.tup [.d (X0.D bQ.1),.d (D.b bQ.2)]) [] := by
  unfold Y0 at h
  apply g0 (o := bQ)
  refine gN 9 X2.D b9 ?_
  obtain ⟨o2,h4,h⟩ := bS h
  refine gl (aCd none h4) ?_
  replace h := AK h
  rcases h with ⟨o3,rfl,h⟩ | ⟨o4,rfl,h⟩
  exact lf h
  exact lf h
theorem aSd (h : Zl bU aW aI = some aD) : AL Tryz.prog 84 [.d (Xh.D bU),.d (Av.D aW),.d (X0.D aI)] [] (.d (D.b aD)) [] := by
  unfold Zl at h
  apply g0 (o := aD)
  refine iB 11 h (fun h => ?_) fun h => ?_
  exact lf h
  refine iB 17 h (fun h => ?_) fun h => ?_
  obtain ⟨r1,h3,h⟩ := bS h
  refine gC 24 (aLy h3) ?_
  refine iB 28 h (fun h => ?_) fun h => ?_
  exact lf h
  exact lf h
  exact lf h
theorem NS (rd : Option Nat) (h : L7 a8 aA bA aN aR aD bU aI = some bB) : Lq 54 rd 15667 ⟨sp 42 0 [bx 2,bx 3,(5,.clo (.func 84) [] []),sD 6 dU a8,sI 7 aA,sD 11 (D.l X5.D) bA,sI 12 aN,sI 13 aR,sD 34 D.b aD],[cL 2 Xh.D bU,cL 3 X0.D aI],[]⟩ (.normal,⟨sp 42 0 [bx 2,bx 3,(5,.clo (.func 84) [] []),sD 6 dU bB,sD 11 (D.l X5.D) bA,sI 12 aN,sI 13 aR],[cL 2 Xh.D bU,cL 3 X0.D aI],[]⟩) := by
  unfold L7 at h
  apply g0 (o := bB)
  cases aD
  replace h := B1 h
  exact lp h
  replace h := B2 h
  obtain ⟨h7,h⟩ := cS h
  refine gQ h7 ?_
  exact lp h
theorem aAt (rd : Option Nat) (h : Ou a8 bA aA aN bU aI = some aR) : Lq 54 rd 1958 ⟨sp 42 0 [bx 2,bx 3,(5,.clo (.func 84) [] []),sD 6 dU a8,sD 11 (D.l X5.D) bA,sI 12 aA,sI 13 aN],[cL 2 Xh.D bU,cL 3 X0.D aI],[]⟩ (.normal,⟨sp 42 0 [bx 2,bx 3,(5,.clo (.func 84) [] []),sD 6 dU aR,sD 11 (D.l X5.D) bA,sI 12 aA,sI 13 aN],[cL 2 Xh.D bU,cL 3 X0.D aI],[]⟩) := by
  unfold Ou at h
  apply g0 (o := aR)
  refine xX 16 X5.D h fun x1 h => ?_
  refine iB 23 h (fun h => ?_) fun h => ?_
  refine xX 30 Av.D h fun x2 h => ?_
  obtain ⟨r3,h5,h⟩ := bS h
  refine gC 33 (aSd h5) ?_
  obtain ⟨o4,h8,h⟩ := bS h
  refine gl (NS rd h8) ?_
  exact lp h
  obtain ⟨o5,h9,h⟩ := bS h
  refine gl (NS rd h9) ?_
  exact lp h
def SX (s11 : List X5) (s12 : Int) (w2 : Xh) (w3 : X0) (s6 s13 : Int) : St := ⟨sp 42 0 [bx 2,bx 3,(5,.clo (.func 84) [] []),sD 6 dU s6,sD 11 (D.l X5.D) s11,sI 12 s12,sI 13 s13],[cL 2 Xh.D w2,cL 3 X0.D w3],[]⟩
def SY (s11 : List X5) (s12 : Int) (w2 : Xh) (w3 : X0) (o : Int) : Ex × St := (.exit 0,⟨sp 42 0 [sD 6 dU o],[],[]⟩)
theorem aAv (rd : Option Nat) (h : SU bA a8 bU aI aA aN = some aR) : Lq 54 rd 122 (SX bA a8 bU aI aA aN) ((SY bA a8 bU aI) aR) :=
  lL (fun s : Int × Int => SX bA a8 bU aI s.1 s.2) (SY bA a8 bU aI) (aA,aN) (fun ⟨aA,aN⟩ o h => by
  unfold ER at h
  refine iB 14 h (fun h => ?_) fun h => ?_
  obtain ⟨o6,h10,h⟩ := bS h
  refine gl (aAt rd h10) ?_
  exact lb h
  exact lb h) h
theorem aQa (h : Xl bU aI = some a8) : AL Tryz.prog 54 [.d (Xh.D bU),.d (X0.D aI)] [] (.d (dU a8)) [] := by
  unfold Xl at h
  apply g0 (o := a8)
  refine gN 12 X5.D bU.q.symbols ?_
  obtain ⟨o7,h11,h⟩ := bS h
  refine gl (aAv none h11) ?_
  exact lf h
def FI (clk : Nat) (es : List (Nat × Int × Bool)) (us : List Value) (s8 : Int) (s12 : List X0) (s13 s14 : Int) (w0 : List (Int × Bool)) (w3 : Xh) (w5 : List (Int × Bool)) (sn : List Nat) : St := ⟨sp 33 0 [rx 0,bx 3,rx 5,sD 8 dU s8,sD 12 (D.l X0.D) s12,sI 13 s13,sI 14 s14,bx 22],[(0,.map clk (dl dU D.b es)),cL 3 Xh.D w3,(5,.mapS (ms dU D.b w5)),(22,.mit 0 clk sn),(997,.vals [] us)],[]⟩
def FJ (clk : Nat) (es : List (Nat × Int × Bool)) (us : List Value) (s8 : Int) (s12 : List X0) (s13 s14 : Int) (w0 : List (Int × Bool)) (w3 : Xh) (o : (List (Int × Bool))) : Ex × St := (.exit 2,⟨sp 33 0 [rx 0,bx 3,rx 5,sD 12 (D.l X0.D) s12,sI 13 s13,sI 14 s14],[(0,.map clk (dl dU D.b es)),cL 3 Xh.D w3,(5,.mapS (ms dU D.b o)),(997,.vals [] us)],[]⟩)
def aIg (clk : Nat) (es : List (Nat × Int × Bool)) (us : List Value) (s8 : Int) (s12 : List X0) (s13 s14 : Int) (w0 : List (Int × Bool)) (w3 : Xh) (w5 : List (Int × Bool)) : St := ⟨sp 33 0 [rx 0,bx 3,rx 5,sD 12 (D.l X0.D) s12,sI 13 s13,sI 14 s14],[(0,.map clk (dl dU D.b es)),cL 3 Xh.D w3,(5,.mapS (ms dU D.b w5)),(997,.vals [] us)],[]⟩
set_option maxRecDepth 100000 in
theorem Rq (rd : Option Nat) (us : List Value) (clk : Nat) (es : List (Nat × Int × Bool)) (s8 : Int) (s12 : List X0) (s13 s14 : Int) (w0 : List (Int × Bool)) (w3 : Xh) (k : Int) (v : Bool) (w5 : List (Int × Bool)) (sn : List Nat) (st : Nat) (hm : (st,k,v) ∈ es) (o : (List (Int × Bool))) (h : EM s8 s12 s13 s14 w0 w3 k v w5 = some o) : LS Tryz.prog rd (Bu Tryz.prog 35) [0,1,1,1,0,0,1,1,0,0,1,0,1,1] ((⟨(FI clk es us s8 s12 s13 s14 w0 w3 w5 sn).E,BD (FI clk es us s8 s12 s13 s14 w0 w3 w5 sn).B 22 (.mit 0 clk (sn ++ [st])),[]⟩ : St).put (some 23) (.tup [bo true,.d (dU k),.d (D.b v)])) fun zx zs => zx = .normal ∧ Wk zs ((fun s : (List (Int × Bool)) => FI clk es us s8 s12 s13 s14 w0 w3 s (sn ++ [st])) o) := by
  unfold EM at h
  obtain rfl := si h
  exact D6 mixed [(25,.en (dU k) (D.b v)),(10027,.ms (ms dU D.b (Eg (AA .and .u64 k s8) true w5)))] [] [.live [0,3,5,8,12,13,14,22],.keep [0,3,5,22,997]] (ai (Mq (fk := dU) (fv := D.b) (clk := clk) (sn := sn) hm) (ai (Mx (aN0 Tryz.underlying33) D.b w5 (AA .and .u64 k s8) true) (ti))) (by kernel_rfl)
set_option maxRecDepth 100000 in
theorem Rp (rd : Option Nat) (us : List Value) (clk : Nat) (es : List (Nat × Int × Bool)) (s8 : Int) (s12 : List X0) (s13 s14 : Int) (w0 : List (Int × Bool)) (w3 : Xh) (w5 : List (Int × Bool)) (sn : List Nat) : LS Tryz.prog rd (Bu Tryz.prog 35) [0,1,1,1,0,0,1,1,0,0,1,0,1,1] ((FI clk es us s8 s12 s13 s14 w0 w3 w5 sn).put (some 23) (.tup [bo false])) fun zx zs => zx = (FJ clk es us s8 s12 s13 s14 w0 w3 (Gd s8 s12 s13 s14 w0 w3 w5)).1 ∧ Wk zs (FJ clk es us s8 s12 s13 s14 w0 w3 (Gd s8 s12 s13 s14 w0 w3 w5)).2 := by
  refine LS.wk (e := .exit 2) (s1 := aIg clk es us s8 s12 s13 s14 w0 w3 w5) (D6 mixed [] [] [.live [0,3,5,12,13,14],.keep [0,3,5,997]] (ti) (by kernel_rfl)) ?_
  exact (Wk.canS 5 (by kernel_rfl) rfl)
set_option maxRecDepth 100000 in
theorem ZJ (rd : Option Nat) (us : List Value) (clk : Nat) (es : List (Nat × Int × Bool)) (s8 : Int) (s12 : List X0) (s13 s14 : Int) (w0 : List (Int × Bool)) (w3 : Xh) (w5 : List (Int × Bool)) (hp : (es.map (·.2)).Perm w0) (o : (List (Int × Bool))) (h : Ro s8 s12 s13 s14 w0 w3 w5 = some o) : Cl Tryz.prog rd (Bu Tryz.prog 35) [0,1,1,1,0,0,1,1,0,0,1,0,1,1] (FI clk es us s8 s12 s13 s14 w0 w3 w5 []) ((FJ clk es us s8 s12 s13 s14 w0 w3) o).1 ((FJ clk es us s8 s12 s13 s14 w0 w3) o).2 :=
  Mn (fk := dU) (fv := D.b) (step := (fun (x : Int × Bool) (s : (List (Int × Bool))) => EM s8 s12 s13 s14 w0 w3 x.1 x.2 s)) (s0 := w5) 22 23 22 0 clk es (fun (sn : List Nat) (s : (List (Int × Bool))) => FI clk es us s8 s12 s13 s14 w0 w3 s sn) (FJ clk es us s8 s12 s13 s14 w0 w3) (by kernel_rfl) (N8 (by rfl)) (fun _ _ => by kernel_rfl) (fun _ _ => by kernel_rfl) (fun _ _ => by kernel_rfl) hp
    (fun sn s k v st a hm h => Rq rd us clk es s8 s12 s13 s14 w0 w3 k v s sn st hm a h) (fun sn s hc => hc ▸ Rp rd us clk es s8 s12 s13 s14 w0 w3 s sn) h
theorem ZF (rd : Option Nat) (us : List Value) (h : Ok a8 bE aA aN bW bU bX = some bY) : Lq 35 rd 7475 ⟨sp 33 0 [rx 0,bx 3,rx 5,sD 8 dU a8,sD 12 (D.l X0.D) bE,sI 13 aA,sI 14 aN],[(0,.mapS (ms dU D.b bW)),cL 3 Xh.D bU,(5,.mapS (ms dU D.b bX)),(997,.vals [] us)],[]⟩ (.normal,⟨sp 33 0 [rx 0,bx 3,rx 5,sD 12 (D.l X0.D) bE,sI 13 aA,sI 14 aN],[(0,.mapS (ms dU D.b bW)),cL 3 Xh.D bU,(5,.mapS (ms dU D.b bY)),(997,.vals [] us)],[]⟩) := by
  unfold Ok at h
  obtain ⟨o4,h5,h⟩ := bS h
  obtain rfl := si h
  exact Arr.lp (Arr.exact (fk := dU) (fv := D.b) (S := bW) 0 (by kernel_rfl) fun clk es hp => Arr.setm (fk := dU) (fv := D.b) (S := bW) (clk := clk) (es := es) 0 hp (by kernel_rfl) (by kernel_rfl) (E3 mixed [] [⟨[0,1,1,1,0,0,1,1,0,0,1,0,1,1],[.live [0,3,5,8,12,13,14,22],.keep [0,3,5,22,997]],.exit 2,(FJ clk es us a8 bE aA aN bW bU o4).2⟩] [.live [0,3,5,12,13,14],.keep [0,3,5,997]] (ai (ZJ rd us clk es a8 bE aA aN bW bU bX hp o4 h5) (ti)) (by kernel_rfl)))
def Rm (us : List Value) (s12 : List X0) (s13 : Int) (w0 : List (Int × Bool)) (w3 : Xh) (s14 : Int) (w5 : List (Int × Bool)) : St := ⟨sp 33 0 [rx 0,bx 3,rx 5,sD 12 (D.l X0.D) s12,sI 13 s13,sI 14 s14],[(0,.mapS (ms dU D.b w0)),cL 3 Xh.D w3,(5,.mapS (ms dU D.b w5)),(997,.vals [] us)],[]⟩
def Rn (us : List Value) (s12 : List X0) (s13 : Int) (w0 : List (Int × Bool)) (w3 : Xh) (o : (List (Int × Bool))) : Ex × St := (.exit 0,⟨sp 33 0 [rx 5],[(5,.mapS (ms dU D.b o)),(997,.vals [] us)],[]⟩)
theorem ZH (rd : Option Nat) (us : List Value) (h : Rl bE a8 bW bU aA bX = some bY) : Lq 35 rd 58 (Rm us bE a8 bW bU aA bX) ((Rn us bE a8 bW bU) bY) :=
  lL (fun s : Int × (List (Int × Bool)) => Rm us bE a8 bW bU s.1 s.2) (Rn us bE a8 bW bU) (aA,bX) (fun ⟨aA,bX⟩ o h => by
  unfold EL at h
  refine iB 15 h (fun h => ?_) fun h => ?_
  refine xX 16 X0.D h fun x2 h => ?_
  obtain ⟨r3,h4,h⟩ := bS h
  refine gC 20 (aQa h4) ?_
  obtain ⟨o5,h6,h⟩ := bS h
  refine gl (ZF rd us h6) ?_
  exact lb h
  exact lb h) h
theorem aPu (h : Xc bU bW = some bY) : AL Tryz.prog 35 [.row 0,.d (Xh.D bU)] [(0,.mapS (ms dU D.b bW))] (.row 1) [(1,.mapS (ms dU D.b bY))] := by
  unfold Xc at h
  refine XG.call (ks := []) mixed fun us => ?_
  apply g0 (o := bY)
  refine gW 10 .frz ?_
  obtain ⟨r1,h1,h⟩ := bS h
  refine gC 12 (aP3 h1) <| gN 13 X0.D r1 ?_
  obtain ⟨o6,h7,h⟩ := bS h
  refine gL [.live [0,3,5,12,13,14],.keep [0,3,10,997],.ren 10 5,.sort] (ZH none us h7) ?_
  exact lX h [.live [4],.keep [5,997],.ren 5 1,.sort]
theorem aD4 (rd : Option Nat) (h : UL a8 aA aD = some bH) : Lq 95 rd 13 ⟨sp 25 0 [sD 0 dU a8,sI 2 aA,sD 4 D.b aD],[],[]⟩ (.normal,⟨sp 25 0 [sD 0 dU bH.1,sI 2 bH.2],[],[]⟩) := by
  unfold UL at h
  apply g0 (o := bH)
  cases aD
  replace h := B1 h
  exact lp h
  replace h := B2 h
  refine gQ (of_decide_eq_true rfl : (0 : Int) ≤ 32) ?_
  exact lp h
theorem aD5 (rd : Option Nat) (h : UM a8 aA aD = some bH) : Lq 95 rd 29 ⟨sp 25 0 [sD 0 dU a8,sI 2 aA,sD 8 D.b aD],[],[]⟩ (.normal,⟨sp 25 0 [sD 0 dU bH.1,sI 2 bH.2],[],[]⟩) := by
  unfold UM at h
  apply g0 (o := bH)
  cases aD
  replace h := B1 h
  exact lp h
  replace h := B2 h
  refine gQ (of_decide_eq_true rfl : (0 : Int) ≤ 16) ?_
  exact lp h
theorem aD6 (rd : Option Nat) (h : UN a8 aA aD = some bH) : Lq 95 rd 61 ⟨sp 25 0 [sD 0 dU a8,sI 2 aA,sD 14 D.b aD],[],[]⟩ (.normal,⟨sp 25 0 [sD 0 dU bH.1,sI 2 bH.2],[],[]⟩) := by
  unfold UN at h
  apply g0 (o := bH)
  cases aD
  replace h := B1 h
  exact lp h
  replace h := B2 h
  refine gQ (of_decide_eq_true rfl : (0 : Int) ≤ 8) ?_
  exact lp h
theorem aRc (h : Yo a8 = some aA) : AL Tryz.prog 95 [.d (dU a8)] [] (dI aA) [] := by
  unfold Yo at h
  apply g0 (o := aA)
  obtain ⟨o1,h2,h⟩ := bS h
  refine gl (aD4 none h2) ?_
  obtain ⟨o2,h4,h⟩ := bS h
  refine gl (aD5 none h4) ?_
  obtain ⟨o3,h6,h⟩ := bS h
  refine gl (aD6 none h6) <| gG 21 (.int (u8w o3.1).toNat) (aHr o3.1) ?_
  obtain ⟨x4,h7,h⟩ := xS h
  refine gG 22 (.int x4.toNat) (FU h7) <| gG 23 (.int x4.toNat) (M4 x4) ?_
  exact lf h
theorem aLe (h : Q8 a8 = some aA) : AL Tryz.prog 56 [.d (dU a8)] [] (dI aA) [] := by
  unfold Q8 at h
  apply g0 (o := aA)
  obtain ⟨r1,h1,h⟩ := bS h
  refine gC 7 (aRc h1) ?_
  exact lf h
theorem aLh (h : Qg a8 = some aD) : AL Tryz.prog 122 [.d (dU a8)] [] (.d (D.b aD)) [] := by
  unfold Qg at h
  apply g0 (o := aD)
  exact lf h
theorem DY (h : Yc a8 aA = some aD) : AL Tryz.prog 91 [.d (dU a8),.d (dU aA)] [] (.d (D.b aD)) [] := by
  unfold Yc at h
  apply g0 (o := aD)
  obtain ⟨r1,h1,h⟩ := bS h
  refine gQ (aLh h1) ?_
  cases r1
  replace h := B1 h
  refine gW 6 (.ret (.d (D.b false))) ?_
  exact lf h
  replace h := B2 h
  refine gW 6 (.ret (.d (D.b true))) ?_
  obtain ⟨r2,h3,h⟩ := bS h
  refine gC 9 (aLh h3) ?_
  refine iB 12 h (fun h => ?_) fun h => ?_
  exact lf h
  exact lf h
def TB (us : List Value) (s1 s2 : Int) (s6 s7 : Int) (w0 : List Int) : St := ⟨sp 49 0 [rx 0,sI 1 s1,sI 2 s2,sI 6 s6,sI 7 s7],[rW 0 33 1 dU w0,(997,.vals [.row 0] us)],[]⟩
def TC (us : List Value) (s1 s2 s6 : Int) (o : (List Int)) : Ex × St := (.exit 2,⟨sp 49 0 [rx 0,sI 1 s1,sI 2 s2,sI 6 s6],[rW 0 33 1 dU o,(997,.vals [.row 0] us)],[]⟩)
theorem aBt (rd : Option Nat) (us : List Value) (h : TA a8 aA aN aR aZ = some b6) : Lq 85 rd 402 (TB us a8 aA aN aR aZ) ((TC us a8 aA aN) b6) :=
  lL (fun s : Int × List Int => TB us a8 aA aN s.1 s.2) (TC us a8 aA aN) (aR,aZ) (fun ⟨aR,aZ⟩ o h => by
  unfold ET at h
  refine iB 19 h (fun h => ?_) fun h => ?_
  obtain ⟨h3,h⟩ := cS h
  refine gQ h3.1 <| gQ (AP dU h3.2) ?_
  obtain ⟨x1,h4,h⟩ := xS h
  refine gG 23 (.el (dU x1)) (AR dU h4) ?_
  obtain ⟨h5,h⟩ := cS h
  refine gQ h5.1 <| gQ (AP dU h5.2) ?_
  obtain ⟨x2,h6,h⟩ := xS h
  refine gG 28 (.el (dU x2)) (AR dU h6) ?_
  obtain ⟨r3,h7,h⟩ := bS h
  refine gQ (DY h7) ?_
  cases r3
  replace h := B1 h
  refine gW 29 (.ret (.d (D.b false))) ?_
  exact lb h
  replace h := B2 h
  refine gW 29 (.ret (.d (D.b true))) ?_
  obtain ⟨h9,h⟩ := cS h
  refine gQ h9.1 <| gQ (AP dU h9.2) ?_
  obtain ⟨x4,h10,h⟩ := xS h
  refine gG 42 (.el (dU x4)) (AR dU h10) <| gW 10047 (.sl ((aZ.set aR.toNat x4).map dU)) ?_
  obtain ⟨h11,h⟩ := cS h
  refine gQ h11.1 <| gQ (AP dU h11.2) ?_
  obtain ⟨x5,h12,h⟩ := xS h
  refine gG 46 (.el (dU x5)) (AR dU h12) <| gW 10048 (.sl (((aZ.set aR.toNat x4).set (AA .sub .i64 aR 1).toNat x5).map dU)) ?_
  obtain ⟨h13,h⟩ := cS h
  refine gQ h13.1 <| gQ (AP dU h13.2) ?_
  obtain ⟨h14,h⟩ := cS h
  refine gQ (Bt dU h14) <| gQ (Ar dU aZ aR x4) ?_
  obtain ⟨h15,h⟩ := cS h
  refine gQ h15.1 <| gQ (AP dU h15.2) ?_
  obtain ⟨h16,h⟩ := cS h
  refine gQ (Bt dU h16) <| gQ (Ar dU (aZ.set aR.toNat x4) (AA .sub .i64 aR 1) x5) ?_
  exact lb h
  exact lb h) h
def S8 (us : List Value) (s1 s2 s6 : Int) (w0 : List Int) : St := ⟨sp 49 0 [rx 0,sI 1 s1,sI 2 s2,sI 6 s6],[rW 0 33 1 dU w0,(997,.vals [.row 0] us)],[]⟩
def S9 (us : List Value) (s1 s2 : Int) (o : (List Int)) : Ex × St := (.exit 0,⟨sp 49 0 [],[rW 0 33 1 dU o,(997,.vals [.row 0] us)],[]⟩)
theorem aBs (rd : Option Nat) (us : List Value) (h : S7 a8 aA aN aZ = some b6) : Lq 85 rd 6 (S8 us a8 aA aN aZ) ((S9 us a8 aA) b6) :=
  lL (fun s : Int × List Int => S8 us a8 aA s.1 s.2) (S9 us a8 aA) (aN,aZ) (fun ⟨aN,aZ⟩ o h => by
  unfold Gv at h
  refine iB 12 h (fun h => ?_) fun h => ?_
  obtain ⟨o6,h17,h⟩ := bS h
  refine gl (aBt rd us h17) ?_
  exact lb h
  exact lb h) h
theorem aQk (h : Xu a8 aA aZ = some bZ) : AL Tryz.prog 85 [.row 0,dI a8,dI aA] [rW 0 33 1 dU aZ] (.tup []) [rW 0 33 1 dU bZ] := by
  unfold Xu at h
  refine XG.call (ks := [0]) mixed fun us => ?_
  apply g0 (o := bZ)
  obtain ⟨o7,h18,h⟩ := bS h
  refine gl (aBs none us h18) ?_
  exact lX h (lv [] [0,997])
theorem NY (rd : Option Nat) (us : List Value) (h : MB a8 aA aN aR aD aZ = some bB) : Lq 117 rd 397 ⟨sp 76 0 [rx 0,sI 2 a8,sI 3 aA,sI 8 aN,sI 9 aR,sD 36 D.b aD],[rW 0 33 1 dU aZ,(997,.vals [.row 0] us)],[]⟩ (.normal,⟨sp 76 0 [rx 0,sI 2 a8,sI 3 aA,sI 8 aN,sI 9 bB],[rW 0 33 1 dU aZ,(997,.vals [.row 0] us)],[]⟩) := by
  unfold MB at h
  apply g0 (o := bB)
  cases aD
  replace h := B1 h
  exact lp h
  replace h := B2 h
  exact lp h
theorem aBk (rd : Option Nat) (us : List Value) (h : KM a8 aA aN aZ = some c9) : Lq 117 rd 12 ⟨sp 76 0 [rx 0,sI 2 a8,sI 3 aA,sI 8 aN],[rW 0 33 1 dU aZ,(997,.vals [.row 0] us)],[]⟩ (match (generalizing := false) c9 with
  | .inl c9 => (.normal,⟨sp 76 0 [rx 0,sI 2 a8,sI 3 aA,sI 8 c9.1],[rW 0 33 1 dU c9.2,(997,.vals [.row 0] us)],[]⟩)
  | .inr c9 => match (generalizing := false) c9 with
  | .inl c9 => (.exit 0,⟨sp 76 0 [],[rW 0 33 1 dU aZ,(997,.vals [.row 0] us)],[]⟩)
  | .inr c9 => (.ret,⟨sp 76 0 [],[rW 0 33 1 dU aZ,(997,.vals [.row 0] us)],[]⟩)) := by
  unfold KM at h
  apply g0 (o := c9)
  refine iB 16 h (fun h => ?_) fun h => ?_
  exact lp h
  refine iB 21 h (fun h => ?_) fun h => ?_
  obtain ⟨h3,h⟩ := cS h
  refine gQ h3.1 <| gQ (AP dU h3.2) ?_
  obtain ⟨x1,h4,h⟩ := xS h
  refine gG 27 (.el (dU x1)) (AR dU h4) ?_
  obtain ⟨h5,h⟩ := cS h
  refine gQ h5.1 <| gQ (AP dU h5.2) ?_
  obtain ⟨x2,h6,h⟩ := xS h
  refine gG 34 (.el (dU x2)) (AR dU h6) ?_
  obtain ⟨r3,h7,h⟩ := bS h
  refine gC 35 (DY h7) ?_
  obtain ⟨o4,h9,h⟩ := bS h
  refine gl (NY rd us h9) ?_
  obtain ⟨h10,h⟩ := cS h
  refine gQ h10.1 <| gQ (AP dU h10.2) ?_
  obtain ⟨x5,h11,h⟩ := xS h
  refine gG 44 (.el (dU x5)) (AR dU h11) ?_
  obtain ⟨h12,h⟩ := cS h
  refine gQ h12.1 <| gQ (AP dU h12.2) ?_
  obtain ⟨x6,h13,h⟩ := xS h
  refine gG 50 (.el (dU x6)) (AR dU h13) ?_
  obtain ⟨r7,h14,h⟩ := bS h
  refine gC 51 (DY h14) ?_
  refine iB 52 h (fun h => ?_) fun h => ?_
  exact lp h
  obtain ⟨h16,h⟩ := cS h
  refine gQ h16.1 <| gQ (AP dU h16.2) ?_
  obtain ⟨x8,h17,h⟩ := xS h
  refine gG 66 (.el (dU x8)) (AR dU h17) <| gW 10073 (.sl ((aZ.set (AA .add .i64 aA aN).toNat x8).map dU)) ?_
  obtain ⟨h18,h⟩ := cS h
  refine gQ h18.1 <| gQ (AP dU h18.2) ?_
  obtain ⟨x9,h19,h⟩ := xS h
  refine gG 72 (.el (dU x9)) (AR dU h19) <| gW 10074 (.sl (((aZ.set (AA .add .i64 aA aN).toNat x8).set (AA .add .i64 aA o4).toNat x9).map dU)) ?_
  obtain ⟨h20,h⟩ := cS h
  refine gQ h20.1 <| gQ (AP dU h20.2) ?_
  obtain ⟨h21,h⟩ := cS h
  refine gQ (Bt dU h21) <| gQ (Ar dU aZ (AA .add .i64 aA aN) x8) ?_
  obtain ⟨h22,h⟩ := cS h
  refine gQ h22.1 <| gQ (AP dU h22.2) ?_
  obtain ⟨h23,h⟩ := cS h
  refine gQ (Bt dU h23) <| gQ (Ar dU (aZ.set (AA .add .i64 aA aN).toNat x8) (AA .add .i64 aA o4) x9) ?_
  exact lp h
  obtain ⟨o10,h24,h⟩ := bS h
  refine gl (NY rd us h24) ?_
  obtain ⟨h25,h⟩ := cS h
  refine gQ h25.1 <| gQ (AP dU h25.2) ?_
  obtain ⟨x11,h26,h⟩ := xS h
  refine gG 44 (.el (dU x11)) (AR dU h26) ?_
  obtain ⟨h27,h⟩ := cS h
  refine gQ h27.1 <| gQ (AP dU h27.2) ?_
  obtain ⟨x12,h28,h⟩ := xS h
  refine gG 50 (.el (dU x12)) (AR dU h28) ?_
  obtain ⟨r13,h29,h⟩ := bS h
  refine gC 51 (DY h29) ?_
  refine iB 52 h (fun h => ?_) fun h => ?_
  exact lp h
  obtain ⟨h31,h⟩ := cS h
  refine gQ h31.1 <| gQ (AP dU h31.2) ?_
  obtain ⟨x14,h32,h⟩ := xS h
  refine gG 66 (.el (dU x14)) (AR dU h32) <| gW 10073 (.sl ((aZ.set (AA .add .i64 aA aN).toNat x14).map dU)) ?_
  obtain ⟨h33,h⟩ := cS h
  refine gQ h33.1 <| gQ (AP dU h33.2) ?_
  obtain ⟨x15,h34,h⟩ := xS h
  refine gG 72 (.el (dU x15)) (AR dU h34) <| gW 10074 (.sl (((aZ.set (AA .add .i64 aA aN).toNat x14).set (AA .add .i64 aA o10).toNat x15).map dU)) ?_
  obtain ⟨h35,h⟩ := cS h
  refine gQ h35.1 <| gQ (AP dU h35.2) ?_
  obtain ⟨h36,h⟩ := cS h
  refine gQ (Bt dU h36) <| gQ (Ar dU aZ (AA .add .i64 aA aN) x14) ?_
  obtain ⟨h37,h⟩ := cS h
  refine gQ h37.1 <| gQ (AP dU h37.2) ?_
  obtain ⟨h38,h⟩ := cS h
  refine gQ (Bt dU h38) <| gQ (Ar dU (aZ.set (AA .add .i64 aA aN).toNat x14) (AA .add .i64 aA o10) x15) ?_
  exact lp h
def Sz (us : List Value) (s2 s3 s8 : Int) (w0 : List Int) : St := ⟨sp 76 0 [rx 0,sI 2 s2,sI 3 s3,sI 8 s8],[rW 0 33 1 dU w0,(997,.vals [.row 0] us)],[]⟩
def S1 (us : List Value) (s2 s3 : Int) (o : (List Int) ⊕ (List Int)) : Ex × St := match o with
  | .inl o => (.exit 0,⟨sp 76 0 [],[rW 0 33 1 dU o,(997,.vals [.row 0] us)],[]⟩)
  | .inr o => (.ret,⟨sp 76 0 [],[rW 0 33 1 dU o,(997,.vals [.row 0] us)],[]⟩)
theorem aBl (rd : Option Nat) (us : List Value) (h : Sy a8 aA aN aZ = some cA) : Lq 117 rd 6 (Sz us a8 aA aN aZ) ((S1 us a8 aA) cA) :=
  lL (fun s : Int × List Int => Sz us a8 aA s.1 s.2) (S1 us a8 aA) (aN,aZ) (fun ⟨aN,aZ⟩ o h => by
  unfold DK at h
  obtain ⟨o16,h39,h⟩ := bS h
  refine gl (aBk rd us h39) ?_
  replace h := AK h
  rcases h with ⟨o17,rfl,h⟩ | ⟨o18,rfl,h⟩
  exact lb h
  replace h := AK h
  rcases h with ⟨o19,rfl,h⟩ | ⟨o20,rfl,h⟩
  exact lb h
  exact lb h) h
theorem aLw (h : Xs a8 aA aN aZ = some bZ) : AL Tryz.prog 117 [.row 0,dI a8,dI aA,dI aN] [rW 0 33 1 dU aZ] (.tup []) [rW 0 33 1 dU bZ] := by
  unfold Xs at h
  refine XG.call (ks := [0]) mixed fun us => ?_
  apply g0 (o := bZ)
  obtain ⟨o21,h40,h⟩ := bS h
  refine gl (aBl none us h40) ?_
  replace h := AK h
  rcases h with ⟨o22,rfl,h⟩ | ⟨o23,rfl,h⟩
  exact lX h (lv [] [0,997])
  exact lX h (lv [] [0,997])
def TN (us : List Value) (s6 s7 : Int) (s8 s9 : Int) (w0 : List Int) : St := ⟨sp 56 0 [rx 0,sI 6 s6,sI 7 s7,sI 8 s8,sI 9 s9],[rW 0 33 1 dU w0,(997,.vals [.row 0] us)],[]⟩
def TO (us : List Value) (s6 s7 s8 : Int) (o : (List Int)) : Ex × St := (.exit 0,⟨sp 56 0 [rx 0,sI 6 s6,sI 7 s7,sI 8 s8],[rW 0 33 1 dU o,(997,.vals [.row 0] us)],[]⟩)
theorem aB1 (rd : Option Nat) (us : List Value) (h : TM a8 aA aN aR aZ = some b6) : Lq 86 rd 122 (TN us a8 aA aN aR aZ) ((TO us a8 aA aN) b6) :=
  lL (fun s : Int × List Int => TN us a8 aA aN s.1 s.2) (TO us a8 aA aN) (aR,aZ) (fun ⟨aR,aZ⟩ o h => by
  unfold Gy at h
  refine iB 19 h (fun h => ?_) fun h => ?_
  obtain ⟨r1,h2,h⟩ := bS h
  refine gG 26 (.cx false [(0,0)] [] (.tup []) [rW 0 33 1 dU r1]) (aLw h2) ?_
  exact lb h
  exact lb h) h
def TQ (us : List Value) (s6 s7 s10 : Int) (w0 : List Int) : St := ⟨sp 56 0 [rx 0,sI 6 s6,sI 7 s7,sI 10 s10],[rW 0 33 1 dU w0,(997,.vals [.row 0] us)],[]⟩
def TR (us : List Value) (s6 s7 : Int) (o : (List Int)) : Ex × St := (.exit 2,⟨sp 56 0 [],[rW 0 33 1 dU o,(997,.vals [.row 0] us)],[]⟩)
theorem aB2 (rd : Option Nat) (us : List Value) (h : TP a8 aA aN aZ = some b6) : Lq 86 rd 126 (TQ us a8 aA aN aZ) ((TR us a8 aA) b6) :=
  lL (fun s : Int × List Int => TQ us a8 aA s.1 s.2) (TR us a8 aA) (aN,aZ) (fun ⟨aN,aZ⟩ o h => by
  unfold Gz at h
  refine iB 30 h (fun h => ?_) fun h => ?_
  obtain ⟨h5,h⟩ := cS h
  refine gQ h5.1 <| gQ (AP dU h5.2) ?_
  obtain ⟨x3,h6,h⟩ := xS h
  refine gG 44 (.el (dU x3)) (AR dU h6) <| gW 10049 (.sl ((aZ.set a8.toNat x3).map dU)) ?_
  obtain ⟨h7,h⟩ := cS h
  refine gQ h7.1 <| gQ (AP dU h7.2) ?_
  obtain ⟨x4,h8,h⟩ := xS h
  refine gG 48 (.el (dU x4)) (AR dU h8) <| gW 10050 (.sl (((aZ.set a8.toNat x3).set (AA .add .i64 a8 aN).toNat x4).map dU)) ?_
  obtain ⟨h9,h⟩ := cS h
  refine gQ h9.1 <| gQ (AP dU h9.2) ?_
  obtain ⟨h10,h⟩ := cS h
  refine gQ (Bt dU h10) <| gQ (Ar dU aZ a8 x3) ?_
  obtain ⟨h11,h⟩ := cS h
  refine gQ h11.1 <| gQ (AP dU h11.2) ?_
  obtain ⟨h12,h⟩ := cS h
  refine gQ (Bt dU h12) <| gQ (Ar dU (aZ.set a8.toNat x3) (AA .add .i64 a8 aN) x4) ?_
  obtain ⟨r5,h13,h⟩ := bS h
  refine gG 55 (.cx false [(0,0)] [] (.tup []) [rW 0 33 1 dU r5]) (aLw h13) ?_
  exact lb h
  exact lb h) h
theorem aQo (h : Xx a8 aA aZ = some bZ) : AL Tryz.prog 86 [.row 0,dI a8,dI aA] [rW 0 33 1 dU aZ] (.tup []) [rW 0 33 1 dU bZ] := by
  unfold Xx at h
  refine XG.call (ks := [0]) mixed fun us => ?_
  apply g0 (o := bZ)
  refine gQ (of_decide_eq_true rfl : (2 : Int) ≠ 0) ?_
  obtain ⟨o2,h3,h⟩ := bS h
  refine gl (aB1 none us h3) ?_
  obtain ⟨o6,h14,h⟩ := bS h
  refine gl (aB2 none us h14) ?_
  exact lX h (lv [] [0,997])
theorem aOx (h : Qo a8 = some aA) : AL Tryz.prog 118 [dI a8] [] (.d (dU aA)) [] := by
  unfold Qo at h
  apply g0 (o := aA)
  obtain ⟨r1,h1,h⟩ := bS h
  refine gC 5 (aLe h1) ?_
  obtain ⟨h2,h⟩ := cS h
  refine gQ h2 ?_
  exact lf h
theorem aOy (h : Qp a8 = some aH) : AL Tryz.prog 119 [.box 0 0] [(0,.cells ([.d (dU a8)]))] (.d (dU aH.1)) [(0,.cells ([.d (dU aH.2)]))] := by
  unfold Qp at h
  refine XG.call (ks := [0]) mixed fun us => ?_
  apply g0 (o := aH)
  refine gQ (of_decide_eq_true rfl : (0 : Int) ≤ 13) <| gQ (of_decide_eq_true rfl : (0 : Int) ≤ 7) <| gQ (of_decide_eq_true rfl : (0 : Int) ≤ 17) ?_
  exact lX h (lv [2] [0,997])
theorem aCa (rd : Option Nat) (us : List Value) (h : TX a8 aA aN aR bB aD aZ bC = some cB) : Lq 87 rd 30501 ⟨sp 65 0 [rx 0,sI 1 a8,sI 6 aA,bx 7,sD 8 dU aN,sI 9 aR,sI 10 bB,sD 43 D.b aD],[rW 0 33 1 dU aZ,(7,.cells ([.d (dU bC)])),(997,.vals [.row 0] us)],[]⟩ (.normal,⟨sp 65 0 [rx 0,sI 1 a8,sI 6 aA,bx 7,sD 8 dU aN,sI 9 aR,sI 10 cB],[rW 0 33 1 dU aZ,(7,.cells ([.d (dU bC)])),(997,.vals [.row 0] us)],[]⟩) := by
  unfold TX at h
  apply g0 (o := cB)
  cases aD
  replace h := B1 h
  exact lp h
  replace h := B2 h
  exact lp h
theorem aB9 (rd : Option Nat) (us : List Value) (h : aB8 a8 aA aN aR aZ bB = some cC) : Lq 87 rd 1906 ⟨sp 65 0 [rx 0,sI 1 a8,sI 6 aA,bx 7,sD 8 dU aN,sI 9 aR],[rW 0 33 1 dU aZ,(7,.cells ([.d (dU bB)])),(997,.vals [.row 0] us)],[]⟩ (.normal,⟨sp 65 0 [rx 0,sI 1 a8,sI 6 aA,bx 7,sD 8 dU aN,sI 9 aR],[rW 0 33 1 dU cC.1,(7,.cells ([.d (dU cC.2)])),(997,.vals [.row 0] us)],[]⟩) := by
  unfold aB8 at h
  apply g0 (o := cC)
  obtain ⟨r2,h4,h⟩ := bS h
  refine gG 36 (.cx false [(0,7)] [] (.d (dU r2.1)) [(0,.cells ([.d (dU r2.2)]))]) (aOy h4) ?_
  obtain ⟨o3,h6,h⟩ := bS h
  refine gl (aCa rd us h6) ?_
  obtain ⟨h7,h⟩ := cS h
  refine gQ h7.1 <| gQ (AP dU h7.2) ?_
  obtain ⟨x4,h8,h⟩ := xS h
  refine gG 58 (.el (dU x4)) (AR dU h8) <| gW 10063 (.sl ((aZ.set aR.toNat x4).map dU)) ?_
  obtain ⟨h9,h⟩ := cS h
  refine gQ h9.1 <| gQ (AP dU h9.2) ?_
  obtain ⟨x5,h10,h⟩ := xS h
  refine gG 62 (.el (dU x5)) (AR dU h10) <| gW 10064 (.sl (((aZ.set aR.toNat x4).set (AA .add .i64 a8 o3).toNat x5).map dU)) ?_
  obtain ⟨h11,h⟩ := cS h
  refine gQ h11.1 <| gQ (AP dU h11.2) ?_
  obtain ⟨h12,h⟩ := cS h
  refine gQ (Bt dU h12) <| gQ (Ar dU aZ aR x4) ?_
  obtain ⟨h13,h⟩ := cS h
  refine gQ h13.1 <| gQ (AP dU h13.2) ?_
  obtain ⟨h14,h⟩ := cS h
  refine gQ (Bt dU h14) <| gQ (Ar dU (aZ.set aR.toNat x4) (AA .add .i64 a8 o3) x5) ?_
  exact lp h
def TZ (us : List Value) (s1 s6 : Int) (s8 s9 : Int) (w0 : List Int) (w7 : Int) : St := ⟨sp 65 0 [rx 0,sI 1 s1,sI 6 s6,bx 7,sD 8 dU s8,sI 9 s9],[rW 0 33 1 dU w0,(7,.cells ([.d (dU w7)])),(997,.vals [.row 0] us)],[]⟩
def Ta (us : List Value) (s1 s6 s8 : Int) (o : (List Int)) : Ex × St := (.exit 0,⟨sp 65 0 [],[rW 0 33 1 dU o,(997,.vals [.row 0] us)],[]⟩)
theorem aCb (rd : Option Nat) (us : List Value) (h : TY a8 aA aN aR aZ bB = some b6) : Lq 87 rd 238 (TZ us a8 aA aN aR aZ bB) ((Ta us a8 aA aN) b6) :=
  lL (fun s : Int × List Int × Int => TZ us a8 aA aN s.1 s.2.1 s.2.2) (Ta us a8 aA aN) (aR,aZ,bB) (fun ⟨aR,aZ,bB⟩ o h => by
  unfold G2 at h
  refine gQ (of_decide_eq_true rfl : (4 : Int) ≠ 0) ?_
  refine iB 33 h (fun h => ?_) fun h => ?_
  obtain ⟨o6,h15,h⟩ := bS h
  refine gl (aB9 rd us h15) ?_
  exact lb h
  exact lb h) h
theorem aB7 (rd : Option Nat) (us : List Value) (h : aB6 a8 aA aD aZ = some b6) : Lq 87 rd 7 ⟨sp 65 0 [rx 0,sI 1 a8,sI 6 aA,sD 15 D.b aD],[rW 0 33 1 dU aZ,(997,.vals [.row 0] us)],[]⟩ (.normal,⟨sp 65 0 [],[rW 0 33 1 dU b6,(997,.vals [.row 0] us)],[]⟩) := by
  unfold aB6 at h
  apply g0 (o := b6)
  cases aD
  replace h := B1 h
  exact lp h
  replace h := B2 h
  obtain ⟨r1,h2,h⟩ := bS h
  refine gC 19 (aOx h2) <| gQ (of_decide_eq_true rfl : (4 : Int) ≠ 0) ?_
  obtain ⟨o7,h16,h⟩ := bS h
  refine gl (aCb rd us h16) ?_
  exact lp h
theorem aQr (h : Xz a8 aA aZ = some bZ) : AL Tryz.prog 87 [.row 0,dI a8,dI aA] [rW 0 33 1 dU aZ] (.tup []) [rW 0 33 1 dU bZ] := by
  unfold Xz at h
  refine XG.call (ks := [0]) mixed fun us => ?_
  apply g0 (o := bZ)
  obtain ⟨o8,h17,h⟩ := bS h
  refine gl (aB7 none us h17) ?_
  exact lX h (lv [] [0,997])
theorem aJo (h : Zx aZ a8 aA aN = some aM) : AL Tryz.prog 135 [.d ((D.l dU) aZ),dI a8,dI aA,.box 0 0] [(0,.cells ([dI aN]))] (.tup [dI aM.1,dI aM.2.1]) [(0,.cells ([dI aM.2.2]))] := by
  unfold Zx at h
  refine XG.call (ks := [3]) mixed fun us => ?_
  apply g0 (o := aM)
  refine xX 12 dU h fun x1 h => ?_
  refine xX 16 dU h fun x2 h => ?_
  obtain ⟨r3,h3,h⟩ := bS h
  refine gQ (DY h3) ?_
  cases r3
  replace h := B1 h
  refine gW 18 (.ret (.d (D.b false))) ?_
  exact lX h (lv [8,9] [0,997])
  replace h := B2 h
  refine gW 18 (.ret (.d (D.b true))) ?_
  exact lX h (lv [8,9] [0,997])
theorem aLf (h : Q9 aZ a8 aA aN aR = some aH) : AL Tryz.prog 121 [.d ((D.l dU) aZ),dI a8,dI aA,dI aN,.box 0 0] [(0,.cells ([dI aR]))] (dI aH.1) [(0,.cells ([dI aH.2]))] := by
  unfold Q9 at h
  refine XG.call (ks := [4]) mixed fun us => ?_
  apply g0 (o := aH)
  obtain ⟨r1,h1,h⟩ := bS h
  refine gG 16 (.cx false [(0,0)] [] (.tup [dI r1.1,dI r1.2.1]) [(0,.cells ([dI r1.2.2]))]) (aJo h1) ?_
  obtain ⟨r2,h2,h⟩ := bS h
  refine gG 24 (.cx false [(0,0)] [] (.tup [dI r2.1,dI r2.2.1]) [(0,.cells ([dI r2.2.2]))]) (aJo h2) ?_
  obtain ⟨r3,h3,h⟩ := bS h
  refine gG 32 (.cx false [(0,0)] [] (.tup [dI r3.1,dI r3.2.1]) [(0,.cells ([dI r3.2.2]))]) (aJo h3) ?_
  exact lX h (lv [10] [0,997])
theorem aJp (h : Zy aZ a8 aA = some aH) : AL Tryz.prog 120 [.d ((D.l dU) aZ),dI a8,.box 0 0] [(0,.cells ([dI aA]))] (dI aH.1) [(0,.cells ([dI aH.2]))] := by
  unfold Zy at h
  refine XG.call (ks := [2]) mixed fun us => ?_
  apply g0 (o := aH)
  obtain ⟨r1,h1,h⟩ := bS h
  refine gG 14 (.cx false [(0,0)] [] (dI r1.1) [(0,.cells ([dI r1.2]))]) (aLf h1) ?_
  exact lX h (lv [6] [0,997])
theorem aE1 (rd : Option Nat) (h : VL aZ a8 aA aN aD aR = some cD) : Lq 88 rd 4073 ⟨sp 57 0 [sD 0 (D.l dU) aZ,bx 9,sI 10 a8,sI 11 aA,sI 12 aN,sD 34 D.b aD],[(9,.cells ([dI aR]))],[]⟩ (.normal,⟨sp 57 0 [sD 0 (D.l dU) aZ,bx 9,sI 10 cD.1,sI 11 cD.2.1,sI 12 cD.2.2.1],[(9,.cells ([dI cD.2.2.2]))],[]⟩) := by
  unfold VL at h
  apply g0 (o := cD)
  cases aD
  replace h := B1 h
  exact lp h
  replace h := B2 h
  obtain ⟨r1,h3,h⟩ := bS h
  refine gG 37 (.cx false [(0,9)] [] (dI r1.1) [(0,.cells ([dI r1.2]))]) (aJp h3) ?_
  obtain ⟨r2,h4,h⟩ := bS h
  refine gG 40 (.cx false [(0,9)] [] (dI r2.1) [(0,.cells ([dI r2.2]))]) (aJp h4) ?_
  obtain ⟨r3,h5,h⟩ := bS h
  refine gG 43 (.cx false [(0,9)] [] (dI r3.1) [(0,.cells ([dI r3.2]))]) (aJp h5) ?_
  exact lp h
theorem aE0 (rd : Option Nat) (h : aEz aZ a8 aA aN aR aD bB = some bH) : Lq 88 rd 509 ⟨sp 57 0 [sD 0 (D.l dU) aZ,sI 8 a8,bx 9,sI 10 aA,sI 11 aN,sI 12 aR,sD 32 D.b aD],[(9,.cells ([dI bB]))],[]⟩ (.normal,⟨sp 57 0 [bx 9,sI 11 bH.1],[(9,.cells ([dI bH.2]))],[]⟩) := by
  unfold aEz at h
  apply g0 (o := bH)
  cases aD
  replace h := B1 h
  exact lp h
  replace h := B2 h
  obtain ⟨o4,h6,h⟩ := bS h
  refine gl (aE1 rd h6) ?_
  obtain ⟨r5,h7,h⟩ := bS h
  refine gG 48 (.cx false [(0,9)] [] (dI r5.1) [(0,.cells ([dI r5.2]))]) (aLf h7) ?_
  exact lp h
theorem aR8 (h : Zg aZ a8 aA = some aH) : AL Tryz.prog 88 [.d ((D.l dU) aZ),dI a8,dI aA] [] (.tup [dI aH.1,dI aH.2]) [] := by
  unfold Zg at h
  apply g0 (o := aH)
  refine gQ (of_decide_eq_true rfl : (4 : Int) ≠ 0) <| gQ (of_decide_eq_true rfl : (4 : Int) ≠ 0) <| gQ (of_decide_eq_true rfl : (4 : Int) ≠ 0) ?_
  obtain ⟨o6,h8,h⟩ := bS h
  refine gl (aE0 none h8) ?_
  refine iB 51 h (fun h => ?_) fun h => ?_
  exact lf h
  refine iB 54 h (fun h => ?_) fun h => ?_
  exact lf h
  exact lf h
def Ud (us : List Value) (s6 s7 : Int) (w0 : List Int) : St := ⟨sp 32 0 [rx 0,sI 6 s6,sI 7 s7],[rW 0 33 1 dU w0,(997,.vals [.row 0] us)],[]⟩
def Ue (us : List Value) (o : (List Int)) : Ex × St := (.exit 0,⟨sp 32 0 [],[rW 0 33 1 dU o,(997,.vals [.row 0] us)],[]⟩)
theorem aEe (rd : Option Nat) (us : List Value) (h : Uc a8 aA aZ = some b6) : Lq 89 rd 14 (Ud us a8 aA aZ) ((Ue us) b6) :=
  lL (fun s : Int × Int × List Int => Ud us s.1 s.2.1 s.2.2) (Ue us) (a8,aA,aZ) (fun ⟨a8,aA,aZ⟩ o h => by
  unfold JR at h
  refine iB 13 h (fun h => ?_) fun h => ?_
  obtain ⟨h2,h⟩ := cS h
  refine gQ h2.1 <| gQ (AP dU h2.2) ?_
  obtain ⟨x1,h3,h⟩ := xS h
  refine gG 21 (.el (dU x1)) (AR dU h3) <| gW 10026 (.sl ((aZ.set a8.toNat x1).map dU)) ?_
  obtain ⟨h4,h⟩ := cS h
  refine gQ h4.1 <| gQ (AP dU h4.2) ?_
  obtain ⟨x2,h5,h⟩ := xS h
  refine gG 25 (.el (dU x2)) (AR dU h5) <| gW 10027 (.sl (((aZ.set a8.toNat x1).set aA.toNat x2).map dU)) ?_
  obtain ⟨h6,h⟩ := cS h
  refine gQ h6.1 <| gQ (AP dU h6.2) ?_
  obtain ⟨h7,h⟩ := cS h
  refine gQ (Bt dU h7) <| gQ (Ar dU aZ a8 x1) ?_
  obtain ⟨h8,h⟩ := cS h
  refine gQ h8.1 <| gQ (AP dU h8.2) ?_
  obtain ⟨h9,h⟩ := cS h
  refine gQ (Bt dU h9) <| gQ (Ar dU (aZ.set a8.toNat x1) aA x2) ?_
  exact lb h
  exact lb h) h
theorem aRj (h : Yv a8 aA aZ = some bZ) : AL Tryz.prog 89 [.row 0,dI a8,dI aA] [rW 0 33 1 dU aZ] (.tup []) [rW 0 33 1 dU bZ] := by
  unfold Yv at h
  refine XG.call (ks := [0]) mixed fun us => ?_
  apply g0 (o := bZ)
  obtain ⟨o3,h10,h⟩ := bS h
  refine gl (aEe none us h10) ?_
  exact lX h (lv [] [0,997])
def QX (us : List Value) (s1 s2 s8 : Int) (w0 : List Int) (s7 : Int) : St := ⟨sp 133 0 [rx 0,sI 1 s1,sI 2 s2,sI 7 s7,sI 8 s8],[rW 0 33 1 dU w0,(997,.vals [.row 0] us)],[]⟩
def QY (us : List Value) (s1 s2 s8 : Int) (w0 : List Int) (o : Int) : Ex × St := (.exit 2,⟨sp 133 0 [rx 0,sI 1 s1,sI 2 s2,sI 7 o,sI 8 s8],[rW 0 33 1 dU w0,(997,.vals [.row 0] us)],[]⟩)
theorem YP (rd : Option Nat) (us : List Value) (h : QW a8 aA aN aZ aR = some bB) : Lq 90 rd 3728 (QX us a8 aA aN aZ aR) ((QY us a8 aA aN aZ) bB) :=
  lL (fun s : Int => QX us a8 aA aN aZ s) (QY us a8 aA aN aZ) aR (fun aR o h => by
  unfold GR at h
  refine iB 20 h (fun h => ?_) fun h => ?_
  obtain ⟨h3,h⟩ := cS h
  refine gQ h3.1 <| gQ (AP dU h3.2) ?_
  obtain ⟨x1,h4,h⟩ := xS h
  refine gG 24 (.el (dU x1)) (AR dU h4) ?_
  obtain ⟨h5,h⟩ := cS h
  refine gQ h5.1 <| gQ (AP dU h5.2) ?_
  obtain ⟨x2,h6,h⟩ := xS h
  refine gG 29 (.el (dU x2)) (AR dU h6) ?_
  obtain ⟨r3,h7,h⟩ := bS h
  refine gC 30 (DY h7) ?_
  refine iB 32 h (fun h => ?_) fun h => ?_
  exact lb h
  exact lb h
  exact lb h) h
def RC (us : List Value) (s1 s2 : Int) (s7 s8 s9 : Int) (w0 : List Int) : St := ⟨sp 133 0 [rx 0,sI 1 s1,sI 2 s2,sI 7 s7,sI 8 s8,sI 9 s9],[rW 0 33 1 dU w0,(997,.vals [.row 0] us)],[]⟩
def RE (us : List Value) (s1 s2 : Int) (s7 s8 : Int) (o : (List Int)) : Ex × St := (.exit 4,⟨sp 133 0 [rx 0,sI 1 s1,sI 2 s2,sI 7 s7,sI 8 s8],[rW 0 33 1 dU o,(997,.vals [.row 0] us)],[]⟩)
theorem YQ (rd : Option Nat) (us : List Value) (h : QZ a8 aA aN aR bB aZ = some b6) : Lq 90 rd 477674 (RC us a8 aA aN aR bB aZ) ((RE us a8 aA aN aR) b6) :=
  lL (fun s : Int × List Int => RC us a8 aA aN aR s.1 s.2) (RE us a8 aA aN aR) (bB,aZ) (fun ⟨bB,aZ⟩ o h => by
  unfold GS at h
  refine iB 65 h (fun h => ?_) fun h => ?_
  obtain ⟨h22,h⟩ := cS h
  refine gQ h22.1 <| gQ (AP dU h22.2) ?_
  obtain ⟨x7,h23,h⟩ := xS h
  refine gG 71 (.el (dU x7)) (AR dU h23) ?_
  obtain ⟨h24,h⟩ := cS h
  refine gQ h24.1 <| gQ (AP dU h24.2) ?_
  obtain ⟨x8,h25,h⟩ := xS h
  refine gG 76 (.el (dU x8)) (AR dU h25) ?_
  obtain ⟨r9,h26,h⟩ := bS h
  refine gC 77 (DY h26) ?_
  refine iB 78 h (fun h => ?_) fun h => ?_
  exact lb h
  obtain ⟨h28,h⟩ := cS h
  refine gQ h28.1 <| gQ (AP dU h28.2) ?_
  obtain ⟨x10,h29,h⟩ := xS h
  refine gG 88 (.el (dU x10)) (AR dU h29) <| gW 10093 (.sl ((aZ.set bB.toNat x10).map dU)) ?_
  obtain ⟨h30,h⟩ := cS h
  refine gQ h30.1 <| gQ (AP dU h30.2) ?_
  obtain ⟨x11,h31,h⟩ := xS h
  refine gG 92 (.el (dU x11)) (AR dU h31) <| gW 10094 (.sl (((aZ.set bB.toNat x10).set (AA .sub .i64 bB 1).toNat x11).map dU)) ?_
  obtain ⟨h32,h⟩ := cS h
  refine gQ h32.1 <| gQ (AP dU h32.2) ?_
  obtain ⟨h33,h⟩ := cS h
  refine gQ (Bt dU h33) <| gQ (Ar dU aZ bB x10) ?_
  obtain ⟨h34,h⟩ := cS h
  refine gQ h34.1 <| gQ (AP dU h34.2) ?_
  obtain ⟨h35,h⟩ := cS h
  refine gQ (Bt dU h35) <| gQ (Ar dU (aZ.set bB.toNat x10) (AA .sub .i64 bB 1) x11) ?_
  exact lb h
  exact lb h) h
theorem YM (rd : Option Nat) (us : List Value) (h : QS a8 aA aN aR aD aZ = some b6) : Lq 90 rd 59709 ⟨sp 133 0 [rx 0,sI 1 a8,sI 2 aA,sI 7 aN,sI 8 aR,sD 61 D.b aD],[rW 0 33 1 dU aZ,(997,.vals [.row 0] us)],[]⟩ (.normal,⟨sp 133 0 [rx 0,sI 1 a8,sI 2 aA,sI 7 aN,sI 8 aR],[rW 0 33 1 dU b6,(997,.vals [.row 0] us)],[]⟩) := by
  unfold QS at h
  apply g0 (o := b6)
  cases aD
  replace h := B1 h
  exact lp h
  replace h := B2 h
  obtain ⟨o12,h36,h⟩ := bS h
  refine gl (YQ rd us h36) ?_
  exact lp h
def RG (us : List Value) (s1 s2 : Int) (s7 s8 s10 : Int) (w0 : List Int) : St := ⟨sp 133 0 [rx 0,sI 1 s1,sI 2 s2,sI 7 s7,sI 8 s8,sI 10 s10],[rW 0 33 1 dU w0,(997,.vals [.row 0] us)],[]⟩
def RH (us : List Value) (s1 s2 : Int) (s7 s8 : Int) (o : (List Int)) : Ex × St := (.exit 6,⟨sp 133 0 [rx 0,sI 1 s1,sI 2 s2,sI 7 s7,sI 8 s8],[rW 0 33 1 dU o,(997,.vals [.row 0] us)],[]⟩)
theorem YR (rd : Option Nat) (us : List Value) (h : RF a8 aA aN aR bB aZ = some b6) : Lq 90 rd 477690 (RG us a8 aA aN aR bB aZ) ((RH us a8 aA aN aR) b6) :=
  lL (fun s : Int × List Int => RG us a8 aA aN aR s.1 s.2) (RH us a8 aA aN aR) (bB,aZ) (fun ⟨bB,aZ⟩ o h => by
  unfold GT at h
  refine iB 103 h (fun h => ?_) fun h => ?_
  obtain ⟨h40,h⟩ := cS h
  refine gQ h40.1 <| gQ (AP dU h40.2) ?_
  obtain ⟨x14,h41,h⟩ := xS h
  refine gG 109 (.el (dU x14)) (AR dU h41) ?_
  obtain ⟨h42,h⟩ := cS h
  refine gQ h42.1 <| gQ (AP dU h42.2) ?_
  obtain ⟨x15,h43,h⟩ := xS h
  refine gG 114 (.el (dU x15)) (AR dU h43) ?_
  obtain ⟨r16,h44,h⟩ := bS h
  refine gC 115 (DY h44) ?_
  refine iB 116 h (fun h => ?_) fun h => ?_
  exact lb h
  obtain ⟨h46,h⟩ := cS h
  refine gQ h46.1 <| gQ (AP dU h46.2) ?_
  obtain ⟨x17,h47,h⟩ := xS h
  refine gG 126 (.el (dU x17)) (AR dU h47) <| gW 10131 (.sl ((aZ.set bB.toNat x17).map dU)) ?_
  obtain ⟨h48,h⟩ := cS h
  refine gQ h48.1 <| gQ (AP dU h48.2) ?_
  obtain ⟨x18,h49,h⟩ := xS h
  refine gG 130 (.el (dU x18)) (AR dU h49) <| gW 10132 (.sl (((aZ.set bB.toNat x17).set (AA .sub .i64 bB 1).toNat x18).map dU)) ?_
  obtain ⟨h50,h⟩ := cS h
  refine gQ h50.1 <| gQ (AP dU h50.2) ?_
  obtain ⟨h51,h⟩ := cS h
  refine gQ (Bt dU h51) <| gQ (Ar dU aZ bB x17) ?_
  obtain ⟨h52,h⟩ := cS h
  refine gQ h52.1 <| gQ (AP dU h52.2) ?_
  obtain ⟨h53,h⟩ := cS h
  refine gQ (Bt dU h53) <| gQ (Ar dU (aZ.set bB.toNat x17) (AA .sub .i64 bB 1) x18) ?_
  exact lb h
  exact lb h) h
theorem YN (rd : Option Nat) (us : List Value) (h : QT a8 aA aN aR aD aZ = some b6) : Lq 90 rd 59711 ⟨sp 133 0 [rx 0,sI 1 a8,sI 2 aA,sI 7 aN,sI 8 aR,sD 98 D.b aD],[rW 0 33 1 dU aZ,(997,.vals [.row 0] us)],[]⟩ (.normal,⟨sp 133 0 [rx 0,sI 1 a8,sI 2 aA,sI 7 aN,sI 8 aR],[rW 0 33 1 dU b6,(997,.vals [.row 0] us)],[]⟩) := by
  unfold QT at h
  apply g0 (o := b6)
  cases aD
  replace h := B1 h
  exact lp h
  replace h := B2 h
  obtain ⟨o19,h54,h⟩ := bS h
  refine gl (YR rd us h54) ?_
  exact lp h
theorem YL (rd : Option Nat) (us : List Value) (h : YK a8 aA aN aR aZ = some cE) : Lq 90 rd 466 ⟨sp 133 0 [rx 0,sI 1 a8,sI 2 aA,sI 7 aN,sI 8 aR],[rW 0 33 1 dU aZ,(997,.vals [.row 0] us)],[]⟩ (match (generalizing := false) cE with
  | .inl cE => (.normal,⟨sp 133 0 [rx 0,sI 1 a8,sI 2 aA,sI 7 cE.1,sI 8 aR],[rW 0 33 1 dU cE.2,(997,.vals [.row 0] us)],[]⟩)
  | .inr cE => (.ret,⟨sp 133 0 [sD 6 D.b cE],[rW 0 33 1 dU aZ,(997,.vals [.row 0] us)],[]⟩)) := by
  unfold YK at h
  apply g0 (o := cE)
  obtain ⟨o4,h9,h⟩ := bS h
  refine gl (YP rd us h9) ?_
  refine iB 37 h (fun h => ?_) fun h => ?_
  exact lp h
  refine iB 41 h (fun h => ?_) fun h => ?_
  exact lp h
  obtain ⟨h12,h⟩ := cS h
  refine gQ h12.1 <| gQ (AP dU h12.2) ?_
  obtain ⟨x5,h13,h⟩ := xS h
  refine gG 51 (.el (dU x5)) (AR dU h13) <| gW 10056 (.sl ((aZ.set o4.toNat x5).map dU)) ?_
  obtain ⟨h14,h⟩ := cS h
  refine gQ h14.1 <| gQ (AP dU h14.2) ?_
  obtain ⟨x6,h15,h⟩ := xS h
  refine gG 55 (.el (dU x6)) (AR dU h15) <| gW 10057 (.sl (((aZ.set o4.toNat x5).set (AA .sub .i64 o4 1).toNat x6).map dU)) ?_
  obtain ⟨h16,h⟩ := cS h
  refine gQ h16.1 <| gQ (AP dU h16.2) ?_
  obtain ⟨h17,h⟩ := cS h
  refine gQ (Bt dU h17) <| gQ (Ar dU aZ o4 x5) ?_
  obtain ⟨h18,h⟩ := cS h
  refine gQ h18.1 <| gQ (AP dU h18.2) ?_
  obtain ⟨h19,h⟩ := cS h
  refine gQ (Bt dU h19) <| gQ (Ar dU (aZ.set o4.toNat x5) (AA .sub .i64 o4 1) x6) ?_
  obtain ⟨o13,h37,h⟩ := bS h
  refine gl (YM rd us h37) ?_
  obtain ⟨o20,h55,h⟩ := bS h
  refine gl (YN rd us h55) ?_
  exact lp h
def QU (us : List Value) (s1 s2 : Int) (s7 s8 : Int) (w0 : List Int) : St := ⟨sp 133 0 [rx 0,sI 1 s1,sI 2 s2,sI 7 s7,sI 8 s8],[rW 0 33 1 dU w0,(997,.vals [.row 0] us)],[]⟩
def QV (us : List Value) (s1 s2 : Int) (o : (List Int) ⊕ (Bool × List Int)) : Ex × St := match o with
  | .inl o => (.exit 0,⟨sp 133 0 [],[rW 0 33 1 dU o,(997,.vals [.row 0] us)],[]⟩)
  | .inr o => (.ret,⟨sp 133 0 [sD 6 D.b o.1],[rW 0 33 1 dU o.2,(997,.vals [.row 0] us)],[]⟩)
theorem YO (rd : Option Nat) (us : List Value) (h : Og a8 aA aN aR aZ = some cF) : Lq 90 rd 58 (QU us a8 aA aN aR aZ) ((QV us a8 aA) cF) :=
  lL (fun s : Int × Int × List Int => QU us a8 aA s.1 s.2.1 s.2.2) (QV us a8 aA) (aN,aR,aZ) (fun ⟨aN,aR,aZ⟩ o h => by
  unfold GQ at h
  refine iB 14 h (fun h => ?_) fun h => ?_
  obtain ⟨o21,h56,h⟩ := bS h
  refine gl (YL rd us h56) ?_
  replace h := AK h
  rcases h with ⟨o22,rfl,h⟩ | ⟨o23,rfl,h⟩
  exact lb h
  exact lb h
  exact lb h) h
theorem aPp (h : X9 a8 aA aZ = some cG) : AL Tryz.prog 90 [.row 0,dI a8,dI aA] [rW 0 33 1 dU aZ] (.d (D.b cG.1)) [rW 0 33 1 dU cG.2] := by
  unfold X9 at h
  refine XG.call (ks := [0]) mixed fun us => ?_
  apply g0 (o := cG)
  obtain ⟨o24,h57,h⟩ := bS h
  refine gl (YO none us h57) ?_
  replace h := AK h
  rcases h with ⟨o25,rfl,h⟩ | ⟨o26,rfl,h⟩
  exact lX h (lv [6] [0,997])
  exact lX h (lv [6] [0,997])
def SF (us : List Value) (s1 s10 : Int) (w0 : List Int) (s9 : Int) : St := ⟨sp 84 0 [rx 0,sI 1 s1,sI 9 s9,sI 10 s10],[rW 0 33 1 dU w0,(997,.vals [.row 0] us)],[]⟩
def SG (us : List Value) (s1 s10 : Int) (w0 : List Int) (o : Int) : Ex × St := (.exit 2,⟨sp 84 0 [rx 0,sI 1 s1,sI 9 o,sI 10 s10],[rW 0 33 1 dU w0,(997,.vals [.row 0] us)],[]⟩)
theorem aAi (rd : Option Nat) (us : List Value) (h : SE a8 aA aZ aN = some aR) : Lq 92 rd 960 (SF us a8 aA aZ aN) ((SG us a8 aA aZ) aR) :=
  lL (fun s : Int => SF us a8 aA aZ s) (SG us a8 aA aZ) aN (fun aN o h => by
  unfold Gg at h
  refine iB 32 h (fun h => ?_) fun h => ?_
  obtain ⟨h10,h⟩ := cS h
  refine gQ h10.1 <| gQ (AP dU h10.2) ?_
  obtain ⟨x3,h11,h⟩ := xS h
  refine gG 36 (.el (dU x3)) (AR dU h11) ?_
  obtain ⟨h12,h⟩ := cS h
  refine gQ h12.1 <| gQ (AP dU h12.2) ?_
  obtain ⟨x4,h13,h⟩ := xS h
  refine gG 40 (.el (dU x4)) (AR dU h13) ?_
  obtain ⟨r5,h14,h⟩ := bS h
  refine gC 41 (DY h14) ?_
  refine iB 43 h (fun h => ?_) fun h => ?_
  exact lb h
  exact lb h
  exact lb h) h
def SI (us : List Value) (s1 s9 : Int) (w0 : List Int) (s10 : Int) : St := ⟨sp 84 0 [rx 0,sI 1 s1,sI 9 s9,sI 10 s10],[rW 0 33 1 dU w0,(997,.vals [.row 0] us)],[]⟩
def SJ (us : List Value) (s1 s9 : Int) (w0 : List Int) (o : Int) : Ex × St := (.exit 4,⟨sp 84 0 [rx 0,sI 1 s1,sI 9 s9,sI 10 o],[rW 0 33 1 dU w0,(997,.vals [.row 0] us)],[]⟩)
theorem aAj (rd : Option Nat) (us : List Value) (h : SH a8 aA aZ aN = some aR) : Lq 92 rd 1924 (SI us a8 aA aZ aN) ((SJ us a8 aA aZ) aR) :=
  lL (fun s : Int => SI us a8 aA aZ s) (SJ us a8 aA aZ) aN (fun aN o h => by
  unfold Gh at h
  refine iB 49 h (fun h => ?_) fun h => ?_
  obtain ⟨h18,h⟩ := cS h
  refine gQ h18.1 <| gQ (AP dU h18.2) ?_
  obtain ⟨x7,h19,h⟩ := xS h
  refine gG 53 (.el (dU x7)) (AR dU h19) ?_
  obtain ⟨h20,h⟩ := cS h
  refine gQ h20.1 <| gQ (AP dU h20.2) ?_
  obtain ⟨x8,h21,h⟩ := xS h
  refine gG 57 (.el (dU x8)) (AR dU h21) ?_
  obtain ⟨r9,h22,h⟩ := bS h
  refine gQ (DY h22) ?_
  cases r9
  replace h := B1 h
  refine gW 58 (.ret (.d (D.b false))) ?_
  exact lb h
  replace h := B2 h
  refine gW 58 (.ret (.d (D.b true))) ?_
  exact lb h
  exact lb h) h
def SC (us : List Value) (s1 s9 s10 : Int) (w0 : List Int) : St := ⟨sp 84 0 [rx 0,sI 1 s1,sI 9 s9,sI 10 s10],[rW 0 33 1 dU w0,(997,.vals [.row 0] us)],[]⟩
def SD (us : List Value) (s1 : Int) (o : (Int × List Int)) : Ex × St := (.exit 0,⟨sp 84 0 [sI 9 o.1],[rW 0 33 1 dU o.2,(997,.vals [.row 0] us)],[]⟩)
theorem aAh (rd : Option Nat) (us : List Value) (h : SB a8 aA aN aZ = some cH) : Lq 92 rd 60 (SC us a8 aA aN aZ) ((SD us a8) cH) :=
  lL (fun s : Int × Int × List Int => SC us a8 s.1 s.2.1 s.2.2) (SD us a8) (aA,aN,aZ) (fun ⟨aA,aN,aZ⟩ o h => by
  unfold JK at h
  obtain ⟨o6,h16,h⟩ := bS h
  refine gl (aAi rd us h16) ?_
  obtain ⟨o10,h24,h⟩ := bS h
  refine gl (aAj rd us h24) ?_
  refine iB 64 h (fun h => ?_) fun h => ?_
  exact lb h
  obtain ⟨h26,h⟩ := cS h
  refine gQ h26.1 <| gQ (AP dU h26.2) ?_
  obtain ⟨x11,h27,h⟩ := xS h
  refine gG 72 (.el (dU x11)) (AR dU h27) <| gW 10077 (.sl ((aZ.set o6.toNat x11).map dU)) ?_
  obtain ⟨h28,h⟩ := cS h
  refine gQ h28.1 <| gQ (AP dU h28.2) ?_
  obtain ⟨x12,h29,h⟩ := xS h
  refine gG 76 (.el (dU x12)) (AR dU h29) <| gW 10078 (.sl (((aZ.set o6.toNat x11).set o10.toNat x12).map dU)) ?_
  obtain ⟨h30,h⟩ := cS h
  refine gQ h30.1 <| gQ (AP dU h30.2) ?_
  obtain ⟨h31,h⟩ := cS h
  refine gQ (Bt dU h31) <| gQ (Ar dU aZ o6 x11) ?_
  obtain ⟨h32,h⟩ := cS h
  refine gQ h32.1 <| gQ (AP dU h32.2) ?_
  obtain ⟨h33,h⟩ := cS h
  refine gQ (Bt dU h33) <| gQ (Ar dU (aZ.set o6.toNat x11) o10 x12) ?_
  exact lb h) h
theorem aIi (h : Xi a8 aA aN aZ = some cI) : AL Tryz.prog 92 [.row 0,dI a8,dI aA,dI aN] [rW 0 33 1 dU aZ] (dI cI.1) [rW 0 33 1 dU cI.2] := by
  unfold Xi at h
  refine XG.call (ks := [0]) mixed fun us => ?_
  apply g0 (o := cI)
  obtain ⟨h1,h⟩ := cS h
  refine gQ h1.1 <| gQ (AP dU h1.2) ?_
  obtain ⟨x1,h2,h⟩ := xS h
  refine gG 18 (.el (dU x1)) (AR dU h2) <| gW 10023 (.sl ((aZ.set a8.toNat x1).map dU)) ?_
  obtain ⟨h3,h⟩ := cS h
  refine gQ h3.1 <| gQ (AP dU h3.2) ?_
  obtain ⟨x2,h4,h⟩ := xS h
  refine gG 22 (.el (dU x2)) (AR dU h4) <| gW 10024 (.sl (((aZ.set a8.toNat x1).set aN.toNat x2).map dU)) ?_
  obtain ⟨h5,h⟩ := cS h
  refine gQ h5.1 <| gQ (AP dU h5.2) ?_
  obtain ⟨h6,h⟩ := cS h
  refine gQ (Bt dU h6) <| gQ (Ar dU aZ a8 x1) ?_
  obtain ⟨h7,h⟩ := cS h
  refine gQ h7.1 <| gQ (AP dU h7.2) ?_
  obtain ⟨h8,h⟩ := cS h
  refine gQ (Bt dU h8) <| gQ (Ar dU (aZ.set a8.toNat x1) aN x2) ?_
  obtain ⟨o13,h34,h⟩ := bS h
  refine gl (aAh none us h34) ?_
  exact lX h (lv [8] [0,997])
def RI (us : List Value) (s1 s11 : Int) (w0 : List Int) (s10 : Int) : St := ⟨sp 168 0 [rx 0,sI 1 s1,sI 10 s10,sI 11 s11],[rW 0 33 1 dU w0,(997,.vals [.row 0] us)],[]⟩
def RJ (us : List Value) (s1 s11 : Int) (w0 : List Int) (o : Int) : Ex × St := (.exit 0,⟨sp 168 0 [rx 0,sI 1 s1,sI 10 o,sI 11 s11],[rW 0 33 1 dU w0,(997,.vals [.row 0] us)],[]⟩)
theorem YS (rd : Option Nat) (us : List Value) (h : Oh a8 aA aZ aN = some aR) : Lq 93 rd 60 (RI us a8 aA aZ aN) ((RJ us a8 aA aZ) aR) :=
  lL (fun s : Int => RI us a8 aA aZ s) (RJ us a8 aA aZ) aN (fun aN o h => by
  unfold GU at h
  refine iB 33 h (fun h => ?_) fun h => ?_
  obtain ⟨h10,h⟩ := cS h
  refine gQ h10.1 <| gQ (AP dU h10.2) ?_
  obtain ⟨x3,h11,h⟩ := xS h
  refine gG 37 (.el (dU x3)) (AR dU h11) ?_
  obtain ⟨h12,h⟩ := cS h
  refine gQ h12.1 <| gQ (AP dU h12.2) ?_
  obtain ⟨x4,h13,h⟩ := xS h
  refine gG 41 (.el (dU x4)) (AR dU h13) ?_
  obtain ⟨r5,h14,h⟩ := bS h
  refine gQ (DY h14) ?_
  cases r5
  replace h := B1 h
  refine gW 42 (.ret (.d (D.b false))) ?_
  exact lb h
  replace h := B2 h
  refine gW 42 (.ret (.d (D.b true))) ?_
  exact lb h
  exact lb h) h
def RK (us : List Value) (s1 s10 : Int) (w0 : List Int) (s11 : Int) : St := ⟨sp 168 0 [rx 0,sI 1 s1,sI 10 s10,sI 11 s11],[rW 0 33 1 dU w0,(997,.vals [.row 0] us)],[]⟩
def RL (us : List Value) (s1 s10 : Int) (w0 : List Int) (o : Int) : Ex × St := (.exit 2,⟨sp 168 0 [rx 0,sI 1 s1,sI 10 s10,sI 11 o],[rW 0 33 1 dU w0,(997,.vals [.row 0] us)],[]⟩)
theorem YT (rd : Option Nat) (us : List Value) (h : Oi a8 aA aZ aN = some aR) : Lq 93 rd 124 (RK us a8 aA aZ aN) ((RL us a8 aA aZ) aR) :=
  lL (fun s : Int => RK us a8 aA aZ s) (RL us a8 aA aZ) aN (fun aN o h => by
  unfold GV at h
  refine iB 49 h (fun h => ?_) fun h => ?_
  obtain ⟨h18,h⟩ := cS h
  refine gQ h18.1 <| gQ (AP dU h18.2) ?_
  obtain ⟨x7,h19,h⟩ := xS h
  refine gG 53 (.el (dU x7)) (AR dU h19) ?_
  obtain ⟨h20,h⟩ := cS h
  refine gQ h20.1 <| gQ (AP dU h20.2) ?_
  obtain ⟨x8,h21,h⟩ := xS h
  refine gG 57 (.el (dU x8)) (AR dU h21) ?_
  obtain ⟨r9,h22,h⟩ := bS h
  refine gC 58 (DY h22) ?_
  refine iB 60 h (fun h => ?_) fun h => ?_
  exact lb h
  exact lb h
  exact lb h) h
def RQ (us : List Value) (s1 s11 : Int) (w0 : List Int) (s10 : Int) : St := ⟨sp 168 0 [rx 0,sI 1 s1,sI 10 s10,sI 11 s11],[rW 0 33 1 dU w0,(997,.vals [.row 0] us)],[]⟩
def RR (us : List Value) (s1 s11 : Int) (w0 : List Int) (o : Int) : Ex × St := (.exit 6,⟨sp 168 0 [rx 0,sI 1 s1,sI 10 o,sI 11 s11],[rW 0 33 1 dU w0,(997,.vals [.row 0] us)],[]⟩)
theorem YW (rd : Option Nat) (us : List Value) (h : aH8 a8 aA aZ aN = some aR) : Lq 93 rd 65472 (RQ us a8 aA aZ aN) ((RR us a8 aA aZ) aR) :=
  lL (fun s : Int => RQ us a8 aA aZ s) (RR us a8 aA aZ) aN (fun aN o h => by
  unfold RT at h
  refine iB 102 h (fun h => ?_) fun h => ?_
  obtain ⟨h43,h⟩ := cS h
  refine gQ h43.1 <| gQ (AP dU h43.2) ?_
  obtain ⟨x15,h44,h⟩ := xS h
  refine gG 106 (.el (dU x15)) (AR dU h44) ?_
  obtain ⟨h45,h⟩ := cS h
  refine gQ h45.1 <| gQ (AP dU h45.2) ?_
  obtain ⟨x16,h46,h⟩ := xS h
  refine gG 110 (.el (dU x16)) (AR dU h46) ?_
  obtain ⟨r17,h47,h⟩ := bS h
  refine gQ (DY h47) ?_
  cases r17
  replace h := B1 h
  refine gW 111 (.ret (.d (D.b false))) ?_
  exact lb h
  replace h := B2 h
  refine gW 111 (.ret (.d (D.b true))) ?_
  exact lb h
  exact lb h) h
def RU (us : List Value) (s1 s10 : Int) (w0 : List Int) (s11 : Int) : St := ⟨sp 168 0 [rx 0,sI 1 s1,sI 10 s10,sI 11 s11],[rW 0 33 1 dU w0,(997,.vals [.row 0] us)],[]⟩
def RV (us : List Value) (s1 s10 : Int) (w0 : List Int) (o : Int) : Ex × St := (.exit 8,⟨sp 168 0 [rx 0,sI 1 s1,sI 10 s10,sI 11 o],[rW 0 33 1 dU w0,(997,.vals [.row 0] us)],[]⟩)
theorem YX (rd : Option Nat) (us : List Value) (h : aH9 a8 aA aZ aN = some aR) : Lq 93 rd 130948 (RU us a8 aA aZ aN) ((RV us a8 aA aZ) aR) :=
  lL (fun s : Int => RU us a8 aA aZ s) (RV us a8 aA aZ) aN (fun aN o h => by
  unfold RW at h
  refine iB 118 h (fun h => ?_) fun h => ?_
  obtain ⟨h51,h⟩ := cS h
  refine gQ h51.1 <| gQ (AP dU h51.2) ?_
  obtain ⟨x19,h52,h⟩ := xS h
  refine gG 122 (.el (dU x19)) (AR dU h52) ?_
  obtain ⟨h53,h⟩ := cS h
  refine gQ h53.1 <| gQ (AP dU h53.2) ?_
  obtain ⟨x20,h54,h⟩ := xS h
  refine gG 126 (.el (dU x20)) (AR dU h54) ?_
  obtain ⟨r21,h55,h⟩ := bS h
  refine gC 127 (DY h55) ?_
  refine iB 129 h (fun h => ?_) fun h => ?_
  exact lb h
  exact lb h
  exact lb h) h
end Go.Ac
