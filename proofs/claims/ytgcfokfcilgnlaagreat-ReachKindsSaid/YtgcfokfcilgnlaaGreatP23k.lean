/- Own work: the plain law. -/
import Derived.Test.YtgcfokfcilgnlaaGreatSh23k
import Derived.Test.YtgcfokfcilgnlaaGreatAcC
set_option linter.unusedVariables false
set_option linter.unusedSimpArgs false
namespace Go.Ac
noncomputable section
def vR (v : X0) : Bool :=
 if v.kind = 1 then decide (v.str = []) && !v.bool
 else if v.kind = 2 then decide (v.int = 0) && !v.bool && decide (v.str.length ≤ 4096)
 else if v.kind = 3 then decide (v.int = 0) && decide (v.str = []) else false
theorem aMa (v : X0) : Z3 v = some (vR v) := by
 unfold Z3 vR
 have hc : decide ((v.str.length : Int) ≤ 4096) = decide (v.str.length ≤ 4096) := by
  by_cases h : v.str.length ≤ 4096
  ·have : (v.str.length : Int) ≤ 4096 := by omega
   simp [h, this]
  ·have : ¬ (v.str.length : Int) ≤ 4096 := by omega
   simp [h, this]
 rw [hc]
 by_cases h1 : v.kind = 1
 ·by_cases hs : v.str = [] <;> simp [h1, hs, AE]
 by_cases h2 : v.kind = 2
 ·by_cases hn : v.int = 0 <;> cases hb : v.bool <;> simp [h2, hn, AE]
 by_cases h3 : v.kind = 3
 ·by_cases hn : v.int = 0 <;> simp [h3, hn, AE]
 ·simp [h1, h2, h3, AE]
theorem aCr (v : X0) : ∃ b, Z3 v = some b := by
 unfold Z3
 simp only [BJ]
 repeat' split
 all_goals exact ⟨_, rfl⟩
theorem U4 {β : Type} {a b n : Nat} (h : a + b ≤ 1073741824) (hn : n ≤ 131072) (k : Option β) : Aa (fit a b n) k = k := Dh (Hr h hn) k
structure Mv (q : AB) : Prop where
 decls : q.decls.length ≤ 12
 quants : q.quants.length ≤ 9
 frees : q.frees.length ≤ 12
 states : q.states.length ≤ 12
 symbols : q.symbols.length ≤ 12
 trans : q.trans.length ≤ 12
 nodes : q.nodes.length ≤ 40
 args : ∀ s ∈ q.symbols, s.args.length ≤ 12
 sets : ∀ t ∈ q.trans, t.sets.length ≤ 12
theorem F7 {α : Type} {l : List α} {R : α → Prop} (h : ∀ j, j < l.length → ∀ x, l[j]? = some x → R x) : ∀ x ∈ l, R x := by
 intro x hx
 obtain ⟨j, hj, rfl⟩ := List.mem_iff_getElem.1 hx
 exact h j hj _ (List.getElem?_eq_getElem hj)
theorem aJv (q : AB) : ∃ n, Xc q = some n ∧ (n ≠ 0 → Mv q) := by
 unfold Xc
 simp only [GQ]
 iterate 8 (split; · exact ⟨0, rfl, by simp⟩)
 rename_i h1 h2 h3 h4 h5 h6 h7 h8
 have hd : q.decls.length ≤ 9223372036854775807 := by omega
 have hs : q.symbols.length ≤ 9223372036854775807 := by omega
 have hf : q.frees.length ≤ 9223372036854775807 := by omega
 have hn : q.nodes.length ≤ 9223372036854775807 := by omega
 have ht : q.trans.length ≤ 9223372036854775807 := by omega
 obtain ⟨t1, e1, _⟩ := Ak (step := fun s => Gw q s) q.decls.length (fun _ => True) (fun _ => True)
  (fun i hi => by
   obtain ⟨x, hx, _⟩ := Az hi
   simp only [Gw, ltD hx, AP, Ad hx, B5 hx hd]
   simp only [BJ]
   repeat' split
   all_goals first | exact .inl ⟨rfl, trivial⟩ | exact .inr ⟨_, rfl, trivial⟩)
  (fun _ => ⟨.inl (), by simp only [Gw, ltI, AN], trivial⟩)
 obtain ⟨t2, e2, Q2⟩ := Ak (step := fun s => Gx q s) q.symbols.length (fun i => ∀ x, q.symbols[i]? = some x → x.args.length ≤ 12) (fun t => t = .inl () → ∀ s ∈ q.symbols, s.args.length ≤ 12)
  (fun i hi => by
   obtain ⟨x, hx, _⟩ := Az hi
   simp only [Gx, ltD hx, AP, Ad hx, B5 hx hs, GQ]
   split
   ·exact .inr ⟨_, rfl, by simp⟩
   ·rename_i h12
    obtain ⟨t3, e3, _⟩ := Ak (step := fun s => Gy (i : Int) q s) x.args.length (fun _ => True) (fun _ => True)
     (fun j hj => by
      obtain ⟨y, hy, _⟩ := Az hj
      simp only [Gy, Ad hx, ltD hy, AP, Ad hy, B5 hy (show x.args.length ≤ 9223372036854775807 by omega)]
      simp only [BJ]
      split
      ·exact .inr ⟨_, rfl, trivial⟩
      ·exact .inl ⟨rfl, trivial⟩)
     (fun _ => ⟨.inl (), by simp only [Gy, Ad hx, ltI, AN], trivial⟩)
    unfold aDp
    rw [e3, AH]
    rcases t3 with _ | _
    ·exact .inl ⟨rfl, fun y hy => by rw [hx] at hy; cases hy; omega⟩
    ·exact .inr ⟨_, rfl, by simp⟩)
  (fun hP => ⟨.inl (), by simp only [Gx, ltI, AN], fun _ => F7 hP⟩)
 obtain ⟨t4, e4, _⟩ := Ak (step := fun s => Gz q s) q.frees.length (fun _ => True) (fun _ => True)
  (fun i hi => by
   obtain ⟨x, hx, _⟩ := Az hi
   simp only [Gz, ltD hx, AP, Ad hx, B5 hx hf]
   simp only [BJ]
   split
   ·exact .inr ⟨_, rfl, trivial⟩
   ·exact .inl ⟨rfl, trivial⟩)
  (fun _ => ⟨.inl (), by simp only [Gz, ltI, AN], trivial⟩)
 obtain ⟨t5, e5, _⟩ := Ak (step := fun s => G0 q s) q.nodes.length (fun _ => True) (fun _ => True)
  (fun i hi => by
   obtain ⟨x, hx, _⟩ := Az hi
   simp only [G0, ltD hx, AP, Ad hx, B5 hx hn]
   simp only [BJ]
   split
   ·exact .inr ⟨_, rfl, trivial⟩
   ·exact .inl ⟨rfl, trivial⟩)
  (fun _ => ⟨.inl (), by simp only [G0, ltI, AN], trivial⟩)
 obtain ⟨t6, e6, Q6⟩ := Ak (step := fun s => G1 q s) q.trans.length (fun i => ∀ x, q.trans[i]? = some x → x.sets.length ≤ 12) (fun t => t = .inl () → ∀ s ∈ q.trans, s.sets.length ≤ 12)
  (fun i hi => by
   obtain ⟨x, hx, _⟩ := Az hi
   simp only [G1, ltD hx, AP, Ad hx, B5 hx ht, GQ]
   split
   ·exact .inr ⟨_, rfl, by simp⟩
   ·exact .inl ⟨rfl, fun y hy => by rw [hx] at hy; cases hy; omega⟩)
  (fun hP => ⟨.inl (), by simp only [G1, ltI, AN], fun _ => F7 hP⟩)
 unfold aDn aDo aDq aDr aDs
 rw [e1, AH, e2, e4, e5, e6]
 simp only [AH]
 rcases t1 with _ | _ <;> rcases t2 with _ | _ <;> rcases t4 with _ | _ <;> rcases t5 with _ | _ <;> rcases t6 with _ | _ <;> simp only [CS, EI] <;>
  first
  | exact ⟨0, rfl, by simp⟩
  | exact ⟨1, rfl, fun _ => ⟨by omega, by omega, by omega, by omega, by omega, by omega, by omega, Q2 rfl, Q6 rfl⟩⟩
theorem aG7 (s : List UInt8) : ∃ b, Yp s = some b := by
 unfold Yp
 simp only [GQ]
 split
 ·exact ⟨_, rfl⟩
 split
 ·exact ⟨_, rfl⟩
 obtain ⟨t1, e1, _⟩ := Ak (step := fun i => HW s i) s.length (fun _ => True) (fun _ => True)
  (fun i hi => by
   obtain ⟨x, hx, _⟩ := Az hi
   simp only [HW, ltD hx, AP, Ad hx, B5 hx (show s.length ≤ 9223372036854775807 by omega)]
   simp only [BJ]
   repeat' split
   all_goals first | exact .inl ⟨rfl, trivial⟩ | exact .inr ⟨_, rfl, trivial⟩)
  (fun _ => ⟨.inl (), by simp only [HW, ltI, AN], trivial⟩)
 unfold aEh
 rw [e1, AH]
 rcases t1 with _ | _ <;> exact ⟨_, rfl⟩
theorem NQ (s : List UInt8) : ∃ b, Yc s = some b := by
 unfold Yc Q9
 rw [AH]
 generalize hw : ([([97, 99, 99, 101, 112, 116] : List UInt8), ([97, 108, 115, 111] : List UInt8), ([97, 110, 100] : List UInt8), ([98, 111, 111, 108] : List UInt8), ([100, 111] : List UInt8), ([101, 118, 101, 110, 116] : List UInt8), ([101, 120, 105, 115, 116, 115] : List UInt8), ([102, 97, 108, 115, 101] : List UInt8), ([102, 111, 114, 97, 108, 108] : List UInt8), ([102, 114, 101, 101] : List UInt8), ([105, 102] : List UInt8), ([105, 110, 116] : List UInt8), ([110, 101, 120, 116] : List UInt8), ([110, 111, 116] : List UInt8), ([111, 110] : List UInt8), ([111, 114] : List UInt8), ([113, 101, 97] : List UInt8), ([115, 107, 105, 112] : List UInt8), ([115, 116, 97, 114, 116] : List UInt8), ([115, 116, 114, 105, 110, 103] : List UInt8), ([116, 111] : List UInt8), ([116, 114, 117, 101] : List UInt8)] : List (List UInt8)) = ws
 have hl : ws.length ≤ 9223372036854775807 := by rw [← hw]; simp
 obtain ⟨t1, e1, _⟩ := Ak (step := fun i => HR s ws i) ws.length (fun _ => True) (fun _ => True)
  (fun i hi => by
   obtain ⟨x, hx, _⟩ := Az hi
   simp only [HR, ltD hx, AP, Ad hx, B5 hx hl]
   simp only [BJ]
   split
   ·exact .inr ⟨_, rfl, trivial⟩
   ·exact .inl ⟨rfl, trivial⟩)
  (fun _ => ⟨.inl (), by simp only [HR, ltI, AN], trivial⟩)
 unfold aEb
 rw [e1, AH]
 rcases t1 with _ | _
 ·obtain ⟨b, hb⟩ := aG7 s
  rw [CS, hb, AH]
  cases b <;> exact ⟨_, rfl⟩
 ·exact ⟨_, rfl⟩
def PI (l : List Xn) (n : List UInt8) : Option Nat := if l.any (fun d => decide (d.name = n)) = true then some (l.findIdx fun d => decide (d.name = n)) else none
theorem aLx (l : List Xn) (n : List UInt8) (hl : l.length ≤ 9223372036854775807) : Ys l n = some (match PI l n with | some i => (i : Int) | none => -1) := by
 unfold Ys aEk
 rw [Ep l (fun d => decide (d.name = n))
  (fun i x hx => by
   simp only [JQ, ltD hx, AP, Ad hx, B5 hx hl]
   simp only [BJ]
   cases decide (x.name = n) <;> rfl)
  (by simp only [JQ, ltI, AN]), AH]
 unfold PI
 cases l.any _ <;> rfl
theorem aBo {l : List Xn} {n : List UInt8} {j : Nat} {d : Xn} (hj : l[j]? = some d) (hn : d.name = n) : ∃ i, PI l n = some i ∧ i ≤ j := by
 have ha : l.any (fun d => decide (d.name = n)) = true := List.any_eq_true.2 ⟨d, List.mem_of_getElem? hj, by simpa using hn⟩
 refine ⟨l.findIdx fun d => decide (d.name = n), by unfold PI; rw [if_pos ha], ?_⟩
 refine Nat.le_of_not_lt fun hlt => ?_
 have := List.not_of_lt_findIdx hlt
 obtain ⟨h1, rfl⟩ := List.getElem?_eq_some_iff.1 hj
 simp [hn] at this
def K3 (l : List Xn) : Prop := ∀ j d, l[j]? = some d → PI l d.name = some j
theorem aKz (l : List Xn) (hl : l.length ≤ 9223372036854775807) : ∃ r, Y1 l = some r ∧ (r.1 = 0 → K3 l) := by
 unfold Y1
 rw [GQ]
 split
 ·exact ⟨_, rfl, by simp⟩
 obtain ⟨t1, e1, Q1⟩ := Ak (step := fun i => HN l i) l.length (fun i => ∀ d, l[i]? = some d → PI l d.name = some i) (fun t => match t with | .inl _ => K3 l | .inr r => r.1 ≠ 0)
  (fun i hi => by
   obtain ⟨x, hx, _⟩ := Az hi
   obtain ⟨b, hb⟩ := NQ x.name
   simp only [HN, ltD hx, AP, Ad hx, B5 hx hl, hb, AH, aLx l _ hl]
   cases b with
   | false => exact .inr ⟨_, rfl, by simp⟩
   | true =>
    simp only [Bool.not_true, AN]
    obtain ⟨k, hk, hki⟩ := aBo hx rfl
    rw [hk]
    dsimp only
    rw [GQ]
    split
    ·exact .inr ⟨_, rfl, by simp⟩
    ·rename_i hge
     rw [GQ]
     split
     ·exact .inr ⟨_, rfl, by simp⟩
     ·obtain ⟨t2, e2, _⟩ := Ak (step := fun s => HO l (i : Int) s) x.types.length (fun _ => True) (fun _ => True)
       (fun j hj => by
        obtain ⟨y, hy, _⟩ := Az hj
        simp only [HO, Ad hx, ltD hy, AP, Ad hy, B5 hy (show x.types.length ≤ 9223372036854775807 by omega)]
        simp only [BJ]
        repeat' split
        all_goals first | exact .inl ⟨rfl, trivial⟩ | exact .inr ⟨_, rfl, trivial⟩)
       (fun _ => ⟨.inl (), by simp only [HO, Ad hx, ltI, AN], trivial⟩)
      unfold aEa
      rw [e2, AH]
      rcases t2 with _ | _
      ·refine .inl ⟨rfl, fun d hd => ?_⟩
       rw [hx] at hd; cases hd
       have : k = i := by omega
       rw [hk, this]
      ·exact .inr ⟨_, rfl, by simp⟩)
  (fun hP => ⟨.inl (), by simp only [HN, ltI, AN], fun j d hd => hP j (aFg hd) d hd⟩)
 unfold aD9
 rw [e1, AH]
 rcases t1 with _ | r
 ·exact ⟨_, rfl, fun _ => Q1⟩
 ·exact ⟨_, rfl, fun h => absurd h Q1⟩
theorem aCs (op : Int) : ∃ r, Za op 0 0 = some r := by
 unfold Za
 rw [show Zy 0 0 = some (AA .add .i64 0 0, true) by simp [Zy, AE], show Z9 0 0 = some (AA .sub .i64 0 0, true) by simp [Z9, AE], show Zz 0 0 = some (0, true) by simp [Zz, AE], show Q0 0 0 = some (0, 0, 7) by simp [Q0, AE]]
 simp only [AH, Zl, Bool.not_true, AN]
 refine Iz ?_
 repeat' first | exact ⟨_, rfl, trivial⟩ | refine Bm (fun _ => ?_) (fun _ => ?_) | refine Ng (fun _ => ?_) (fun _ => ?_)
theorem aOh (a b : Int) : ∃ r, Z4 ⟨a, 0, [], false⟩ ⟨b, 0, [], false⟩ = some r := by
 unfold Z4
 have hb : Yh [] [] = some false := by
  unfold Yh aAg
  rw [A5]
  simp [F4, AE, Df, AG, Cj]
 simp only [hb, AH]
 refine Iz ?_
 repeat' first | exact ⟨_, rfl, trivial⟩ | refine Bm (fun _ => ?_) (fun _ => ?_) | refine DT (fun _ => ?_) (fun _ => ?_) | refine Ng (fun _ => ?_) (fun _ => ?_)
theorem aOq (op a b : Int) : ∃ r, Zs op ⟨a, 0, [], false⟩ ⟨b, 0, [], false⟩ = some r := by
 unfold Zs
 obtain ⟨r1, h1⟩ := aOh a b
 obtain ⟨r2, h2⟩ := aOh b a
 obtain ⟨r3, h3⟩ := aCs 9
 obtain ⟨r4, h4⟩ := aCs op
 have h4' : Za op 0 0 = some r4 := h4
 have hc : ∀ {β : Type} (k : Option β), Aa (([] : List UInt8).length + ([] : List UInt8).length ≤ 9223372036854775807) k = k := fun k => Dh (by simp) k
 simp only [Z0, AH, h1, h2, h3, h4', hc, AN]
 refine Iz ?_
 repeat' first | exact ⟨_, rfl, trivial⟩ | refine Bm (fun _ => ?_) (fun _ => ?_) | refine DT (fun _ => ?_) (fun _ => ?_) | refine Ng (fun _ => ?_) (fun _ => ?_)
theorem aHi (op a b : Int) : ∃ r, Zm op a b = some r ∧ (r ≠ 0 → a ≠ 0) := by
 unfold Zm
 obtain ⟨r, hr⟩ := aOq op a b
 rw [hr]
 simp only [AH]
 refine Bm (fun _ => ⟨_, rfl, by simp⟩) (fun h => ?_)
 repeat' first | exact ⟨_, rfl, fun _ => by omega⟩ | refine Bm (fun _ => ?_) (fun _ => ?_) | refine DT (fun _ => ?_) (fun _ => ?_)
theorem Pb {α : Type} {l : List α} {i : Int} (h0 : 0 ≤ i) (h1 : i < l.length) : ∃ x, l[i.toNat]? = some x ∧ i = (i.toNat : Int) := by
 obtain ⟨x, hx, _⟩ := Az (l := l) (i := i.toNat) (by omega)
 exact ⟨x, hx, by omega⟩
theorem Da {α β : Type} {l : List α} {i : Int} {x : α} (h : l[i.toNat]? = some x) (h0 : 0 ≤ i) (k : α → Option β) : AX l i k = k x := by
 have e : AX l ((i.toNat : Nat) : Int) k = k x := Ad h k
 rwa [show ((i.toNat : Nat) : Int) = i by omega] at e
theorem aBk (q : AB) (hq : q.nodes.length ≤ 2048) : ∀ (n : Nat) (i : Int), -9223372036854775000 ≤ i → 0 < n → i + 1 < n → ∃ r, aCq n q i = some r ∧ (r.1 ≠ 0 → 0 ≤ r.2.2 ∧ r.2.2 ≤ i ∧ i < q.nodes.length) := by
 intro n
 induction n with
 | zero => intro i h0 h; omega
 | succ n ih =>
  intro i h0 _ h
  show ∃ r, aEi (aCq n) q i = some r ∧ _
  unfold aEi
  refine Bm (fun _ => ⟨_, rfl, by simp⟩) (fun hi0 => ?_)
  refine Bm (fun _ => ⟨_, rfl, by simp⟩) (fun hi1 => ?_)
  obtain ⟨x, hx, _⟩ := Pb (l := q.nodes) (i := i) (by omega) (by omega)
  rw [Da hx (by omega)]
  obtain ⟨b, hb⟩ := aCr x.value
  have e1 : AA .sub .i64 i 1 = i - 1 := aFz (by omega) (by omega)
  rw [e1]
  refine Bm (fun _ => ?_) (fun _ => ?_)
  ·refine DT (fun _ => ⟨_, rfl, by simp⟩) (fun _ => ?_)
   refine DT (fun _ => ⟨_, rfl, by simp⟩) (fun _ => ?_)
   refine Bn hb ?_
   exact GD (fun _ => ⟨_, rfl, by simp⟩) (fun _ => ⟨_, rfl, fun _ => ⟨by simp only; omega, Int.le_refl _, by omega⟩⟩)
  refine GD (fun _ => ⟨_, rfl, by simp⟩) (fun _ => ?_)
  refine Bm (fun _ => ?_) (fun _ => ?_)
  ·refine Bm (fun _ => ⟨_, rfl, by simp⟩) (fun _ => ?_)
   refine Bm (fun _ => ⟨_, rfl, by simp⟩) (fun _ => ?_)
   refine DT (fun _ => ⟨_, rfl, by simp⟩) (fun _ => ?_)
   obtain ⟨y, hy, _⟩ := Pb (l := q.quants) (i := x.a) (by omega) (by omega)
   rw [Da hy (by omega)]
   exact ⟨_, rfl, fun _ => ⟨by simp only; omega, Int.le_refl _, by omega⟩⟩
  refine Bm (fun _ => ?_) (fun _ => ?_)
  ·refine Bm (fun _ => ⟨_, rfl, by simp⟩) (fun _ => ?_)
   refine Bm (fun _ => ⟨_, rfl, by simp⟩) (fun _ => ?_)
   refine DT (fun _ => ⟨_, rfl, by simp⟩) (fun _ => ?_)
   obtain ⟨y, hy, _⟩ := Pb (l := q.frees) (i := x.a) (by omega) (by omega)
   rw [Da hy (by omega)]
   exact ⟨_, rfl, fun _ => ⟨by simp only; omega, Int.le_refl _, by omega⟩⟩
  refine Bm (fun _ => ⟨_, rfl, by simp⟩) (fun _ => ?_)
  refine Bm (fun _ => ⟨_, rfl, by simp⟩) (fun _ => ?_)
  obtain ⟨r5, h5, p5⟩ := ih (i - 1) (by omega) (by omega) (by omega)
  refine Bn h5 ?_
  refine Bm (fun _ => ?_) (fun _ => ?_)
  ·refine Bm (fun _ => ⟨_, rfl, by simp⟩) (fun hk => ?_)
   refine DT (fun _ => ⟨_, rfl, by simp⟩) (fun _ => ?_)
   refine DT (fun _ => ⟨_, rfl, by simp⟩) (fun _ => ?_)
   obtain ⟨r6, h6, _⟩ := aHi x.op r5.1 r5.1
   refine Bn h6 ?_
   have := p5 hk
   exact ⟨_, rfl, fun _ => by simp only; omega⟩
  ·refine Bm (fun _ => ⟨_, rfl, by simp⟩) (fun hk => ?_)
   have hp := p5 hk
   have e2 : AA .sub .i64 r5.2.2 1 = r5.2.2 - 1 := aFz (by omega) (by omega)
   rw [e2]
   refine DT (fun _ => ⟨_, rfl, by simp⟩) (fun _ => ?_)
   refine DT (fun _ => ⟨_, rfl, by simp⟩) (fun _ => ?_)
   obtain ⟨r7, h7, p7⟩ := ih (r5.2.2 - 1) (by omega) (by omega) (by omega)
   refine Bn h7 ?_
   obtain ⟨r8, h8, p8⟩ := aHi x.op r7.1 r5.1
   refine Bn h8 ?_
   refine ⟨_, rfl, fun h => ?_⟩
   have := p7 (p8 h)
   simp only; omega
theorem Pg (q : AB) (hq : q.nodes.length ≤ 2048) (f i : Int) (hi : -9223372036854775808 ≤ i ∧ i ≤ 9223372036854775807) : ∃ r, Zp q f i = some r ∧ (r.1 ≠ 0 → 0 ≤ i ∧ i < q.nodes.length) := by
 unfold Zp Yq
 by_cases h : 0 ≤ i ∧ i < q.nodes.length
 ·obtain ⟨r, hr, _⟩ := aBk q hq 100000 i (by omega) (by omega) (by omega)
  refine Bn hr ?_
  refine Bm (fun _ => ⟨_, rfl, by simp⟩) (fun _ => ?_)
  exact DT (fun _ => ⟨_, rfl, by simp⟩) (fun _ => ⟨_, rfl, fun _ => h⟩)
 ·have hz : aCq 100000 q i = some (0, 0, 0) := by
   show aEi (aCq 99999) q i = _
   unfold aEi
   rw [GQ, GQ]
   split
   ·rfl
   ·rw [if_pos (by omega)]
  refine Bn hz ?_
  exact ⟨(0, 0), by simp [AE], by simp⟩
theorem J6 (s : X4) (v : Int) (hs : s.args.length ≤ 9223372036854775807) : ∃ r, Ym s v = some r := by
 unfold Ym aEf
 obtain ⟨t, ht, _⟩ := Ak (step := fun i => HU v s i) s.args.length (fun _ => True) (fun _ => True)
  (fun i hi => by
   obtain ⟨x, hx, _⟩ := Az hi
   simp only [HU, ltD hx, AP, Ad hx, B5 hx hs]
   simp only [BJ]
   repeat' split
   all_goals first | exact .inl ⟨rfl, trivial⟩ | exact .inr ⟨_, rfl, trivial⟩)
  (fun _ => ⟨.inl (), by simp only [HU, ltI, AN], trivial⟩)
 rw [ht, AH]
 rcases t with _ | _ <;> exact ⟨_, rfl⟩
theorem T3 (q : AB) (s : X4) (hs : s.args.length ≤ 9223372036854775807) (hq : q.nodes.length ≤ 2048) (f t : Int) (hf : 0 ≤ f) (ht : t ≤ q.nodes.length) : ∃ r, Yv q s f t = some r := by
 unfold Yv aEl
 obtain ⟨u, hu, _⟩ := CM (step := fun i => Ha t q s i) (fun i => 0 ≤ i) (fun i => (t - i).toNat) (fun _ => True)
  (by
   intro i hi
   by_cases h : i < t
   ·obtain ⟨x, hx, _⟩ := Pb (l := q.nodes) (i := i) hi (by omega)
    obtain ⟨b, hb⟩ := J6 s x.a hs
    simp only [Ha, h, decide_true, AP, Da hx hi, hb, AH, aA8 (a := i) (b := 1) (by omega) (by omega)]
    simp only [BJ]
    repeat' split
    all_goals first | exact .inl ⟨_, rfl, trivial⟩ | exact .inr ⟨_, rfl, by omega, by omega⟩
   ·exact .inl ⟨.inl (), by simp [Ha, h, AE], trivial⟩)
  f hf
 rw [hu, AH]
 rcases u with _ | _ <;> exact ⟨_, rfl⟩
def aGe (n : Int) : Prop := -9223372036854775808 ≤ n ∧ n ≤ 9223372036854775807
structure J8 (t : Xe) : Prop where
 guard : aGe t.guard
 sets : ∀ s ∈ t.sets, aGe s.expr
theorem aCf (q : AB) (hF : Mv q) (t : Xe) (hT : J8 t) (hts : t.sets.length ≤ 12) (f : Int) (hf : 0 ≤ f) (hfl : f ≤ q.nodes.length) :
 ∃ r, Xy q t f = some r ∧ (r.2 = true → 0 ≤ t.symbol ∧ t.symbol < q.symbols.length ∧ 0 ≤ r.1 ∧ r.1 ≤ q.nodes.length ∧ (t.guard = -1 ∨ 0 ≤ t.guard) ∧ (0 ≤ t.from_ ∧ t.from_ < q.states.length) ∧ 0 ≤ t.to ∧ t.to < q.states.length) := by
 have hn : q.nodes.length ≤ 2048 := Nat.le_trans hF.nodes (by decide)
 have hfr : q.frees.length ≤ 12 := hF.frees
 unfold Xy
 refine Bm (fun _ => ⟨_, rfl, by simp⟩) (fun ha => ?_)
 refine Bm (fun _ => ⟨_, rfl, by simp⟩) (fun hb => ?_)
 refine Bm (fun _ => ⟨_, rfl, by simp⟩) (fun hc => ?_)
 refine Bm (fun _ => ⟨_, rfl, by simp⟩) (fun hd => ?_)
 refine Bm (fun _ => ⟨_, rfl, by simp⟩) (fun hs0 => ?_)
 refine Bm (fun _ => ⟨_, rfl, by simp⟩) (fun hs1 => ?_)
 obtain ⟨o2, h2, p2⟩ : ∃ o, SQ f f (!decide (t.guard = (-1))) q t = some o ∧ ∀ x, o = .inl x → 0 ≤ x ∧ x ≤ q.nodes.length ∧ (t.guard = -1 ∨ 0 ≤ t.guard) := by
  unfold SQ
  refine DT (fun _ => ?_) (fun hg => ⟨_, rfl, fun x hx => by cases hx; exact ⟨hf, hfl, .inl hg⟩⟩)
  obtain ⟨r1, h1, p1⟩ := Pg q hn f t.guard hT.guard
  refine Bn h1 ?_
  refine DT (fun _ => ⟨_, rfl, by simp⟩) (fun h3 => ?_)
  refine Bm (fun _ => ⟨_, rfl, by simp⟩) (fun _ => ?_)
  have := p1 (by omega)
  refine ⟨_, rfl, fun x hx => ?_⟩
  cases hx
  refine ⟨?_, ?_, .inr this.1⟩ <;> (rw [aA8 (by omega) (by omega)]; omega)
 refine Bn h2 ?_
 rcases o2 with o3 | _
 ·have h3 := p2 o3 rfl
  rw [CS]
  unfold aD3
  obtain ⟨u, hu, pu⟩ := CM (step := fun s : Int × Int => HL f q t s.1 s.2) (fun s => ∃ i : Nat, s.2 = (i : Int) ∧ i ≤ t.sets.length ∧ 0 ≤ s.1 ∧ s.1 ≤ q.nodes.length) (fun s => (t.sets.length - s.2).toNat)
   (fun o => ∀ x, o = .inl x → 0 ≤ x ∧ x ≤ q.nodes.length)
   (by
    rintro ⟨w, s⟩ ⟨i, rfl, hi, hw0, hw1⟩
    simp only at hw0 hw1 ⊢
    by_cases he : i = t.sets.length
    ·subst he
     exact .inl ⟨.inl w, by simp only [HL, ltI, AN], fun x hx => by cases hx; exact ⟨hw0, hw1⟩⟩
    ·obtain ⟨x, hx, _⟩ := Az (l := t.sets) (i := i) (by omega)
     obtain ⟨r6, h6, p6⟩ := Pg q hn w x.expr (hT.sets x (List.mem_of_getElem? hx))
     have h6' : Zp q w x.expr = some r6 := h6
     simp only [HL, ltD hx, AP, Ad hx, h6', AH, B5 hx (show t.sets.length ≤ 9223372036854775807 by omega)]
     by_cases g1 : x.free < 0
     ·exact .inl ⟨.inr (), by simp [g1, AE], by simp⟩
     by_cases g2 : (q.frees.length : Int) ≤ x.free
     ·exact .inl ⟨.inr (), by simp [g1, g2, AE], by simp⟩
     by_cases g3 : r6.1 = 0
     ·exact .inl ⟨.inr (), by simp [g1, g2, g3, AE], by simp⟩
     by_cases g4 : 64 < r6.2
     ·exact .inl ⟨.inr (), by simp [g1, g2, g3, g4, AE], by simp⟩
     obtain ⟨y, hy, _⟩ := Pb (l := q.frees) (i := x.free) (by omega) (by omega)
     by_cases g5 : r6.1 = y.init_.kind
     ·obtain ⟨t3, e3, _⟩ := Ak (step := fun s => HM f (i : Int) q t x s) i (fun _ => True) (fun _ => True)
       (fun j hj => by
        obtain ⟨z, hz, _⟩ := Az (l := t.sets) (i := j) (by omega)
        have hlt : decide ((j : Int) < (i : Int)) = true := by simp; omega
        simp only [HM, hlt, AP, Ad hz, B5 hz (show t.sets.length ≤ 9223372036854775807 by omega)]
        simp only [BJ]
        split
        ·exact .inr ⟨_, rfl, trivial⟩
        ·exact .inl ⟨rfl, trivial⟩)
       (fun _ => ⟨.inl (), by simp only [HM, ltI, AN], trivial⟩)
      have e3' : aD4 f (i : Int) q t x 0 = some t3 := e3
      have hp := p6 g3
      rcases t3 with _ | _
      ·refine .inr ⟨(AA .add .i64 x.expr 1, ((i + 1 : Nat) : Int)), ?_, ⟨i + 1, rfl, by omega, ?_, ?_⟩, by simp only; omega⟩
       ·rw [GQ, if_neg g1, GQ, if_neg g2, GQ, if_neg g3, GQ, if_neg g4, Da hy (show 0 ≤ x.free by omega)]
        simp only [g5, decide_true, Bool.not_true, AN, e3', AH, CS]
       ·simp only; rw [aA8 (by omega) (by omega)]; omega
       ·simp only; rw [aA8 (by omega) (by omega)]; omega
      ·refine .inl ⟨.inr (), ?_, by simp⟩
       rw [GQ, if_neg g1, GQ, if_neg g2, GQ, if_neg g3, GQ, if_neg g4, Da hy (show 0 ≤ x.free by omega)]
       simp only [g5, decide_true, Bool.not_true, AN, e3', AH, EI]
     ·refine .inl ⟨.inr (), ?_, by simp⟩
      rw [GQ, if_neg g1, GQ, if_neg g2, GQ, if_neg g3, GQ, if_neg g4, Da hy (show 0 ≤ x.free by omega)]
      simp only [g5, decide_false, Bool.not_false, AP])
   (o3, (0 : Int)) ⟨0, rfl, by omega, h3.1, h3.2.1⟩
  refine Bn hu ?_
  rcases u with o13 | _
  ·rw [CS]
   have h13 := pu o13 rfl
   obtain ⟨x, hx, _⟩ := Pb (l := q.symbols) (i := t.symbol) (by omega) (by omega)
   rw [Da hx (by omega)]
   obtain ⟨r16, h16⟩ := T3 q x (Nat.le_trans (hF.args x (List.mem_of_getElem? hx)) (by decide)) hn f o13 hf h13.2
   refine Bn h16 ⟨_, rfl, fun _ => ⟨by omega, by omega, h13.1, h13.2, h3.2.2, ⟨by omega, by omega⟩, by omega, by omega⟩⟩
  ·exact ⟨_, rfl, by simp⟩
 ·exact ⟨_, rfl, by simp⟩
structure Pe (q : AB) (a : CX) : Prop where
 two : a.kind = 2 → 0 ≤ a.n ∧ a.n < q.quants.length
 three : a.kind = 3 → 0 ≤ a.n ∧ a.n < q.frees.length
 one : a.kind = 1 → vR a.value = true
theorem aNb (q : AB) (a : CX) (k : Int) : ∃ r, Zt q a k = some r ∧ (r = true → Pe q a) := by
 unfold Zt
 have hb := aMa a.value
 refine Bm (fun h => ?_) (fun h1 => ?_)
 ·have ho : vR a.value = true → Pe q a := fun hv => ⟨fun h2 => by omega, fun h2 => by omega, fun _ => hv⟩
  refine Bm (fun _ => ?_) (fun _ => ⟨_, rfl, by simp⟩)
  refine Bn hb ?_
  exact Ng (fun hv => ⟨_, rfl, fun _ => ho hv⟩) (fun _ => ⟨_, rfl, by simp⟩)
 refine GD (fun _ => ⟨_, rfl, by simp⟩) (fun _ => ?_)
 refine Bm (fun h2 => ?_) (fun h2 => ?_)
 ·refine Bm (fun h3 => ?_) (fun _ => ⟨_, rfl, by simp⟩)
  refine Bm (fun h4 => ?_) (fun _ => ⟨_, rfl, by simp⟩)
  obtain ⟨y, hy, _⟩ := Pb h3 h4
  rw [Da hy h3]
  exact ⟨_, rfl, fun _ => ⟨fun _ => ⟨h3, h4⟩, fun h => by omega, fun h => by omega⟩⟩
 refine Bm (fun h5 => ?_) (fun h5 => ?_)
 ·refine Bm (fun h3 => ?_) (fun _ => ⟨_, rfl, by simp⟩)
  refine Bm (fun h4 => ?_) (fun _ => ⟨_, rfl, by simp⟩)
  obtain ⟨y, hy, _⟩ := Pb h3 h4
  rw [Da hy h3]
  exact ⟨_, rfl, fun _ => ⟨fun h => by omega, fun _ => ⟨h3, h4⟩, fun h => by omega⟩⟩
 exact Bm (fun _ => ⟨_, rfl, fun _ => ⟨fun h => by omega, fun h => by omega, fun h => by omega⟩⟩) (fun _ => ⟨_, rfl, by simp⟩)
structure Po (q : AB) (s : X4) : Prop where
 event : 0 ≤ s.event
 decl : ∃ d, q.decls[s.event.toNat]? = some d ∧ s.args.length = d.types.length
 args : ∀ a ∈ s.args, Pe q a
theorem aLz (q : AB) (s : X4) (hs : s.args.length ≤ 12) : ∃ r, Yu q s = some r ∧ (r = true → Po q s) := by
 unfold Yu
 refine Bm (fun _ => ⟨_, rfl, by simp⟩) (fun h0 => ?_)
 refine Bm (fun _ => ⟨_, rfl, by simp⟩) (fun h1 => ?_)
 obtain ⟨d, hd, _⟩ := Pb (l := q.decls) (i := s.event) (by omega) (by omega)
 rw [Da hd (by omega)]
 refine DT (fun _ => ⟨_, rfl, by simp⟩) (fun h2 => ?_)
 obtain ⟨t, ht, hQ⟩ := Ak (step := fun i => HZ q s i) s.args.length (fun i => ∀ a, s.args[i]? = some a → Pe q a) (fun t => t = .inl () → ∀ a ∈ s.args, Pe q a)
  (fun i hi => by
   obtain ⟨x, hx, _⟩ := Az hi
   obtain ⟨y, hy, _⟩ := Az (l := d.types) (i := i) (by omega)
   obtain ⟨b, hb, hbo⟩ := aNb q x y
   simp only [HZ, ltD hx, AP, Ad hx, Da hd (show 0 ≤ s.event by omega), Ad hy, hb, AH, B5 hx (show s.args.length ≤ 9223372036854775807 by omega)]
   cases b with
   | false => exact .inr ⟨_, rfl, by simp⟩
   | true => exact .inl ⟨rfl, fun a ha => by rw [hx] at ha; cases ha; exact hbo rfl⟩)
  (fun hP => ⟨.inl (), by simp only [HZ, ltI, AN], fun _ => F7 hP⟩)
 refine Bn ht ?_
 rcases t with _ | _
 ·exact ⟨_, rfl, fun _ => ⟨by omega, ⟨d, hd, by omega⟩, hQ rfl⟩⟩
 ·exact ⟨_, rfl, by simp⟩
theorem IM (a b : X4) (ha : a.args.length ≤ 9223372036854775807) : ∃ r, Yy a b = some r := by
 unfold Yy
 refine Iz ?_
 refine DT (fun _ => ⟨_, rfl, trivial⟩) (fun _ => ?_)
 refine DT (fun _ => ⟨_, rfl, trivial⟩) (fun h => ?_)
 obtain ⟨t, ht, _⟩ := Ak (step := fun i => Hd a b i) a.args.length (fun _ => True) (fun _ => True)
  (fun i hi => by
   obtain ⟨x, hx, _⟩ := Az hi
   obtain ⟨y, hy, _⟩ := Az (l := b.args) (i := i) (by omega)
   simp only [Hd, ltD hx, AP, Ad hx, Ad hy, B5 hx ha]
   simp only [BJ]
   split
   ·exact .inr ⟨_, rfl, trivial⟩
   ·exact .inl ⟨rfl, trivial⟩)
  (fun _ => ⟨.inl (), by simp only [Hd, ltI, AN], trivial⟩)
 refine Bn ht ?_
 rcases t with _ | _ <;> exact ⟨_, rfl, trivial⟩
theorem aJp (q : AB) (hF : Mv q) (hT : ∀ t ∈ q.trans, 0 ≤ t.symbol ∧ t.symbol < q.symbols.length) : ∃ r, X7 q = some r ∧ (r = true → ∀ s ∈ q.symbols, Po q s) := by
 have hsy := hF.symbols; have htr := hF.trans; have hqu := hF.quants
 unfold X7
 rw [Dh ⟨by omega, Hr (by omega) (by decide)⟩]
 obtain ⟨o9, h9, hl9⟩ := CM (step := fun s : Int × List Bool × List Int => Gn q s.1 s.2.1 s.2.2) (fun s => ∃ i : Nat, s.1 = (i : Int) ∧ i ≤ q.trans.length ∧ s.2.1.length = q.symbols.length ∧ s.2.2.length ≤ i) (fun s => (q.trans.length - s.1).toNat) (fun o => o.length ≤ 12)
  (by
   rintro ⟨s, u, w⟩ ⟨i, rfl, hi, hu, hw⟩
   simp only at hu hw ⊢
   by_cases he : i = q.trans.length
   ·subst he
    exact .inl ⟨w, by simp only [Gn, ltI, AN], by omega⟩
   ·obtain ⟨x, hx, _⟩ := Az (l := q.trans) (i := i) (by omega)
    have hxs := hT x (List.mem_of_getElem? hx)
    obtain ⟨y, hy, _⟩ := Pb (l := u) (i := x.symbol) hxs.1 (by omega)
    have hb5 : ∃ w', QH (i : Int) x.symbol (!y) q u w = some w' ∧ w'.length ≤ i + 1 := by
     unfold QH
     refine GD (fun _ => ?_) (fun _ => ⟨_, rfl, by omega⟩)
     rw [U4 (by simp; omega) (by decide)]
     exact ⟨_, rfl, by simpa using hw⟩
    obtain ⟨w', hb, hw'⟩ := hb5
    refine .inr ⟨(((i + 1 : Nat) : Int), u.set x.symbol.toNat true, w'), ?_, ⟨i + 1, rfl, by omega, by simpa using hu, hw'⟩, by simp only; omega⟩
    simp only [Gn, ltD hx, AP, B5 hx (show q.trans.length ≤ 9223372036854775807 by omega)]
    unfold Vk
    rw [Ad hx, Dh (by omega), Da hy hxs.1, hb, AH, Dh (by omega), Dh (by omega)]
    rfl)
  ((0 : Int), List.replicate (q.symbols.length : Int).toNat false, ([] : List Int)) ⟨0, rfl, by omega, by simp, by simp⟩
 refine Bn h9 ?_
 obtain ⟨t1, e1, _⟩ := Ak (step := fun s => Gp q o9 s) o9.length (fun _ => True) (fun _ => True)
  (fun i hi => by
   obtain ⟨x, hx, _⟩ := Az hi
   simp only [Gp, ltD hx, AP, Ad hx, B5 hx (show o9.length ≤ 9223372036854775807 by omega)]
   simp only [BJ]
   split
   ·exact .inr ⟨_, rfl, trivial⟩
   ·exact .inl ⟨rfl, trivial⟩)
  (fun _ => ⟨.inl (), by simp only [Gp, ltI, AN], trivial⟩)
 refine Bn e1 ?_
 rcases t1 with _ | _
 case inr => exact ⟨_, rfl, by simp⟩
 rw [CS]
 have hsl : q.symbols.length ≤ 9223372036854775807 := by omega
 obtain ⟨t2, e2, Q2⟩ := Ak (step := fun s => Gq q s) q.symbols.length (fun i => ∀ s, q.symbols[i]? = some s → Po q s) (fun t => t = .inl () → ∀ s ∈ q.symbols, Po q s)
  (fun i hi => by
   obtain ⟨x, hx, _⟩ := Az hi
   have hxa := hF.args x (List.mem_of_getElem? hx)
   obtain ⟨b, hb, hbo⟩ := aLz q x hxa
   simp only [Gq, ltD hx, AP, Ad hx, hb, AH, B5 hx hsl]
   cases b with
   | false => exact .inr ⟨_, rfl, by simp⟩
   | true =>
    simp only [Bool.not_true, AN]
    obtain ⟨t3, e3, _⟩ := Ak (step := fun s => Gr (i : Int) q s) i (fun _ => True) (fun _ => True)
     (fun j hj => by
      obtain ⟨y, hy, _⟩ := Az (l := q.symbols) (i := j) (by omega)
      obtain ⟨c, hc⟩ := IM x y (by omega)
      have hlt : decide ((j : Int) < (i : Int)) = true := by simp; omega
      simp only [Gr, hlt, AP, Ad hx, Ad hy, hc, AH, B5 hy hsl]
      simp only [BJ]
      split
      ·exact .inr ⟨_, rfl, trivial⟩
      ·exact .inl ⟨rfl, trivial⟩)
     (fun _ => ⟨.inl (), by simp only [Gr, ltI, AN], trivial⟩)
    unfold aDk
    rw [e3, AH]
    rcases t3 with _ | _
    ·exact .inl ⟨rfl, fun s hs => by rw [hx] at hs; cases hs; exact hbo rfl⟩
    ·exact .inr ⟨_, rfl, by simp⟩)
  (fun hP => ⟨.inl (), by simp only [Gq, ltI, AN], fun _ => F7 hP⟩)
 refine Bn e2 ?_
 rcases t2 with _ | _
 case inr => exact ⟨_, rfl, by simp⟩
 rw [CS]
 obtain ⟨t4, e4, _⟩ := Ak (step := fun s => Gs q s) q.quants.length (fun _ => True) (fun _ => True)
  (fun i hi => by
   have hlt : decide ((i : Int) < (q.quants.length : Int)) = true := by simp; omega
   obtain ⟨o, ho, _⟩ := CM (step := fun s : Bool × Int => Eb (i : Int) q s.1 s.2) (fun s => ∃ j : Nat, s.2 = (j : Int) ∧ j ≤ q.symbols.length) (fun s => (q.symbols.length - s.2).toNat) (fun _ => True)
    (by
     rintro ⟨b, s⟩ ⟨j, rfl, hj⟩
     simp only
     by_cases he : j = q.symbols.length
     ·subst he; exact .inl ⟨b, by simp only [Eb, ltI, AN], trivial⟩
     ·obtain ⟨x, hx, _⟩ := Az (l := q.symbols) (i := j) (by omega)
      have hxa := hF.args x (List.mem_of_getElem? hx)
      obtain ⟨c, hc⟩ := J6 x (i : Int) (by omega)
      have hc' : Ym x (i : Int) = some c := hc
      cases b with
      | true => exact .inr ⟨(true, ((j + 1 : Nat) : Int)), by simp only [Eb, ltD hx, AP, B5 hx hsl], ⟨j + 1, rfl, by omega⟩, by simp only; omega⟩
      | false => exact .inr ⟨(c, ((j + 1 : Nat) : Int)), by simp only [Eb, ltD hx, AP, AN, Ad hx, hc', AH, B5 hx hsl], ⟨j + 1, rfl, by omega⟩, by simp only; omega⟩)
    (false, (0 : Int)) ⟨0, rfl, by omega⟩
   have ho' : QI (i : Int) q false 0 = some o := ho
   simp only [Gs, hlt, AP, ho', AH, aF0 (show i < 9223372036854775807 by omega)]
   simp only [BJ]
   split
   ·exact .inr ⟨_, rfl, trivial⟩
   ·exact .inl ⟨rfl, trivial⟩)
  (fun _ => ⟨.inl (), by simp only [Gs, ltI, AN], trivial⟩)
 refine Bn e4 ?_
 rcases t4 with _ | _
 ·exact ⟨_, rfl, fun _ => Q2 rfl⟩
 ·exact ⟨_, rfl, by simp⟩
theorem Kw (l : List (List UInt8)) (at' : Nat) (h : at' < l.length) (hl : l.length ≤ 9223372036854775807) : ∃ r, Yt l (at' : Int) = some r := by
 unfold Yt
 refine Iz ?_
 obtain ⟨y, hy, _⟩ := Az h
 obtain ⟨t, ht, _⟩ := Ak (step := fun i => HY l (at' : Int) i) at' (fun _ => True) (fun _ => True)
  (fun i hi => by
   obtain ⟨x, hx, _⟩ := Az (l := l) (i := i) (by omega)
   have hlt : decide ((i : Int) < (at' : Int)) = true := by simp; omega
   simp only [HY, hlt, AP, Ad hx, Ad hy, B5 hx hl]
   simp only [BJ]
   split
   ·exact .inr ⟨_, rfl, trivial⟩
   ·exact .inl ⟨rfl, trivial⟩)
  (fun _ => ⟨.inl (), by simp only [HY, ltI, AN], trivial⟩)
 refine Bn ht ?_
 rcases t with _ | _ <;> exact ⟨_, rfl, trivial⟩
theorem aGs (q : AB) (hF : Mv q) : ∃ r, Xk q = some r := by
 have h1 := hF.quants; have h2 := hF.frees; have h3 := hF.states
 unfold Xk
 refine Iz ?_
 obtain ⟨o7, e7, p7⟩ := CM (step := fun s : Int × List (List UInt8) => HB q s.1 s.2) (fun s => ∃ i : Nat, s.1 = (i : Int) ∧ i ≤ q.quants.length ∧ s.2.length ≤ i) (fun s => (q.quants.length - s.1).toNat) (fun o => ∀ w, o = .inl w → w.length ≤ 9)
  (by
   rintro ⟨s, w⟩ ⟨i, rfl, hi, hw⟩
   simp only at hw ⊢
   by_cases he : i = q.quants.length
   ·subst he; exact .inl ⟨.inl w, by simp only [HB, ltI, AN], fun w' hw' => by cases hw'; omega⟩
   ·obtain ⟨x, hx, _⟩ := Az (l := q.quants) (i := i) (by omega)
    simp only [HB, ltD hx, AP, Ad hx, B5 hx (show q.quants.length ≤ 9223372036854775807 by omega)]
    rw [U4 (by simp; omega) (by decide)]
    simp only [BJ]
    split
    ·exact .inl ⟨_, rfl, by simp⟩
    ·split
     ·exact .inl ⟨_, rfl, by simp⟩
     ·exact .inr ⟨_, rfl, ⟨i + 1, rfl, by omega, by simpa using hw⟩, by simp only; omega⟩)
  ((0 : Int), ([] : List (List UInt8))) ⟨0, rfl, by omega, by simp⟩
 refine Bn e7 ?_
 rcases o7 with o8 | _
 case inr => exact ⟨_, rfl, trivial⟩
 rw [CS]
 have hw8 := p7 o8 rfl
 obtain ⟨o13, e13, p13⟩ := CM (step := fun s : Int × List (List UInt8) => HC q s.1 s.2) (fun s => ∃ i : Nat, s.1 = (i : Int) ∧ i ≤ q.frees.length ∧ s.2.length ≤ 9 + i) (fun s => (q.frees.length - s.1).toNat) (fun o => ∀ w, o = .inl w → w.length ≤ 21)
  (by
   rintro ⟨s, w⟩ ⟨i, rfl, hi, hw⟩
   simp only at hw ⊢
   by_cases he : i = q.frees.length
   ·subst he; exact .inl ⟨.inl w, by simp only [HC, ltI, AN], fun w' hw' => by cases hw'; omega⟩
   ·obtain ⟨x, hx, _⟩ := Az (l := q.frees) (i := i) (by omega)
    obtain ⟨b, hb⟩ := aCr x.init_
    simp only [HC, ltD hx, AP, Ad hx, hb, AH, B5 hx (show q.frees.length ≤ 9223372036854775807 by omega)]
    rw [U4 (by simp; omega) (by decide)]
    simp only [BJ]
    split
    ·exact .inl ⟨_, rfl, by simp⟩
    ·exact .inr ⟨_, rfl, ⟨i + 1, rfl, by omega, by simp; omega⟩, by simp only; omega⟩)
  ((0 : Int), o8) ⟨0, rfl, by omega, by simpa using hw8⟩
 refine Bn e13 ?_
 rcases o13 with o14 | _
 case inr => exact ⟨_, rfl, trivial⟩
 rw [CS]
 have hw14 := p13 o14 rfl
 obtain ⟨t, ht, _⟩ := Ak (step := fun i => HD q o14 i) o14.length (fun _ => True) (fun _ => True)
  (fun i hi => by
   obtain ⟨x, hx, _⟩ := Az hi
   obtain ⟨b, hb⟩ := NQ x
   obtain ⟨c, hc⟩ := Kw o14 i hi (by omega)
   simp only [HD, ltD hx, AP, Ad hx, hb, hc, AH, B5 hx (show o14.length ≤ 9223372036854775807 by omega)]
   simp only [BJ]
   repeat' split
   all_goals first | exact .inl ⟨rfl, trivial⟩ | exact .inr ⟨_, rfl, trivial⟩)
  (fun _ => ⟨.inl (), by simp only [HD, ltI, AN], trivial⟩)
 refine Bn ht ?_
 rcases t with _ | _
 case inr => exact ⟨_, rfl, trivial⟩
 rw [CS]
 obtain ⟨o30, e30, _⟩ := CM (step := fun s : Int × List (List UInt8) => HE q s.1 s.2) (fun s => ∃ i : Nat, s.1 = (i : Int) ∧ i ≤ q.states.length ∧ s.2.length = i) (fun s => (q.states.length - s.1).toNat) (fun _ => True)
  (by
   rintro ⟨s, w⟩ ⟨i, rfl, hi, hw⟩
   simp only at hw ⊢
   by_cases he : i = q.states.length
   ·subst he; exact .inl ⟨.inl (), by simp only [HE, ltI, AN], trivial⟩
   ·obtain ⟨x, hx, _⟩ := Az (l := q.states) (i := i) (by omega)
    have hg : (w ++ [x.name])[i]? = some x.name := by rw [← hw]; simp
    obtain ⟨b, hb⟩ := NQ x.name
    obtain ⟨c, hc⟩ := Kw (w ++ [x.name]) i (by simp; omega) (by simp; omega)
    simp only [HE, ltD hx, AP, Ad hx, B5 hx (show q.states.length ≤ 9223372036854775807 by omega)]
    rw [U4 (by simp; omega) (by decide), Ad hg, hb, AH, hc]
    simp only [AH, BJ]
    split
    ·exact .inl ⟨_, rfl, trivial⟩
    ·split
     ·exact .inl ⟨_, rfl, trivial⟩
     ·exact .inr ⟨_, rfl, ⟨i + 1, rfl, by omega, by simp; omega⟩, by simp only; omega⟩)
  ((0 : Int), ([] : List (List UInt8))) ⟨0, rfl, by omega, by simp⟩
 refine Bn e30 ?_
 rcases o30 with _ | _
 ·obtain ⟨b, hb⟩ := NQ q.name
  rw [CS]
  exact Bn hb ⟨_, rfl, trivial⟩
 ·exact ⟨_, rfl, trivial⟩
structure EO (q : AB) : Prop where
 decls : K3 q.decls
 quants : q.quants.length ≤ 8
 symbols : ∀ s ∈ q.symbols, Po q s
 guards : ∀ t ∈ q.trans, t.guard = -1 ∨ 0 ≤ t.guard
 ends : ∀ t ∈ q.trans, (0 ≤ t.symbol ∧ t.symbol < q.symbols.length) ∧ (0 ≤ t.from_ ∧ t.from_ < q.states.length) ∧ 0 ≤ t.to ∧ t.to < q.states.length
 fires : ∀ t ∈ q.trans, ∃ f r, Xy q t f = some (r, true)
theorem aLv (q : AB) (hF : Mv q) (hW : ∀ t ∈ q.trans, J8 t) : ∃ r, Yr q = some r ∧ (r = true → EO q) := by
 have h1 := hF.decls; have h2 := hF.trans
 unfold Yr
 obtain ⟨r1, e1, p1⟩ := aKz q.decls (by omega)
 refine Bn e1 ?_
 refine DT (fun _ => ⟨_, rfl, by simp⟩) (fun hz => ?_)
 refine Bm (fun _ => ⟨_, rfl, by simp⟩) (fun hq => ?_)
 refine Bm (fun _ => ⟨_, rfl, by simp⟩) (fun _ => ?_)
 refine Bm (fun _ => ⟨_, rfl, by simp⟩) (fun _ => ?_)
 refine Bm (fun _ => ⟨_, rfl, by simp⟩) (fun _ => ?_)
 refine Bm (fun _ => ⟨_, rfl, by simp⟩) (fun _ => ?_)
 refine Bm (fun _ => ⟨_, rfl, by simp⟩) (fun _ => ?_)
 refine Bm (fun _ => ⟨_, rfl, by simp⟩) (fun _ => ?_)
 refine Bm (fun _ => ⟨_, rfl, by simp⟩) (fun _ => ?_)
 obtain ⟨r2, e2⟩ := aGs q hF
 refine Bn e2 ?_
 refine GD (fun _ => ⟨_, rfl, by simp⟩) (fun _ => ?_)
 obtain ⟨o5, e5, p5⟩ := CM (step := fun s : Int × Int => HX q s.1 s.2) (fun s => ∃ i : Nat, s.2 = (i : Int) ∧ i ≤ q.trans.length ∧ 0 ≤ s.1 ∧ s.1 ≤ q.nodes.length ∧ ∀ j, j < i → ∀ t, q.trans[j]? = some t → 0 ≤ t.symbol ∧ t.symbol < q.symbols.length ∧ (t.guard = -1 ∨ 0 ≤ t.guard) ∧ (0 ≤ t.from_ ∧ t.from_ < q.states.length) ∧ 0 ≤ t.to ∧ t.to < q.states.length ∧ ∃ f r, Xy q t f = some (r, true)) (fun s => (q.trans.length - s.2).toNat)
  (fun o => ∀ w, o = .inl w → ∀ t ∈ q.trans, 0 ≤ t.symbol ∧ t.symbol < q.symbols.length ∧ (t.guard = -1 ∨ 0 ≤ t.guard) ∧ (0 ≤ t.from_ ∧ t.from_ < q.states.length) ∧ 0 ≤ t.to ∧ t.to < q.states.length ∧ ∃ f r, Xy q t f = some (r, true))
  (by
   rintro ⟨w, s⟩ ⟨i, rfl, hi, hw0, hw1, hP⟩
   simp only at hw0 hw1 hP ⊢
   by_cases he : i = q.trans.length
   ·subst he; exact .inl ⟨.inl w, by simp only [HX, ltI, AN], fun _ _ => F7 hP⟩
   ·obtain ⟨x, hx, _⟩ := Az (l := q.trans) (i := i) (by omega)
    have hxm := List.mem_of_getElem? hx
    obtain ⟨r4, e4, p4⟩ := aCf q hF x (hW x hxm) (hF.sets x hxm) w hw0 hw1
    simp only [HX, ltD hx, AP, Ad hx, e4, AH, B5 hx (show q.trans.length ≤ 9223372036854775807 by omega)]
    cases hb : r4.2 with
    | false => exact .inl ⟨.inr (), rfl, by simp⟩
    | true =>
     have hp := p4 hb
     refine .inr ⟨(r4.1, ((i + 1 : Nat) : Int)), rfl, ⟨i + 1, rfl, by omega, hp.2.2.1, hp.2.2.2.1, fun j hj t ht => ?_⟩, by simp only; omega⟩
     rcases Nat.lt_or_ge j i with h | h
     ·exact hP j h t ht
     ·have : j = i := by omega
      subst this; rw [hx] at ht; cases ht; exact ⟨hp.1, hp.2.1, hp.2.2.2.2.1, hp.2.2.2.2.2.1, hp.2.2.2.2.2.2.1, hp.2.2.2.2.2.2.2, w, r4.1, by rw [e4, ← hb]⟩)
  ((0 : Int), (0 : Int)) ⟨0, rfl, by omega, by simp, by simp, fun j hj => by omega⟩
 refine Bn e5 ?_
 rcases o5 with o6 | _
 ·rw [CS]
  refine Bm (fun _ => ?_) (fun _ => ⟨_, rfl, by simp⟩)
  obtain ⟨r8, e8, p8⟩ := aJp q hF (fun t ht => ⟨(p5 o6 rfl t ht).1, (p5 o6 rfl t ht).2.1⟩)
  refine Bn e8 ⟨_, rfl, fun hr => ⟨p1 hz, by omega, p8 hr, fun t ht => (p5 o6 rfl t ht).2.2.1, fun t ht => ⟨⟨(p5 o6 rfl t ht).1, (p5 o6 rfl t ht).2.1⟩, (p5 o6 rfl t ht).2.2.2.1, (p5 o6 rfl t ht).2.2.2.2.1, (p5 o6 rfl t ht).2.2.2.2.2.1⟩, fun t ht => (p5 o6 rfl t ht).2.2.2.2.2.2⟩⟩
 ·exact ⟨_, rfl, by simp⟩
theorem T0 : ∀ (x y : List UInt8), (match ((x.zip y).findSome? fun z => if z.1 = z.2 then none else some (Sum.inr (decide (z.1 < z.2)) : Unit ⊕ Bool)).getD (.inl ()) with | .inl _ => decide (x.length < y.length) | .inr b => b) = Op.bytesLess x y
 | [], [] => rfl
 | _ :: _, [] => rfl
 | [], _ :: _ => by simp [Op.bytesLess]
 | a :: x, b :: y => by
  rw [List.zip_cons_cons, List.findSome?_cons]
  by_cases h : a = b
  ·subst h
   simp only [if_true, Op.bytesLess, beq_self_eq_true, Bool.true_and, ← T0 x y]
   have : decide (a < a) = false := by simp
   rw [this, Bool.false_or]
   simp only [List.length_cons, Nat.add_lt_add_iff_right]
  ·simp [h, Op.bytesLess]
theorem aLn (x y : List UInt8) (hx : x.length ≤ 9223372036854775807) (hy : y.length ≤ 9223372036854775807) : Yh x y = some (Op.bytesLess x y) := by
 unfold Yh aAg
 have hz : (x.zip y).length = min x.length y.length := by simp
 rw [Kf (x.zip y) (fun _ z => if z.1 = z.2 then none else some (Sum.inr (decide (z.1 < z.2)) : Unit ⊕ Bool)) (.inl ())
  (fun i z h => by
   obtain ⟨h1, h2⟩ := aF6 h
   simp only [F4, ltD h1, ltD h2, AP, Ad h1, Ad h2, B5 h1 hx]
   by_cases e : z.1 = z.2
   ·simp [e, AE]
   ·have : ¬ (z.1.toNat : Int) = (z.2.toNat : Int) := fun g => e (UInt8.toNat_inj.1 (by omega))
    have : (decide ((z.1.toNat : Int) < (z.2.toNat : Int))) = decide (z.1 < z.2) := decide_eq_decide.2 (by rw [UInt8.lt_iff_toNat_lt]; omega)
    rw [this, if_neg e]
    simp [*, AE])
  (by
   rw [hz]
   rcases Nat.le_total x.length y.length with h | h
   ·rw [Nat.min_eq_left h]; simp only [F4, ltI, AN]
   ·rw [Nat.min_eq_right h]; simp only [F4, ltI, AN]; cases decide ((y.length : Int) < (x.length : Int)) <;> rfl), AH, FX, ← T0]
 cases ((x.zip y).findSome? fun z => if z.1 = z.2 then none else some (Sum.inr (decide (z.1 < z.2)) : Unit ⊕ Bool)).getD (.inl ()) <;> simp [Cj]
def ltV (a b : X0) : Bool := if a.kind = b.kind then (if a.kind = 1 then decide (a.int < b.int) else if a.kind = 2 then Op.bytesLess a.str b.str else !a.bool && b.bool) else decide (a.kind < b.kind)
theorem aMb (a b : X0) (ha : a.str.length ≤ 9223372036854775807) (hb : b.str.length ≤ 9223372036854775807) : Z4 a b = some (ltV a b) := by
 unfold Z4 ltV
 rw [aLn _ _ ha hb]
 by_cases h : a.kind = b.kind <;> by_cases h1 : a.kind = 1 <;> by_cases h2 : a.kind = 2 <;> cases ha : a.bool <;> simp_all [AE, AG]
theorem aIj {i : Nat} (h : 0 < i) (hi : i ≤ 1000000) : AA .sub .i64 (i : Int) 1 = ((i - 1 : Nat) : Int) := by
 have : IntKind.wrap .i64 ((i : Int) - 1) = (i : Int) - 1 := IntWalk.i64_in _ ⟨by omega, by omega⟩
 show IntKind.wrap .i64 ((i : Int) - 1) = _
 rw [this]; omega
def aOp (n : Nat) (w : List X2) (c : X2) (r : List X2) : Prop := (∀ x, x ∈ r ↔ x = c ∨ x ∈ w) ∧ r.length ≤ w.length + 1
theorem aFu {n : Nat} {w : List X2} {c : X2} (k : Nat) (hk : k ≤ w.length) : aOp n w c (w.take k ++ [c] ++ w.drop k) := by
 constructor
 ·intro x
  rw [List.append_assoc, ma, ma, List.mem_singleton]
  have h := List.take_append_drop k w
  constructor
  ·rintro (h1 | h1 | h1)
   ·exact .inr (List.mem_of_mem_take h1)
   ·exact .inl h1
   ·exact .inr (List.mem_of_mem_drop h1)
  ·rintro (h1 | h1)
   ·exact .inr (.inl h1)
   ·rw [← h, ma] at h1
    rcases h1 with h1 | h1
    ·exact .inl h1
    ·exact .inr (.inr h1)
 ·simp only [List.length_append, List.length_take, List.length_drop, List.length_cons, List.length_nil]; omega
theorem Ux {α : Type} (w : List α) (k : Nat) : sub w 0 (k : Int) = w.take k := by simp [sub]
theorem Uw {α : Type} (w : List α) (k : Nat) : sub w (k : Int) (w.length : Int) = w.drop k := by simp [sub]
def ga (w : List Int) (i : Nat) : Int := w.getD i 0
def swp (w : List Int) (i j : Nat) : List Int := (w.set i (ga w j)).set j (ga w i)
theorem Bl (w : List Int) (i j : Nat) : (swp w i j).length = w.length := by unfold swp; rw [List.length_set, List.length_set]
theorem EN {w : List Int} {i j : Nat} (hi : i < w.length) (hj : j < w.length) (k : Nat) : ga (swp w i j) k = if k = j then ga w i else if k = i then ga w j else ga w k := by
 unfold swp ga
 simp only [List.getD_eq_getElem?_getD, List.getElem?_set, List.length_set]
 by_cases h1 : k = j
 ·subst h1; simp [hj]
 ·rw [if_neg (fun e => h1 e.symm), if_neg h1]
  by_cases h2 : k = i
  ·subst h2; simp [hi]
  ·rw [if_neg (fun e => h2 e.symm), if_neg h2]
theorem UH {w : List Int} {i : Nat} (h : i < w.length) : w[i] = ga w i := by unfold ga; simp [h]
theorem aCd {w : List Int} {i j : Nat} (hi : i < w.length) (hj : j < w.length) : (swp w i j).Perm w := by
 have := List.set_set_perm hi hj
 rw [UH hi, UH hj] at this
 exact this
structure Pm (a b : Nat) (w w' : List Int) : Prop where
 perm : w'.Perm w
 out : ∀ i, i < a ∨ b ≤ i → ga w' i = ga w i
 src : ∀ j, a ≤ j → j < b → ∃ i, a ≤ i ∧ i < b ∧ ga w' j = ga w i
theorem Pm.len {a b : Nat} {w w' : List Int} (h : Pm a b w w') : w'.length = w.length := h.perm.length_eq
theorem Pm.refl (a b : Nat) (w : List Int) : Pm a b w w := ⟨List.Perm.refl _, fun _ _ => rfl, fun j h1 h2 => ⟨j, h1, h2, rfl⟩⟩
theorem Pm.trans {a b : Nat} {w w1 w2 : List Int} (h : Pm a b w w1) (k : Pm a b w1 w2) : Pm a b w w2 :=
 ⟨k.perm.trans h.perm, fun i hi => (k.out i hi).trans (h.out i hi), fun j h1 h2 => by
  obtain ⟨i, a1, a2, a3⟩ := k.src j h1 h2
  obtain ⟨i2, b1, b2, b3⟩ := h.src i a1 a2
  exact ⟨i2, b1, b2, a3.trans b3⟩⟩
theorem Pm.mono {a b a' b' : Nat} {w w1 : List Int} (h : Pm a b w w1) (h1 : a' ≤ a) (h2 : b ≤ b') : Pm a' b' w w1 :=
 ⟨h.perm, fun i hi => h.out i (by omega), fun j j1 j2 => by
  by_cases hj : a ≤ j ∧ j < b
  ·obtain ⟨i, a1, a2, a3⟩ := h.src j hj.1 hj.2
   exact ⟨i, by omega, by omega, a3⟩
  ·exact ⟨j, j1, j2, h.out j (by omega)⟩⟩
theorem Pm.swp {a b : Nat} {w : List Int} {i j : Nat} (hi : a ≤ i ∧ i < b) (hj : a ≤ j ∧ j < b) (hb : b ≤ w.length) : Pm a b w (swp w i j) := by
 have h1 : i < w.length := by omega
 have h2 : j < w.length := by omega
 refine ⟨aCd h1 h2, fun k hk => ?_, fun k k1 k2 => ?_⟩
 ·rw [EN h1 h2, if_neg (by omega), if_neg (by omega)]
 ·rw [EN h1 h2]
  split
  ·exact ⟨i, hi.1, hi.2, rfl⟩
  ·split
   ·exact ⟨j, hj.1, hj.2, rfl⟩
   ·exact ⟨k, k1, k2, rfl⟩
section
variable {β : Type}
theorem EV {w : List Int} {n : Nat} (h : n < w.length) (k : Int → Option β) : AX w (n : Int) k = k (ga w n) := by
 refine Ad ?_ k
 rw [List.getElem?_eq_getElem h, UH h]
theorem Ej {w : List Int} {n : Nat} (h : n < w.length) (k : Option β) : Aa (0 ≤ (n : Int) ∧ (n : Int) + 1 ≤ (w.length : Int)) k = k := Dh ⟨by omega, by omega⟩ k
theorem ltT {i j : Nat} (h : i < j) (x y : Option β) : AE (decide ((i : Int) < (j : Int))) x y = x := by rw [decide_eq_true (by omega)]; rfl
theorem ltF {i j : Nat} (h : ¬ i < j) (x y : Option β) : AE (decide ((i : Int) < (j : Int))) x y = y := by rw [decide_eq_false (by omega)]; rfl
theorem leT {i j : Nat} (h : i ≤ j) (x y : Option β) : AE (decide ((i : Int) ≤ (j : Int))) x y = x := by rw [decide_eq_true (by omega)]; rfl
theorem leF {i j : Nat} (h : ¬ i ≤ j) (x y : Option β) : AE (decide ((i : Int) ≤ (j : Int))) x y = y := by rw [decide_eq_false (by omega)]; rfl
end
theorem Fc {n : Nat} (h : n ≤ 4611686018427387904) : AA .add .i64 (n : Int) 1 = ((n + 1 : Nat) : Int) := aF0 (by omega)
theorem Dk {n : Nat} (h : 1 ≤ n ∧ n ≤ 4611686018427387904) : AA .sub .i64 (n : Int) 1 = ((n - 1 : Nat) : Int) := by
 rw [aFz (by omega) (by omega)]; omega
theorem NV {n m : Nat} (h : n + m ≤ 4611686018427387904) : AA .add .i64 (n : Int) (m : Int) = ((n + m : Nat) : Int) := by
 rw [aA8 (by omega) (by omega)]; omega
theorem Uv {n m : Nat} (h : m ≤ n ∧ n ≤ 4611686018427387904) : AA .sub .i64 (n : Int) (m : Int) = ((n - m : Nat) : Int) := by
 rw [aFz (by omega) (by omega)]; omega
theorem Bj (a b : Int) : Y6 a b = some (decide (a < b)) := by
 unfold Y6 Zr
 simp [AG, AE]
theorem aNq (a i : Nat) (s2 s6 : Int) : ∀ (j : Nat) (w : List Int), w.length ≤ 1000000 → i < w.length → a ≤ j → j ≤ i → (∀ p q, a ≤ p → p < q → q ≤ i → q ≠ j → ga w p ≤ ga w q) →
 ∃ w', Om (a : Int) s2 s6 (j : Int) w = some w' ∧ Pm a (i + 1) w w' ∧ ∀ p q, a ≤ p → p < q → q ≤ i → ga w' p ≤ ga w' q := by
 intro j
 induction j with
 | zero =>
  intro w hl hi ha hj hs
  refine ⟨w, ?_, Pm.refl _ _ _, fun p q h1 h2 h3 => hs p q h1 h2 h3 (by omega)⟩
  rw [NM]
  unfold EQ
  rw [ltF (by omega), Af]
 | succ j ih =>
  intro w hl hi ha hj hs
  rw [NM]
  by_cases h0 : a < j + 1
  ·by_cases h1 : ga w (j + 1) < ga w j
   ·have hp := Pm.swp (a := a) (b := i + 1) (w := w) (i := j + 1) (j := j) ⟨by omega, by omega⟩ ⟨by omega, by omega⟩ (by omega)
    have hg := EN (w := w) (i := j + 1) (j := j) (by omega) (by omega)
    obtain ⟨w', e1, e2, e3⟩ := ih (swp w (j + 1) j) (by rw [Bl]; omega) (by rw [Bl]; omega) (by omega) (by omega) (fun p q p1 p2 p3 p4 => by
     have b1 := hs p q p1 p2 p3
     have b2 := hs p (j + 1) p1
     have b3 := hs p j p1
     have b4 := hs (j + 1) q (by omega)
     have b5 := hs j q (by omega)
     rw [hg, hg]
     by_cases c1 : p = j
     ·rw [if_pos c1]
      by_cases c2 : q = j + 1
      ·rw [if_neg (by omega), if_pos c2]; omega
      ·rw [if_neg (by omega), if_neg c2]; exact b4 (by omega) p3 c2
     ·rw [if_neg c1]
      by_cases c2 : p = j + 1
      ·rw [if_pos c2, if_neg (by omega), if_neg (by omega)]; exact b5 (by omega) p3 (by omega)
      ·rw [if_neg c2]
       by_cases c3 : q = j + 1
       ·rw [if_neg (by omega), if_pos c3]; exact b3 (by omega) (by omega) (by omega)
       ·rw [if_neg (by omega), if_neg c3]; exact b1 c3)
    refine ⟨w', ?_, hp.trans e2, e3⟩
    rw [← e1]
    unfold EQ
    rw [ltT h0]
    simp (disch := omega) only [Dk, Nat.add_sub_cancel, Ej, EV, Bj, AH, h1, decide_true, AP, List.length_set, Int.toNat_natCast, B4]
    rfl
   ·refine ⟨w, ?_, Pm.refl _ _ _, fun p q p1 p2 p3 => ?_⟩
    ·unfold EQ
     rw [ltT h0]
     simp (disch := omega) only [Dk, Nat.add_sub_cancel, Ej, EV, Bj, AH, h1, decide_false, AN, Af]
    ·by_cases hq : q = j + 1
     ·subst hq
      by_cases hpj : p = j
      ·subst hpj; omega
      ·have := hs p j p1 (by omega) (by omega) (by omega)
       omega
     ·exact hs p q p1 p2 p3 hq
  ·refine ⟨w, ?_, Pm.refl _ _ _, fun p q p1 p2 p3 => hs p q p1 p2 p3 (by omega)⟩
   unfold EQ
   rw [ltF h0, Af]
def So (a b : Nat) (w : List Int) : Prop := ∀ p q, a ≤ p → p < q → q < b → ga w p ≤ ga w q
theorem aNp (a b : Nat) : ∀ (m i : Nat) (w : List Int), b ≤ i + m → w.length ≤ 1000000 → b ≤ w.length → a < i → So a i w →
 ∃ w', Ol (a : Int) (b : Int) (i : Int) w = some w' ∧ Pm a b w w' ∧ So a b w' := by
 intro m
 induction m with
 | zero =>
  intro i w hm hl hb ha hs
  refine ⟨w, ?_, Pm.refl _ _ _, fun p q h1 h2 h3 => hs p q h1 h2 (by omega)⟩
  rw [NL]
  unfold Fx
  rw [ltF (by omega), Af]
 | succ m ih =>
  intro i w hm hl hb ha hs
  rw [NL]
  unfold Fx
  by_cases h0 : i < b
  ·obtain ⟨w1, e1, e2, e3⟩ := aNq a i (b : Int) (i : Int) i w hl (by omega) (by omega) (by omega) (fun p q h1 h2 h3 h4 => hs p q h1 h2 (by omega))
   obtain ⟨w2, f1, f2, f3⟩ := ih (i + 1) w1 (by omega) (by rw [e2.len]; exact hl) (by rw [e2.len]; exact hb) (by omega) (fun p q h1 h2 h3 => e3 p q h1 h2 (by omega))
   refine ⟨w2, ?_, (e2.mono (by omega) (by omega)).trans f2, f3⟩
   rw [ltT h0, e1, AH, Fc (by omega), B4]
   exact f1
  ·refine ⟨w, by rw [ltF h0, Af], Pm.refl _ _ _, fun p q h1 h2 h3 => hs p q h1 h2 (by omega)⟩
theorem aNr (a b : Nat) (w : List Int) (hl : w.length ≤ 1000000) (hb : b ≤ w.length) (hab : a ≤ b) : ∃ w', Xu (a : Int) (b : Int) w = some w' ∧ Pm a b w w' ∧ So a b w' := by
 obtain ⟨w', e1, e2, e3⟩ := aNp a b b (a + 1) w (by omega) hl hb (by omega) (fun p q h1 h2 h3 => by omega)
 refine ⟨w', ?_, e2, e3⟩
 unfold Xu
 rw [Fc (by omega), e1, AH]
theorem Ki {n : Nat} (h : 2 * n ≤ 4611686018427387904) : AA .mul .i64 2 (n : Int) = ((2 * n : Nat) : Int) := by
 rw [aH7 (by omega) (by omega)]; omega
theorem aIc {n k : Nat} (h : n ≤ 4611686018427387904) : AA .quo .i64 (n : Int) (k : Int) = ((n / k : Nat) : Int) := by
 show IntKind.wrap .i64 ((n : Int).tdiv (k : Int)) = _
 rw [← Int.ofNat_tdiv]
 have : n / k ≤ n := Nat.div_le_self _ _
 generalize n / k = d at *
 exact aIo (by omega) (by omega)
def Ch (k c : Nat) : Prop := c = 2 * k + 1 ∨ c = 2 * k + 2
def HpX (f lo hi r : Nat) (w : List Int) : Prop := ∀ k c, lo ≤ k → Ch k c → c < hi → k ≠ r → ga w (f + c) ≤ ga w (f + k)
def Hp (f lo hi : Nat) (w : List Int) : Prop := ∀ k c, lo ≤ k → Ch k c → c < hi → ga w (f + c) ≤ ga w (f + k)
theorem aFx (f lo hi : Nat) : ∀ (m r : Nat) (w : List Int), hi ≤ r + m → lo ≤ r → r ≤ 1000000 → w.length ≤ 1000000 → f + hi ≤ w.length → HpX f lo hi r w →
 (∀ k c, lo ≤ k → Ch k r → Ch r c → c < hi → ga w (f + c) ≤ ga w (f + k)) →
 ∃ w' o, Oh (hi : Int) (f : Int) (r : Int) w = some o ∧ (o = .inl w' ∨ o = .inr w') ∧ Pm (f + lo) (f + hi) w w' ∧ Hp f lo hi w' := by
 intro m
 induction m with
 | zero =>
  intro r w hm hr hr1 hl hf hH hG
  refine ⟨w, _, ?_, .inl rfl, Pm.refl _ _ _, fun k c h1 h2 h3 => hH k c h1 h2 h3 (by unfold Ch at h2; omega)⟩
  rw [NI]
  unfold D8 IO
  simp (disch := omega) only [Ki, Fc, leT, AH, EI, CS, Af]
 | succ m ih =>
  intro r w hm hr hr1 hl hf hH hG
  rw [NI]
  by_cases h0 : hi ≤ 2 * r + 1
  ·refine ⟨w, _, ?_, .inl rfl, Pm.refl _ _ _, fun k c h1 h2 h3 => hH k c h1 h2 h3 (by unfold Ch at h2; omega)⟩
   unfold D8 IO
   simp (disch := omega) only [Ki, Fc, leT, AH, EI, CS, Af]
  ·have key : ∃ c2, Ch r c2 ∧ c2 < hi ∧ (∀ c, Ch r c → c < hi → ga w (f + c) ≤ ga w (f + c2)) ∧
    D8 (hi : Int) (f : Int) (r : Int) w = (if ga w (f + r) < ga w (f + c2) then some (.inl ((c2 : Int), swp w (f + r) (f + c2))) else some (.inr (.inr w))) := by
    by_cases h1 : 2 * r + 2 < hi
    ·by_cases h2 : ga w (f + (2 * r + 1)) < ga w (f + (2 * r + 2))
     ·refine ⟨2 * r + 2, .inr rfl, h1, fun c hc hch => by rcases hc with rfl | rfl <;> omega, ?_⟩
      unfold D8 IO JK
      have h2' : ga w (f + (2 * r + 1)) < ga w (f + (2 * r + 1) + 1) := h2
      by_cases h3 : ga w (f + r) < ga w (f + (2 * r + 2))
      ·have h3' : ga w (f + r) < ga w (f + (2 * r + 1 + 1)) := h3
       rw [if_pos h3]
       simp (disch := omega) only [Ki, Fc, NV, leF, ltT, Ej, EV, Bj, AH, h2', h3', decide_true, Bool.not_true, AP, AN, List.length_set, Int.toNat_natCast, CS]
       rfl
      ·have h3' : ¬ ga w (f + r) < ga w (f + (2 * r + 1 + 1)) := h3
       rw [if_neg h3]
       simp (disch := omega) only [Ki, Fc, NV, leF, ltT, Ej, EV, Bj, AH, h2', h3', decide_true, decide_false, Bool.not_false, AP, AN, List.length_set, Int.toNat_natCast, CS, EI]
     ·refine ⟨2 * r + 1, .inl rfl, by omega, fun c hc hch => by rcases hc with rfl | rfl <;> omega, ?_⟩
      unfold D8 IO JK
      have h2' : ¬ ga w (f + (2 * r + 1)) < ga w (f + (2 * r + 1) + 1) := h2
      by_cases h3 : ga w (f + r) < ga w (f + (2 * r + 1))
      ·rw [if_pos h3]
       simp (disch := omega) only [Ki, Fc, NV, leF, ltT, Ej, EV, Bj, AH, h2', h3, decide_true, decide_false, Bool.not_true, AP, AN, List.length_set, Int.toNat_natCast, CS]
       rfl
      ·rw [if_neg h3]
       simp (disch := omega) only [Ki, Fc, NV, leF, ltT, Ej, EV, Bj, AH, h2', h3, decide_true, decide_false, Bool.not_false, AP, AN, List.length_set, Int.toNat_natCast, CS, EI]
    ·refine ⟨2 * r + 1, .inl rfl, by omega, fun c hc hch => by rcases hc with rfl | rfl <;> omega, ?_⟩
     unfold D8 IO JK
     by_cases h3 : ga w (f + r) < ga w (f + (2 * r + 1))
     ·rw [if_pos h3]
      simp (disch := omega) only [Ki, Fc, NV, leF, ltF, Ej, EV, Bj, AH, h3, decide_true, decide_false, Bool.not_true, AP, AN, List.length_set, Int.toNat_natCast, CS]
      rfl
     ·rw [if_neg h3]
      simp (disch := omega) only [Ki, Fc, NV, leF, ltF, Ej, EV, Bj, AH, h3, decide_true, decide_false, Bool.not_false, AP, AN, List.length_set, Int.toNat_natCast, CS, EI]
   obtain ⟨c2, hc2, hc2h, hmax, hstep⟩ := key
   rw [hstep]
   have hrc : r < c2 := by unfold Ch at hc2; omega
   by_cases h3 : ga w (f + r) < ga w (f + c2)
   ·rw [if_pos h3, B4]
    have hg := EN (w := w) (i := f + r) (j := f + c2) (by omega) (by omega)
    have er : ga (swp w (f + r) (f + c2)) (f + r) = ga w (f + c2) := by rw [hg, if_neg (by omega), if_pos rfl]
    have ec : ga (swp w (f + r) (f + c2)) (f + c2) = ga w (f + r) := by rw [hg, if_pos rfl]
    have en : ∀ x, x ≠ r → x ≠ c2 → ga (swp w (f + r) (f + c2)) (f + x) = ga w (f + x) := fun x h1 h2 => by rw [hg, if_neg (by omega), if_neg (by omega)]
    obtain ⟨w', o, e1, e2, e3, e4⟩ := ih c2 (swp w (f + r) (f + c2)) (by omega) (by omega) (by omega) (by rw [Bl]; exact hl) (by rw [Bl]; exact hf)
     (fun k c h1 h2 h4 h5 => by
      by_cases k1 : k = r
      ·subst k1
       by_cases k2 : c = c2
       ·subst k2; rw [ec, er]; omega
       ·rw [er, en c (by unfold Ch at h2; omega) k2]; exact hmax c h2 h4
      ·rw [en k k1 h5]
       by_cases k2 : c = r
       ·subst k2; rw [er]; exact hG k c2 h1 h2 hc2 hc2h
       ·by_cases k3 : c = c2
        ·exfalso; unfold Ch at h2 hc2; omega
        ·rw [en c k2 k3]; exact hH k c h1 h2 h4 k1)
     (fun k c h1 h2 h4 h5 => by
      have : k = r := by unfold Ch at h2 hc2; omega
      subst this
      rw [er, en c (by unfold Ch at h4; omega) (by unfold Ch at h4; omega)]
      exact hH c2 c (by omega) h4 h5 (by omega))
    exact ⟨w', o, e1, e2, (Pm.swp ⟨by omega, by omega⟩ ⟨by omega, by omega⟩ hf).trans e3, e4⟩
   ·rw [if_neg h3, Af]
    refine ⟨w, _, rfl, .inr rfl, Pm.refl _ _ _, fun k c h1 h2 h4 => ?_⟩
    by_cases k1 : k = r
    ·subst k1; have := hmax c h2 h4; omega
    ·exact hH k c h1 h2 h4 k1
theorem Uq {f lo hi : Nat} {w : List Int} (hl : w.length ≤ 1000000) (hf : f + hi ≤ w.length) (hr : lo ≤ 1000000) (hH : HpX f lo hi lo w) :
 ∃ w', Xr (lo : Int) (hi : Int) (f : Int) w = some w' ∧ Pm (f + lo) (f + hi) w w' ∧ Hp f lo hi w' := by
 obtain ⟨w', o, e1, e2, e3, e4⟩ := aFx f lo hi hi lo w (by omega) (Nat.le_refl _) hr hl hf hH (fun k c h1 h2 h3 h4 => by unfold Ch at h2; omega)
 refine ⟨w', ?_, e3, e4⟩
 unfold Xr
 rw [e1, AH]
 rcases e2 with rfl | rfl <;> rfl
theorem aFj (f hi : Nat) : ∀ (m : Nat) (w : List Int), w.length ≤ 1000000 → f + hi ≤ w.length → m ≤ 1000000 → Hp f m hi w →
 ∃ w', Oo (f : Int) 0 (hi : Int) ((m : Int) - 1) w = some w' ∧ Pm f (f + hi) w w' ∧ Hp f 0 hi w' := by
 intro m
 induction m with
 | zero =>
  intro w hl hf hm hH
  refine ⟨w, ?_, Pm.refl _ _ _, hH⟩
  rw [NO]
  unfold Fy
  rw [decide_eq_false (by omega), AN, Af]
 | succ m ih =>
  intro w hl hf hm hH
  obtain ⟨w1, e1, e2, e3⟩ := Uq (f := f) (lo := m) (hi := hi) hl hf (by omega) (fun k c h1 h2 h3 h4 => hH k c (by omega) h2 h3)
  obtain ⟨w2, f1, f2, f3⟩ := ih w1 (by rw [e2.len]; exact hl) (by rw [e2.len]; exact hf) (by omega) e3
  refine ⟨w2, ?_, (e2.mono (by omega) (by omega)).trans f2, f3⟩
  rw [NO]
  unfold Fy
  rw [show (((m + 1 : Nat) : Int) - 1) = (m : Int) by omega, decide_eq_true (by omega), AP, e1, AH, aFz (by omega) (by omega), B4]
  exact f1
theorem aBr {f hi : Nat} {w : List Int} (h : Hp f 0 hi w) : ∀ k, k < hi → ga w (f + k) ≤ ga w f := by
 intro k
 induction k using Nat.strongRecOn with
 | ind k ih =>
  intro hk
  by_cases h0 : k = 0
  ·subst h0; exact Int.le_refl _
  ·have h1 := h ((k - 1) / 2) k (by omega) (by unfold Ch; omega) hk
   have h2 := ih ((k - 1) / 2) (by omega) (by omega)
   omega
theorem aFk (f hi : Nat) : ∀ (m : Nat) (w : List Int), w.length ≤ 1000000 → f + hi ≤ w.length → m ≤ hi → Hp f 0 m w → (∀ p q, p < q → q < hi → m ≤ q → ga w (f + p) ≤ ga w (f + q)) →
 ∃ w', Oq (f : Int) 0 ((m : Int) - 1) w = some w' ∧ Pm f (f + hi) w w' ∧ ∀ p q, p < q → q < hi → ga w' (f + p) ≤ ga w' (f + q) := by
 intro m
 induction m with
 | zero =>
  intro w hl hf hm hH hs
  refine ⟨w, ?_, Pm.refl _ _ _, fun p q h1 h2 => hs p q h1 h2 (by omega)⟩
  rw [NP]
  unfold Fz
  rw [decide_eq_false (by omega), AN, Af]
 | succ m ih =>
  intro w hl hf hm hH hs
  have hg := EN (w := w) (i := f) (j := f + m) (by omega) (by omega)
  have hmx := aBr hH
  obtain ⟨w1, e1, e2, e3⟩ := Uq (f := f) (lo := 0) (hi := m) (w := swp w f (f + m)) (by rw [Bl]; exact hl) (by rw [Bl]; omega) (by omega) (fun k c h1 h2 h3 h4 => by
   have : 0 < c := by unfold Ch at h2; omega
   have := hH k c h1 h2 (by omega)
   by_cases km : k = m
   ·unfold Ch at h2; omega
   ·rw [hg, hg, if_neg (by omega), if_neg (by omega), if_neg (by omega), if_neg (by omega)]; exact this)
  rw [Nat.add_zero] at e2
  have hsw : Pm f (f + (m + 1)) w (swp w f (f + m)) := Pm.swp ⟨by omega, by omega⟩ ⟨by omega, by omega⟩ (by omega)
  have hpm := hsw.trans (e2.mono (Nat.le_refl _) (by omega))
  obtain ⟨w2, f1, f2, f3⟩ := ih w1 (by rw [hpm.len]; exact hl) (by rw [hpm.len]; exact hf) (by omega) e3 (fun p q h1 h2 h3 => by
   have hp' : ∀ p, p < m + 1 → ∃ p', p' < m + 1 ∧ ga w1 (f + p) = ga w (f + p') := fun p hp => by
    obtain ⟨i, i1, i2, i3⟩ := hpm.src (f + p) (by omega) (by omega)
    exact ⟨i - f, by omega, by rw [i3]; congr 1; omega⟩
   by_cases hq : q = m
   ·subst hq
    have eq1 : ga w1 (f + q) = ga w f := by
     rw [e2.out (f + q) (by omega), hg, if_pos rfl]
    obtain ⟨p', p1, p2⟩ := hp' p (by omega)
    rw [eq1, p2]; exact hmx p' p1
   ·have eq1 : ga w1 (f + q) = ga w (f + q) := hpm.out _ (by omega)
    rw [eq1]
    by_cases hpm1 : p < m + 1
    ·obtain ⟨p', p1, p2⟩ := hp' p hpm1
     rw [p2]; exact hs p' q (by omega) h2 (by omega)
    ·rw [hpm.out (f + p) (by omega)]; exact hs p q h1 h2 (by omega))
  refine ⟨w2, ?_, (hpm.mono (by omega) (by omega)).trans f2, f3⟩
  rw [NP]
  unfold Fz
  rw [show (((m + 1 : Nat) : Int) - 1) = (m : Int) by omega, decide_eq_true (by omega), AP]
  simp (disch := omega) only [NV, Ej, EV, List.length_set, Int.toNat_natCast]
  have e1' : Xr 0 (m : Int) (f : Int) ((w.set f (ga w (f + m))).set (f + m) (ga w f)) = some w1 := e1
  rw [e1', AH, aFz (by omega) (by omega), B4]
  exact f1
theorem aFl (a b : Nat) (w : List Int) (hl : w.length ≤ 1000000) (hb : b ≤ w.length) (hab : a < b) : ∃ w', Xw (a : Int) (b : Int) w = some w' ∧ Pm a b w w' ∧ So a b w' := by
 obtain ⟨w1, e1, e2, e3⟩ := aFj a (b - a) ((b - a - 1) / 2 + 1) w hl (by omega) (by omega) (fun k c h1 h2 h3 => by unfold Ch at h2; omega)
 obtain ⟨w2, f1, f2, f3⟩ := aFk a (b - a) (b - a) w1 (by rw [e2.len]; exact hl) (by rw [e2.len]; omega) (Nat.le_refl _) e3 (fun p q h1 h2 h3 => by omega)
 have hab' : a + (b - a) = b := by omega
 rw [hab'] at e2 f2
 refine ⟨w2, ?_, e2.trans f2, fun p q h1 h2 h3 => ?_⟩
 ·unfold Xw
  rw [Uv (by omega), Dk (by omega)]
  have hq : AA .quo .i64 ((b - a - 1 : Nat) : Int) 2 = (((b - a - 1) / 2 : Nat) : Int) := aIc (k := 2) (by omega)
  rw [hq]
  rw [show ((((b - a - 1) / 2 + 1 : Nat) : Int) - 1) = (((b - a - 1) / 2 : Nat) : Int) by omega] at e1
  rw [show (((b - a : Nat) : Int) - 1) = ((b - a - 1 : Nat) : Int) by omega] at f1
  rw [e1, AH, f1, AH]
 ·have := f3 (p - a) (q - a) (by omega) (by omega)
  rw [show a + (p - a) = p by omega, show a + (q - a) = q by omega] at this
  exact this
theorem aId (a b : Nat) : ∀ (m i j : Nat) (w : List Int), j ≤ i + m → a ≤ i → j ≤ b → w.length ≤ 1000000 → b ≤ w.length → i ≤ 1000000 →
 ∃ w', Ov (i : Int) ((j : Int) - 1) w = some w' ∧ Pm a b w w' := by
 intro m
 induction m using Nat.strongRecOn with
 | ind m ih =>
  intro i j w hm ha hj hl hb hi
  rw [aAe]
  unfold HS
  by_cases h0 : i + 1 < j
  ·have hs : Pm a b w (swp w i (j - 1)) := Pm.swp ⟨by omega, by omega⟩ ⟨by omega, by omega⟩ hb
   obtain ⟨w', e1, e2⟩ := ih (m - 2) (by omega) (i + 1) (j - 1) (swp w i (j - 1)) (by omega) (by omega) (by omega) (by rw [Bl]; exact hl) (by rw [Bl]; exact hb) (by omega)
   refine ⟨w', ?_, hs.trans e2⟩
   rw [show ((j : Int) - 1) = ((j - 1 : Nat) : Int) by omega]
   rw [show (((j - 1 : Nat) : Int) - 1) = ((j - 1 - 1 : Nat) : Int) by omega] at e1
   rw [← e1]
   simp (disch := omega) only [ltT, Ej, EV, Fc, Dk, List.length_set, Int.toNat_natCast, B4]
   rfl
  ·refine ⟨w, ?_, Pm.refl _ _ _⟩
   rw [decide_eq_false (by omega), AN, Af]
theorem aIe (a b : Nat) (w : List Int) (hl : w.length ≤ 1000000) (hb : b ≤ w.length) (hab : a ≤ b) : ∃ w', Yg (a : Int) (b : Int) w = some w' ∧ Pm a b w w' := by
 obtain ⟨w', e1, e2⟩ := aId a b b a b w (by omega) (Nat.le_refl _) (Nat.le_refl _) hl hb (by omega)
 refine ⟨w', ?_, e2⟩
 unfold Yg
 rw [aFz (by omega) (by omega), e1, AH]
def l8 : List UInt8 := [0, 1, 2, 2, 3, 3, 3, 3, 4, 4, 4, 4, 4, 4, 4, 4, 5, 5, 5, 5, 5, 5, 5, 5, 5, 5, 5, 5, 5, 5, 5, 5, 6, 6, 6, 6, 6, 6, 6, 6, 6, 6, 6, 6, 6, 6, 6, 6, 6, 6, 6, 6, 6, 6, 6, 6, 6, 6, 6, 6, 6, 6, 6, 6] ++ List.replicate 64 7 ++ List.replicate 128 8
theorem aH2 : ∀ n, n < 256 → ∃ c : UInt8, l8[n]? = some c ∧ c.toNat ≤ 8 ∧ n < 2 ^ c.toNat ∧ (0 < n → 2 ^ c.toNat ≤ 2 * n) := by
 have key : ((List.range 256).all fun n => match l8[n]? with
  | some c => decide (c.toNat ≤ 8) && decide (n < 2 ^ c.toNat) && (decide (n = 0) || decide (2 ^ c.toNat ≤ 2 * n))
  | none => false) = true := by kernel_rfl
 intro n hn
 have h := (List.all_eq_true.1 key) n (List.mem_range.2 hn)
 revert h
 cases l8[n]? with
 | none => intro h; cases h
 | some c =>
  intro h
  simp only [ba, Bool.or_eq_true, decide_eq_true_eq] at h
  exact ⟨c, rfl, h.1.1, h.1.2, fun h0 => by rcases h.2 with h2 | h2 <;> omega⟩
theorem aFo (a0 : Int) : Yk a0 = (AG (S9 a0 0 (decide (4294967296 ≤ a0))) fun o1 => AG (TA o1.1 o1.2 (decide (65536 ≤ o1.1))) fun o2 => AG (TB o2.1 o2.2 (decide (256 ≤ o2.1))) fun o3 =>
 AX l8 ((u8w o3.1).toNat : Int) fun x4 => some (AA .add .i64 o3.2 (x4.toNat : Int))) := by kernel_rfl
theorem aCm {n : Nat} (hn : n < 65536) : ∃ k : Nat, Zq ((n : Nat) : Int) = some (k : Int) ∧ k ≤ 16 ∧ n < 2 ^ k ∧ (0 < n → 2 ^ k ≤ 2 * n) := by
 unfold Zq
 rw [aFo]
 unfold S9 TA TB
 rw [decide_eq_false (by omega), AN, AH, decide_eq_false (by simp only; omega), AN, AH]
 simp only
 by_cases h : 256 ≤ n
 ·obtain ⟨c, e1, e2, e3, e4⟩ := aH2 (n / 256) (by omega)
  refine ⟨8 + c.toNat, ?_, by omega, ?_, fun _ => ?_⟩
  ·rw [decide_eq_true (by omega), AP, AH]
   simp only
   have hs : AA .shr .u64 (n : Int) 8 = ((n / 2 ^ 8 : Nat) : Int) := aOm (k := 8) (by decide)
   rw [hs, show (n / 2 ^ 8) = n / 256 from rfl, U1 (by omega)]
   rw [Ad (xs := l8) e1, AH, aA8 (a := 0) (b := 8) (by omega) (by omega), aA8 (by omega) (by omega)]
   simp
  ·rw [Nat.pow_add]; omega
  ·rw [Nat.pow_add]; have := e4 (by omega); omega
 ·obtain ⟨c, e1, e2, e3, e4⟩ := aH2 n (by omega)
  refine ⟨c.toNat, ?_, by omega, e3, e4⟩
  rw [decide_eq_false (by omega), AN, AH]
  simp only
  rw [U1 (by omega)]
  rw [Ad (xs := l8) e1, AH, aA8 (by omega) (by omega)]
  simp
theorem aEy (x k : Nat) (hk : k ≤ 62) (hx : x < 18446744073709551616) : AA .and .u64 (x : Int) (AA .sub .u64 ((2 ^ k : Nat) : Int) 1) = ((x % 2 ^ k : Nat) : Int) := by
 have hp : 2 ^ k ≤ 2 ^ 62 := Nat.pow_le_pow_right (by decide) hk
 have hp0 : 0 < 2 ^ k := Nat.two_pow_pos k
 have hs : AA .sub .u64 ((2 ^ k : Nat) : Int) 1 = ((2 ^ k - 1 : Nat) : Int) := by
  show IntKind.wrap .u64 (((2 ^ k : Nat) : Int) - 1) = _
  rw [show ((2 ^ k : Nat) : Int) - 1 = ((2 ^ k - 1 : Nat) : Int) by omega]
  exact EJ (by omega)
 rw [hs, aOr hx (by omega), Nat.and_two_pow_sub_one_eq_mod]
theorem PR {n : Nat} (hn : n < 65536) : ∃ k : Nat, Zw (n : Int) = some ((2 ^ k : Nat) : Int) ∧ k ≤ 16 ∧ n < 2 ^ k ∧ (0 < n → 2 ^ k ≤ 2 * n) := by
 obtain ⟨k, e1, e2, e3, e4⟩ := aCm hn
 refine ⟨k, ?_, e2, e3, e4⟩
 unfold Zw
 rw [EJ (by omega), e1, AH, Dh (by omega)]
 have hs : AA .shl .u64 1 (k : Int) = ((1 * 2 ^ k % 18446744073709551616 : Nat) : Int) := aOl (n := 1) (by omega)
 have hp : 2 ^ k ≤ 2 ^ 62 := Nat.pow_le_pow_right (by decide) (by omega)
 rw [hs, Nat.one_mul, Nat.mod_eq_of_lt (by omega)]
theorem aF4 {x : Nat} (hx : x < 18446744073709551616) : ∃ y : Nat, Zx (x : Int) = some ((y : Int), (y : Int)) ∧ y < 18446744073709551616 := by
 have h1 : ∀ (a k : Nat), k ≤ 64 → ∃ b : Nat, AA .shl .u64 (a : Int) (k : Int) = (b : Int) ∧ b < 18446744073709551616 := fun a k hk => ⟨_, aOl hk, Nat.mod_lt _ (by decide)⟩
 have h2 : ∀ (a k : Nat), k ≤ 64 → a < 18446744073709551616 → ∃ b : Nat, AA .shr .u64 (a : Int) (k : Int) = (b : Int) ∧ b < 18446744073709551616 := fun a k hk ha => ⟨_, aOm hk, Nat.lt_of_le_of_lt (Nat.div_le_self _ _) ha⟩
 have h3 : ∀ (a b : Nat), a < 18446744073709551616 → b < 18446744073709551616 → ∃ c : Nat, AA .xor .u64 (a : Int) (b : Int) = (c : Int) ∧ c < 18446744073709551616 := fun a b ha hb => ⟨_, aOt ha hb, Nat.xor_lt_two_pow (n := 64) ha hb⟩
 obtain ⟨a1, e1, f1⟩ := h1 x 13 (by decide)
 obtain ⟨a2, e2, f2⟩ := h3 x a1 hx f1
 obtain ⟨a3, e3, f3⟩ := h2 a2 7 (by decide) f2
 obtain ⟨a4, e4, f4⟩ := h3 a2 a3 f2 f3
 obtain ⟨a5, e5, f5⟩ := h1 a4 17 (by decide)
 obtain ⟨a6, e6, f6⟩ := h3 a4 a5 f4 f5
 refine ⟨a6, ?_, f6⟩
 have e1' : AA .shl .u64 (x : Int) 13 = (a1 : Int) := e1
 have e3' : AA .shr .u64 (a2 : Int) 7 = (a3 : Int) := e3
 have e5' : AA .shl .u64 (a4 : Int) 17 = (a5 : Int) := e5
 unfold Zx
 rw [e1', e2, e3', e4, e5', e6]
theorem aHt (a n k q : Nat) : ∀ (m i : Nat) (w : List Int) (x : Nat), q ≤ i + m → x < 18446744073709551616 → w.length ≤ 60000 → a + n ≤ w.length → a ≤ i → q ≤ a + n → 0 < n → n < 2 ^ k → 2 ^ k ≤ 2 * n → k ≤ 16 → q = a + n / 4 * 2 + 2 →
 ∃ w', Ok (a : Int) (n : Int) ((2 ^ k : Nat) : Int) (i : Int) w (x : Int) = some w' ∧ Pm a (a + n) w w' := by
 intro m
 induction m with
 | zero =>
  intro i w x hm hx hl hb ha hq h0 hk1 hk2 hk3 hqe
  refine ⟨w, ?_, Pm.refl _ _ _⟩
  rw [NK]
  unfold Fw
  have hd : AA .quo .i64 (n : Int) 4 = ((n / 4 : Nat) : Int) := aIc (k := 4) (by omega)
  have hmu : AA .mul .i64 ((n / 4 : Nat) : Int) 2 = ((n / 4 * 2 : Nat) : Int) := by rw [aH7 (by omega) (by omega)]; omega
  rw [hd, hmu, NV (by omega), Fc (by omega), leF (by omega), Af]
 | succ m ih =>
  intro i w x hm hx hl hb ha hq h0 hk1 hk2 hk3 hqe
  rw [NK]
  unfold Fw
  have hd : AA .quo .i64 (n : Int) 4 = ((n / 4 : Nat) : Int) := aIc (k := 4) (by omega)
  have hmu : AA .mul .i64 ((n / 4 : Nat) : Int) 2 = ((n / 4 * 2 : Nat) : Int) := by rw [aH7 (by omega) (by omega)]; omega
  rw [hd, hmu, NV (by omega), Fc (by omega)]
  by_cases h1 : i ≤ a + n / 4 * 2 + 1
  ·obtain ⟨y, ey, fy⟩ := aF4 hx
   have hmod : y % 2 ^ k < 2 ^ k := Nat.mod_lt _ (Nat.two_pow_pos k)
   have hp : 2 ^ k ≤ 2 ^ 16 := Nat.pow_le_pow_right (by decide) hk3
   obtain ⟨o, ho, hon⟩ : ∃ o : Nat, Lv (a : Int) (n : Int) ((2 ^ k : Nat) : Int) (i : Int) (((y % 2 ^ k : Nat)) : Int) (decide ((n : Int) ≤ ((y % 2 ^ k : Nat) : Int))) w (y : Int) = some (o : Int) ∧ o < n := by
    unfold Lv
    by_cases h2 : n ≤ y % 2 ^ k
    ·exact ⟨y % 2 ^ k - n, by rw [decide_eq_true (by omega), AP, Uv (by omega)], by omega⟩
    ·exact ⟨y % 2 ^ k, by rw [decide_eq_false (by omega), AN], by omega⟩
   have hs : Pm a (a + n) w (swp w i (a + o)) := Pm.swp ⟨ha, by omega⟩ ⟨by omega, by omega⟩ hb
   obtain ⟨w', e1, e2⟩ := ih (i + 1) (swp w i (a + o)) y (by omega) fy (by rw [Bl]; exact hl) (by rw [Bl]; exact hb) (by omega) hq h0 hk1 hk2 hk3 hqe
   refine ⟨w', ?_, hs.trans e2⟩
   rw [← e1, leT h1]
   unfold Oj
   rw [ey, AH]
   simp only
   have hw : IntKind.wrap .i64 ((y % 2 ^ k : Nat) : Int) = ((y % 2 ^ k : Nat) : Int) := aIo (by omega) (by omega)
   rw [aEy y k (by omega) fy, hw, ho, AH]
   simp (disch := omega) only [NV, Ej, EV, List.length_set, Int.toNat_natCast, AH, Fc, B4]
   rfl
  ·refine ⟨w, by rw [leF h1, Af], Pm.refl _ _ _⟩
theorem aHu (a b : Nat) (w : List Int) (hl : w.length ≤ 60000) (hb : b ≤ w.length) (hab : a + 8 ≤ b) : ∃ w', Xt (a : Int) (b : Int) w = some w' ∧ Pm a b w w' := by
 obtain ⟨k, e1, e2, e3, e4⟩ := PR (n := b - a) (by omega)
 have hd : AA .quo .i64 ((b - a : Nat) : Int) 4 = (((b - a) / 4 : Nat) : Int) := aIc (k := 4) (by omega)
 have hmu : AA .mul .i64 (((b - a) / 4 : Nat) : Int) 2 = (((b - a) / 4 * 2 : Nat) : Int) := by rw [aH7 (by omega) (by omega)]; omega
 obtain ⟨w', f1, f2⟩ := aHt a (b - a) k (a + (b - a) / 4 * 2 + 2) 3 (a + (b - a) / 4 * 2 - 1) w (b - a) (by omega) (by omega) hl (by omega) (by omega) (by omega) (by omega) e3 (e4 (by omega)) e2 rfl
 rw [show a + (b - a) = b by omega] at f2
 refine ⟨w', ?_, f2⟩
 unfold Xt Oi
 rw [Uv (by omega), decide_eq_true (by omega), AP, e1, AH, hd, hmu, NV (by omega), Dk (by omega), EJ (by omega), f1, AH, AH]
def Vx (lo hi : Nat) (x : Int) : Prop := ∃ n : Nat, x = (n : Int) ∧ lo ≤ n ∧ n < hi
theorem Mo {lo hi : Nat} {w : List Int} (hh : hi ≤ w.length) {x y : Int} (s : Int) (hx : Vx lo hi x) (hy : Vx lo hi y) : ∃ u v s', Zc w x y s = some (u, v, s') ∧ Vx lo hi u ∧ Vx lo hi v := by
 obtain ⟨i, rfl, i1, i2⟩ := hx
 obtain ⟨j, rfl, j1, j2⟩ := hy
 unfold Zc
 simp (disch := omega) only [EV, Bj, AH]
 by_cases h : ga w j < ga w i
 ·exact ⟨_, _, _, by rw [decide_eq_true h]; rfl, ⟨j, rfl, j1, j2⟩, ⟨i, rfl, i1, i2⟩⟩
 ·exact ⟨_, _, _, by rw [decide_eq_false h]; rfl, ⟨i, rfl, i1, i2⟩, ⟨j, rfl, j1, j2⟩⟩
theorem aC4 {lo hi : Nat} {w : List Int} (hh : hi ≤ w.length) {x y z : Int} (s : Int) (hx : Vx lo hi x) (hy : Vx lo hi y) (hz : Vx lo hi z) : ∃ u s', Zo w x y z s = some (u, s') ∧ Vx lo hi u := by
 obtain ⟨a1, b1, s1, e1, f1, g1⟩ := Mo hh s hx hy
 obtain ⟨b2, c2, s2, e2, f2, g2⟩ := Mo hh s1 g1 hz
 obtain ⟨a3, b3, s3, e3, f3, g3⟩ := Mo hh s2 f1 f2
 refine ⟨b3, s3, ?_, g3⟩
 unfold Zo
 simp only [e1, AH, e2, e3]
theorem Tn {lo hi n : Nat} {w : List Int} (hh : hi ≤ w.length) (hl : w.length ≤ 1000000) (s : Int) (h1 : lo + 1 ≤ n) (h2 : n + 1 < hi) : ∃ u s', Zd w (n : Int) s = some (u, s') ∧ Vx lo hi u := by
 obtain ⟨u, s', e, h⟩ := aC4 (lo := lo) (hi := hi) hh (x := ((n - 1 : Nat) : Int)) (y := (n : Int)) (z := ((n + 1 : Nat) : Int)) s ⟨n - 1, rfl, by omega, by omega⟩ ⟨n, rfl, by omega, by omega⟩ ⟨n + 1, rfl, by omega, by omega⟩
 refine ⟨u, s', ?_, h⟩
 unfold Zd
 rw [Dk (by omega), Fc (by omega), e, AH]
theorem aNw {n k : Nat} (h : n * k ≤ 4611686018427387904) : AA .mul .i64 (n : Int) (k : Int) = ((n * k : Nat) : Int) := by
 have e : (n : Int) * (k : Int) = ((n * k : Nat) : Int) := by simp
 generalize n * k = d at *
 rw [aH7 (by omega) (by omega)]; exact e
theorem aH9 (a b : Nat) (w : List Int) (hl : w.length ≤ 1000000) (hb : b ≤ w.length) (hab : a + 12 < b) : ∃ p h, Yn w (a : Int) (b : Int) = some (p, h) ∧ Vx a b p := by
 have hd : AA .quo .i64 ((b - a : Nat) : Int) 4 = (((b - a) / 4 : Nat) : Int) := aIc (k := 4) (by omega)
 have m1 : AA .mul .i64 (((b - a) / 4 : Nat) : Int) 1 = (((b - a) / 4 * 1 : Nat) : Int) := aNw (k := 1) (by omega)
 have m2 : AA .mul .i64 (((b - a) / 4 : Nat) : Int) 2 = (((b - a) / 4 * 2 : Nat) : Int) := aNw (k := 2) (by omega)
 have m3 : AA .mul .i64 (((b - a) / 4 : Nat) : Int) 3 = (((b - a) / 4 * 3 : Nat) : Int) := aNw (k := 3) (by omega)
 have fin : ∀ (x s : Int), Vx a b x → ∃ p h, (AE (decide (s = 0)) (some (x, (1 : Int))) (AE (decide (s = 12)) (some (x, 2)) (some (x, 0)))) = some (p, h) ∧ Vx a b p := fun x s hx => by
  by_cases h1 : s = 0
  ·exact ⟨x, 1, by rw [decide_eq_true h1]; rfl, hx⟩
  ·by_cases h2 : s = 12
   ·exact ⟨x, 2, by rw [decide_eq_false h1, decide_eq_true h2]; rfl, hx⟩
   ·exact ⟨x, 0, by rw [decide_eq_false h1, decide_eq_false h2]; rfl, hx⟩
 unfold Yn Ox
 rw [Uv (by omega), hd, m1, m2, m3, NV (by omega), NV (by omega), NV (by omega), decide_eq_true (by omega), AP]
 have hb2 : ∃ x y z s, MD w ((a + (b - a) / 4 * 1 : Nat) : Int) ((a + (b - a) / 4 * 2 : Nat) : Int) ((a + (b - a) / 4 * 3 : Nat) : Int) (decide (50 ≤ ((b - a : Nat) : Int))) 0 = some (x, y, z, s) ∧ Vx a b x ∧ Vx a b y ∧ Vx a b z := by
  unfold MD
  by_cases h : 50 ≤ b - a
  ·obtain ⟨x, s1, e1, h1⟩ := Tn (lo := a) (hi := b) (n := a + (b - a) / 4 * 1) hb hl 0 (by omega) (by omega)
   obtain ⟨y, s2, e2, h2⟩ := Tn (lo := a) (hi := b) (n := a + (b - a) / 4 * 2) hb hl s1 (by omega) (by omega)
   obtain ⟨z, s3, e3, h3⟩ := Tn (lo := a) (hi := b) (n := a + (b - a) / 4 * 3) hb hl s2 (by omega) (by omega)
   refine ⟨x, y, z, s3, ?_, h1, h2, h3⟩
   rw [decide_eq_true (by omega), AP, e1, AH, e2, AH, e3, AH]
  ·refine ⟨_, _, _, _, by rw [decide_eq_false (by omega), AN], ⟨_, rfl, by omega, by omega⟩, ⟨_, rfl, by omega, by omega⟩, ⟨_, rfl, by omega, by omega⟩⟩
 obtain ⟨x, y, z, s, e, hx, hy, hz⟩ := hb2
 obtain ⟨u, s', e', hu⟩ := aC4 hb s hx hy hz
 rw [e, AH]
 simp only
 rw [e', AH, AH]
 exact fin u s' hu
theorem aIa (a j : Nat) (w : List Int) (hl : w.length ≤ 1000000) (hj : j < w.length) (ha : a < w.length) : ∀ (m i : Nat), j + 1 ≤ i + m → i ≤ j + 1 →
 ∃ o : Nat, LF (a : Int) (j : Int) w (i : Int) = some (o : Int) ∧ i ≤ o ∧ o ≤ j + 1 ∧ (∀ k, i ≤ k → k < o → ga w k < ga w a) ∧ (o ≤ j → ¬ ga w o < ga w a) := by
 intro m
 induction m with
 | zero =>
  intro i hm hi
  refine ⟨i, ?_, Nat.le_refl _, hi, fun k h1 h2 => by omega, fun h => by omega⟩
  rw [M2]
  unfold Fp
  rw [leF (by omega), Af]
 | succ m ih =>
  intro i hm hi
  rw [M2]
  unfold Fp
  by_cases h0 : i ≤ j
  ·by_cases h1 : ga w i < ga w a
   ·obtain ⟨o, e1, e2, e3, e4, e5⟩ := ih (i + 1) (by omega) (by omega)
    refine ⟨o, ?_, by omega, e3, fun k k1 k2 => ?_, e5⟩
    ·simp (disch := omega) only [leT, Ej, EV, Bj, AH, h1, decide_true, AP, Fc, B4]
     exact e1
    ·by_cases hk : k = i
     ·subst hk; exact h1
     ·exact e4 k (by omega) k2
   ·refine ⟨i, ?_, Nat.le_refl _, hi, fun k k1 k2 => by omega, fun _ => h1⟩
    simp (disch := omega) only [leT, Ej, EV, Bj, AH, h1, decide_false, AN, Af]
  ·refine ⟨i, by rw [leF h0, Af], Nat.le_refl _, hi, fun k k1 k2 => by omega, fun h => absurd h h0⟩
theorem aIb (a i : Nat) (w : List Int) (hl : w.length ≤ 1000000) (ha : a < w.length) (hi : 1 ≤ i) : ∀ (j : Nat), j < w.length → i ≤ j + 1 →
 ∃ o : Nat, LG (a : Int) (i : Int) w (j : Int) = some (o : Int) ∧ i ≤ o + 1 ∧ o ≤ j ∧ (∀ k, o < k → k ≤ j → ¬ ga w k < ga w a) ∧ (i ≤ o → ga w o < ga w a) := by
 intro j
 induction j with
 | zero =>
  intro hj hij
  refine ⟨0, ?_, hij, Nat.le_refl _, fun k h1 h2 => by omega, fun h => by omega⟩
  rw [M3]
  unfold Fq
  rw [leF (by omega), Af]
 | succ j ih =>
  intro hj hij
  rw [M3]
  unfold Fq
  by_cases h0 : i ≤ j + 1
  ·by_cases h1 : ga w (j + 1) < ga w a
   ·refine ⟨j + 1, ?_, by omega, Nat.le_refl _, fun k k1 k2 => by omega, fun _ => h1⟩
    simp (disch := omega) only [leT, Ej, EV, Bj, AH, h1, decide_true, Bool.not_true, AN, Af]
   ·obtain ⟨o, e1, e2, e3, e4, e5⟩ := ih (by omega) (by omega)
    refine ⟨o, ?_, e2, by omega, fun k k1 k2 => ?_, e5⟩
    ·simp (disch := omega) only [leT, Ej, EV, Bj, AH, h1, decide_false, Bool.not_false, AP, Dk, B4, Nat.add_sub_cancel]
     exact e1
    ·by_cases hk : k = j + 1
     ·subst hk; exact h1
     ·exact e4 k k1 (by omega)
  ·refine ⟨j + 1, by rw [leF h0, Af], by omega, Nat.le_refl _, fun k k1 k2 => by omega, fun h => absurd h h0⟩
theorem aN8 : Vg = LF := rfl
theorem aN9 : Vi = LG := rfl
theorem aN7 (a b : Nat) : ∀ (m i j : Nat) (w : List Int), j + 1 ≤ i + m → w.length ≤ 1000000 → b ≤ w.length → a + 1 ≤ i → i ≤ j + 1 → j < b → (∀ k, a < k → k < i → ga w k < ga w a) → (∀ k, j < k → k < b → ¬ ga w k < ga w a) →
 ∃ (o : Nat) (w' : List Int), OI (a : Int) (i : Int) (j : Int) w = some ((o : Int), w') ∧ a ≤ o ∧ o < b ∧ Pm (a + 1) b w w' ∧ (∀ k, a < k → k ≤ o → ga w' k < ga w a) ∧ (∀ k, o < k → k < b → ¬ ga w' k < ga w a) := by
 intro m
 induction m using Nat.strongRecOn with
 | ind m ih =>
  intro i j w hm hl hb hi hij hj hA hB
  obtain ⟨x, e1, e2, e3, e4, e5⟩ := aIa a j w hl (by omega) (by omega) m i hm hij
  obtain ⟨y, f1, f2, f3, f4, f5⟩ := aIb a x w hl (by omega) (by omega) j (by omega) e3
  rw [Ve]
  unfold Gm
  rw [aN8, aN9, e1, AH, f1, AH]
  have hA' : ∀ k, a < k → k < x → ga w k < ga w a := fun k k1 k2 => by
   by_cases h : k < i
   ·exact hA k k1 h
   ·exact e4 k (by omega) k2
  have hB' : ∀ k, y < k → k < b → ¬ ga w k < ga w a := fun k k1 k2 => by
   by_cases h : j < k
   ·exact hB k h k2
   ·exact f4 k k1 (by omega)
  by_cases h0 : y < x
  ·refine ⟨y, w, by rw [ltT h0, Af], by omega, by omega, Pm.refl _ _ _, fun k k1 k2 => hA' k k1 (by omega), hB'⟩
  ·have hx := e5 (by omega)
   have hy := f5 (by omega)
   have hxy : x ≠ y := fun h => by subst h; exact hx hy
   have hg := EN (w := w) (i := x) (j := y) (by omega) (by omega)
   have ha : ga (swp w x y) a = ga w a := by rw [hg, if_neg (by omega), if_neg (by omega)]
   obtain ⟨o, w', g1, g2, g3, g4, g5, g6⟩ := ih (m - 2) (by omega) (x + 1) (y - 1) (swp w x y) (by omega) (by rw [Bl]; exact hl) (by rw [Bl]; exact hb) (by omega) (by omega) (by omega)
    (fun k k1 k2 => by
     rw [ha, hg]
     by_cases c1 : k = x
     ·rw [if_neg (by omega), if_pos c1]; exact hy
     ·rw [if_neg (by omega), if_neg c1]; exact hA' k k1 (by omega))
    (fun k k1 k2 => by
     rw [ha, hg]
     by_cases c1 : k = y
     ·rw [if_pos c1]; exact hx
     ·rw [if_neg c1, if_neg (by omega)]; exact hB' k (by omega) k2)
   rw [ha] at g5 g6
   refine ⟨o, w', ?_, g2, g3, (Pm.swp ⟨by omega, by omega⟩ ⟨by omega, by omega⟩ hb).trans g4, g5, g6⟩
   rw [← g1]
   simp (disch := omega) only [ltF, Ej, EV, List.length_set, Int.toNat_natCast, Fc, Dk, B4]
   rfl
theorem aOa (a b p : Nat) (w : List Int) (hl : w.length ≤ 1000000) (hb : b ≤ w.length) (hp : a ≤ p ∧ p < b) (hab : a + 2 ≤ b) :
 ∃ (o : Nat) (f : Bool) (w' : List Int), X6 (a : Int) (b : Int) (p : Int) w = some ((o : Int), f, w') ∧ a ≤ o ∧ o < b ∧ Pm a b w w' ∧ (∀ k, a ≤ k → k < o → ga w' k ≤ ga w' o) ∧ (∀ k, o < k → k < b → ga w' o ≤ ga w' k) := by
 have hs : Pm a b w (swp w a p) := Pm.swp ⟨by omega, by omega⟩ hp hb
 have hl1 : (swp w a p).length = w.length := Bl w a p
 -- the end, from a row that is parted behind its first one
 have fin : ∀ (o : Nat) (w2 : List Int), a ≤ o → o < b → Pm a b w w2 → (∀ k, a < k → k ≤ o → ga w2 k < ga w2 a) → (∀ k, o < k → k < b → ¬ ga w2 k < ga w2 a) →
  Pm a b w (swp w2 o a) ∧ (∀ k, a ≤ k → k < o → ga (swp w2 o a) k ≤ ga (swp w2 o a) o) ∧ (∀ k, o < k → k < b → ga (swp w2 o a) o ≤ ga (swp w2 o a) k) := fun o w2 h1 h2 h3 h4 h5 => by
  have hl2 := h3.len
  have hg := EN (w := w2) (i := o) (j := a) (by omega) (by omega)
  have ho : ga (swp w2 o a) o = ga w2 a := by
   rw [hg]
   by_cases c : o = a
   ·rw [if_pos c, c]
   ·rw [if_neg c, if_pos rfl]
  refine ⟨h3.trans (Pm.swp ⟨h1, h2⟩ ⟨by omega, by omega⟩ (by omega)), fun k k1 k2 => ?_, fun k k1 k2 => ?_⟩
  ·rw [ho, hg]
   by_cases c : k = a
   ·rw [if_pos c]; have := h4 o (by omega) (Nat.le_refl _); omega
   ·rw [if_neg c, if_neg (by omega)]; have := h4 k (by omega) (by omega); omega
  ·rw [ho, hg, if_neg (by omega), if_neg (by omega)]
   have := h5 k k1 k2; omega
 obtain ⟨x, e1, e2, e3, e4, e5⟩ := aIa a (b - 1) (swp w a p) (by omega) (by omega) (by omega) b (a + 1) (by omega) (by omega)
 obtain ⟨y, f1, f2, f3, f4, f5⟩ := aIb a x (swp w a p) (by omega) (by omega) (by omega) (b - 1) (by omega) e3
 have hA : ∀ k, a < k → k < x → ga (swp w a p) k < ga (swp w a p) a := fun k k1 k2 => e4 k (by omega) k2
 have hB : ∀ k, y < k → k < b → ¬ ga (swp w a p) k < ga (swp w a p) a := fun k k1 k2 => f4 k k1 (by omega)
 have hdef : ((w.set a (ga w p)).set p (ga w a)) = swp w a p := rfl
 unfold X6
 simp (disch := omega) only [Ej, EV, List.length_set, Int.toNat_natCast, Fc, Dk, hdef, e1, f1, AH]
 by_cases h0 : y < x
 ·obtain ⟨g1, g2, g3⟩ := fin y (swp w a p) (by omega) (by omega) hs (fun k k1 k2 => hA k k1 (by omega)) hB
  refine ⟨y, true, swp (swp w a p) y a, ?_, by omega, by omega, g1, g2, g3⟩
  simp (disch := omega) only [ltT, Ej, EV, List.length_set, Int.toNat_natCast]
  rfl
 ·have hx := e5 (by omega)
  have hy := f5 (by omega)
  have hxy : x ≠ y := fun h => by subst h; exact hx hy
  have hg := EN (w := swp w a p) (i := x) (j := y) (by omega) (by omega)
  have ha : ga (swp (swp w a p) x y) a = ga (swp w a p) a := by rw [hg, if_neg (by omega), if_neg (by omega)]
  have hl2 : (swp (swp w a p) x y).length = w.length := by rw [Bl, hl1]
  obtain ⟨o, w', g1, g2, g3, g4, g5, g6⟩ := aN7 a b b (x + 1) (y - 1) (swp (swp w a p) x y) (by omega) (by omega) (by omega) (by omega) (by omega) (by omega)
   (fun k k1 k2 => by
    rw [ha, hg]
    by_cases c1 : k = x
    ·rw [if_neg (by omega), if_pos c1]; exact hy
    ·rw [if_neg (by omega), if_neg c1]; exact hA k k1 (by omega))
   (fun k k1 k2 => by
    rw [ha, hg]
    by_cases c1 : k = y
    ·rw [if_pos c1]; exact hx
    ·rw [if_neg c1, if_neg (by omega)]; exact hB k (by omega) k2)
  have hwa : ga w' a = ga (swp (swp w a p) x y) a := g4.out a (by omega)
  rw [← hwa] at g5 g6
  have hpm := (hs.trans (Pm.swp (w := swp w a p) (i := x) (j := y) ⟨by omega, by omega⟩ ⟨by omega, by omega⟩ (by omega))).trans (g4.mono (by omega) (Nat.le_refl _))
  have hl3 := hpm.len
  obtain ⟨q1, q2, q3⟩ := fin o w' g2 g3 hpm g5 g6
  refine ⟨o, false, swp w' o a, ?_, g2, g3, q1, q2, q3⟩
  have hdef2 : (((swp w a p).set x (ga (swp w a p) y)).set y (ga (swp w a p) x)) = swp (swp w a p) x y := rfl
  simp (disch := omega) only [ltF, Ej, EV, List.length_set, Int.toNat_natCast, Fc, Dk, hdef2, g1, AH]
  rfl
theorem aNz (a j : Nat) (w : List Int) (hl : w.length ≤ 1000000) (hj : j < w.length) (ha : a < w.length) : ∀ (m i : Nat), j + 1 ≤ i + m → i ≤ j + 1 →
 ∃ o : Nat, OZ (a : Int) (j : Int) w (i : Int) = some (o : Int) ∧ i ≤ o ∧ o ≤ j + 1 ∧ (∀ k, i ≤ k → k < o → ¬ ga w a < ga w k) ∧ (o ≤ j → ga w a < ga w o) := by
 intro m
 induction m with
 | zero =>
  intro i hm hi
  refine ⟨i, ?_, Nat.le_refl _, hi, fun k h1 h2 => by omega, fun h => by omega⟩
  rw [NA]
  unfold Ft
  rw [leF (by omega), Af]
 | succ m ih =>
  intro i hm hi
  rw [NA]
  unfold Ft
  by_cases h0 : i ≤ j
  ·by_cases h1 : ga w a < ga w i
   ·refine ⟨i, ?_, Nat.le_refl _, hi, fun k k1 k2 => by omega, fun _ => h1⟩
    simp (disch := omega) only [leT, Ej, EV, Bj, AH, h1, decide_true, Bool.not_true, AN, Af]
   ·obtain ⟨o, e1, e2, e3, e4, e5⟩ := ih (i + 1) (by omega) (by omega)
    refine ⟨o, ?_, by omega, e3, fun k k1 k2 => ?_, e5⟩
    ·simp (disch := omega) only [leT, Ej, EV, Bj, AH, h1, decide_false, Bool.not_false, AP, Fc, B4]
     exact e1
    ·by_cases hk : k = i
     ·subst hk; exact h1
     ·exact e4 k (by omega) k2
  ·refine ⟨i, by rw [leF h0, Af], Nat.le_refl _, hi, fun k k1 k2 => by omega, fun h => absurd h h0⟩
theorem aN0 (a i : Nat) (w : List Int) (hl : w.length ≤ 1000000) (ha : a < w.length) (hi : 1 ≤ i) : ∀ (j : Nat), j < w.length → i ≤ j + 1 →
 ∃ o : Nat, Oa (a : Int) (i : Int) w (j : Int) = some (o : Int) ∧ i ≤ o + 1 ∧ o ≤ j ∧ (∀ k, o < k → k ≤ j → ga w a < ga w k) ∧ (i ≤ o → ¬ ga w a < ga w o) := by
 intro j
 induction j with
 | zero =>
  intro hj hij
  refine ⟨0, ?_, hij, Nat.le_refl _, fun k h1 h2 => by omega, fun h => by omega⟩
  rw [NB]
  unfold Fu
  rw [leF (by omega), Af]
 | succ j ih =>
  intro hj hij
  rw [NB]
  unfold Fu
  by_cases h0 : i ≤ j + 1
  ·by_cases h1 : ga w a < ga w (j + 1)
   ·obtain ⟨o, e1, e2, e3, e4, e5⟩ := ih (by omega) (by omega)
    refine ⟨o, ?_, e2, by omega, fun k k1 k2 => ?_, e5⟩
    ·simp (disch := omega) only [leT, Ej, EV, Bj, AH, h1, decide_true, AP, Dk, B4, Nat.add_sub_cancel]
     exact e1
    ·by_cases hk : k = j + 1
     ·subst hk; exact h1
     ·exact e4 k k1 (by omega)
   ·refine ⟨j + 1, ?_, by omega, Nat.le_refl _, fun k k1 k2 => by omega, fun _ => h1⟩
    simp (disch := omega) only [leT, Ej, EV, Bj, AH, h1, decide_false, AN, Af]
  ·refine ⟨j + 1, by rw [leF h0, Af], by omega, Nat.le_refl _, fun k k1 k2 => by omega, fun h => absurd h h0⟩
theorem aNy (a b : Nat) : ∀ (m i j : Nat) (w : List Int), j + 1 ≤ i + m → w.length ≤ 1000000 → b ≤ w.length → a + 1 ≤ i → i ≤ j + 1 → j < b → (∀ k, a < k → k < i → ¬ ga w a < ga w k) → (∀ k, j < k → k < b → ga w a < ga w k) →
 ∃ (o : Nat) (w' : List Int), OY (a : Int) (i : Int) (j : Int) w = some ((o : Int), w') ∧ a < o ∧ o ≤ b ∧ Pm (a + 1) b w w' ∧ (∀ k, a < k → k < o → ¬ ga w a < ga w' k) ∧ (∀ k, o ≤ k → k < b → ga w a < ga w' k) := by
 intro m
 induction m using Nat.strongRecOn with
 | ind m ih =>
  intro i j w hm hl hb hi hij hj hA hB
  obtain ⟨x, e1, e2, e3, e4, e5⟩ := aNz a j w hl (by omega) (by omega) m i hm hij
  obtain ⟨y, f1, f2, f3, f4, f5⟩ := aN0 a x w hl (by omega) (by omega) j (by omega) e3
  rw [Wz]
  unfold HA
  rw [e1, AH, f1, AH]
  have hA' : ∀ k, a < k → k < x → ¬ ga w a < ga w k := fun k k1 k2 => by
   by_cases h : k < i
   ·exact hA k k1 h
   ·exact e4 k (by omega) k2
  have hB' : ∀ k, y < k → k < b → ga w a < ga w k := fun k k1 k2 => by
   by_cases h : j < k
   ·exact hB k h k2
   ·exact f4 k k1 (by omega)
  by_cases h0 : y < x
  ·refine ⟨x, w, by rw [ltT h0, Af], by omega, by omega, Pm.refl _ _ _, hA', fun k k1 k2 => hB' k (by omega) k2⟩
  ·have hx := e5 (by omega)
   have hy := f5 (by omega)
   have hxy : x ≠ y := fun h => by subst h; exact hy hx
   have hg := EN (w := w) (i := x) (j := y) (by omega) (by omega)
   have ha : ga (swp w x y) a = ga w a := by rw [hg, if_neg (by omega), if_neg (by omega)]
   obtain ⟨o, w', g1, g2, g3, g4, g5, g6⟩ := ih (m - 2) (by omega) (x + 1) (y - 1) (swp w x y) (by omega) (by rw [Bl]; exact hl) (by rw [Bl]; exact hb) (by omega) (by omega) (by omega)
    (fun k k1 k2 => by
     rw [ha, hg]
     by_cases c1 : k = x
     ·rw [if_neg (by omega), if_pos c1]; exact hy
     ·rw [if_neg (by omega), if_neg c1]; exact hA' k k1 (by omega))
    (fun k k1 k2 => by
     rw [ha, hg]
     by_cases c1 : k = y
     ·rw [if_pos c1]; exact hx
     ·rw [if_neg c1, if_neg (by omega)]; exact hB' k (by omega) k2)
   rw [ha] at g5 g6
   refine ⟨o, w', ?_, g2, g3, (Pm.swp ⟨by omega, by omega⟩ ⟨by omega, by omega⟩ hb).trans g4, g5, g6⟩
   rw [← g1]
   simp (disch := omega) only [ltF, Ej, EV, List.length_set, Int.toNat_natCast, Fc, Dk, B4]
   rfl
theorem aN1 (a b p : Nat) (w : List Int) (hl : w.length ≤ 1000000) (hb : b ≤ w.length) (hp : a ≤ p ∧ p < b) (hab : a + 2 ≤ b) :
 ∃ (o : Nat) (w' : List Int), Xj (a : Int) (b : Int) (p : Int) w = some ((o : Int), w') ∧ a < o ∧ o ≤ b ∧ Pm a b w w' ∧ (∀ k, a ≤ k → k < o → ga w' k ≤ ga w p) := by
 have hs : Pm a b w (swp w a p) := Pm.swp ⟨by omega, by omega⟩ hp hb
 have hl1 : (swp w a p).length = w.length := Bl w a p
 obtain ⟨o, w', e1, e2, e3, e4, e5, e6⟩ := aNy a b b (a + 1) (b - 1) (swp w a p) (by omega) (by omega) (by omega) (by omega) (by omega) (by omega) (fun k k1 k2 => by omega) (fun k k1 k2 => by omega)
 have ha : ga (swp w a p) a = ga w p := by
  rw [EN (by omega) (by omega)]
  by_cases c : a = p
  ·rw [if_pos c, c]
  ·rw [if_neg c, if_pos rfl]
 rw [ha] at e5
 refine ⟨o, w', ?_, e2, e3, hs.trans (e4.mono (by omega) (Nat.le_refl _)), fun k k1 k2 => ?_⟩
 ·have hdef : ((w.set a (ga w p)).set p (ga w a)) = swp w a p := rfl
  unfold Xj
  simp (disch := omega) only [Ej, EV, List.length_set, Int.toNat_natCast, Fc, Dk, hdef, e1, AH]
 ·by_cases c : k = a
  ·subst c; rw [e4.out k (by omega), ha]; exact Int.le_refl _
  ·have := e5 k (by omega) k2; omega
def Lo (a b : Nat) (w : List Int) : Prop := 0 < a → ∀ k, a ≤ k → k < b → ga w (a - 1) ≤ ga w k
theorem Lo.pm {a b : Nat} {w w' : List Int} (h : Lo a b w) (p : Pm a b w w') : Lo a b w' := fun h0 k k1 k2 => by
 obtain ⟨i, i1, i2, i3⟩ := p.src k k1 k2
 rw [i3, p.out (a - 1) (by omega)]
 exact h h0 i i1 i2
theorem aN3 (a b : Nat) (s8 : Int) (w : List Int) (hl : w.length ≤ 1000000) (hb : b ≤ w.length) : ∀ (m i : Nat), b ≤ i + m → a < i → i ≤ b → So a i w →
 ∃ o : Nat, OF (a : Int) (b : Int) s8 w (i : Int) = some (o : Int) ∧ i ≤ o ∧ o ≤ b ∧ So a o w := by
 intro m
 induction m with
 | zero =>
  intro i hm ha hi hs
  refine ⟨i, ?_, Nat.le_refl _, hi, hs⟩
  rw [Mz]
  unfold Fl
  rw [ltF (by omega), Af]
 | succ m ih =>
  intro i hm ha hi hs
  rw [Mz]
  unfold Fl
  by_cases h0 : i < b
  ·by_cases h1 : ga w i < ga w (i - 1)
   ·refine ⟨i, ?_, Nat.le_refl _, hi, hs⟩
    simp (disch := omega) only [ltT, Ej, EV, Dk, Bj, AH, h1, decide_true, Bool.not_true, AN, Af]
   ·obtain ⟨o, e1, e2, e3, e4⟩ := ih (i + 1) (by omega) (by omega) (by omega) (fun p q p1 p2 p3 => by
     by_cases hq : q = i
     ·subst hq
      by_cases hp : p = q - 1
      ·subst hp; omega
      ·have := hs p (q - 1) p1 (by omega) (by omega); omega
     ·exact hs p q p1 p2 (by omega))
    refine ⟨o, ?_, by omega, e3, e4⟩
    simp (disch := omega) only [ltT, Ej, EV, Dk, Bj, AH, h1, decide_false, Bool.not_false, AP, Fc, B4]
    exact e1
  ·refine ⟨i, by rw [ltF h0, Af], Nat.le_refl _, hi, hs⟩
theorem aN4 (a b i : Nat) (s2 s7 s8 : Int) (hib : i < b) : ∀ (j : Nat) (w : List Int), w.length ≤ 1000000 → b ≤ w.length → a ≤ j → j ≤ i → Lo a b w → (∀ p q, a ≤ p → p < q → q ≤ i → q ≠ j → ga w p ≤ ga w q) →
 ∃ w', OG (a : Int) s2 s7 s8 (j : Int) w = some w' ∧ Pm a (i + 1) w w' ∧ So a (i + 1) w' := by
 intro j
 induction j with
 | zero =>
  intro w hl hb ha hj hL hs
  refine ⟨w, ?_, Pm.refl _ _ _, fun p q h1 h2 h3 => hs p q h1 h2 (by omega) (by omega)⟩
  rw [M0]
  unfold Fm
  rw [decide_eq_false (by omega), AN, Af]
 | succ j ih =>
  intro w hl hb ha hj hL hs
  rw [M0]
  unfold Fm
  rw [decide_eq_true (by omega), AP]
  by_cases h1 : ga w (j + 1) < ga w j
  ·by_cases h0 : a < j + 1
   ·have hp := Pm.swp (a := a) (b := i + 1) (w := w) (i := j + 1) (j := j) ⟨by omega, by omega⟩ ⟨by omega, by omega⟩ (by omega)
    have hg := EN (w := w) (i := j + 1) (j := j) (by omega) (by omega)
    obtain ⟨w', e1, e2, e3⟩ := ih (swp w (j + 1) j) (by rw [Bl]; omega) (by rw [Bl]; omega) (by omega) (by omega) (hL.pm (hp.mono (Nat.le_refl _) (by omega))) (fun p q p1 p2 p3 p4 => by
     have b1 := hs p q p1 p2 p3
     have b2 := hs p (j + 1) p1
     have b3 := hs p j p1
     have b4 := hs (j + 1) q (by omega)
     have b5 := hs j q (by omega)
     rw [hg, hg]
     by_cases c1 : p = j
     ·rw [if_pos c1]
      by_cases c2 : q = j + 1
      ·rw [if_neg (by omega), if_pos c2]; omega
      ·rw [if_neg (by omega), if_neg c2]; exact b4 (by omega) p3 c2
     ·rw [if_neg c1]
      by_cases c2 : p = j + 1
      ·rw [if_pos c2, if_neg (by omega), if_neg (by omega)]; exact b5 (by omega) p3 (by omega)
      ·rw [if_neg c2]
       by_cases c3 : q = j + 1
       ·rw [if_neg (by omega), if_pos c3]; exact b3 (by omega) (by omega) (by omega)
       ·rw [if_neg (by omega), if_neg c3]; exact b1 c3)
    refine ⟨w', ?_, hp.trans e2, e3⟩
    rw [← e1]
    simp (disch := omega) only [Dk, Nat.add_sub_cancel, Ej, EV, Bj, AH, h1, decide_true, Bool.not_true, AN, List.length_set, Int.toNat_natCast, B4]
    rfl
   ·exfalso
    have := hL (by omega) (j + 1) (by omega) (by omega)
    rw [show a - 1 = j by omega] at this
    omega
  ·refine ⟨w, ?_, Pm.refl _ _ _, fun p q p1 p2 p3 => ?_⟩
   ·simp (disch := omega) only [Dk, Nat.add_sub_cancel, Ej, EV, Bj, AH, h1, decide_false, Bool.not_false, AP, Af]
   ·by_cases hq : q = j + 1
    ·subst hq
     by_cases hpj : p = j
     ·subst hpj; omega
     ·have := hs p j p1 (by omega) (by omega) (by omega)
      omega
    ·exact hs p q p1 p2 (by omega) hq
theorem aN5 (o b : Nat) (s1 s7 s8 : Int) : ∀ (m j : Nat) (w : List Int), b ≤ j + m → w.length ≤ 1000000 → b ≤ w.length → o < j →
 ∃ w', OH s1 (b : Int) s7 s8 (j : Int) w = some w' ∧ Pm o b w w' := by
 intro m
 induction m with
 | zero =>
  intro j w hm hl hb hj
  refine ⟨w, ?_, Pm.refl _ _ _⟩
  rw [M1]
  unfold Fo
  rw [ltF (by omega), Af]
 | succ m ih =>
  intro j w hm hl hb hj
  rw [M1]
  unfold Fo
  by_cases h0 : j < b
  ·by_cases h1 : ga w j < ga w (j - 1)
   ·have hp := Pm.swp (a := o) (b := b) (w := w) (i := j) (j := j - 1) ⟨by omega, by omega⟩ ⟨by omega, by omega⟩ hb
    obtain ⟨w', e1, e2⟩ := ih (j + 1) (swp w j (j - 1)) (by omega) (by rw [Bl]; exact hl) (by rw [Bl]; exact hb) (by omega)
    refine ⟨w', ?_, hp.trans e2⟩
    rw [← e1]
    simp (disch := omega) only [ltT, Dk, Ej, EV, Bj, AH, h1, decide_true, Bool.not_true, AN, List.length_set, Int.toNat_natCast, Fc, B4]
    rfl
   ·refine ⟨w, ?_, Pm.refl _ _ _⟩
    simp (disch := omega) only [ltT, Dk, Ej, EV, Bj, AH, h1, decide_false, Bool.not_false, AP, Af]
  ·refine ⟨w, by rw [ltF h0, Af], Pm.refl _ _ _⟩
theorem aN2 (a b : Nat) : ∀ (m k i : Nat) (w : List Int), 5 ≤ k + m → k ≤ 5 → w.length ≤ 1000000 → b ≤ w.length → a < i → i ≤ b → Lo a b w → So a i w →
 ∃ w' o, LE (a : Int) (b : Int) (i : Int) (k : Int) w = some o ∧ Pm a b w w' ∧ (o = .inl w' ∨ ∃ f, o = .inr (f, w') ∧ (f = true → So a b w')) := by
 intro m
 induction m with
 | zero =>
  intro k i w hm hk hl hb ha hi hL hs
  refine ⟨w, _, ?_, Pm.refl _ _ _, .inl rfl⟩
  rw [My]
  unfold Fk
  rw [decide_eq_false (by omega), AN, Af]
 | succ m ih =>
  intro k i w hm hk hl hb ha hi hL hs
  rw [My]
  unfold Fk
  by_cases h5 : k < 5
  ·rw [decide_eq_true (by omega), AP]
   unfold OE
   obtain ⟨o, e1, e2, e3, e4⟩ := aN3 a b (k : Int) w hl hb b i (by omega) ha hi hs
   rw [e1, AH]
   by_cases h0 : o = b
   ·refine ⟨w, _, by rw [decide_eq_true (by omega), AP, AH, EI, Af], Pm.refl _ _ _, .inr ⟨true, rfl, fun _ => h0 ▸ e4⟩⟩
   ·rw [decide_eq_false (by omega), AN, Uv (by omega)]
    by_cases h50 : b - a < 50
    ·refine ⟨w, _, by rw [decide_eq_true (by omega), AP, AH, EI, Af], Pm.refl _ _ _, .inr ⟨false, rfl, fun h => by cases h⟩⟩
    ·rw [decide_eq_false (by omega), AN]
     have hsw := Pm.swp (a := a) (b := b) (w := w) (i := o) (j := o - 1) ⟨by omega, by omega⟩ ⟨by omega, by omega⟩ hb
     have hg := EN (w := w) (i := o) (j := o - 1) (by omega) (by omega)
     have hdef : ((w.set o (ga w (o - 1))).set (o - 1) (ga w o)) = swp w o (o - 1) := rfl
     obtain ⟨w1, f1, f2, f3⟩ : ∃ w1, LC (a : Int) (b : Int) (o : Int) (k : Int) (decide (2 ≤ ((o - a : Nat) : Int))) (swp w o (o - 1)) = some w1 ∧ Pm a b (swp w o (o - 1)) w1 ∧ So a o w1 := by
      unfold LC
      by_cases h2 : 2 ≤ o - a
      ·obtain ⟨w1, g1, g2, g3⟩ := aN4 a b (o - 1) (b : Int) (o : Int) (k : Int) (by omega) (o - 1) (swp w o (o - 1)) (by rw [Bl]; exact hl) (by rw [Bl]; exact hb) (by omega) (Nat.le_refl _) (hL.pm hsw) (fun p q p1 p2 p3 p4 => by
        rw [hg, hg, if_neg (by omega), if_neg (by omega), if_neg (by omega), if_neg (by omega)]
        exact e4 p q p1 p2 (by omega))
       rw [show o - 1 + 1 = o by omega] at g2 g3
       refine ⟨w1, ?_, g2.mono (Nat.le_refl _) (by omega), g3⟩
       rw [decide_eq_true (by omega), AP, Dk (by omega), g1, AH]
      ·exact ⟨_, by rw [decide_eq_false (by omega), AN], Pm.refl _ _ _, fun p q p1 p2 p3 => by omega⟩
     have hl1 : w1.length = w.length := by rw [f2.len, Bl]
     obtain ⟨w2, g1, g2⟩ : ∃ w2, LD (a : Int) (b : Int) (o : Int) (k : Int) (decide (2 ≤ ((b - o : Nat) : Int))) w1 = some w2 ∧ Pm o b w1 w2 := by
      unfold LD
      by_cases h2 : 2 ≤ b - o
      ·obtain ⟨w2, g1, g2⟩ := aN5 o b (a : Int) (o : Int) (k : Int) b (o + 1) w1 (by omega) (by omega) (by omega) (by omega)
       exact ⟨w2, by rw [decide_eq_true (by omega), AP, Fc (by omega), g1, AH], g2⟩
      ·exact ⟨_, by rw [decide_eq_false (by omega), AN], Pm.refl _ _ _⟩
     have hpm := (hsw.trans f2).trans (g2.mono (by omega) (Nat.le_refl _))
     have hl2 := hpm.len
     obtain ⟨w3, q, r1, r2, r3⟩ := ih (k + 1) o w2 (by omega) (by omega) (by omega) (by omega) (by omega) (by omega) (hL.pm hpm) (fun p q p1 p2 p3 => by
      rw [g2.out p (by omega), g2.out q (by omega)]; exact f3 p q p1 p2 p3)
     refine ⟨w3, q, ?_, hpm.trans r2, r3⟩
     rw [← r1]
     simp (disch := omega) only [Ej, EV, Dk, Uv, List.length_set, Int.toNat_natCast, hdef, f1, g1, AH, CS, Fc, B4]
  ·exact ⟨w, _, by rw [decide_eq_false (by omega), AN, Af], Pm.refl _ _ _, .inl rfl⟩
theorem aN6 (a b : Nat) (w : List Int) (hl : w.length ≤ 1000000) (hb : b ≤ w.length) (hab : a < b) (hL : Lo a b w) :
 ∃ (f : Bool) (w' : List Int), X5 (a : Int) (b : Int) w = some (f, w') ∧ Pm a b w w' ∧ (f = true → So a b w') := by
 obtain ⟨w', o, e1, e2, e3⟩ := aN2 a b 5 0 (a + 1) w (by omega) (by omega) hl hb (by omega) (by omega) hL (fun p q p1 p2 p3 => by omega)
 unfold X5
 have e1' : LE (a : Int) (b : Int) ((a + 1 : Nat) : Int) 0 w = some o := e1
 rw [Fc (by omega), e1', AH]
 rcases e3 with rfl | ⟨f, rfl, hf⟩
 ·exact ⟨false, w', rfl, e2, fun h => by cases h⟩
 ·exact ⟨f, w', rfl, e2, hf⟩
abbrev aI5 := Int × Int × Int × Bool × Bool × List Int
def Rd (a b : Nat) (w : List Int) (x : aI5) : Prop := ∃ a' b' : Nat, x.1 = (a' : Int) ∧ x.2.1 = (b' : Int) ∧ a ≤ a' ∧ a' ≤ b' ∧ b' ≤ b ∧ b' - a' < b - a ∧ Pm a b w x.2.2.2.2.2 ∧ Lo a' b' x.2.2.2.2.2 ∧
 (∀ p q, a ≤ p → p < a' → p < q → q < b → ga x.2.2.2.2.2 p ≤ ga x.2.2.2.2.2 q) ∧ ∀ p q, a ≤ p → p < q → b' ≤ q → q < b → ga x.2.2.2.2.2 p ≤ ga x.2.2.2.2.2 q
def Slf (self : Int → Int → Int → List Int → Option (List Int)) (N : Nat) : Prop := ∀ (a b : Nat) (lim : Int) (w : List Int), b - a < N → a ≤ b → b ≤ w.length → w.length ≤ 60000 → Lo a b w → ∃ w', self (a : Int) (b : Int) lim w = some w' ∧ Pm a b w w' ∧ So a b w'
theorem Lo.sub {a b b' : Nat} {w : List Int} (h : Lo a b w) (hb : b' ≤ b) : Lo a b' w := fun h0 k k1 k2 => h h0 k k1 (by omega)
theorem aNk {self : Int → Int → Int → List Int → Option (List Int)} {a b o : Nat} (lim : Int) (wp : Bool) (t : Int) {w w1 : List Int} (hS : Slf self (b - a)) (hl : w.length ≤ 60000) (hb : b ≤ w.length) (ho : a ≤ o) (hob : o < b) (hp : Pm a b w w1) (hL : Lo a b w1)
 (h1 : ∀ k, a ≤ k → k < o → ga w1 k ≤ ga w1 o) (h2 : ∀ k, o < k → k < b → ga w1 o ≤ ga w1 k) (hab : 2 ≤ b - a) :
 ∃ y : Int × Int × Bool × List Int, E6 self (a : Int) (b : Int) lim wp (o : Int) ((o - a : Nat) : Int) ((b - o : Nat) : Int) t (decide (((o - a : Nat) : Int) < ((b - o : Nat) : Int))) w1 = some y ∧ ∀ wb, Rd a b w (y.1, y.2.1, lim, wb, wp, y.2.2.2) := by
 have hl1 := hp.len
 unfold E6
 by_cases h : o - a < b - o
 ·obtain ⟨w2, e1, e2, e3⟩ := hS a o lim w1 (by omega) ho (by omega) (by omega) (hL.sub (by omega))
  refine ⟨(AA .add .i64 (o : Int) 1, (b : Int), decide (t ≤ ((o - a : Nat) : Int)), w2), by rw [decide_eq_true (by omega), AP, e1, AH], fun wb => ⟨o + 1, b, Fc (by omega), rfl, by omega, by omega, by omega, by omega, hp.trans (e2.mono (Nat.le_refl _) (by omega)), fun h0 k k1 k2 => ?_, fun p q p1 p2 p3 p4 => ?_, fun p q p1 p2 p3 p4 => by omega⟩⟩
  ·show ga w2 (o + 1 - 1) ≤ ga w2 k
   rw [Nat.add_sub_cancel, e2.out o (by omega), e2.out k (by omega)]
   exact h2 k (by omega) k2
  ·show ga w2 p ≤ ga w2 q
   by_cases c1 : q < o
   ·exact e3 p q p1 p3 c1
   ·rw [e2.out q (by omega)]
    have hpo : ga w2 p ≤ ga w1 o := by
     by_cases c2 : p = o
     ·rw [c2, e2.out o (by omega)]; exact Int.le_refl _
     ·obtain ⟨p', q1, q2, q3⟩ := e2.src p p1 (by omega)
      rw [q3]; exact h1 p' q1 q2
    by_cases c3 : q = o
    ·rw [c3]; exact hpo
    ·have := h2 q (by omega) p4; omega
 ·obtain ⟨w2, e1, e2, e3⟩ := hS (o + 1) b lim w1 (by omega) (by omega) (by omega) (by omega) (fun h0 k k1 k2 => by rw [Nat.add_sub_cancel]; exact h2 k (by omega) k2)
  have hL2 : Lo a b w2 := hL.pm (e2.mono (by omega) (Nat.le_refl _))
  refine ⟨((a : Int), (o : Int), decide (t ≤ ((b - o : Nat) : Int)), w2), by rw [decide_eq_false (by omega), AN, Fc (by omega), e1, AH], fun wb => ⟨a, o, rfl, rfl, Nat.le_refl _, ho, by omega, by omega, hp.trans (e2.mono (by omega) (Nat.le_refl _)), hL2.sub (by omega), fun p q p1 p2 p3 p4 => by omega, fun p q p1 p2 p3 p4 => ?_⟩⟩
  show ga w2 p ≤ ga w2 q
  by_cases c1 : o < p
  ·exact e3 p q c1 p2 p4
  ·rw [e2.out p (by omega)]
   have hpo : ga w1 p ≤ ga w1 o := by
    by_cases c2 : p = o
    ·rw [c2]; exact Int.le_refl _
    ·exact h1 p p1 (by omega)
   by_cases c3 : q = o
   ·rw [c3, e2.out o (by omega)]; exact hpo
   ·obtain ⟨q', q1, q2, q3⟩ := e2.src q (by omega) p4
    have := h2 q' (by omega) q2
    omega
def aF1 (self : Int → Int → Int → List Int → Option (List Int)) (s1 s2 d lim : Int) (s8 s9 : Bool) (pv : Int) (w : List Int) : Option (aI5 ⊕ List Int) :=
 AE (decide (0 < s1)) (
  Aa (0 ≤ (AA .sub .i64 s1 1) ∧ (AA .sub .i64 s1 1) + 1 ≤ (w.length : Int)) (
   AX w (AA .sub .i64 s1 1) fun x12 =>
   Aa (0 ≤ pv ∧ pv + 1 ≤ (w.length : Int)) (
    AX w pv fun x13 =>
    AG (Y6 x12 x13) fun r14 =>
    AE (!r14) (
     AG (Xj s1 s2 pv w) fun r15 =>
     some (.inl (r15.1, s2, lim, s8, s9, r15.2))) (
     AG (X6 s1 s2 pv w) fun r16 =>
     AG (E6 self s1 s2 lim r16.2.1 r16.1 (AA .sub .i64 r16.1 s1) (AA .sub .i64 s2 r16.1) (AA .quo .i64 d 8) (decide ((AA .sub .i64 r16.1 s1) < (AA .sub .i64 s2 r16.1))) r16.2.2) fun o19 =>
     some (.inl (o19.1, o19.2.1, lim, o19.2.2.1, r16.2.1, o19.2.2.2)))))) (
  AG (X6 s1 s2 pv w) fun r20 =>
  AG (E6 self s1 s2 lim r20.2.1 r20.1 (AA .sub .i64 r20.1 s1) (AA .sub .i64 s2 r20.1) (AA .quo .i64 d 8) (decide ((AA .sub .i64 r20.1 s1) < (AA .sub .i64 s2 r20.1))) r20.2.2) fun o21 =>
  some (.inl (o21.1, o21.2.1, lim, o21.2.2.1, r20.2.1, o21.2.2.2)))
theorem aF2 {self : Int → Int → Int → List Int → Option (List Int)} {a b p : Nat} (d lim : Int) (s8 s9 : Bool) {w w1 : List Int} (hS : Slf self (b - a)) (hl : w.length ≤ 60000) (hb : b ≤ w.length) (hp : a ≤ p ∧ p < b) (hab : a + 2 ≤ b) (h1 : Pm a b w w1) (hL : Lo a b w1) :
 ∃ x, aF1 self (a : Int) (b : Int) d lim s8 s9 (p : Int) w1 = some (.inl x) ∧ Rd a b w x := by
 have hl1 := h1.len
 have part : ∃ x, (AG (X6 (a : Int) (b : Int) (p : Int) w1) fun r20 =>
  AG (E6 self (a : Int) (b : Int) lim r20.2.1 r20.1 (AA .sub .i64 r20.1 (a : Int)) (AA .sub .i64 (b : Int) r20.1) (AA .quo .i64 d 8) (decide ((AA .sub .i64 r20.1 (a : Int)) < (AA .sub .i64 (b : Int) r20.1))) r20.2.2) fun o21 =>
  some (.inl (o21.1, o21.2.1, lim, o21.2.2.1, r20.2.1, o21.2.2.2) : aI5 ⊕ List Int)) = some (.inl x) ∧ Rd a b w x := by
  obtain ⟨o, f, w2, e1, e2, e3, e4, e5, e6⟩ := aOa a b p w1 (by omega) (by omega) hp hab
  obtain ⟨y, f1, f2⟩ := aNk (o := o) lim f (AA .quo .i64 d 8) hS hl hb e2 e3 (h1.trans e4) (hL.pm e4) e5 e6 (by omega)
  refine ⟨_, ?_, f2 y.2.2.1⟩
  rw [e1, AH]
  simp only
  rw [Uv (n := o) (m := a) (by omega), Uv (n := b) (m := o) (by omega), f1, AH]
 unfold aF1
 by_cases h0 : 0 < a
 ·rw [decide_eq_true (by omega), AP]
  by_cases hc : ga w1 (a - 1) < ga w1 p
  ·obtain ⟨x, x1, x2⟩ := part
   refine ⟨x, ?_, x2⟩
   rw [← x1]
   simp (disch := omega) only [Dk, Ej, EV, Bj, AH, hc, decide_true, Bool.not_true, AN]
  ·obtain ⟨o, w2, e1, e2, e3, e4, e5⟩ := aN1 a b p w1 (by omega) (by omega) hp hab
   have hL2 := hL.pm e4
   have ha : ga w2 (a - 1) = ga w1 (a - 1) := e4.out _ (by omega)
   refine ⟨((o : Int), (b : Int), lim, s8, s9, w2), ?_, ⟨o, b, rfl, rfl, by omega, e3, Nat.le_refl _, by omega, h1.trans e4, fun q0 k k1 k2 => ?_, fun p' q p1 p2 p3 p4 => ?_, fun p' q p1 p2 p3 p4 => by omega⟩⟩
   ·simp (disch := omega) only [Dk, Ej, EV, Bj, AH, hc, decide_false, Bool.not_false, AP, e1]
   ·show ga w2 (o - 1) ≤ ga w2 k
    have := e5 (o - 1) (by omega) (by omega)
    have := hL2 h0 k (by omega) k2
    omega
   ·show ga w2 p' ≤ ga w2 q
    have := e5 p' p1 p2
    have := hL2 h0 q (by omega) p4
    omega
 ·rw [decide_eq_false (by omega), AN]; exact part
theorem aNj {self : Int → Int → Int → List Int → Option (List Int)} {a b : Nat} (lim : Int) (s8 s9 fl : Bool) (t pv : Int) {w1 : List Int} (hl : w1.length ≤ 60000) (hb : b ≤ w1.length) (hab : a < b) (hL : Lo a b w1) :
 ∃ o w2, IN self (a : Int) (b : Int) lim s8 s9 t pv fl w1 = some o ∧ Pm a b w1 w2 ∧ (o = .inl w2 ∨ o = .inr w2 ∧ So a b w2) := by
 unfold IN
 cases fl with
 | false => exact ⟨_, w1, rfl, Pm.refl _ _ _, .inl rfl⟩
 | true =>
  obtain ⟨f, w2, e1, e2, e3⟩ := aN6 a b w1 (by omega) hb hab hL
  rw [AP, e1, AH]
  cases f with
  | true => exact ⟨_, w2, rfl, e2, .inr ⟨rfl, e3 rfl⟩⟩
  | false => exact ⟨_, w2, rfl, e2, .inl rfl⟩
theorem aNi {self : Int → Int → Int → List Int → Option (List Int)} {a b : Nat} (lim : Int) (s8 s9 : Bool) {w : List Int} (hS : Slf self (b - a)) (hl : w.length ≤ 60000) (hb : b ≤ w.length) (hab : a ≤ b) (hL : Lo a b w) :
 ∃ o, LJ self (a : Int) (b : Int) lim s8 s9 w = some o ∧ ((∃ w', o = .inr w' ∧ Pm a b w w' ∧ So a b w') ∨ ∃ x, o = .inl x ∧ Rd a b w x) := by
 unfold LJ
 rw [Uv (n := b) (m := a) (by omega)]
 by_cases h12 : b - a ≤ 12
 ·obtain ⟨w', e1, e2, e3⟩ := aNr a b w (by omega) hb hab
  exact ⟨_, by rw [decide_eq_true (by omega), AP, e1, AH], .inl ⟨w', rfl, e2, e3⟩⟩
 ·rw [decide_eq_false (by omega), AN]
  by_cases hlim : lim = 0
  ·obtain ⟨w', e1, e2, e3⟩ := aFl a b w (by omega) hb (by omega)
   exact ⟨_, by rw [decide_eq_true hlim, AP, e1, AH], .inl ⟨w', rfl, e2, e3⟩⟩
  ·rw [decide_eq_false hlim, AN]
   obtain ⟨l1, w1, e1, e2⟩ : ∃ l1 w1, LK self (a : Int) (b : Int) lim s8 s9 ((b - a : Nat) : Int) (!s8) w = some (l1, w1) ∧ Pm a b w w1 := by
    unfold LK
    cases s8 with
    | true => exact ⟨_, _, rfl, Pm.refl _ _ _⟩
    | false =>
     obtain ⟨w1, e1, e2⟩ := aHu a b w hl hb (by omega)
     exact ⟨_, w1, by rw [Bool.not_false, AP, e1, AH], e2⟩
   have hl1 := e2.len
   obtain ⟨pv, hint, f1, p, rfl, p1, p2⟩ := aH9 a b w1 (by omega) (by omega) (by omega)
   obtain ⟨p', hint', w2, g1, g2, g3, g4⟩ : ∃ (p' : Nat) (hint' : Int) (w2 : List Int), LL self (a : Int) (b : Int) l1 s8 s9 ((b - a : Nat) : Int) (p : Int) hint (decide (hint = 2)) w1 = some ((p' : Int), hint', w2) ∧ a ≤ p' ∧ p' < b ∧ Pm a b w1 w2 := by
    unfold LL
    by_cases h2 : hint = 2
    ·obtain ⟨w2, g1, g2⟩ := aIe a b w1 (by omega) (by omega) hab
     refine ⟨b - 1 - (p - a), 1, w2, ?_, by omega, by omega, g2⟩
     rw [decide_eq_true h2, AP, g1, AH, Dk (by omega), Uv (n := p) (m := a) (by omega), Uv (n := b - 1) (m := p - a) (by omega)]
    ·exact ⟨p, hint, w1, by rw [decide_eq_false h2, AN], p1, p2, Pm.refl _ _ _⟩
   have h02 := e2.trans g4
   have hL2 := hL.pm h02
   have hl2 := h02.len
   have fin : ∀ fl : Bool, ∃ o, (AG (IN self (a : Int) (b : Int) l1 s8 s9 ((b - a : Nat) : Int) (p' : Int) fl w2) fun o9 =>
    Cj o9 (fun o10 => aF1 self (a : Int) (b : Int) ((b - a : Nat) : Int) l1 s8 s9 (p' : Int) o10) (fun o11 => some (.inr o11))) = some o ∧ ((∃ w', o = .inr w' ∧ Pm a b w w' ∧ So a b w') ∨ ∃ x, o = .inl x ∧ Rd a b w x) := fun fl => by
    obtain ⟨o, w3, h1, h2, h3⟩ := aNj (self := self) l1 s8 s9 fl ((b - a : Nat) : Int) (p' : Int) (w1 := w2) (by omega) (by omega) (by omega) hL2
    rw [h1, AH]
    rcases h3 with rfl | ⟨rfl, h3⟩
    ·obtain ⟨x, x1, x2⟩ := aF2 ((b - a : Nat) : Int) l1 s8 s9 hS hl hb ⟨g2, g3⟩ (by omega) (h02.trans h2) (hL2.pm h2)
     exact ⟨_, by rw [CS, x1], .inr ⟨x, rfl, x2⟩⟩
    ·exact ⟨_, EI _ _ _, .inl ⟨w3, rfl, h02.trans h2, h3⟩⟩
   rw [e1, AH]
   simp only
   rw [f1, AH]
   simp only
   rw [g1, AH]
   simp only
   cases s8 with
   | true => cases s9 with
    | true => rw [AP, AP]; exact fin (decide (hint' = 1))
    | false => rw [AP, AN]; exact fin false
   | false => rw [AN]; exact fin false
theorem aH8 {self : Int → Int → Int → List Int → Option (List Int)} {N : Nat} (hS : Slf self N) : ∀ (m a b : Nat) (lim : Int) (s8 s9 : Bool) (w : List Int), b - a ≤ m → b - a ≤ N → w.length ≤ 60000 → b ≤ w.length → a ≤ b → Lo a b w →
 ∃ w', OK self (a : Int) (b : Int) lim s8 s9 w = some w' ∧ Pm a b w w' ∧ So a b w' := by
 intro m
 induction m using Nat.strongRecOn with
 | ind m ih =>
  intro a b lim s8 s9 w hm hN hl hb hab hL
  rw [Vv]
  unfold Gt
  obtain ⟨o, e1, e2⟩ := aNi lim s8 s9 (fun a' b' l w' h1 h2 h3 h4 h5 => hS a' b' l w' (by omega) h2 h3 h4 h5) hl hb hab hL
  rw [e1, AH]
  rcases e2 with ⟨w', rfl, f1, f2⟩ | ⟨x, rfl, f1⟩
  ·exact ⟨w', by rw [EI, Af], f1, f2⟩
  ·obtain ⟨a', b', x1, x2, k1, k2, k3, k4, k5, k6, k7, k8⟩ := f1
   have hl5 := k5.len
   obtain ⟨w', g1, g2, g3⟩ := ih (b' - a') (by omega) a' b' x.2.2.1 x.2.2.2.1 x.2.2.2.2.1 x.2.2.2.2.2 (Nat.le_refl _) (by omega) (by omega) (by omega) k2 k6
   refine ⟨w', ?_, k5.trans (g2.mono k1 k3), fun p q p1 p2 p3 => ?_⟩
   ·rw [CS, B4]
    simp only
    rw [x1, x2]; exact g1
   ·by_cases c1 : p < a'
    ·rw [g2.out p (by omega)]
     by_cases c2 : a' ≤ q ∧ q < b'
     ·obtain ⟨q', q1, q2, q3⟩ := g2.src q c2.1 c2.2
      rw [q3]; exact k7 p q' p1 c1 (by omega) (by omega)
     ·rw [g2.out q (by omega)]; exact k7 p q p1 c1 p2 p3
    ·by_cases c2 : b' ≤ q
     ·rw [g2.out q (by omega)]
      by_cases c3 : p < b'
      ·obtain ⟨p', q1, q2, q3⟩ := g2.src p (by omega) c3
       rw [q3]; exact k8 p' q (by omega) (by omega) c2 p3
      ·rw [g2.out p (by omega)]; exact k8 p q p1 p2 c2 p3
     ·exact g3 p q (by omega) p2 (by omega)
theorem aNx : ∀ n, Slf (aCp n) n := by
 intro n
 induction n with
 | zero => intro a b lim w h; omega
 | succ n ih =>
  intro a b lim w h1 h2 h3 h4 h5
  obtain ⟨w', e1, e2, e3⟩ := aH8 ih (b - a) a b lim true true w (Nat.le_refl _) (by omega) h4 h3 h2 h5
  refine ⟨w', ?_, e2, e3⟩
  show aDl (aCp n) (a : Int) (b : Int) lim w = some w'
  unfold aDl
  rw [e1, AH]
theorem Pn {w : List Int} (hl : w.length ≤ 60000) : ∃ w', Zn w = some w' ∧ w'.Perm w ∧ w'.Pairwise (· ≤ ·) := by
 obtain ⟨k, e1, _⟩ := aCm (n := w.length) (by omega)
 obtain ⟨w', f1, f2, f3⟩ := aNx 100000 0 w.length (k : Int) w (by omega) (by omega) (Nat.le_refl _) hl (fun h => by omega)
 refine ⟨w', ?_, f2.perm, ?_⟩
 ·unfold Zn
  rw [EJ (by omega), e1, AH]
  have f1' : X9 0 (w.length : Int) (k : Int) w = some w' := f1
  rw [f1', AH]
 ·rw [List.pairwise_iff_getElem]
  intro i j hi hj hij
  have := f3 i j (by omega) hij (by have := f2.len; omega)
  rw [UH hi, UH hj]; exact this
theorem IH {l m : List Int} (h1 : l.Pairwise (· ≤ ·)) (h2 : m.Pairwise (· ≤ ·)) (hp : l.Perm m) : l = m :=
 List.Perm.eq_of_pairwise (fun a b _ _ h3 h4 => by omega) h1 h2 hp
theorem VD {w l : List Int} (hl : w.length ≤ 60000) (hs : l.Pairwise (· ≤ ·)) (hp : l.Perm w) : Q7 w = some l := by
 unfold Q7
 refine aE5 fun p hp' => ?_
 obtain ⟨w', e1, e2, e3⟩ := Pn (w := p) (by rw [hp'.length_eq]; exact hl)
 rw [e1, IH e3 hs (e2.trans (hp'.trans hp.symm))]
theorem UJ {α : Type} {le : α → α → Bool} {x y : α} {l : List α} : y ∈ KZ le x l ↔ y = x ∨ y ∈ l := by
 rw [(GH le x l).mem_iff, mc]
theorem GP {α : Type} {le : α → α → Bool} (h1 : ∀ a b, le a b = true ∨ le b a = true) (h2 : ∀ a b c, le a b = true → le b c = true → le a c = true) (x : α) : ∀ {l : List α}, l.Pairwise (fun a b => le a b = true) → (KZ le x l).Pairwise (fun a b => le a b = true)
 | [], _ => by simp [KZ]
 | y :: l, h => by
  obtain ⟨ha, hb⟩ := List.pairwise_cons.1 h
  rw [KZ]
  split
  ·rename_i hxy
   refine List.pairwise_cons.2 ⟨fun z hz => ?_, h⟩
   rcases mc.1 hz with rfl | hz
   ·exact hxy
   ·exact h2 _ _ _ hxy (ha z hz)
  ·rename_i hxy
   refine List.pairwise_cons.2 ⟨fun z hz => ?_, GP h1 h2 x hb⟩
   rcases UJ.1 hz with rfl | hz
   ·rcases h1 y z with h | h
    ·exact h
    ·rw [hxy] at h; cases h
   ·exact ha z hz
theorem Fb {α : Type} {le : α → α → Bool} (h1 : ∀ a b, le a b = true ∨ le b a = true) (h2 : ∀ a b c, le a b = true → le b c = true → le a c = true) : ∀ (l : List α), (Kt le l).Pairwise (fun a b => le a b = true)
 | [] => List.Pairwise.nil
 | x :: l => GP h1 h2 x (Fb h1 h2 l)
theorem ID (xs : List Int) : (aI0 xs).Pairwise (· ≤ ·) :=
 (Fb (le := fun a b : Int => decide (a ≤ b)) (fun a b => by simp only [decide_eq_true_eq]; omega) (fun a b c h1 h2 => by simp only [decide_eq_true_eq] at *; omega) xs).imp fun h => by simpa using h
def PX (xs : List Int) : Option (List Int) := AE (Nat.ble xs.length 60000) (some (aI0 xs)) none
theorem aCc (xs : List Int) : Le (PX xs) (Q7 xs) := by
 intro r h
 unfold PX at h
 rcases iS h with ⟨h1, h⟩ | ⟨h1, h⟩
 ·cases si h
  exact VD (by simpa using h1) (ID xs) (IC xs)
 ·cases h
theorem VC {w l : List Int} (hl : w.length ≤ 60000) (hs : l.Pairwise (· ≤ ·)) (hp : l.Perm w) : Zn w = some l := by
 obtain ⟨w', e1, e2, e3⟩ := Pn hl
 rw [e1, IH e3 hs (e2.trans hp.symm)]
theorem Ut (xs : List Int) : Le (PX xs) (Zn xs) := by
 intro r h
 unfold PX at h
 rcases iS h with ⟨h1, h⟩ | ⟨h1, h⟩
 ·cases si h
  exact VC (by simpa using h1) (ID xs) (IC xs)
 ·cases h
def L4 (s0 : List Int) (s1 : Int) (s7 : Int) (s8 : Int) : Option (Unit ⊕ Int) := itE (fun s : Int => F1 s0 s1 s7 s) 70 s8
theorem ZN (s0 : List Int) (s1 : Int) (s7 : Int) (s8 : Int) : Le (L4 s0 s1 s7 s8) (Sh s0 s1 s7 s8) := by
 unfold L4 Sh
 repeat' (first | refine BK (fun _ => ?_) _ _ | exact Le.refl _)
def aK7 (a0 : List Int) (a1 : Int) : Option (Int) :=
 AG (L4 a0 a1 (a0.length : Int) 0) fun o2 =>
 Cj o2 (fun o3 =>
  some (-1)) (fun o4 =>
  some o4)
theorem aK8 (a0 : List Int) (a1 : Int) : Le (aK7 a0 a1) (Y5 a0 a1) := by
 unfold aK7 Y5
 repeat' (first | exact ZN _ _ _ _ | refine AS ?_ fun _ => ?_ | refine Dy (fun _ => ?_) fun _ => ?_ | exact Le.refl _)
def aMc (a0 : List Int) (a1 : Int) : Option (Bool) :=
 AG (aK7 a0 a1) fun r1 =>
 some (decide (0 ≤ r1))
theorem aMd (a0 : List Int) (a1 : Int) : Le (aMc a0 a1) (Z6 a0 a1) := by
 unfold aMc Z6
 repeat' (first | exact aK8 _ _ | refine AS ?_ fun _ => ?_ | exact Le.refl _)
def LQ (s6 : Int) (s18 : List Xe) (s19 : Int) (s20 : Int) (w2 : AB) (w5 : List Int) : Option ((List Int)) :=
 AX s18 s20 fun x1 =>
 AX w5 s6 fun x2 =>
 AE (decide (x1.from_ = x2)) (
  AG (aMc w5 x1.to) fun r3 =>
  AG (LR s6 s18 s19 s20 (!r3) w2 w5 x1) fun o4 =>
  some o4) (
  AG (LR s6 s18 s19 s20 false w2 w5 x1) fun o5 =>
  some o5)
theorem WF (s6 : Int) (s18 : List Xe) (s19 : Int) (s20 : Int) (w2 : AB) (w5 : List Int) : Le (LQ s6 s18 s19 s20 w2 w5) (OO s6 s18 s19 s20 w2 w5) := by
 unfold LQ OO
 repeat' (first | exact aMd _ _ | refine AS ?_ fun _ => ?_ | refine A7 ?_ ?_ | refine C8 fun _ => ?_ | exact Le.refl _)
def G3 (s6 : Int) (s18 : List Xe) (s19 : Int) (w2 : AB) (s20 : Int) (w5 : List Int) : Option ((Int × List Int) ⊕ ((List Int))) :=
 AE (decide (s20 < s19)) (
  AG (LQ s6 s18 s19 s20 w2 w5) fun o6 =>
  some (.inl ((AA .add .i64 s20 1), o6))) (
  some (.inr w5))
theorem OQ (s6 : Int) (s18 : List Xe) (s19 : Int) (w2 : AB) (s20 : Int) (w5 : List Int) : Le (G3 s6 s18 s19 w2 s20 w5) (E8 s6 s18 s19 w2 s20 w5) := by
 unfold G3 E8
 repeat' (first | exact WF _ _ _ _ _ _ | refine AS ?_ fun _ => ?_ | refine A7 ?_ ?_ | exact Le.refl _)
def LT (s6 : Int) (s18 : List Xe) (s19 : Int) (w2 : AB) (s20 : Int) (w5 : List Int) : Option ((List Int)) := itE (fun s : Int × List Int => G3 s6 s18 s19 w2 s.1 s.2) 70 (s20, w5)
theorem WK (s6 : Int) (s18 : List Xe) (s19 : Int) (w2 : AB) (s20 : Int) (w5 : List Int) : Le (LT s6 s18 s19 w2 s20 w5) (Qz s6 s18 s19 w2 s20 w5) := by
 unfold LT Qz
 repeat' (first | exact OQ _ _ _ _ _ _ | refine BK (fun _ => ?_) _ _ | exact Le.refl _)
def G2 (w2 : AB) (s6 : Int) (w5 : List Int) : Option ((Int × List Int) ⊕ ((List Int))) :=
 AE (decide (s6 < (w5.length : Int))) (
  AG (LT s6 w2.trans (w2.trans.length : Int) w2 0 w5) fun o7 =>
  some (.inl ((AA .add .i64 s6 1), o7))) (
  some (.inr w5))
theorem OP (w2 : AB) (s6 : Int) (w5 : List Int) : Le (G2 w2 s6 w5) (E7 w2 s6 w5) := by
 unfold G2 E7
 repeat' (first | exact WK _ _ _ _ _ _ | refine AS ?_ fun _ => ?_ | refine A7 ?_ ?_ | exact Le.refl _)
def LS (w2 : AB) (s6 : Int) (w5 : List Int) : Option ((List Int)) := itE (fun s : Int × List Int => G2 w2 s.1 s.2) 70 (s6, w5)
theorem WH (w2 : AB) (s6 : Int) (w5 : List Int) : Le (LS w2 s6 w5) (Qw w2 s6 w5) := by
 unfold LS Qw
 repeat' (first | exact OP _ _ _ | refine BK (fun _ => ?_) _ _ | exact Le.refl _)
def aJx (a0 : AB) (a1 : Int) : Option (List Int) :=
 AG (LS a0 0 [a1]) fun o8 =>
 some o8
theorem aJy (a0 : AB) (a1 : Int) : Le (aJx a0 a1) (Xd a0 a1) := by
 unfold aJx Xd
 repeat' (first | exact WH _ _ _ | refine AS ?_ fun _ => ?_ | exact Le.refl _)
def L5 (s0 : List Int) (s1 : AB) (s7 : Int) (s8 : Int) : Option (Unit ⊕ Int) := itE (fun s : Int => F2 s0 s1 s7 s) 70 s8
theorem ZP (s0 : List Int) (s1 : AB) (s7 : Int) (s8 : Int) : Le (L5 s0 s1 s7 s8) (Sk s0 s1 s7 s8) := by
 unfold L5 Sk
 repeat' (first | refine BK (fun _ => ?_) _ _ | exact Le.refl _)
def aLa (a0 : List Int) (a1 : AB) : Option (Int) :=
 AG (L5 a0 a1 (a0.length : Int) 0) fun o3 =>
 Cj o3 (fun o4 =>
  some (-1)) (fun o5 =>
  some o5)
theorem aLb (a0 : List Int) (a1 : AB) : Le (aLa a0 a1) (Y7 a0 a1) := by
 unfold aLa Y7
 repeat' (first | exact ZP _ _ _ _ | refine AS ?_ fun _ => ?_ | refine Dy (fun _ => ?_) fun _ => ?_ | exact Le.refl _)
def aMf (a0 : List Int) (a1 : AB) : Option (Bool) :=
 AG (aLa a0 a1) fun r1 =>
 some (decide (0 ≤ r1))
theorem aMg (a0 : List Int) (a1 : AB) : Le (aMf a0 a1) (Z7 a0 a1) := by
 unfold aMf Z7
 repeat' (first | exact aLb _ _ | refine AS ?_ fun _ => ?_ | exact Le.refl _)
def L6 (s0 : List Int) (s1 : AB) (s7 : Int) (s8 : Int) : Option (Unit ⊕ Int) := itE (fun s : Int => F3 s0 s1 s7 s) 70 s8
theorem ZR (s0 : List Int) (s1 : AB) (s7 : Int) (s8 : Int) : Le (L6 s0 s1 s7 s8) (Sn s0 s1 s7 s8) := by
 unfold L6 Sn
 repeat' (first | refine BK (fun _ => ?_) _ _ | exact Le.refl _)
def aLd (a0 : List Int) (a1 : AB) : Option (Int) :=
 AG (L6 a0 a1 (a0.length : Int) 0) fun o3 =>
 Cj o3 (fun o4 =>
  some (-1)) (fun o5 =>
  some o5)
theorem aLe (a0 : List Int) (a1 : AB) : Le (aLd a0 a1) (Y8 a0 a1) := by
 unfold aLd Y8
 repeat' (first | exact ZR _ _ _ _ | refine AS ?_ fun _ => ?_ | refine Dy (fun _ => ?_) fun _ => ?_ | exact Le.refl _)
def aMi (a0 : List Int) (a1 : AB) : Option (Bool) :=
 AG (aLd a0 a1) fun r1 =>
 some (decide (0 ≤ r1))
theorem aMj (a0 : List Int) (a1 : AB) : Le (aMi a0 a1) (Z8 a0 a1) := by
 unfold aMi Z8
 repeat' (first | exact aLe _ _ | refine AS ?_ fun _ => ?_ | exact Le.refl _)
def aG2 (a0 : AB) (a1 : Int) : Option (Int) :=
 AE (decide (a1 < 0)) (
  some 0) (
  AE (decide ((a0.states.length : Int) ≤ a1)) (
   some 0) (
   AG (aJx a0 a1) fun r1 =>
   AG (aMf r1 a0) fun r2 =>
   AE (!r2) (
    some 1) (
    AG (aMi r1 a0) fun r3 =>
    AE (!r3) (
     some 2) (
     some 0))))
theorem aG3 (a0 : AB) (a1 : Int) : Le (aG2 a0 a1) (Yf a0 a1) := by
 unfold aG2 Yf
 repeat' (first | exact aJy _ _ | exact aMg _ _ | exact aMj _ _ | refine AS ?_ fun _ => ?_ | refine A7 ?_ ?_ | exact Le.refl _)
def Lc (s5 : Int) (s8 : List X2) (s9 : Int) (s10 : Int) (w2 : AB) : Option (Int ⊕ Unit) :=
 AX s8 s10 fun x1 =>
 AG (aG2 w2 x1.state) fun r2 =>
 AG (OU s5 s8 s9 s10 r2 w2) fun o7 =>
 Cj o7 (fun o8 =>
  some (.inl o8)) (fun o9 =>
  some (.inr ()))
theorem We (s5 : Int) (s8 : List X2) (s9 : Int) (s10 : Int) (w2 : AB) : Le (Lc s5 s8 s9 s10 w2) (Lb s5 s8 s9 s10 w2) := by
 unfold Lc Lb
 repeat' (first | exact aG3 _ _ | refine AS ?_ fun _ => ?_ | refine C8 fun _ => ?_ | refine Dy (fun _ => ?_) fun _ => ?_ | exact Le.refl _)
def G7 (s8 : List X2) (s9 : Int) (w2 : AB) (s5 : Int) (s10 : Int) : Option ((Int × Int) ⊕ (Int ⊕ Unit)) :=
 AE (decide (s10 < s9)) (
  AG (Lc s5 s8 s9 s10 w2) fun o10 =>
  Cj o10 (fun o11 =>
   some (.inl (o11, (AA .add .i64 s10 1)))) (fun o12 =>
   some (.inr (.inr ())))) (
  some (.inr (.inl s5)))
theorem OV (s8 : List X2) (s9 : Int) (w2 : AB) (s5 : Int) (s10 : Int) : Le (G7 s8 s9 w2 s5 s10) (EP s8 s9 w2 s5 s10) := by
 unfold G7 EP
 repeat' (first | exact We _ _ _ _ _ | refine AS ?_ fun _ => ?_ | refine A7 ?_ ?_ | refine Dy (fun _ => ?_) fun _ => ?_ | exact Le.refl _)
def Ld (s8 : List X2) (s9 : Int) (w2 : AB) (s5 : Int) (s10 : Int) : Option (Int ⊕ Unit) := itE (fun s : Int × Int => G7 s8 s9 w2 s.1 s.2) 70 (s5, s10)
theorem Wm (s8 : List X2) (s9 : Int) (w2 : AB) (s5 : Int) (s10 : Int) : Le (Ld s8 s9 w2 s5 s10) (RR s8 s9 w2 s5 s10) := by
 unfold Ld RR
 repeat' (first | exact OV _ _ _ _ _ | refine BK (fun _ => ?_) _ _ | exact Le.refl _)
def aJ7 (a0 : AB) (a1 : List X2) : Option (Int) :=
 AG (Ld a1 (a1.length : Int) a0 2 0) fun o13 =>
 Cj o13 (fun o14 =>
  some o14) (fun o15 =>
  some 1)
theorem aJ8 (a0 : AB) (a1 : List X2) : Le (aJ7 a0 a1) (Xh a0 a1) := by
 unfold aJ7 Xh
 repeat' (first | exact Wm _ _ _ _ _ | refine AS ?_ fun _ => ?_ | refine Dy (fun _ => ?_) fun _ => ?_ | exact Le.refl _)
def Lz (s1 : Int) (s9 : List X4) (s10 : Int) (s5 : Int) (s11 : Int) : Option (Int) := itE (fun s : Int × Int => L1 s1 s9 s10 s.1 s.2) 70 (s5, s11)
theorem ZD (s1 : Int) (s9 : List X4) (s10 : Int) (s5 : Int) (s11 : Int) : Le (Lz s1 s9 s10 s5 s11) (ZC s1 s9 s10 s5 s11) := by
 unfold Lz ZC
 repeat' (first | refine BK (fun _ => ?_) _ _ | exact Le.refl _)
def aKw (a0 : AB) (a1 : Int) : Option (Int) :=
 AG (Lz a1 a0.symbols (a0.symbols.length : Int) 0 0) fun o4 =>
 some o4
theorem aKx (a0 : AB) (a1 : Int) : Le (aKw a0 a1) (Y0 a0 a1) := by
 unfold aKw Y0
 repeat' (first | exact ZD _ _ _ _ _ | refine AS ?_ fun _ => ?_ | exact Le.refl _)
def Lx (s0 : List X0) (s2 : List X0) (s8 : Int) (w4 : X0) (s9 : Int) (s10 : Int) : Option (Int) := itE (fun s : Int × Int => Ly s0 s2 s8 w4 s.1 s.2) 70 (s9, s10)
theorem YY (s0 : List X0) (s2 : List X0) (s8 : Int) (w4 : X0) (s9 : Int) (s10 : Int) : Le (Lx s0 s2 s8 w4 s9 s10) (YX s0 s2 s8 w4 s9 s10) := by
 unfold Lx YX
 repeat' (first | refine BK (fun _ => ?_) _ _ | exact Le.refl _)
def aIq (a0 : List X0) (a1 : X0) (a2 : List X0) : Option (Int × Bool) :=
 AG (Lx a0 a2 (a0.length : Int) a1 0 (a0.length : Int)) fun o5 =>
 AE (decide (o5 < (a0.length : Int))) (
  AX a0 o5 fun x6 =>
  AG (Zv x6 a1 a2) fun r7 =>
  some (o5, decide (r7 = 0))) (
  some (o5, false))
theorem aGx (a0 : List X0) (a1 : X0) (a2 : List X0) : Le (aIq a0 a1 a2) (Xz a0 a1 a2) := by
 unfold aIq Xz
 repeat' (first | exact YY _ _ _ _ _ _ | refine AS ?_ fun _ => ?_ | refine A7 ?_ ?_ | refine C8 fun _ => ?_ | exact Le.refl _)
def aL7 (a1 : X0) : Option (Bool × List X0) :=
 AG (aIq ([] : List X0) a1 ([] : List X0)) fun r1 =>
 AG (aA4 r1.1 r1.2 (!r1.2) a1) fun o3 =>
 some (!r1.2, o3)
theorem aL8 (a1 : X0) : Le (aL7 a1) (Z2 a1) := by
 unfold aL7 Z2
 repeat' (first | exact aGx _ _ _ | refine AS ?_ fun _ => ?_ | exact Le.refl _)
def aIs (a1 : X0) (w1 : List X0) : Option (Bool × List X0) :=
 AG (aIq w1 a1 w1) fun r1 =>
 AG (aA1 r1.1 r1.2 (!r1.2) a1 w1) fun o3 =>
 some (!r1.2, o3)
theorem aHd (a1 : X0) (w1 : List X0) : Le (aIs a1 w1) (Yz a1 w1) := by
 unfold aIs Yz
 repeat' (first | exact aGx _ _ _ | refine AS ?_ fun _ => ?_ | exact Le.refl _)
def LM (s1 : Int) (s12 : Bool) (w2 : AB) : Option ((List X0)) :=
 AE (s12) (
  AG (Zu false) fun r2 =>
  AG (aL7 r2) fun r3 =>
  AG (Zu true) fun r4 =>
  AG (aIs r4 r3.2) fun r5 =>
  some r5.2) (
  some ([] : List X0))
theorem Vy (s1 : Int) (s12 : Bool) (w2 : AB) : Le (LM s1 s12 w2) (QX s1 s12 w2) := by
 unfold LM QX
 repeat' (first | exact aL8 _ | exact aHd _ _ | refine AS ?_ fun _ => ?_ | refine A7 ?_ ?_ | exact Le.refl _)
def JA (s1 : Int) (s20 : List X4) (s21 : Int) (s22 : Int) (s27 : List CX) (s28 : Int) (s29 : Int) (s42 : Bool) (w9 : CX) (w518 : List X0) : Option ((List X0)) :=
 AE (s42) (
  AG (aIs w9.value w518) fun r9 =>
  some r9.2) (
  some w518)
theorem V2 (s1 : Int) (s20 : List X4) (s21 : Int) (s22 : Int) (s27 : List CX) (s28 : Int) (s29 : Int) (s42 : Bool) (w9 : CX) (w518 : List X0) : Le (JA s1 s20 s21 s22 s27 s28 s29 s42 w9 w518) (OL s1 s20 s21 s22 s27 s28 s29 s42 w9 w518) := by
 unfold JA OL
 repeat' (first | exact aHd _ _ | refine AS ?_ fun _ => ?_ | refine A7 ?_ ?_ | exact Le.refl _)
def LN (s1 : Int) (s20 : List X4) (s21 : Int) (s22 : Int) (s27 : List CX) (s28 : Int) (s29 : Int) (w518 : List X0) : Option ((List X0)) :=
 AX s27 s29 fun x8 =>
 AE (decide (x8.kind = 1)) (
  AG (JA s1 s20 s21 s22 s27 s28 s29 (decide (x8.value.kind = s1)) x8 w518) fun o10 =>
  some o10) (
  AG (JA s1 s20 s21 s22 s27 s28 s29 false x8 w518) fun o11 =>
  some o11)
theorem V0 (s1 : Int) (s20 : List X4) (s21 : Int) (s22 : Int) (s27 : List CX) (s28 : Int) (s29 : Int) (w518 : List X0) : Le (LN s1 s20 s21 s22 s27 s28 s29 w518) (QY s1 s20 s21 s22 s27 s28 s29 w518) := by
 unfold LN QY
 repeat' (first | exact V2 _ _ _ _ _ _ _ _ _ _ | refine AS ?_ fun _ => ?_ | refine A7 ?_ ?_ | refine C8 fun _ => ?_ | exact Le.refl _)
def Gv (s1 : Int) (s20 : List X4) (s21 : Int) (s22 : Int) (s27 : List CX) (s28 : Int) (s29 : Int) (w518 : List X0) : Option ((Int × List X0) ⊕ ((List X0))) :=
 AE (decide (s29 < s28)) (
  AG (LN s1 s20 s21 s22 s27 s28 s29 w518) fun o12 =>
  some (.inl ((AA .add .i64 s29 1), o12))) (
  some (.inr w518))
theorem ON (s1 : Int) (s20 : List X4) (s21 : Int) (s22 : Int) (s27 : List CX) (s28 : Int) (s29 : Int) (w518 : List X0) : Le (Gv s1 s20 s21 s22 s27 s28 s29 w518) (JC s1 s20 s21 s22 s27 s28 s29 w518) := by
 unfold Gv JC
 repeat' (first | exact V0 _ _ _ _ _ _ _ _ | refine AS ?_ fun _ => ?_ | refine A7 ?_ ?_ | exact Le.refl _)
def LP (s1 : Int) (s20 : List X4) (s21 : Int) (s22 : Int) (s27 : List CX) (s28 : Int) (s29 : Int) (w518 : List X0) : Option ((List X0)) := itE (fun s : Int × List X0 => Gv s1 s20 s21 s22 s27 s28 s.1 s.2) 70 (s29, w518)
theorem V7 (s1 : Int) (s20 : List X4) (s21 : Int) (s22 : Int) (s27 : List CX) (s28 : Int) (s29 : Int) (w518 : List X0) : Le (LP s1 s20 s21 s22 s27 s28 s29 w518) (V6 s1 s20 s21 s22 s27 s28 s29 w518) := by
 unfold LP V6
 repeat' (first | exact ON _ _ _ _ _ _ _ _ | refine BK (fun _ => ?_) _ _ | exact Le.refl _)
def Gu (s1 : Int) (s20 : List X4) (s21 : Int) (s22 : Int) (w518 : List X0) : Option ((Int × List X0) ⊕ ((List X0))) :=
 AE (decide (s22 < s21)) (
  AX s20 s22 fun x7 =>
  AG (LP s1 s20 s21 s22 x7.args (x7.args.length : Int) 0 w518) fun o13 =>
  some (.inl ((AA .add .i64 s22 1), o13))) (
  some (.inr w518))
theorem OM (s1 : Int) (s20 : List X4) (s21 : Int) (s22 : Int) (w518 : List X0) : Le (Gu s1 s20 s21 s22 w518) (JB s1 s20 s21 s22 w518) := by
 unfold Gu JB
 repeat' (first | exact V7 _ _ _ _ _ _ _ _ | refine AS ?_ fun _ => ?_ | refine A7 ?_ ?_ | refine C8 fun _ => ?_ | exact Le.refl _)
def LO (s1 : Int) (s20 : List X4) (s21 : Int) (s22 : Int) (w518 : List X0) : Option ((List X0)) := itE (fun s : Int × List X0 => Gu s1 s20 s21 s.1 s.2) 70 (s22, w518)
theorem V4 (s1 : Int) (s20 : List X4) (s21 : Int) (s22 : Int) (w518 : List X0) : Le (LO s1 s20 s21 s22 w518) (V3 s1 s20 s21 s22 w518) := by
 unfold LO V3
 repeat' (first | exact OM _ _ _ _ _ | refine BK (fun _ => ?_) _ _ | exact Le.refl _)
def aJs (a0 : AB) (a1 : Int) : Option (List X0) :=
 AG (Qa) fun r1 =>
 AG (LM a1 (decide (a1 = 3)) a0) fun o6 =>
 AG (LO a1 a0.symbols (a0.symbols.length : Int) 0 o6) fun o14 =>
 AG (Qb o14) fun r15 =>
 some r15.1
theorem aJt (a0 : AB) (a1 : Int) : Le (aJs a0 a1) (Xa a0 a1) := by
 unfold aJs Xa
 repeat' (first | exact Vy _ _ _ | exact V4 _ _ _ _ _ | refine AS ?_ fun _ => ?_ | exact Le.refl _)
def L9 (s0 : List X0) (s7 : Int) (w3 : X0) (s8 : Int) : Option (Unit ⊕ Int) := itE (fun s : Int => MA s0 s7 w3 s) 70 s8
theorem ZZ (s0 : List X0) (s7 : Int) (w3 : X0) (s8 : Int) : Le (L9 s0 s7 w3 s8) (ZY s0 s7 w3 s8) := by
 unfold L9 ZY
 repeat' (first | refine BK (fun _ => ?_) _ _ | exact Le.refl _)
def aLg (a0 : List X0) (a1 : X0) : Option (Int) :=
 AG (L9 a0 (a0.length : Int) a1 0) fun o2 =>
 Cj o2 (fun o3 =>
  some (-1)) (fun o4 =>
  some o4)
theorem aLh (a0 : List X0) (a1 : X0) : Le (aLg a0 a1) (Yd a0 a1) := by
 unfold aLg Yd
 repeat' (first | exact ZZ _ _ _ _ | refine AS ?_ fun _ => ?_ | refine Dy (fun _ => ?_) fun _ => ?_ | exact Le.refl _)
def aIt (a0 : List X0) (a1 : X0) : Option (Bool) :=
 AG (aLg a0 a1) fun r1 =>
 some (decide (0 ≤ r1))
theorem aHf (a0 : List X0) (a1 : X0) : Le (aIt a0 a1) (Z5 a0 a1) := by
 unfold aIt Z5
 repeat' (first | exact aLh _ _ | refine AS ?_ fun _ => ?_ | exact Le.refl _)
def Lk (s0 : List (List X0)) (s9 : List (List X0)) (s10 : Int) (s3 : Int) (s11 : Int) : Option (Int) := itE (fun s : Int × Int => Ll s0 s9 s10 s.1 s.2) 70 (s3, s11)
theorem XJ (s0 : List (List X0)) (s9 : List (List X0)) (s10 : Int) (s3 : Int) (s11 : Int) : Le (Lk s0 s9 s10 s3 s11) (XI s0 s9 s10 s3 s11) := by
 unfold Lk XI
 repeat' (first | refine BK (fun _ => ?_) _ _ | exact Le.refl _)
def Lm (s25 : List (List X0)) (s26 : Int) (s27 : Int) (w6 : List X0) : Option ((List X0)) := itE (fun s : Int × List X0 => Ln s25 s26 s.1 s.2) 70 (s27, w6)
theorem XM (s25 : List (List X0)) (s26 : Int) (s27 : Int) (w6 : List X0) : Le (Lm s25 s26 s27 w6) (XL s25 s26 s27 w6) := by
 unfold Lm XL
 repeat' (first | refine BK (fun _ => ?_) _ _ | exact Le.refl _)
def aKg (a0 : List (List X0)) : Option (List X0) :=
 AG (Lk a0 a0 (a0.length : Int) 0 0) fun o4 =>
 AG (Qd o4) fun r5 =>
 AG (Lm a0 (a0.length : Int) 0 r5) fun o7 =>
 some o7
theorem aKh (a0 : List (List X0)) : Le (aKg a0) (Xo a0) := by
 unfold aKg Xo
 repeat' (first | exact XJ _ _ _ _ _ | exact XM _ _ _ _ | refine AS ?_ fun _ => ?_ | exact Le.refl _)
def HI (s0 : Int) (s1 : List X0) (w4 : X0) (w6 : X0) : Option ((X0) ⊕ (X0)) :=
 AG (aIt s1 w6) fun r1 =>
 AE (r1) (
  AG (YG s0 s1 w4 w6) fun o3 =>
  some (.inl o3)) (
  some (.inr w6))
theorem On (s0 : Int) (s1 : List X0) (w4 : X0) (w6 : X0) : Le (HI s0 s1 w4 w6) (JN s0 s1 w4 w6) := by
 unfold HI JN
 repeat' (first | exact aHf _ _ | refine AS ?_ fun _ => ?_ | refine A7 ?_ ?_ | exact Le.refl _)
def JM (s0 : Int) (s1 : List X0) (w4 : X0) (w6 : X0) : Option (X0) := itE (fun s : X0 => HI s0 s1 w4 s) 70 w6
theorem YJ (s0 : Int) (s1 : List X0) (w4 : X0) (w6 : X0) : Le (JM s0 s1 w4 w6) (SF s0 s1 w4 w6) := by
 unfold JM SF
 repeat' (first | exact On _ _ _ _ | refine BK (fun _ => ?_) _ _ | exact Le.refl _)
def aKq (a0 : Int) (a1 : List X0) : Option (X0 × Bool) :=
 AE (!decide (a0 = 1)) (
  AE (!decide (a0 = 2)) (
   some (X0.mk 0 0 ([] : List UInt8) false, false)) (
   AG (JM a0 a1 (X0.mk 0 0 ([] : List UInt8) false) (X0.mk a0 0 ([] : List UInt8) false)) fun o4 =>
   some (o4, true))) (
  AG (JM a0 a1 (X0.mk 0 0 ([] : List UInt8) false) (X0.mk a0 0 ([] : List UInt8) false)) fun o5 =>
  some (o5, true))
theorem aKr (a0 : Int) (a1 : List X0) : Le (aKq a0 a1) (Xv a0 a1) := by
 unfold aKq Xv
 repeat' (first | exact YJ _ _ _ _ | refine AS ?_ fun _ => ?_ | refine A7 ?_ ?_ | exact Le.refl _)
def Li (s1 : List X0) (s5 : Int) (s28 : List Xb) (s29 : Int) (s30 : Int) (w6 : List X0) : Option ((List X0)) :=
 AX s28 s30 fun x4 =>
 AE (decide (x4.value.kind = s5)) (
  AG (aIt w6 x4.value) fun r5 =>
  AG (Oc s1 s5 s28 s29 s30 (!r5) w6 x4) fun o6 =>
  some o6) (
  AG (Oc s1 s5 s28 s29 s30 false w6 x4) fun o7 =>
  some o7)
theorem W8 (s1 : List X0) (s5 : Int) (s28 : List Xb) (s29 : Int) (s30 : Int) (w6 : List X0) : Le (Li s1 s5 s28 s29 s30 w6) (Rp s1 s5 s28 s29 s30 w6) := by
 unfold Li Rp
 repeat' (first | exact aHf _ _ | refine AS ?_ fun _ => ?_ | refine A7 ?_ ?_ | refine C8 fun _ => ?_ | exact Le.refl _)
def HF (s1 : List X0) (s5 : Int) (s28 : List Xb) (s29 : Int) (s30 : Int) (w6 : List X0) : Option ((Int × List X0) ⊕ ((List X0))) :=
 AE (decide (s30 < s29)) (
  AG (Li s1 s5 s28 s29 s30 w6) fun o8 =>
  some (.inl ((AA .add .i64 s30 1), o8))) (
  some (.inr w6))
theorem Od (s1 : List X0) (s5 : Int) (s28 : List Xb) (s29 : Int) (s30 : Int) (w6 : List X0) : Le (HF s1 s5 s28 s29 s30 w6) (JI s1 s5 s28 s29 s30 w6) := by
 unfold HF JI
 repeat' (first | exact W8 _ _ _ _ _ _ | refine AS ?_ fun _ => ?_ | refine A7 ?_ ?_ | exact Le.refl _)
def Lj (s1 : List X0) (s5 : Int) (s28 : List Xb) (s29 : Int) (s30 : Int) (w6 : List X0) : Option ((List X0)) := itE (fun s : Int × List X0 => HF s1 s5 s28 s29 s.1 s.2) 70 (s30, w6)
theorem XD (s1 : List X0) (s5 : Int) (s28 : List Xb) (s29 : Int) (s30 : Int) (w6 : List X0) : Le (Lj s1 s5 s28 s29 s30 w6) (XC s1 s5 s28 s29 s30 w6) := by
 unfold Lj XC
 repeat' (first | exact Od _ _ _ _ _ _ | refine BK (fun _ => ?_) _ _ | exact Le.refl _)
def aKd (a0 : Xl) (a1 : List X0) : Option (List X0) :=
 AX a0.q.decls a0.d_ fun x1 =>
 AX x1.types a0.at_ fun x2 =>
 AG (aJs a0.q x2) fun r3 =>
 AG (Lj a1 x2 a0.b (a0.b.length : Int) 0 r3) fun o9 =>
 AG (aKg [o9, a1]) fun r10 =>
 AG (aKq x2 r10) fun r11 =>
 AG (XA r11.2 o9 r11.1) fun o12 =>
 some o12
theorem aKe (a0 : Xl) (a1 : List X0) : Le (aKd a0 a1) (Xm a0 a1) := by
 unfold aKd Xm
 repeat' (first | exact aJt _ _ | exact XD _ _ _ _ _ _ | exact aKh _ | exact aKr _ _ | refine AS ?_ fun _ => ?_ | refine C8 fun _ => ?_ | exact Le.refl _)
def MB (s1 : Int) (s8 : List Xb) (s9 : Int) (w4 : X0) (s10 : Int) : Option (Unit ⊕ X0) := itE (fun s : Int => MC s1 s8 s9 w4 s) 70 s10
theorem aAc (s1 : Int) (s8 : List Xb) (s9 : Int) (w4 : X0) (s10 : Int) : Le (MB s1 s8 s9 w4 s10) (aAb s1 s8 s9 w4 s10) := by
 unfold MB aAb
 repeat' (first | refine BK (fun _ => ?_) _ _ | exact Le.refl _)
def aLj (a0 : List Xb) (a1 : Int) : Option (X0 × Bool) :=
 AG (MB a1 a0 (a0.length : Int) (X0.mk 0 0 ([] : List UInt8) false) 0) fun o2 =>
 Cj o2 (fun o3 =>
  some (X0.mk 0 0 ([] : List UInt8) false, false)) (fun o4 =>
  some (o4, true))
theorem aLk (a0 : List Xb) (a1 : Int) : Le (aLj a0 a1) (Ye a0 a1) := by
 unfold aLj Ye
 repeat' (first | exact aAc _ _ _ _ _ | refine AS ?_ fun _ => ?_ | refine Dy (fun _ => ?_) fun _ => ?_ | exact Le.refl _)
def aMl (a0 : Xl) (a1 : CX) (a2 : X0) : Option (Bool) :=
 AE (decide (a1.kind = 1)) (
  some (X0.eqb a1.value a2)) (
  AE (decide (a1.kind = 2)) (
   AG (aLj a0.b a1.n) fun r1 =>
   AE (r1.2) (
    some (X0.eqb r1.1 a2)) (
    some false)) (
   some true))
theorem aMm (a0 : Xl) (a1 : CX) (a2 : X0) : Le (aMl a0 a1 a2) (Zb a0 a1 a2) := by
 unfold aMl Zb
 repeat' (first | exact aLk _ _ | refine AS ?_ fun _ => ?_ | refine A7 ?_ ?_ | exact Le.refl _)
def Lt (s6 : Int) (s11 : List X4) (s12 : Int) (s13 : Int) (w2 : Xl) (w3 : X0) : Option (Int) :=
 AX s11 s13 fun x1 =>
 AE (decide (x1.event = w2.d_)) (
  AX x1.args w2.at_ fun x2 =>
  AG (aMl w2 x2 w3) fun r3 =>
  AG (Of s6 s13 s11 s12 s13 r3 w2 w3) fun o4 =>
  some o4) (
  AG (Of s6 s13 s11 s12 s13 false w2 w3) fun o5 =>
  some o5)
theorem XQ (s6 : Int) (s11 : List X4) (s12 : Int) (s13 : Int) (w2 : Xl) (w3 : X0) : Le (Lt s6 s11 s12 s13 w2 w3) (R1 s6 s11 s12 s13 w2 w3) := by
 unfold Lt R1
 repeat' (first | exact aMm _ _ _ | refine AS ?_ fun _ => ?_ | refine A7 ?_ ?_ | refine C8 fun _ => ?_ | exact Le.refl _)
def HG (s11 : List X4) (s12 : Int) (w2 : Xl) (w3 : X0) (s6 : Int) (s13 : Int) : Option ((Int × Int) ⊕ (Int)) :=
 AE (decide (s13 < s12)) (
  AG (Lt s6 s11 s12 s13 w2 w3) fun o6 =>
  some (.inl (o6, (AA .add .i64 s13 1)))) (
  some (.inr s6))
theorem Og (s11 : List X4) (s12 : Int) (w2 : Xl) (w3 : X0) (s6 : Int) (s13 : Int) : Le (HG s11 s12 w2 w3 s6 s13) (JJ s11 s12 w2 w3 s6 s13) := by
 unfold HG JJ
 repeat' (first | exact XQ _ _ _ _ _ _ | refine AS ?_ fun _ => ?_ | refine A7 ?_ ?_ | exact Le.refl _)
def Lu (s11 : List X4) (s12 : Int) (w2 : Xl) (w3 : X0) (s6 : Int) (s13 : Int) : Option (Int) := itE (fun s : Int × Int => HG s11 s12 w2 w3 s.1 s.2) 70 (s6, s13)
theorem XT (s11 : List X4) (s12 : Int) (w2 : Xl) (w3 : X0) (s6 : Int) (s13 : Int) : Le (Lu s11 s12 w2 w3 s6 s13) (XS s11 s12 w2 w3 s6 s13) := by
 unfold Lu XS
 repeat' (first | exact Og _ _ _ _ _ _ | refine BK (fun _ => ?_) _ _ | exact Le.refl _)
def aKl (a0 : Xl) (a1 : X0) : Option (Int) :=
 AG (Lu a0.q.symbols (a0.q.symbols.length : Int) a0 a1 0 0) fun o7 =>
 some o7
theorem aKm (a0 : Xl) (a1 : X0) : Le (aKl a0 a1) (Xq a0 a1) := by
 unfold aKl Xq
 repeat' (first | exact XT _ _ _ _ _ _ | refine AS ?_ fun _ => ?_ | exact Le.refl _)
def La (s8 : Int) (s12 : List X0) (s13 : Int) (s14 : Int) (w0 : List (Int × Bool)) (w3 : Xl) (w5 : List (Int × Bool)) : Option ((List (Int × Bool))) := KQ (JF s8 s12 s13 s14 w0 w3) w0 (fun (x : Int × Bool) (s : (List (Int × Bool))) => G6 s8 s12 s13 s14 w0 w3 x.1 x.2 s) w5
theorem Wc (s8 : Int) (s12 : List X0) (s13 : Int) (s14 : Int) (w0 : List (Int × Bool)) (w3 : Xl) (w5 : List (Int × Bool)) : Le (La s8 s12 s13 s14 w0 w3 w5) (Wb s8 s12 s13 s14 w0 w3 w5) := by
 unfold La Wb
 repeat' (first | refine Jg fun _ _ => ?_ | exact Le.refl _)
def LY (s8 : Int) (s12 : List X0) (s13 : Int) (s14 : Int) (w0 : List (Int × Bool)) (w3 : Xl) (w5 : List (Int × Bool)) : Option ((List (Int × Bool))) :=
 AG (La s8 s12 s13 s14 w0 w3 w5) fun o4 =>
 some o4
theorem WW (s8 : Int) (s12 : List X0) (s13 : Int) (s14 : Int) (w0 : List (Int × Bool)) (w3 : Xl) (w5 : List (Int × Bool)) : Le (LY s8 s12 s13 s14 w0 w3 w5) (RK s8 s12 s13 s14 w0 w3 w5) := by
 unfold LY RK
 repeat' (first | exact Wc _ _ _ _ _ _ _ | refine AS ?_ fun _ => ?_ | exact Le.refl _)
def G5 (s12 : List X0) (s13 : Int) (w0 : List (Int × Bool)) (w3 : Xl) (s14 : Int) (w5 : List (Int × Bool)) : Option ((Int × (List (Int × Bool))) ⊕ ((List (Int × Bool)))) :=
 AE (decide (s14 < s13)) (
  AX s12 s14 fun x2 =>
  AG (aKl w3 x2) fun r3 =>
  AG (LY r3 s12 s13 s14 w0 w3 w5) fun o5 =>
  some (.inl ((AA .add .i64 s14 1), o5))) (
  some (.inr w5))
theorem OT (s12 : List X0) (s13 : Int) (w0 : List (Int × Bool)) (w3 : Xl) (s14 : Int) (w5 : List (Int × Bool)) : Le (G5 s12 s13 w0 w3 s14 w5) (JE s12 s13 w0 w3 s14 w5) := by
 unfold G5 JE
 repeat' (first | exact aKm _ _ | exact WW _ _ _ _ _ _ _ | refine AS ?_ fun _ => ?_ | refine A7 ?_ ?_ | refine C8 fun _ => ?_ | exact Le.refl _)
def LZ (s12 : List X0) (s13 : Int) (w0 : List (Int × Bool)) (w3 : Xl) (s14 : Int) (w5 : List (Int × Bool)) : Option ((List (Int × Bool))) := itE (fun s : Int × (List (Int × Bool)) => G5 s12 s13 w0 w3 s.1 s.2) 70 (s14, w5)
theorem WZ (s12 : List X0) (s13 : Int) (w0 : List (Int × Bool)) (w3 : Xl) (s14 : Int) (w5 : List (Int × Bool)) : Le (LZ s12 s13 w0 w3 s14 w5) (WY s12 s13 w0 w3 s14 w5) := by
 unfold LZ WY
 repeat' (first | exact OT _ _ _ _ _ _ | refine BK (fun _ => ?_) _ _ | exact Le.refl _)
def aJ3 (a1 : Xl) (w0 : List (Int × Bool)) : Option ((List (Int × Bool))) :=
 AG (aKd a1 ([] : List X0)) fun r1 =>
 AG (LZ r1 (r1.length : Int) w0 a1 0 ([] : List (Int × Bool))) fun o6 =>
 some o6
theorem aJ4 (a1 : Xl) (w0 : List (Int × Bool)) : Le (aJ3 a1 w0) (Xg a1 w0) := by
 unfold aJ3 Xg
 repeat' (first | exact aKe _ _ | exact WZ _ _ _ _ _ _ | refine AS ?_ fun _ => ?_ | exact Le.refl _)
def Gi (s1 : List Xb) (s6 : Int) (s15 : Int) (s16 : Int) (s30 : Int) (w2 : AB) (w5 : List (Int × Bool)) (s31 : Int) (w7 : List (Int × Bool)) : Option ((Int × (List (Int × Bool))) ⊕ ((List (Int × Bool)))) :=
 AE (decide (s31 < s30)) (
  AG (aJ3 (Xl.mk w2 s1 s6 s31) w7) fun r3 =>
  some (.inl ((AA .add .i64 s31 1), r3))) (
  some (.inr w7))
theorem OD (s1 : List Xb) (s6 : Int) (s15 : Int) (s16 : Int) (s30 : Int) (w2 : AB) (w5 : List (Int × Bool)) (s31 : Int) (w7 : List (Int × Bool)) : Le (Gi s1 s6 s15 s16 s30 w2 w5 s31 w7) (I6 s1 s6 s15 s16 s30 w2 w5 s31 w7) := by
 unfold Gi I6
 repeat' (first | exact aJ4 _ _ | refine AS ?_ fun _ => ?_ | refine A7 ?_ ?_ | exact Le.refl _)
def K9 (s1 : List Xb) (s6 : Int) (s15 : Int) (s16 : Int) (s30 : Int) (w2 : AB) (w5 : List (Int × Bool)) (s31 : Int) (w7 : List (Int × Bool)) : Option ((List (Int × Bool))) := itE (fun s : Int × (List (Int × Bool)) => Gi s1 s6 s15 s16 s30 w2 w5 s.1 s.2) 70 (s31, w7)
theorem VN (s1 : List Xb) (s6 : Int) (s15 : Int) (s16 : Int) (s30 : Int) (w2 : AB) (w5 : List (Int × Bool)) (s31 : Int) (w7 : List (Int × Bool)) : Le (K9 s1 s6 s15 s16 s30 w2 w5 s31 w7) (VM s1 s6 s15 s16 s30 w2 w5 s31 w7) := by
 unfold K9 VM
 repeat' (first | exact OD _ _ _ _ _ _ _ _ _ | refine BK (fun _ => ?_) _ _ | exact Le.refl _)
def LA (s1 : List Xb) (s15 : Int) (s16 : Int) (w2 : AB) (w7 : List (Int × Bool)) (w5 : List (Int × Bool)) : Option ((List (Int × Bool))) := KQ (I7 s1 s15 s16 w2 w7) w7 (fun (x : Int × Bool) (s : (List (Int × Bool))) => Gj s1 s15 s16 w2 w7 x.1 x.2 s) w5
theorem VQ (s1 : List Xb) (s15 : Int) (s16 : Int) (w2 : AB) (w7 : List (Int × Bool)) (w5 : List (Int × Bool)) : Le (LA s1 s15 s16 w2 w7 w5) (VP s1 s15 s16 w2 w7 w5) := by
 unfold LA VP
 repeat' (first | refine Jg fun _ _ => ?_ | exact Le.refl _)
def K6 (s1 : List Xb) (s15 : Int) (s16 : Int) (w2 : AB) (w5 : List (Int × Bool)) (w7 : List (Int × Bool)) : Option ((List (Int × Bool))) :=
 AG (LA s1 s15 s16 w2 w7 w5) fun o5 =>
 some o5
theorem VF (s1 : List Xb) (s15 : Int) (s16 : Int) (w2 : AB) (w5 : List (Int × Bool)) (w7 : List (Int × Bool)) : Le (K6 s1 s15 s16 w2 w5 w7) (Pp s1 s15 s16 w2 w5 w7) := by
 unfold K6 Pp
 repeat' (first | exact VQ _ _ _ _ _ _ | refine AS ?_ fun _ => ?_ | exact Le.refl _)
def Gh (s1 : List Xb) (s15 : Int) (w2 : AB) (s16 : Int) (w5 : List (Int × Bool)) : Option ((Int × (List (Int × Bool))) ⊕ ((List (Int × Bool)))) :=
 AE (decide (s16 < s15)) (
  AG (aKw w2 s16) fun r1 =>
  AX w2.decls s16 fun x2 =>
  AG (K9 s1 s16 s15 s16 (x2.types.length : Int) w2 w5 0 (Pc r1 true ([] : List (Int × Bool)))) fun o4 =>
  AG (K6 s1 s15 s16 w2 w5 o4) fun o6 =>
  some (.inl ((AA .add .i64 s16 1), o6))) (
  some (.inr w5))
theorem OC (s1 : List Xb) (s15 : Int) (w2 : AB) (s16 : Int) (w5 : List (Int × Bool)) : Le (Gh s1 s15 w2 s16 w5) (I5 s1 s15 w2 s16 w5) := by
 unfold Gh I5
 repeat' (first | exact aKx _ _ | exact VN _ _ _ _ _ _ _ _ _ | exact VF _ _ _ _ _ _ | refine AS ?_ fun _ => ?_ | refine A7 ?_ ?_ | refine C8 fun _ => ?_ | exact Le.refl _)
def K8 (s1 : List Xb) (s15 : Int) (w2 : AB) (s16 : Int) (w5 : List (Int × Bool)) : Option ((List (Int × Bool))) := itE (fun s : Int × (List (Int × Bool)) => Gh s1 s15 w2 s.1 s.2) 70 (s16, w5)
theorem VK (s1 : List Xb) (s15 : Int) (w2 : AB) (s16 : Int) (w5 : List (Int × Bool)) : Le (K8 s1 s15 w2 s16 w5) (VJ s1 s15 w2 s16 w5) := by
 unfold K8 VJ
 repeat' (first | exact OC _ _ _ _ _ | refine BK (fun _ => ?_) _ _ | exact Le.refl _)
def LB (w5 : List (Int × Bool)) (w10 : List Int) : Option (List Int) := KQ (I8 w5) w5 (fun (x : Int × Bool) (s : List Int) => Gk w5 x.1 x.2 s) w10
theorem VT (w5 : List (Int × Bool)) (w10 : List Int) : Le (LB w5 w10) (VS w5 w10) := by
 unfold LB VS
 repeat' (first | refine Jg fun _ _ => ?_ | exact Le.refl _)
def K7 (w5 : List (Int × Bool)) : Option ((List Int)) :=
 AG (LB w5 ([] : List Int)) fun o8 =>
 some o8
theorem VH (w5 : List (Int × Bool)) : Le (K7 w5) (Pq w5) := by
 unfold K7 Pq
 repeat' (first | exact VT _ _ | refine AS ?_ fun _ => ?_ | exact Le.refl _)
def aJl (a0 : AB) (a1 : List Xb) : Option (List Int) :=
 AG (K8 a1 (a0.decls.length : Int) a0 0 ([] : List (Int × Bool))) fun o7 =>
 AG (K7 (aCx 0 o7)) fun o9 =>
 AG (PX o9) fun r10 =>
 some r10
theorem aJm (a0 : AB) (a1 : List Xb) : Le (aJl a0 a1) (X3 a0 a1) := by
 unfold aJl X3
 repeat' (first | exact VK _ _ _ _ _ | exact VH _ | exact aCc _ | refine AS ?_ fun _ => ?_ | exact Le.refl _)
def LW (s1 : Int) (s2 : Int) (s7 : Int) (s8 : Int) (s14 : List X8) (s15 : Int) (s16 : Int) (s28 : List Xe) (s29 : Int) (w3 : AB) (w9 : X8) (s10 : Int) (s30 : Int) : Option (Int) := itE (fun s : Int × Int => LX s1 s2 s7 s8 s14 s15 s16 s28 s29 w3 w9 s.1 s.2) 70 (s10, s30)
theorem WU (s1 : Int) (s2 : Int) (s7 : Int) (s8 : Int) (s14 : List X8) (s15 : Int) (s16 : Int) (s28 : List Xe) (s29 : Int) (w3 : AB) (w9 : X8) (s10 : Int) (s30 : Int) : Le (LW s1 s2 s7 s8 s14 s15 s16 s28 s29 w3 w9 s10 s30) (WT s1 s2 s7 s8 s14 s15 s16 s28 s29 w3 w9 s10 s30) := by
 unfold LW WT
 repeat' (first | refine BK (fun _ => ?_) _ _ | exact Le.refl _)
def LU (s1 : Int) (s2 : Int) (s7 : Int) (s14 : List X8) (s15 : Int) (s16 : Int) (w3 : AB) : Option (Int) :=
 AX s14 s16 fun x1 =>
 Aa (0 ≤ (IntKind.wrap .u64 s16)) (
  AE (decide ((AA .and .u32 s1 (AA .shl .u32 1 (IntKind.wrap .u64 s16))) = 0)) (
   some s7) (
   AG (LW s1 s2 s7 s16 s14 s15 s16 w3.trans (w3.trans.length : Int) w3 x1 0 0) fun o6 =>
   AE (decide (o6 = 0)) (
    AG (OR s1 s2 s7 s16 o6 s14 s15 s16 (!x1.next) w3) fun o7 =>
    some (AA .or .u32 s7 o7)) (
    AG (OR s1 s2 s7 s16 o6 s14 s15 s16 false w3) fun o8 =>
    some (AA .or .u32 s7 o8))))
theorem WM (s1 : Int) (s2 : Int) (s7 : Int) (s14 : List X8) (s15 : Int) (s16 : Int) (w3 : AB) : Le (LU s1 s2 s7 s14 s15 s16 w3) (RF s1 s2 s7 s14 s15 s16 w3) := by
 unfold LU RF
 repeat' (first | exact WU _ _ _ _ _ _ _ _ _ _ _ _ _ | refine AS ?_ fun _ => ?_ | refine A7 ?_ ?_ | refine MV ?_ | refine C8 fun _ => ?_ | exact Le.refl _)
def G4 (s1 : Int) (s2 : Int) (s14 : List X8) (s15 : Int) (w3 : AB) (s7 : Int) (s16 : Int) : Option ((Int × Int) ⊕ (Int)) :=
 AE (decide (s16 < s15)) (
  AG (LU s1 s2 s7 s14 s15 s16 w3) fun o9 =>
  some (.inl (o9, (AA .add .i64 s16 1)))) (
  some (.inr s7))
theorem OS (s1 : Int) (s2 : Int) (s14 : List X8) (s15 : Int) (w3 : AB) (s7 : Int) (s16 : Int) : Le (G4 s1 s2 s14 s15 w3 s7 s16) (JD s1 s2 s14 s15 w3 s7 s16) := by
 unfold G4 JD
 repeat' (first | exact WM _ _ _ _ _ _ _ | refine AS ?_ fun _ => ?_ | refine A7 ?_ ?_ | exact Le.refl _)
def LV (s1 : Int) (s2 : Int) (s14 : List X8) (s15 : Int) (w3 : AB) (s7 : Int) (s16 : Int) : Option (Int) := itE (fun s : Int × Int => G4 s1 s2 s14 s15 w3 s.1 s.2) 70 (s7, s16)
theorem WR (s1 : Int) (s2 : Int) (s14 : List X8) (s15 : Int) (w3 : AB) (s7 : Int) (s16 : Int) : Le (LV s1 s2 s14 s15 w3 s7 s16) (WQ s1 s2 s14 s15 w3 s7 s16) := by
 unfold LV WQ
 repeat' (first | exact OS _ _ _ _ _ _ _ | refine BK (fun _ => ?_) _ _ | exact Le.refl _)
def aJ0 (a0 : AB) (a1 : Int) (a2 : Int) : Option (Int) :=
 AG (LV a1 a2 a0.states (a0.states.length : Int) a0 0 0) fun o10 =>
 some o10
theorem aJ1 (a0 : AB) (a1 : Int) (a2 : Int) : Le (aJ0 a0 a1 a2) (Xf a0 a1 a2) := by
 unfold aJ0 Xf
 repeat' (first | exact WR _ _ _ _ _ _ _ | refine AS ?_ fun _ => ?_ | exact Le.refl _)
def Lf (s11 : List Int) (s12 : Int) (s44 : List Int) (s45 : Int) (s46 : Int) (w4 : AB) (w8 : List Int) (w9 : MP Int Int) (w10 : MP Int Int) : Option ((List Int × MP Int Int × MP Int Int)) :=
 AX s44 s46 fun x4 =>
 Aa (0 ≤ s12 ∧ s12 + 1 ≤ (w8.length : Int)) (
  AX w8 s12 fun x5 =>
  AG (aJ0 w4 x5 x4) fun r6 =>
  AG (Wq s11 s12 x4 r6 s44 s45 s46 (!((PP 0 w9 r6).2)) w4 w8 w9 w10) fun o8 =>
  some (o8.1, o8.2.1, o8.2.2))
theorem Wo (s11 : List Int) (s12 : Int) (s44 : List Int) (s45 : Int) (s46 : Int) (w4 : AB) (w8 : List Int) (w9 : MP Int Int) (w10 : MP Int Int) : Le (Lf s11 s12 s44 s45 s46 w4 w8 w9 w10) (RU s11 s12 s44 s45 s46 w4 w8 w9 w10) := by
 unfold Lf RU
 repeat' (first | exact aJ1 _ _ _ | refine AS ?_ fun _ => ?_ | refine MV ?_ | refine C8 fun _ => ?_ | exact Le.refl _)
def G9 (s11 : List Int) (s12 : Int) (s44 : List Int) (s45 : Int) (w4 : AB) (s46 : Int) (w8 : List Int) (w9 : MP Int Int) (w10 : MP Int Int) : Option ((Int × List Int × MP Int Int × MP Int Int) ⊕ ((List Int × MP Int Int × MP Int Int))) :=
 AE (decide (s46 < s45)) (
  AG (Lf s11 s12 s44 s45 s46 w4 w8 w9 w10) fun o9 =>
  some (.inl ((AA .add .i64 s46 1), o9.1, o9.2.1, o9.2.2))) (
  some (.inr (w8, w9, w10)))
theorem OX (s11 : List Int) (s12 : Int) (s44 : List Int) (s45 : Int) (w4 : AB) (s46 : Int) (w8 : List Int) (w9 : MP Int Int) (w10 : MP Int Int) : Le (G9 s11 s12 s44 s45 w4 s46 w8 w9 w10) (JH s11 s12 s44 s45 w4 s46 w8 w9 w10) := by
 unfold G9 JH
 repeat' (first | exact Wo _ _ _ _ _ _ _ _ _ | refine AS ?_ fun _ => ?_ | refine A7 ?_ ?_ | exact Le.refl _)
def Lh (s11 : List Int) (s12 : Int) (s44 : List Int) (s45 : Int) (w4 : AB) (s46 : Int) (w8 : List Int) (w9 : MP Int Int) (w10 : MP Int Int) : Option ((List Int × MP Int Int × MP Int Int)) := itE (fun s : Int × List Int × MP Int Int × MP Int Int => G9 s11 s12 s44 s45 w4 s.1 s.2.1 s.2.2.1 s.2.2.2) 70 (s46, w8, w9, w10)
theorem Wx (s11 : List Int) (s12 : Int) (s44 : List Int) (s45 : Int) (w4 : AB) (s46 : Int) (w8 : List Int) (w9 : MP Int Int) (w10 : MP Int Int) : Le (Lh s11 s12 s44 s45 w4 s46 w8 w9 w10) (Ww s11 s12 s44 s45 w4 s46 w8 w9 w10) := by
 unfold Lh Ww
 repeat' (first | exact OX _ _ _ _ _ _ _ _ _ | refine BK (fun _ => ?_) _ _ | exact Le.refl _)
def G8 (s11 : List Int) (w4 : AB) (s12 : Int) (w8 : List Int) (w9 : MP Int Int) (w10 : MP Int Int) : Option ((Int × List Int × MP Int Int × MP Int Int) ⊕ ((List Int × MP Int Int × MP Int Int))) :=
 AE (decide (s12 < (w8.length : Int))) (
  Aa (0 ≤ s12 ∧ s12 + 1 ≤ (w8.length : Int)) (
   AX w8 s12 fun x2 =>
   AG (Qc x2) fun r3 =>
   AE (r3) (
    Aa (0 ≤ (AA .add .i64 s12 1) ∧ (AA .add .i64 s12 1) ≤ (w8.length : Int)) (
     some (.inr (w8.take ((AA .add .i64 s12 1)).toNat, w9, w10)))) (
    AG (Lh s11 s12 s11 (s11.length : Int) w4 0 w8 w9 w10) fun o10 =>
    some (.inl ((AA .add .i64 s12 1), o10.1, o10.2.1, o10.2.2))))) (
  some (.inr (w8, w9, w10)))
theorem OW (s11 : List Int) (w4 : AB) (s12 : Int) (w8 : List Int) (w9 : MP Int Int) (w10 : MP Int Int) : Le (G8 s11 w4 s12 w8 w9 w10) (JG s11 w4 s12 w8 w9 w10) := by
 unfold G8 JG
 repeat' (first | exact Wx _ _ _ _ _ _ _ _ _ | refine AS ?_ fun _ => ?_ | refine A7 ?_ ?_ | refine MV ?_ | refine C8 fun _ => ?_ | exact Le.refl _)
def Lg (s11 : List Int) (w4 : AB) (s12 : Int) (w8 : List Int) (w9 : MP Int Int) (w10 : MP Int Int) : Option ((List Int × MP Int Int × MP Int Int)) := itE (fun s : Int × List Int × MP Int Int × MP Int Int => G8 s11 w4 s.1 s.2.1 s.2.2.1 s.2.2.2) 70 (s12, w8, w9, w10)
theorem Wu (s11 : List Int) (w4 : AB) (s12 : Int) (w8 : List Int) (w9 : MP Int Int) (w10 : MP Int Int) : Le (Lg s11 w4 s12 w8 w9 w10) (Wt s11 w4 s12 w8 w9 w10) := by
 unfold Lg Wt
 repeat' (first | exact OW _ _ _ _ _ _ | refine BK (fun _ => ?_) _ _ | exact Le.refl _)
def aJ9 (a0 : AB) (a1 : List Xb) (a2 : Int) : Option (List Int × MP Int Int × MP Int Int) :=
 AG (aJl a0 a1) fun r1 =>
 AG (Lg r1 a0 0 [a2] (Jn (Mm : MP Int Int) a2 a2) (Mm : MP Int Int)) fun o11 =>
 some (o11.1, o11.2.1, o11.2.2)
theorem aKa (a0 : AB) (a1 : List Xb) (a2 : Int) : Le (aJ9 a0 a1 a2) (Xi a0 a1 a2) := by
 unfold aJ9 Xi
 repeat' (first | exact aJm _ _ | exact Wu _ _ _ _ _ _ | refine AS ?_ fun _ => ?_ | exact Le.refl _)
def aMo (a0 : AB) (a1 : List Xb) (a2 : Int) : Option (List Int) :=
 AG (aJ9 a0 a1 a2) fun r1 =>
 AG (PX r1.1) fun r2 =>
 some r2
theorem aMp (a0 : AB) (a1 : List Xb) (a2 : Int) : Le (aMo a0 a1 a2) (Ze a0 a1 a2) := by
 unfold aMo Ze
 repeat' (first | exact aKa _ _ _ | exact Ut _ | refine AS ?_ fun _ => ?_ | exact Le.refl _)
def L7 (s1 : Int) (s8 : List X8) (s9 : Int) (s10 : Int) : Option (Unit ⊕ Unit) := itE (fun s : Int => L8 s1 s8 s9 s) 70 s10
theorem ZU (s1 : Int) (s8 : List X8) (s9 : Int) (s10 : Int) : Le (L7 s1 s8 s9 s10) (ZT s1 s8 s9 s10) := by
 unfold L7 ZT
 repeat' (first | refine BK (fun _ => ?_) _ _ | exact Le.refl _)
def aIr (a0 : AB) (a1 : Int) : Option (Bool) :=
 AG (L7 a1 a0.states (a0.states.length : Int) 0) fun o2 =>
 Cj o2 (fun o3 =>
  some false) (fun o4 =>
  some true)
theorem aGz (a0 : AB) (a1 : Int) : Le (aIr a0 a1) (Y9 a0 a1) := by
 unfold aIr Y9
 repeat' (first | exact ZU _ _ _ _ | refine AS ?_ fun _ => ?_ | refine Dy (fun _ => ?_) fun _ => ?_ | exact Le.refl _)
def aMr (a0 : Int) (a1 : AB) : Option (Bool) :=
 AG (aIr a1 a0) fun r1 =>
 some (!r1)
theorem aMs (a0 : Int) (a1 : AB) : Le (aMr a0 a1) (Zf a0 a1) := by
 unfold aMr Zf
 repeat' (first | exact aGz _ _ | refine AS ?_ fun _ => ?_ | exact Le.refl _)
def HP (s0 : List Int) (s1 : AB) (s7 : Int) (s8 : Int) : Option ((Int) ⊕ (Unit ⊕ Int)) :=
 AE (decide (s8 < s7)) (
  AX s0 s8 fun x1 =>
  AG (aMr x1 s1) fun r2 =>
  AE (r2) (
   some (.inr (.inr s8))) (
   some (.inl (AA .add .i64 s8 1)))) (
  some (.inr (.inl ())))
theorem Ot (s0 : List Int) (s1 : AB) (s7 : Int) (s8 : Int) : Le (HP s0 s1 s7 s8) (JO s0 s1 s7 s8) := by
 unfold HP JO
 repeat' (first | exact aMs _ _ | refine AS ?_ fun _ => ?_ | refine A7 ?_ ?_ | refine C8 fun _ => ?_ | exact Le.refl _)
def L2 (s0 : List Int) (s1 : AB) (s7 : Int) (s8 : Int) : Option (Unit ⊕ Int) := itE (fun s : Int => HP s0 s1 s7 s) 70 s8
theorem ZI (s0 : List Int) (s1 : AB) (s7 : Int) (s8 : Int) : Le (L2 s0 s1 s7 s8) (ZH s0 s1 s7 s8) := by
 unfold L2 ZH
 repeat' (first | exact Ot _ _ _ _ | refine BK (fun _ => ?_) _ _ | exact Le.refl _)
def aK1 (a0 : List Int) (a1 : AB) : Option (Int) :=
 AG (L2 a0 a1 (a0.length : Int) 0) fun o3 =>
 Cj o3 (fun o4 =>
  some (-1)) (fun o5 =>
  some o5)
theorem aK2 (a0 : List Int) (a1 : AB) : Le (aK1 a0 a1) (Y3 a0 a1) := by
 unfold aK1 Y3
 repeat' (first | exact ZI _ _ _ _ | refine AS ?_ fun _ => ?_ | refine Dy (fun _ => ?_) fun _ => ?_ | exact Le.refl _)
def aMu (a0 : List Int) (a1 : AB) : Option (Bool) :=
 AG (aK1 a0 a1) fun r1 =>
 some (decide (0 ≤ r1))
theorem aMv (a0 : List Int) (a1 : AB) : Le (aMu a0 a1) (Zg a0 a1) := by
 unfold aMu Zg
 repeat' (first | exact aK2 _ _ | refine AS ?_ fun _ => ?_ | exact Le.refl _)
def aMx (a0 : Int) (a1 : AB) : Option (Bool) :=
 AG (aIr a1 a0) fun r1 =>
 some r1
theorem aMy (a0 : Int) (a1 : AB) : Le (aMx a0 a1) (Zh a0 a1) := by
 unfold aMx Zh
 repeat' (first | exact aGz _ _ | refine AS ?_ fun _ => ?_ | exact Le.refl _)
def HQ (s0 : List Int) (s1 : AB) (s7 : Int) (s8 : Int) : Option ((Int) ⊕ (Unit ⊕ Int)) :=
 AE (decide (s8 < s7)) (
  AX s0 s8 fun x1 =>
  AG (aMx x1 s1) fun r2 =>
  AE (r2) (
   some (.inr (.inr s8))) (
   some (.inl (AA .add .i64 s8 1)))) (
  some (.inr (.inl ())))
theorem Ou (s0 : List Int) (s1 : AB) (s7 : Int) (s8 : Int) : Le (HQ s0 s1 s7 s8) (JP s0 s1 s7 s8) := by
 unfold HQ JP
 repeat' (first | exact aMy _ _ | refine AS ?_ fun _ => ?_ | refine A7 ?_ ?_ | refine C8 fun _ => ?_ | exact Le.refl _)
def L3 (s0 : List Int) (s1 : AB) (s7 : Int) (s8 : Int) : Option (Unit ⊕ Int) := itE (fun s : Int => HQ s0 s1 s7 s) 70 s8
theorem ZL (s0 : List Int) (s1 : AB) (s7 : Int) (s8 : Int) : Le (L3 s0 s1 s7 s8) (ZK s0 s1 s7 s8) := by
 unfold L3 ZK
 repeat' (first | exact Ou _ _ _ _ | refine BK (fun _ => ?_) _ _ | exact Le.refl _)
def aK4 (a0 : List Int) (a1 : AB) : Option (Int) :=
 AG (L3 a0 a1 (a0.length : Int) 0) fun o3 =>
 Cj o3 (fun o4 =>
  some (-1)) (fun o5 =>
  some o5)
theorem aK5 (a0 : List Int) (a1 : AB) : Le (aK4 a0 a1) (Y4 a0 a1) := by
 unfold aK4 Y4
 repeat' (first | exact ZL _ _ _ _ | refine AS ?_ fun _ => ?_ | refine Dy (fun _ => ?_) fun _ => ?_ | exact Le.refl _)
def aM0 (a0 : List Int) (a1 : AB) : Option (Bool) :=
 AG (aK4 a0 a1) fun r1 =>
 some (decide (0 ≤ r1))
theorem aM1 (a0 : List Int) (a1 : AB) : Le (aM0 a0 a1) (Zi a0 a1) := by
 unfold aM0 Zi
 repeat' (first | exact aK5 _ _ | refine AS ?_ fun _ => ?_ | exact Le.refl _)
def aM3 (a0 : AB) (a1 : List Int) : Option (Int) :=
 AG (aMu a1 a0) fun r1 =>
 AE (!r1) (
  some 1) (
  AG (aM0 a1 a0) fun r2 =>
  AE (!r2) (
   some 2) (
   some 0))
theorem aM4 (a0 : AB) (a1 : List Int) : Le (aM3 a0 a1) (Zj a0 a1) := by
 unfold aM3 Zj
 repeat' (first | exact aMv _ _ | exact aM1 _ _ | refine AS ?_ fun _ => ?_ | refine A7 ?_ ?_ | exact Le.refl _)
def aM6 (a0 : AB) (a1 : List Xb) (a2 : Int) : Option (Int) :=
 AG (aMo a0 a1 a2) fun r1 =>
 AG (aM3 a0 r1) fun r2 =>
 some r2
theorem aM7 (a0 : AB) (a1 : List Xb) (a2 : Int) : Le (aM6 a0 a1 a2) (Zk a0 a1 a2) := by
 unfold aM6 Zk
 repeat' (first | exact aMp _ _ _ | exact aM4 _ _ | refine AS ?_ fun _ => ?_ | exact Le.refl _)
def aOg : Option (Bool) :=
 AG (aG2 (AB.mk ([113] : List UInt8) ([] : List Xn) ([] : List Ya) ([] : List Y2) ([X8.mk ([115] : List UInt8) false true, X8.mk ([116] : List UInt8) true false]) 0 ([] : List X4) ([] : List Yb) ([] : List Xe)) 0) fun r1 =>
 AE (decide (r1 = 1)) (
  AG (aG2 (AB.mk ([113] : List UInt8) ([] : List Xn) ([] : List Ya) ([] : List Y2) ([X8.mk ([115] : List UInt8) false true, X8.mk ([116] : List UInt8) true false]) 0 ([] : List X4) ([] : List Yb) ([] : List Xe)) 1) fun r2 =>
  AE (decide (r2 = 2)) (
   AG (aJ7 (AB.mk ([113] : List UInt8) ([] : List Xn) ([] : List Ya) ([] : List Y2) ([X8.mk ([115] : List UInt8) false true, X8.mk ([116] : List UInt8) true false]) 0 ([] : List X4) ([] : List Yb) ([] : List Xe)) ([] : List X2)) fun r3 =>
   AE (decide (r3 = 2)) (
    AG (aM6 (AB.mk ([113] : List UInt8) ([] : List Xn) ([] : List Ya) ([] : List Y2) ([X8.mk ([115] : List UInt8) false true, X8.mk ([116] : List UInt8) true false]) 0 ([] : List X4) ([] : List Yb) ([] : List Xe)) ([] : List Xb) 1) fun r4 =>
    some (decide (r4 = 1))) (
    some false)) (
   some false)) (
  some false)
theorem aL6  : Le (aOg ) (Z1 ) := by
 unfold aOg Z1
 repeat' (first | exact aG3 _ _ | exact aJ8 _ _ | exact aM7 _ _ _ | refine AS ?_ fun _ => ?_ | refine A7 ?_ ?_ | exact Le.refl _)
theorem aL5 : Z1 = some true := aL6 _ (by kernel_rfl)
section
variable {α σ τ : Type} [DecidableEq α]
def NT (o l : List α) : List α := l.foldl (fun o x => if x ∈ o then o else o ++ [x]) o
theorem FH (o l : List α) (x : α) : NT o (x :: l) = NT (if x ∈ o then o else o ++ [x]) l := rfl
theorem Ge : ∀ {l o : List α} {x : α}, x ∈ NT o l ↔ x ∈ o ∨ x ∈ l
 | [], o, x => by simp [NT]
 | y :: l, o, x => by
  rw [FH, Ge]
  by_cases h : y ∈ o
  ·rw [if_pos h, mc]
   constructor
   ·rintro (h1 | h1)
    ·exact .inl h1
    ·exact .inr (.inr h1)
   ·rintro (h1 | rfl | h1)
    ·exact .inl h1
    ·exact .inl h
    ·exact .inr h1
  ·rw [if_neg h, ma, List.mem_singleton, mc, or_assoc]
theorem Tm : ∀ {l o : List α}, o.Nodup → (NT o l).Nodup
 | [], o, h => h
 | y :: l, o, h => by
  rw [FH]
  apply Tm
  by_cases hy : y ∈ o
  ·rw [if_pos hy]; exact h
  ·rw [if_neg hy, List.nodup_append]
   exact ⟨h, by simp, fun a ha b hb e => hy (by rw [List.mem_singleton] at hb; rw [← hb, ← e]; exact ha)⟩
theorem JV : ∀ (l o : List α), ∃ r, NT o l = o ++ r
 | [], o => ⟨[], by simp [NT]⟩
 | y :: l, o => by
  rw [FH]
  obtain ⟨r, h⟩ := JV l (if y ∈ o then o else o ++ [y])
  rw [h]
  by_cases hy : y ∈ o
  ·rw [if_pos hy]; exact ⟨r, rfl⟩
  ·rw [if_neg hy]; exact ⟨[y] ++ r, by simp⟩
theorem NU {l o : List α} {j : Nat} {x : α} (h : o[j]? = some x) : (NT o l)[j]? = some x := by
 obtain ⟨r, e⟩ := JV l o
 rw [e, List.getElem?_append_left (List.getElem?_eq_some_iff.1 h).1]; exact h
theorem aA9 (l o : List α) : o.length ≤ (NT o l).length := by
 obtain ⟨r, e⟩ := JV l o
 rw [e, List.length_append]; omega
inductive Rch (succ : α → List α) (s : α) : α → Prop
 | refl : Rch succ s s
 | step {x y : α} : Rch succ s x → y ∈ succ x → Rch succ s y
structure WI (succ : α → List α) (s : α) (i : Nat) (o : List α) : Prop where
 nd : o.Nodup
 hd : o[0]? = some s
 le : i ≤ o.length
 rc : ∀ x ∈ o, Rch succ s x
 cl : ∀ j x, j < i → o[j]? = some x → ∀ y ∈ succ x, y ∈ o
variable {succ : α → List α} {s : α}
theorem WI.init : WI succ s 0 [s] := ⟨by simp, rfl, Nat.zero_le _, fun x hx => by rw [List.mem_singleton] at hx; subst hx; exact .refl, fun j x hj => by omega⟩
theorem WI.step {i : Nat} {o : List α} (h : WI succ s i o) {x : α} (hx : o[i]? = some x) : WI succ s (i + 1) (NT o (succ x)) := by
 have hi := (List.getElem?_eq_some_iff.1 hx).1
 refine ⟨Tm h.nd, NU h.hd, Nat.le_trans hi (aA9 _ _), fun y hy => ?_, fun j y hj hy z hz => ?_⟩
 ·rcases Ge.1 hy with hy | hy
  ·exact h.rc y hy
  ·exact (h.rc x (List.mem_of_getElem? hx)).step hy
 ·have hj2 : j < o.length := by omega
  obtain ⟨w, hw, _⟩ := Az hj2
  have e : w = y := by rw [NU hw, oe] at hy; exact hy
  subst e
  by_cases hji : j = i
  ·subst hji
   rw [hx, oe] at hw; subst hw
   exact Ge.2 (.inr hz)
  ·exact Ge.2 (.inl (h.cl j w (by omega) hw z hz))
def wl (succ : α → List α) : Nat → Nat → List α → List α
 | 0, _, o => o
 | n + 1, i, o => match o[i]? with
  | none => o
  | some x => wl succ n (i + 1) (NT o (succ x))
def Bd (succ : α → List α) (s : α) (N : Nat) : Prop := ∀ o : List α, o.Nodup → (∀ x ∈ o, Rch succ s x) → o.length ≤ N
theorem aIn {N : Nat} (hN : Bd succ s N) : ∀ (n i : Nat) (o : List α), WI succ s i o → N + 1 ≤ n + i → WI succ s (wl succ n i o).length (wl succ n i o)
 | 0, i, o, h, hn => by have := h.le; have := hN o h.nd h.rc; omega
 | n + 1, i, o, h, hn => by
  rw [wl]
  split
  ·rename_i e
   have := List.getElem?_eq_none_iff.1 e
   have he : i = o.length := by have := h.le; omega
   subst he; exact h
  ·rename_i x hx
   exact aIn hN n (i + 1) _ (h.step hx) (by omega)
theorem U3 {N : Nat} (hN : Bd succ s N) {step : σ → Option (σ ⊕ τ)} (mk : Nat → List α → σ) (fin : List α → τ)
 (h1 : ∀ i x o, WI succ s i o → o[i]? = some x → step (mk i o) = some (.inl (mk (i + 1) (NT o (succ x)))))
 (h2 : ∀ o, WI succ s o.length o → step (mk o.length o) = some (.inr (fin o))) : ∀ (n i : Nat) (o : List α), WI succ s i o → N + 1 ≤ n + i → AY step (mk i o) = some (fin (wl succ n i o))
 | 0, i, o, h, hn => by have := h.le; have := hN o h.nd h.rc; omega
 | n + 1, i, o, h, hn => by
  rw [wl, A5]
  cases e : o[i]? with
  | none =>
   have := List.getElem?_eq_none_iff.1 e
   have he : i = o.length := by have := h.le; omega
   subst he
   rw [h2 o h, Af]
  | some x =>
   rw [h1 i x o h e, B4]
   exact U3 hN mk fin h1 h2 n (i + 1) _ (h.step e) (by omega)
def clo (succ : α → List α) (N : Nat) (s : α) : List α := wl succ (N + 1) 0 [s]
theorem T8 {N : Nat} (hN : Bd succ s N) : WI succ s (clo succ N s).length (clo succ N s) := aIn hN _ _ _ WI.init (Nat.le_refl _)
theorem Hk {N : Nat} (hN : Bd succ s N) {x : α} : x ∈ clo succ N s ↔ Rch succ s x := by
 have h := T8 hN
 refine ⟨h.rc x, fun hx => ?_⟩
 induction hx with
 | refl => exact List.mem_of_getElem? h.hd
 | step hx hy ih =>
  obtain ⟨j, hj⟩ := List.mem_iff_getElem?.1 ih
  exact h.cl j _ (List.getElem?_eq_some_iff.1 hj).1 hj _ hy
theorem aE9 {N : Nat} (hN : Bd succ s N) : (clo succ N s).length ≤ N := hN _ (T8 hN).nd (T8 hN).rc
end
theorem aHs {succ : Int → List Int} {s : Int} {N : Nat} (h : ∀ x, Rch succ s x → 0 ≤ x ∧ x < N) : Bd succ s N := fun o h1 h2 => by
 have := h1.length_le_of_subset (l₂ := (List.range N).map (fun n : Nat => (n : Int))) fun x hx => by
  obtain ⟨a, b⟩ := h x (h2 x hx)
  exact mm.2 ⟨x.toNat, List.mem_range.2 (by omega), by omega⟩
 simpa using this
theorem KD {α β : Type} [DecidableEq α] (p : β → Bool) (g : β → α) : ∀ (l : List β) (o : List α), l.foldl (fun o t => if p t = true ∧ g t ∉ o then o ++ [g t] else o) o = NT o ((l.filter p).map g)
 | [], o => rfl
 | t :: l, o => by
  rw [List.foldl_cons, KD p g l, List.filter_cons]
  by_cases h : p t = true
  ·rw [if_pos h, List.map_cons, FH]
   by_cases h2 : g t ∈ o
   ·simp [h2]
   ·simp [h, h2]
  ·simp [h]
theorem aFd (q : AB) (hW : ∀ t ∈ q.trans, J8 t) : ∃ r, Yw q = some r ∧ (r = true → Mv q ∧ EO q ∧ Yr q = some true ∧ ∀ d ∈ q.decls, d.types.length ≤ 3) := by
 obtain ⟨n, hn, hF⟩ := aJv q
 unfold Yw
 refine Bn hn ?_
 refine Bm (fun _ => ⟨_, rfl, by simp⟩) (fun h0 => ?_)
 have hF := hF h0
 obtain ⟨r, hr, hR⟩ := aLv q hF hW
 refine Bn hr ?_
 refine GD (fun _ => ⟨_, rfl, by simp⟩) (fun h1 => ?_)
 have hR2 := hR h1
 have hd := hF.decls
 obtain ⟨o, ho, hQ⟩ := Ak (step := fun s => Hb q s) q.decls.length (fun i => ∀ d, q.decls[i]? = some d → d.types.length ≤ 3) (fun o => o = Sum.inl () → ∀ d ∈ q.decls, d.types.length ≤ 3)
  (fun i hi => by
   obtain ⟨x, hx, _⟩ := Az hi
   simp only [Hb, ltD hx, AP, Ad hx, B5 hx (show q.decls.length ≤ 9223372036854775807 by omega)]
   by_cases h : 3 < x.types.length
   ·exact .inr ⟨.inr (), by rw [decide_eq_true (by omega)]; rfl, fun h => by cases h⟩
   ·exact .inl ⟨by rw [decide_eq_false (by omega)]; rfl, fun t h2 => by rw [hx, oe] at h2; subst h2; omega⟩)
  (fun hall => ⟨.inl (), by simp only [Hb, ltI, AN], fun _ => F7 hall⟩)
 have ho' : aEm q 0 = some o := ho
 refine Bn ho' ?_
 subst h1
 rcases o with ⟨⟩ | ⟨⟩
 ·rw [CS]
  exact ⟨_, rfl, fun _ => ⟨hF, hR2, hr, hQ rfl⟩⟩
 ·rw [EI]
  exact ⟨_, rfl, by simp⟩
def Ey (q : AB) (x : Int) : List Int := (q.trans.filter fun t => decide (t.from_ = x)).map (·.to)
theorem II {q : AB} {x y : Int} : y ∈ Ey q x ↔ ∃ t ∈ q.trans, t.from_ = x ∧ t.to = y := by
 simp [Ey, and_assoc]
theorem rcT {q : AB} (hR : EO q) {s : Int} (hs : 0 ≤ s ∧ s < q.states.length) : ∀ x, Rch (Ey q) s x → 0 ≤ x ∧ x < q.states.length := fun x h => by
 cases h with
 | refl => exact hs
 | step _ hy =>
  obtain ⟨t, ht, _, rfl⟩ := II.1 hy
  exact (hR.ends t ht).2.2
theorem bdT {q : AB} (hR : EO q) {s : Int} (hs : 0 ≤ s ∧ s < q.states.length) : Bd (Ey q) s q.states.length := aHs (rcT hR hs)
theorem Pf (l : List Int) (x : Int) (hl : l.length ≤ 9223372036854775807) : Y5 l x = some (if l.any (fun y => decide (x = y)) = true then ((l.findIdx (fun y => decide (x = y)) : Nat) : Int) else -1) := by
 have h : Sh l x (l.length : Int) 0 = _ := Ep (step := fun s => F1 l x (l.length : Int) s) l (fun y => decide (x = y))
  (fun i y hy => by
   simp only [F1, ltD hy, AP, Ad hy, B5 hy hl, GQ]
   by_cases h : x = y <;> simp [h])
  (by simp only [F1, ltI, AN])
 unfold Y5
 rw [h, AH]
 split
 ·rfl
 ·rfl
theorem J5 (l : List Int) (x : Int) (hl : l.length ≤ 9223372036854775807) : Z6 l x = some (decide (x ∈ l)) := by
 unfold Z6
 rw [Pf l x hl, AH]
 congr 1
 rw [Bool.eq_iff_iff, decide_eq_true_eq, decide_eq_true_eq]
 split
 ·rename_i h
  rw [List.any_eq_true] at h
  obtain ⟨y, hy, h⟩ := h
  have := of_decide_eq_true h
  subst this
  exact ⟨fun _ => hy, fun _ => by omega⟩
 ·rename_i h
  refine ⟨fun h => by omega, fun hx => absurd (List.any_eq_true.2 ⟨x, hx, by simp⟩) h⟩
theorem aOb {q : AB} (hF : Mv q) (i : Nat) {x : Int} {o : List Int} (hx : o[i]? = some x) (ho : o.length ≤ 1000) : Qz (i : Int) q.trans (q.trans.length : Int) q 0 o = some (NT o (Ey q x)) := by
 have ht := hF.trans
 have h := H3 (step := fun s : Int × List Int => E8 (i : Int) q.trans (q.trans.length : Int) q s.1 s.2) q.trans (fun o t => if decide (t.from_ = x) = true ∧ t.to ∉ o then o ++ [t.to] else o) id (fun j w => w[i]? = some x ∧ w.length ≤ 1000 + j)
  (fun j t w hj hI => by
   have hjl := aFg hj
   have hw : w.length ≤ 9223372036854775807 := by have := hI.2; omega
   refine ⟨?_, ?_⟩
   ·simp only [E8, ltD hj, AP, OO, Ad hj, Ad hI.1, J5 w t.to hw, AH, LR, B5 hj (show q.trans.length ≤ 9223372036854775807 by omega)]
    rw [GQ]
    by_cases h1 : t.from_ = x
    ·rw [if_pos h1]
     by_cases h2 : t.to ∈ w
     ·simp [h1, h2, AE, AG]
     ·simp only [h2, decide_false, Bool.not_false, AP]
      rw [U4 (by have := hI.2; simp; omega) (by decide), AH, AH]
      simp [h1]
    ·simp [h1, AE, AG]
   ·split
    ·exact ⟨by rw [List.getElem?_append_left (aFg hI.1)]; exact hI.1, by have := hI.2; simp; omega⟩
    ·exact ⟨hI.1, by have := hI.2; omega⟩)
  (fun w _ => by simp only [E8, ltI, AN]; rfl) o ⟨hx, ho⟩
 refine Eq.trans h ?_
 rw [KD (fun t : Xe => decide (t.from_ = x)) (fun t => t.to)]
 rfl
theorem aGn {q : AB} (hF : Mv q) (hR : EO q) {s : Int} (hs : 0 ≤ s ∧ s < q.states.length) : Xd q s = some (clo (Ey q) q.states.length s) := by
 have hb := bdT hR hs
 have hst := hF.states
 have h := U3 hb (step := fun s : Int × List Int => E7 q s.1 s.2) (fun i o => ((i : Int), o)) id
  (fun i x o hI hx => by
   have hl := hb o hI.nd hI.rc
   simp only [E7, ltD hx, AP, aOb hF i hx (by omega), AH, B5 hx (show o.length ≤ 9223372036854775807 by omega)])
  (fun o hI => by simp only [E7, ltI, AN]; rfl) _ 0 [s] WI.init (Nat.le_refl _)
 have h' : Qw q 0 [s] = some (clo (Ey q) q.states.length s) := h
 unfold Xd
 rw [h', AH]
def Ju (V : List Bool) (t : Xe) : List Bool := if V[t.from_.toNat]? = some true then V.set t.to.toNat true else V
def Ew (q : AB) (V : List Bool) : List Bool := q.trans.foldl Ju V
theorem Jv (V : List Bool) (t : Xe) : (Ju V t).length = V.length := by unfold Ju; split <;> simp
theorem Nm (ts : List Xe) : ∀ V : List Bool, (ts.foldl Ju V).length = V.length := by
 induction ts with
 | nil => intro V; rfl
 | cons t ts ih => intro V; rw [List.foldl_cons, ih, Jv]
theorem aFv {V : List Bool} {t : Xe} {i : Nat} (h : V[i]? = some true) : (Ju V t)[i]? = some true := by
 unfold Ju
 split
 ·rw [List.getElem?_set]
  split
  ·have := (List.getElem?_eq_some_iff.1 h).1
   rename_i e
   rw [if_pos (by omega)]
  ·exact h
 ·exact h
theorem aFf {ts : List Xe} {i : Nat} : ∀ {V : List Bool}, V[i]? = some true → (ts.foldl Ju V)[i]? = some true := by
 induction ts with
 | nil => intro V h; exact h
 | cons t ts ih => intro V h; rw [List.foldl_cons]; exact ih (aFv h)
def K0 (V : List Bool) : Nat := V.countP id
theorem aCa {V : List Bool} {t : Xe} (ht : t.to.toNat < V.length) : K0 V ≤ K0 (Ju V t) ∧ (K0 (Ju V t) = K0 V → Ju V t = V ∧ (V[t.from_.toNat]? = some true → V[t.to.toNat]? = some true)) := by
 unfold Ju K0
 split
 ·rename_i hf
  have hp : (V.set t.to.toNat true).countP id = V.countP id - (if id V[t.to.toNat] = true then 1 else 0) + (if id true = true then 1 else 0) := List.countP_set ht
  cases hv : V[t.to.toNat] with
  | true =>
   have hset : V.set t.to.toNat true = V := by
    apply List.ext_getElem?
    intro j
    rw [List.getElem?_set]
    split
    ·rename_i e; subst e
     rw [List.getElem?_eq_getElem ht, hv]
    ·rfl
   rw [hset]
   exact ⟨Nat.le_refl _, fun _ => ⟨rfl, fun _ => by rw [List.getElem?_eq_getElem ht, hv]⟩⟩
  | false =>
   rw [hv] at hp
   simp at hp
   rw [hp]
   exact ⟨by omega, fun h => by omega⟩
 ·rename_i hf
  exact ⟨Nat.le_refl _, fun _ => ⟨rfl, fun h => absurd h hf⟩⟩
theorem Nl {n : Nat} : ∀ {ts : List Xe} (V : List Bool), V.length = n → (∀ t ∈ ts, t.to.toNat < n) → K0 V ≤ K0 (ts.foldl Ju V) ∧ (K0 (ts.foldl Ju V) = K0 V → ts.foldl Ju V = V ∧ ∀ t ∈ ts, V[t.from_.toNat]? = some true → V[t.to.toNat]? = some true)
 | [], V, _, _ => ⟨Nat.le_refl _, fun _ => ⟨rfl, fun t h => by cases h⟩⟩
 | t :: ts, V, hV, ht => by
  rw [List.foldl_cons]
  obtain ⟨a1, a2⟩ := aCa (V := V) (t := t) (by rw [hV]; exact ht t (by simp))
  obtain ⟨b1, b2⟩ := Nl (ts := ts) (Ju V t) (by rw [Jv]; exact hV) (fun t h => ht t (List.mem_cons_of_mem _ h))
  refine ⟨Nat.le_trans a1 b1, fun h => ?_⟩
  obtain ⟨c1, c2⟩ := a2 (by omega)
  obtain ⟨d1, d2⟩ := b2 (by omega)
  rw [c1] at d1 d2
  refine ⟨by rw [c1]; exact d1, fun t' ht' => ?_⟩
  rcases mc.1 ht' with rfl | h'
  ·exact c2
  ·exact d2 t' h'
def clV (q : AB) (V : List Bool) : Prop := ∀ t ∈ q.trans, V[t.from_.toNat]? = some true → V[t.to.toNat]? = some true
def GX (q : AB) : Nat → List Bool → List Bool
 | 0, V => V
 | n + 1, V => GX q n (Ew q V)
theorem UR {q : AB} {n : Nat} (hT : ∀ t ∈ q.trans, t.to.toNat < n) : ∀ (k : Nat) (V : List Bool), V.length = n → n ≤ K0 V + k → 0 < k → clV q (GX q k V) ∧ (GX q k V).length = n
 | 0, V, _, _, h => by omega
 | k + 1, V, hV, hc, _ => by
  rw [GX]
  have hl : (Ew q V).length = n := by unfold Ew; rw [Nm]; exact hV
  obtain ⟨a1, a2⟩ := Nl (ts := q.trans) V hV hT
  by_cases h : K0 (Ew q V) = K0 V
  ·obtain ⟨b1, b2⟩ := a2 h
   have b1 : Ew q V = V := b1
   have : ∀ k, GX q k V = V := by
    intro k
    induction k with
    | zero => rfl
    | succ k ih => rw [GX, b1]; exact ih
   rw [b1, this]
   exact ⟨b2, hV⟩
  ·have h3 : K0 (Ew q V) ≤ n := by rw [← hl]; exact List.countP_le_length
   have a1 : K0 V ≤ K0 (Ew q V) := a1
   by_cases hk : k = 0
   ·subst hk
    have h4 : K0 (Ew q V) = (Ew q V).length := by omega
    refine ⟨fun t ht _ => ?_, hl⟩
    have hi : t.to.toNat < (Ew q V).length := by rw [hl]; exact hT t ht
    have := List.countP_eq_length.1 h4 (Ew q V)[t.to.toNat] (List.getElem_mem hi)
    simp only [GX]
    rw [List.getElem?_eq_getElem hi]
    exact congrArg some this
   ·exact UR hT k (Ew q V) hl (by omega) (by omega)
theorem Im {P : Nat → Prop} : ∀ {ts : List Xe} {V : List Bool}, (∀ t ∈ ts, P t.from_.toNat → P t.to.toNat) → (∀ i : Nat, V[i]? = some true → P i) → ∀ i : Nat, (ts.foldl Ju V)[i]? = some true → P i
 | [], V, _, h => h
 | t :: ts, V, ht, h => by
  rw [List.foldl_cons]
  refine Im (fun t' h' => ht t' (List.mem_cons_of_mem _ h')) fun i hi => ?_
  unfold Ju at hi
  split at hi
  ·rename_i hf
   rw [List.getElem?_set] at hi
   split at hi
   ·rename_i e; subst e
    exact ht t (by simp) (h _ hf)
   ·exact h i hi
  ·exact h i hi
theorem Io {q : AB} {P : Nat → Prop} (ht : ∀ t ∈ q.trans, P t.from_.toNat → P t.to.toNat) : ∀ (k : Nat) {V : List Bool}, (∀ i : Nat, V[i]? = some true → P i) → ∀ i : Nat, (GX q k V)[i]? = some true → P i
 | 0, _, h => h
 | k + 1, _, h => Io ht k (Im ht h)
theorem US {q : AB} {i : Nat} : ∀ (k : Nat) {V : List Bool}, V[i]? = some true → (GX q k V)[i]? = some true
 | 0, _, h => h
 | k + 1, _, h => US k (aFf h)
theorem Kb (q : AB) : ∀ (l : List X8) (V : List Bool), l.foldl (fun V _ => Ew q V) V = GX q l.length V
 | [], V => rfl
 | x :: l, V => by rw [List.foldl_cons, Kb q l]; rfl
theorem aJk {q : AB} (hF : Mv q) (hR : EO q) (s6 : Int) {V : List Bool} (hV : V.length = q.states.length) : aD2 s6 q 0 V = some (Ew q V) := by
 have ht := hF.trans
 have h := H3 (step := fun s : Int × List Bool => HK s6 q s.1 s.2) q.trans Ju id (fun _ w => w.length = q.states.length)
  (fun j t w hj hI => by
   have he := hR.ends t (List.mem_of_getElem? hj)
   obtain ⟨f, hf, ef⟩ := Pb (l := w) he.2.1.1 (by rw [hI]; exact he.2.1.2)
   refine ⟨?_, by rw [Jv]; exact hI⟩
   simp only [HK, ltD hj, AP, YM, YO, Ad hj, B5 hj (show q.trans.length ≤ 9223372036854775807 by omega)]
   rw [Dh (by rw [hI]; omega), Da hf he.2.1.1, Dh (by rw [hI]; omega)]
   unfold Ju
   cases f with
   | true =>
    rw [Dh (by rw [hI]; omega)]
    simp [hf, AE, AG]
   | false => simp [hf, AE, AG])
  (fun w _ => by simp only [HK, ltI, AN]; rfl) V hV
 exact h
theorem aJj {q : AB} (hF : Mv q) (hR : EO q) {s : Int} (hs : 0 ≤ s ∧ s < q.states.length) : ∃ V, Xx q s = some V ∧ V.length = q.states.length ∧ ∀ i : Nat, V[i]? = some true ↔ Rch (Ey q) s (i : Int) := by
 have hst := hF.states
 have hV0 : ((List.replicate q.states.length false).set s.toNat true).length = q.states.length := by simp
 have h := H3 (step := fun s : Int × List Bool => HJ q s.1 s.2) q.states (fun V _ => Ew q V) id (fun _ w => w.length = q.states.length)
  (fun j t w hj hI => ⟨by simp only [HJ, ltD hj, AP, aJk hF hR _ hI, AH, B5 hj (show q.states.length ≤ 9223372036854775807 by omega)], by unfold Ew; rw [Nm]; exact hI⟩)
  (fun w _ => by simp only [HJ, ltI, AN]; rfl) _ hV0
 rw [Kb] at h
 have h' : aD1 q 0 ((List.replicate q.states.length false).set s.toNat true) = some (GX q q.states.length ((List.replicate q.states.length false).set s.toNat true)) := h
 have hs0 : ((List.replicate q.states.length false).set s.toNat true)[s.toNat]? = some true := by
  rw [List.getElem?_set, if_pos rfl, if_pos (by simp; omega)]
 have hT : ∀ t ∈ q.trans, t.to.toNat < q.states.length := fun t ht => by have := (hR.ends t ht).2.2; omega
 obtain ⟨c1, c2⟩ := UR hT q.states.length _ hV0 (by omega) (by omega)
 refine ⟨_, ?_, c2, fun i => ⟨fun hi => ?_, fun hi => ?_⟩⟩
 ·unfold Xx
  simp only [Int.toNat_natCast]
  rw [Dh ⟨by omega, Hr (by omega) (by decide)⟩, Dh (by simp; omega), Dh (by simp; omega), h', AH]
 ·refine Io (P := fun i => Rch (Ey q) s (i : Int)) (fun t ht h => ?_) _ (fun j hj => ?_) i hi
  ·have he := (hR.ends t ht).2
   have e1 : ((t.from_.toNat : Nat) : Int) = t.from_ := by omega
   have e2 : ((t.to.toNat : Nat) : Int) = t.to := by omega
   simp only [e1] at h
   simp only [e2]
   exact h.step (II.2 ⟨t, ht, rfl, rfl⟩)
  ·rw [List.getElem?_set] at hj
   split at hj
   ·rename_i e; subst e
    have e1 : ((s.toNat : Nat) : Int) = s := by omega
    simp only [e1]; exact .refl
   ·rw [List.getElem?_replicate] at hj
    split at hj <;> simp at hj
 ·have key : ∀ x, Rch (Ey q) s x → (GX q q.states.length ((List.replicate q.states.length false).set s.toNat true))[x.toNat]? = some true := by
   intro x hx
   induction hx with
   | refl => exact US _ hs0
   | step hx hy ih =>
    obtain ⟨t, ht, rfl, rfl⟩ := II.1 hy
    exact c1 t ht ih
  exact key _ hi
def okS (q : AB) (j : Nat) : Prop := ∀ st, q.states[j]? = some st → st.accept = true ∧ st.next = false
def noS (q : AB) (j : Nat) : Prop := ∀ st, q.states[j]? = some st → st.accept = false
def Ks (q : AB) (s : Int) : Prop := ∀ j : Nat, Rch (Ey q) s (j : Int) → okS q j
def UB (q : AB) (s : Int) : Prop := ∀ j : Nat, Rch (Ey q) s (j : Int) → noS q j
open Classical in
def C1 (q : AB) (s : Int) : Int := if Ks q s then 1 else if UB q s then 2 else 0
theorem NX {P : Nat → Prop} {i : Nat} : (∀ j, j < i + 1 → P j) ↔ (∀ j, j < i → P j) ∧ P i := by
 constructor
 ·intro h; exact ⟨fun j hj => h j (by omega), h i (by omega)⟩
 ·rintro ⟨h1, h2⟩ j hj
  by_cases e : j = i
  ·subst e; exact h2
  ·exact h1 j (by omega)
theorem aGv {q : AB} (hF : Mv q) (hR : EO q) {s : Int} (hs : 0 ≤ s ∧ s < q.states.length) : Xs q s = some (C1 q s) := by
 obtain ⟨V, hV, hl, hm⟩ := aJj hF hR hs
 have hst := hF.states
 obtain ⟨o, ho, h1, h2⟩ := CM (step := fun s : Bool × Bool × Int => HH V q s.1 s.2.1 s.2.2)
  (fun s => ∃ i : Nat, s.2.2 = (i : Int) ∧ i ≤ q.states.length ∧ (s.1 = true ↔ ∀ j, j < i → V[j]? = some true → okS q j) ∧ (s.2.1 = true ↔ ∀ j, j < i → V[j]? = some true → noS q j))
  (fun s => (q.states.length - s.2.2).toNat)
  (fun o => (o.1 = true ↔ ∀ j, j < q.states.length → V[j]? = some true → okS q j) ∧ (o.2 = true ↔ ∀ j, j < q.states.length → V[j]? = some true → noS q j))
  (by
   rintro ⟨a, b, n⟩ ⟨i, rfl, hi, ha, hb⟩
   by_cases he : i = q.states.length
   ·subst he
    exact .inl ⟨(a, b), by simp only [HH, hl, ltI, AN], ha, hb⟩
   ·obtain ⟨v, hv, _⟩ := Az (l := V) (i := i) (by omega)
    obtain ⟨st, hst, _⟩ := Az (l := q.states) (i := i) (by omega)
    have e1 : okS q i ↔ st.accept = true ∧ st.next = false := ⟨fun h => h st hst, fun h st' h' => by rw [hst, oe] at h'; exact h' ▸ h⟩
    have e2 : noS q i ↔ st.accept = false := ⟨fun h => h st hst, fun h st' h' => by rw [hst, oe] at h'; exact h' ▸ h⟩
    refine .inr ⟨(a && (!v || st.accept && !st.next), b && (!v || !st.accept), ((i + 1 : Nat) : Int)), ?_, ⟨i + 1, rfl, by omega, ?_, ?_⟩, by simp only; omega⟩
    ·simp only [HH, ltD hv, AP, XX, R6, JL, Ad hv, Ad hst, B5 hst (show q.states.length ≤ 9223372036854775807 by omega)]
     cases v <;> cases st.accept <;> cases st.next <;> cases a <;> cases b <;> rfl
    ·rw [NX, ← ha, hv, e1]
     cases v <;> simp
    ·rw [NX, ← hb, hv, e2]
     cases v <;> simp)
  (true, true, (0 : Int)) ⟨0, rfl, Nat.zero_le _, by simp, by simp⟩
 have key : ∀ P : Nat → Prop, (∀ j, j < q.states.length → V[j]? = some true → P j) ↔ ∀ j : Nat, Rch (Ey q) s (j : Int) → P j := fun P =>
  ⟨fun h j hj => h j (by have := rcT hR hs _ hj; omega) ((hm j).2 hj), fun h j _ hj => h j ((hm j).1 hj)⟩
 rw [key] at h1 h2
 have h1 : o.1 = true ↔ Ks q s := h1
 have h2 : o.2 = true ↔ UB q s := h2
 have ho' : aDz V q true true 0 = some o := ho
 unfold Xs C1
 rw [hV, AH, ho', AH, BJ]
 by_cases c1 : Ks q s
 ·rw [if_pos c1, if_pos (h1.2 c1)]
 ·rw [if_neg c1, if_neg (fun h => c1 (h1.1 h)), BJ]
  by_cases c2 : UB q s
  ·rw [if_pos c2, if_pos (h2.2 c2)]
  ·rw [if_neg c2, if_neg (fun h => c2 (h2.1 h))]
theorem Nj {l : List Int} {p : Int → Bool} : decide ((0 : Int) ≤ if l.any p = true then ((l.findIdx p : Nat) : Int) else -1) = l.any p := by
 split
 ·rename_i h; rw [h]; simp
 ·rename_i h; simp at h; simpa using h
theorem CF1 (l : List Int) (q : AB) (p : Int → Bool) (hl : l.length ≤ 9223372036854775807) (hp : ∀ x ∈ l, Q3 x q = some (p x)) : Z7 l q = some (l.any p) := by
 have h : Sk l q (l.length : Int) 0 = _ := Ep (step := fun s => F2 l q (l.length : Int) s) l p
  (fun i y hy => by
   simp only [F2, ltD hy, AP, Ad hy, hp y (List.mem_of_getElem? hy), AH, B5 hy hl, BJ]
   cases p y <;> rfl)
  (by simp only [F2, ltI, AN])
 unfold Z7 Y7
 rw [h, AH, ← Nj]
 split <;> rfl
theorem CF2 (l : List Int) (q : AB) (p : Int → Bool) (hl : l.length ≤ 9223372036854775807) (hp : ∀ x ∈ l, Q4 x q = some (p x)) : Z8 l q = some (l.any p) := by
 have h : Sn l q (l.length : Int) 0 = _ := Ep (step := fun s => F3 l q (l.length : Int) s) l p
  (fun i y hy => by
   simp only [F3, ltD hy, AP, Ad hy, hp y (List.mem_of_getElem? hy), AH, B5 hy hl, BJ]
   cases p y <;> rfl)
  (by simp only [F3, ltI, AN])
 unfold Z8 Y8
 rw [h, AH, ← Nj]
 split <;> rfl
theorem aG1 {q : AB} (hF : Mv q) (hR : EO q) {s : Int} (hs : 0 ≤ s ∧ s < q.states.length) : Yf q s = some (C1 q s) := by
 have hb := bdT hR hs
 have hst := hF.states
 have hlen := aE9 hb
 have hget : ∀ x ∈ clo (Ey q) q.states.length s, ∃ st, q.states[x.toNat]? = some st ∧ 0 ≤ x := fun x hx => by
  have := rcT hR hs x ((Hk hb).1 hx)
  obtain ⟨st, h, _⟩ := Pb this.1 this.2
  exact ⟨st, h, this.1⟩
 have e1 := CF1 (clo (Ey q) q.states.length s) q (fun x => match q.states[x.toNat]? with | some st => !st.accept || st.next | none => false) (by omega) (fun x hx => by
  obtain ⟨st, h, h0⟩ := hget x hx
  unfold Q3
  rw [Da h h0, Da h h0, h]
  simp only
  cases st.accept <;> rfl)
 have e2 := CF2 (clo (Ey q) q.states.length s) q (fun x => match q.states[x.toNat]? with | some st => st.accept | none => false) (by omega) (fun x hx => by
  obtain ⟨st, h, h0⟩ := hget x hx
  unfold Q4
  rw [Da h h0, h])
 unfold Yf C1
 rw [decide_eq_false (by omega), AN, decide_eq_false (by omega), AN, aGn hF hR hs, AH, e1, AH, BJ]
 by_cases c1 : Ks q s
 ·rw [if_pos c1, if_pos]
  rw [Bool.not_eq_true', List.any_eq_false]
  intro x hx
  obtain ⟨st, h, h0⟩ := hget x hx
  have := c1 x.toNat (by rw [Int.toNat_of_nonneg h0]; exact (Hk hb).1 hx) st h
  rw [h]; simp [this]
 ·rw [if_neg c1, if_neg]
  ·rw [e2, AH, BJ]
   by_cases c2 : UB q s
   ·rw [if_pos c2, if_pos]
    rw [Bool.not_eq_true', List.any_eq_false]
    intro x hx
    obtain ⟨st, h, h0⟩ := hget x hx
    have := c2 x.toNat (by rw [Int.toNat_of_nonneg h0]; exact (Hk hb).1 hx) st h
    rw [h]; simp [this]
   ·rw [if_neg c2, if_neg]
    intro h
    rw [Bool.not_eq_true', List.any_eq_false] at h
    refine c2 fun j hj st hst => ?_
    have := h _ ((Hk hb).2 hj)
    rw [Int.toNat_natCast, hst] at this
    simpa using this
  ·intro h
   rw [Bool.not_eq_true', List.any_eq_false] at h
   refine c1 fun j hj st hst => ?_
   have := h _ ((Hk hb).2 hj)
   rw [Int.toNat_natCast, hst] at this
   simpa using this
def InS (q : AB) (l : List X2) : Prop := ∀ c ∈ l, 0 ≤ c.state ∧ c.state < q.states.length
def Nn (q : AB) (l : List X2) : Int := if (l.any fun c => decide (C1 q c.state = 1)) = true then 1 else if (l.all fun c => decide (C1 q c.state = 2)) = true then 2 else 0
theorem aNs (q : AB) (s : Int) : C1 q s = 1 ∨ C1 q s = 2 ∨ C1 q s = 0 := by
 unfold C1
 by_cases h1 : Ks q s
 ·exact .inl (if_pos h1)
 ·rw [if_neg h1]
  by_cases h2 : UB q s
  ·exact .inr (.inl (if_pos h2))
  ·exact .inr (.inr (if_neg h2))
def gI (b : Bool) : Int := if b = true then 2 else 0
theorem aJ6 {q : AB} (hF : Mv q) (hR : EO q) {l : List X2} (hl : l.length ≤ 1000) (hi : InS q l) : Xh q l = some (Nn q l) := by
 have h : RR l (l.length : Int) q 2 0 = some (if (l.any fun c => decide (C1 q c.state = 1)) = true then .inr () else .inl (gI (l.all fun c => decide (C1 q c.state = 2)))) := by
  obtain ⟨o, ho, hQ⟩ := CM (step := fun s : Int × Int => EP l (l.length : Int) q s.1 s.2)
   (fun s => ∃ i : Nat, s.2 = (i : Int) ∧ i ≤ l.length ∧ (∀ c ∈ l.take i, C1 q c.state ≠ 1) ∧ s.1 = gI ((l.take i).all fun c => decide (C1 q c.state = 2)))
   (fun s => (l.length - s.2).toNat)
   (fun o => o = (if (l.any fun c => decide (C1 q c.state = 1)) = true then .inr () else .inl (gI (l.all fun c => decide (C1 q c.state = 2)))))
   (by
    rintro ⟨n, m⟩ ⟨i, rfl, hi2, ha, hb⟩
    simp only at hb
    subst hb
    by_cases he : i = l.length
    ·subst he
     refine .inl ⟨_, by simp only [EP, ltI, AN]; rfl, ?_⟩
     rw [List.take_length] at *
     have hne : ¬ (l.any fun c => decide (C1 q c.state = 1)) = true := by
      rw [List.any_eq_true]
      rintro ⟨c, hc, h⟩
      exact ha c hc (of_decide_eq_true h)
     rw [if_neg hne]
    ·obtain ⟨c, hc, _⟩ := Az (l := l) (i := i) (by omega)
     have hcm := List.mem_of_getElem? hc
     have ht : l.take (i + 1) = l.take i ++ [c] := by rw [List.take_add_one, hc]; rfl
     have hk := aG1 hF hR (hi c hcm)
     by_cases e : C1 q c.state = 1
     ·refine .inl ⟨.inr (), ?_, ?_⟩
      ·simp only [EP, ltD hc, AP, Lb, Ad hc, hk, AH, OU, RQ, e, decide_true, EI]
      ·rw [if_pos]
       rw [List.any_eq_true]
       exact ⟨c, hcm, decide_eq_true e⟩
     ·refine .inr ⟨(gI ((l.take i).all (fun c => decide (C1 q c.state = 2)) && decide (C1 q c.state = 2)), ((i + 1 : Nat) : Int)), ?_, ⟨i + 1, rfl, by omega, ?_, ?_⟩, by simp only; omega⟩
      ·simp only [EP, ltD hc, AP, Lb, Ad hc, hk, AH, OU, RQ, e, decide_false, AN, Wj, B5 hc (show l.length ≤ 9223372036854775807 by omega)]
       rcases aNs q c.state with h | h | h
       ·exact absurd h e
       ·rw [h]; cases (l.take i).all (fun c => decide (C1 q c.state = 2)) <;> rfl
       ·rw [h]; cases (l.take i).all (fun c => decide (C1 q c.state = 2)) <;> rfl
      ·intro x hx
       rw [ht] at hx
       rcases ma.1 hx with h | h
       ·exact ha x h
       ·rw [List.mem_singleton] at h; exact h ▸ e
      ·rw [ht]; simp)
   (2, (0 : Int)) ⟨0, rfl, by omega, by simp, by simp [gI]⟩
  rw [← hQ]; exact ho
 unfold Xh Nn
 rw [h, AH]
 split <;> rfl
theorem aLq {q : AB} (hF : Mv q) (hR : EO q) {l : List X2} (hl : l.length ≤ 1000) (hi : InS q l) : Yj q l = some (Nn q l) := by
 have h : aEc l q true 0 = some (if (l.any fun c => decide (C1 q c.state = 1)) = true then .inr () else .inl (l.all fun c => decide (C1 q c.state = 2))) := by
  obtain ⟨o, ho, hQ⟩ := CM (step := fun s : Bool × Int => F5 l q s.1 s.2)
   (fun s => ∃ i : Nat, s.2 = (i : Int) ∧ i ≤ l.length ∧ (∀ c ∈ l.take i, C1 q c.state ≠ 1) ∧ (s.1 = (l.take i).all fun c => decide (C1 q c.state = 2)))
   (fun s => (l.length - s.2).toNat)
   (fun o => o = (if (l.any fun c => decide (C1 q c.state = 1)) = true then .inr () else .inl (l.all fun c => decide (C1 q c.state = 2))))
   (by
    rintro ⟨n, m⟩ ⟨i, rfl, hi2, ha, hb⟩
    simp only at hb
    subst hb
    by_cases he : i = l.length
    ·subst he
     refine .inl ⟨_, by simp only [F5, ltI, AN]; rfl, ?_⟩
     rw [List.take_length] at *
     have hne : ¬ (l.any fun c => decide (C1 q c.state = 1)) = true := by
      rw [List.any_eq_true]
      rintro ⟨c, hc, h⟩
      exact ha c hc (of_decide_eq_true h)
     rw [if_neg hne]
    ·obtain ⟨c, hc, _⟩ := Az (l := l) (i := i) (by omega)
     have hcm := List.mem_of_getElem? hc
     have ht : l.take (i + 1) = l.take i ++ [c] := by rw [List.take_add_one, hc]; rfl
     have hk := aGv hF hR (hi c hcm)
     by_cases e : C1 q c.state = 1
     ·refine .inl ⟨.inr (), ?_, ?_⟩
      ·simp only [F5, ltD hc, AP, Ad hc, hk, AH, e, decide_true]
      ·rw [if_pos]
       rw [List.any_eq_true]
       exact ⟨c, hcm, decide_eq_true e⟩
     ·refine .inr ⟨((l.take i).all (fun c => decide (C1 q c.state = 2)) && decide (C1 q c.state = 2), ((i + 1 : Nat) : Int)), ?_, ⟨i + 1, rfl, by omega, ?_, ?_⟩, by simp only; omega⟩
      ·simp only [F5, ltD hc, AP, Ad hc, hk, AH, e, decide_false, AN, B5 hc (show l.length ≤ 9223372036854775807 by omega)]
       cases (l.take i).all (fun c => decide (C1 q c.state = 2)) <;> rfl
      ·intro x hx
       rw [ht] at hx
       rcases ma.1 hx with h | h
       ·exact ha x h
       ·rw [List.mem_singleton] at h; exact h ▸ e
      ·rw [ht]; simp)
   (true, (0 : Int)) ⟨0, rfl, by omega, by simp, by simp⟩
  rw [← hQ]; exact ho
 unfold Yj Nn
 rw [h, AH]
 split
 ·rfl
 ·rw [CS, BJ]
  split <;> rfl
def CW (c : X2) : Prop := c.vals.length ≤ 9223372036854775807 ∧ ∀ v ∈ c.vals, v.str.length ≤ 9223372036854775807
theorem I1 {a b : X2} (ha : CW a) (hb : CW b) : ∃ r, Yl a b = some r := by
 obtain ⟨o, ho, _⟩ := Ak (step := fun s => F6 a b s) a.vals.length (fun _ => True) (fun _ => True)
  (fun i hi => by
   obtain ⟨x, hx, _⟩ := Az hi
   by_cases hb2 : i < b.vals.length
   ·obtain ⟨y, hy, _⟩ := Az hb2
    simp only [F6, ltD hx, ltD hy, AP, Ad hx, Ad hy, aMb x y (ha.2 x (List.mem_of_getElem? hx)) (hb.2 y (List.mem_of_getElem? hy)), AH, B5 hx ha.1]
    cases X0.eqb x y
    ·exact .inr ⟨_, rfl, trivial⟩
    ·exact .inl ⟨rfl, trivial⟩
   ·simp only [F6, ltD hx, AP]
    rw [decide_eq_false (by omega)]
    exact .inr ⟨_, rfl, trivial⟩)
  (fun _ => ⟨.inl (), by simp only [F6, ltI, AN], trivial⟩)
 have ho' : aEd a b 0 = some o := ho
 unfold Yl
 rw [ho', AH]
 cases decide (a.state = b.state)
 ·exact ⟨_, rfl⟩
 ·cases o <;> exact ⟨_, rfl⟩
theorem aDg {a b : X2} (ha : CW a) (hb : CW b) : ∃ r, Q8 a b = some r := by
 obtain ⟨r, h⟩ := I1 ha hb
 obtain ⟨r', h'⟩ := I1 hb ha
 unfold Q8
 rw [h, h', AH]
 cases r <;> exact ⟨_, rfl⟩
theorem OB {w : List X2} {c : X2} (hw : ∀ x ∈ w, CW x) (hc : CW c) (hl : w.length ≤ 1000) : ∃ k : Nat, k ≤ w.length ∧ Ow w c (w.length : Int) = some (k : Int) := by
 suffices ∀ i : Nat, i ≤ w.length → ∃ k : Nat, k ≤ w.length ∧ Ow w c (i : Int) = some (k : Int) from this _ (Nat.le_refl _)
 intro i
 induction i with
 | zero => intro _; exact ⟨0, Nat.zero_le _, by rw [NR]; simp [HT, AE, Df]⟩
 | succ i ih =>
  intro hi
  obtain ⟨x, hx, _⟩ := Az (l := w) (i := i) (by omega)
  obtain ⟨r, hL⟩ := I1 hc (hw x (List.mem_of_getElem? hx))
  have hs : AA .sub .i64 ((i + 1 : Nat) : Int) 1 = (i : Int) := by rw [aIj (by omega) (by omega)]; simp
  have hpos : decide ((0 : Int) < ((i + 1 : Nat) : Int)) = true := decide_eq_true (by omega)
  rw [NR]
  simp only [HT, hpos, AP, hs, Ad hx, hL, AH]
  cases r
  ·exact ⟨i + 1, hi, rfl⟩
  ·exact ih (by omega)
theorem aDh {w : List X2} {c : X2} (hw : ∀ x ∈ w, CW x) (hc : CW c) (hl : w.length ≤ 1000) : ∃ r, Yi w c = some r ∧ (∀ x ∈ r, x = c ∨ x ∈ w) ∧ r.length ≤ w.length + 1 := by
 obtain ⟨k, hk, h1⟩ := OB hw hc hl
 have hmid := aFu (n := 0) (w := w) (c := c) k hk
 have hm : ∃ r, some (w.take k ++ [c] ++ w.drop k) = some r ∧ (∀ x ∈ r, x = c ∨ x ∈ w) ∧ r.length ≤ w.length + 1 := ⟨_, rfl, fun x hx => (hmid.1 x).1 hx, hmid.2⟩
 unfold Yi
 rw [h1, AH, Ux, Uw, Dh (by omega), U4 (by simp; omega) (by decide), U4 (by simp; omega) (by decide), Dh (by omega), U4 (by simp; omega) (by decide), List.nil_append]
 by_cases h0 : 0 < k
 ·obtain ⟨x, hx, _⟩ := Az (l := w) (i := k - 1) (by omega)
  obtain ⟨r, hO⟩ := aDg (hw x (List.mem_of_getElem? hx)) hc
  rw [decide_eq_true (show (0 : Int) < (k : Int) by omega), AP, aIj h0 (by omega), Ad hx, hO, AH]
  cases r
  ·exact hm
  ·exact ⟨w, rfl, fun x h => .inr h, by omega⟩
 ·rw [decide_eq_false (by omega), AN]
  exact hm
theorem aGg {l : List X2} (hl : ∀ x ∈ l, CW x) (hn : l.length ≤ 500) : ∃ w, Yo l = some w ∧ (∀ x ∈ w, x ∈ l) ∧ w.length ≤ l.length := by
 obtain ⟨o, ho, h1, h2⟩ := CM (step := fun s : List X2 × Int => HV l s.1 s.2)
  (fun s => ∃ i : Nat, s.2 = (i : Int) ∧ i ≤ l.length ∧ (∀ x ∈ s.1, x ∈ l) ∧ s.1.length ≤ i) (fun s => (l.length - s.2).toNat) (fun o => (∀ x ∈ o, x ∈ l) ∧ o.length ≤ l.length)
  (by
   rintro ⟨w, n⟩ ⟨i, rfl, hi, ha, hb⟩
   simp only at ha hb
   by_cases he : i = l.length
   ·subst he
    exact .inl ⟨w, by simp only [HV, ltI, AN], ha, hb⟩
   ·obtain ⟨c, hc, _⟩ := Az (l := l) (i := i) (by omega)
    obtain ⟨r, hr, h3, h4⟩ := aDh (w := w) (c := c) (fun x hx => hl x (ha x hx)) (hl c (List.mem_of_getElem? hc)) (by omega)
    refine .inr ⟨(r, ((i + 1 : Nat) : Int)), by simp only [HV, ltD hc, AP, Ad hc, hr, AH, B5 hc (show l.length ≤ 9223372036854775807 by omega)], ⟨i + 1, rfl, by omega, fun x hx => ?_, by simp only; omega⟩, by simp only; omega⟩
    rcases h3 x hx with rfl | h
    ·exact List.mem_of_getElem? hc
    ·exact ha x h)
  ([], (0 : Int)) ⟨0, rfl, by omega, by simp, by simp⟩
 have ho' : aEg l [] 0 = some o := ho
 unfold Yo
 rw [ho', AH]
 exact ⟨o, rfl, h1, h2⟩
theorem VE {q : AB} (hf : q.frees.length ≤ 1000) : Yx q = some [X2.mk q.start (q.frees.map (·.init_))] := by
 obtain ⟨o, ho, h1⟩ := CM (step := fun s : Int × List X0 => Hc q q.start s.1 s.2)
  (fun s => ∃ i : Nat, s.1 = (i : Int) ∧ i ≤ q.frees.length ∧ s.2 = (q.frees.take i).map (·.init_)) (fun s => (q.frees.length - s.1).toNat) (fun o => o = q.frees.map (·.init_))
  (by
   rintro ⟨n, w⟩ ⟨i, rfl, hi, ha⟩
   simp only at ha
   subst ha
   by_cases he : i = q.frees.length
   ·subst he
    exact .inl ⟨q.frees.map (·.init_), by simp only [Hc, ltI, AN, List.take_length], rfl⟩
   ·obtain ⟨c, hc, _⟩ := Az (l := q.frees) (i := i) (by omega)
    refine .inr ⟨((i + 1 : Nat), (q.frees.take i).map (·.init_) ++ [c.init_]), ?_, ⟨i + 1, rfl, by omega, ?_⟩, by simp only; omega⟩
    ·simp only [Hc, ltD hc, AP, Ad hc, B5 hc (show q.frees.length ≤ 9223372036854775807 by omega)]
     rw [U4 (by simp; omega) (by decide)]
    ·simp only
     rw [List.take_add_one, hc]; simp)
  ((0 : Int), []) ⟨0, rfl, by omega, by simp⟩
 subst h1
 have ho' : aEn q q.start 0 [] = some (q.frees.map (·.init_)) := ho
 unfold Yx
 rw [ho', AH]
def aGd (q : AB) : Prop := ∀ f ∈ q.frees, f.init_.str.length ≤ 9223372036854775807
theorem aBw {q : AB} (hf : q.frees.length ≤ 1000) (s1 : Int) (l : List Int) (hl : l.length ≤ 20) (s7 : Int) : ∃ w, Rx s1 l s7 q 0 [] = some w ∧ w.length ≤ 20 ∧ ∀ c ∈ w, (0 ≤ c.state ∧ c.state < q.states.length) ∧ c.vals = q.frees.map (·.init_) := by
 obtain ⟨o, ho, h1, h2⟩ := CM (step := fun s : Int × List X2 => Fv s1 l s7 q s.1 s.2)
  (fun s => ∃ i : Nat, s.1 = (i : Int) ∧ i ≤ l.length ∧ s.2.length ≤ i ∧ ∀ c ∈ s.2, (0 ≤ c.state ∧ c.state < q.states.length) ∧ c.vals = q.frees.map (·.init_)) (fun s => (l.length - s.1).toNat)
  (fun w => w.length ≤ 20 ∧ ∀ c ∈ w, (0 ≤ c.state ∧ c.state < q.states.length) ∧ c.vals = q.frees.map (·.init_))
  (by
   rintro ⟨n, w⟩ ⟨i, rfl, hi, ha, hb⟩
   simp only at ha hb
   by_cases he : i = l.length
   ·subst he
    exact .inl ⟨w, by simp only [Fv, ltI, AN], by omega, hb⟩
   ·obtain ⟨c, hc, _⟩ := Az (l := l) (i := i) (by omega)
    by_cases h0 : 0 ≤ c ∧ c < (q.states.length : Int)
    ·refine .inr ⟨((i + 1 : Nat), w ++ [X2.mk c (q.frees.map (·.init_))]), ?_, ⟨i + 1, rfl, by omega, by simp; omega, fun x hx => ?_⟩, by simp only; omega⟩
     ·simp only [Fv, ltD hc, AP, Rw, Oe, Ad hc, decide_eq_true h0.1, decide_eq_true h0.2, VE hf, AH, aH0, B5 hc (show l.length ≤ 9223372036854775807 by omega)]
      rw [U4 (by simp; omega) (by decide), AH, AH]
     ·rcases ma.1 hx with h | h
      ·exact hb x h
      ·rw [List.mem_singleton] at h; subst h; exact ⟨h0, rfl⟩
    ·refine .inr ⟨((i + 1 : Nat), w), ?_, ⟨i + 1, rfl, by omega, by simp only; omega, hb⟩, by simp only; omega⟩
     simp only [Fv, ltD hc, AP, Rw, Oe, Ad hc, AN, AH, B5 hc (show l.length ≤ 9223372036854775807 by omega), GQ]
     by_cases h1 : 0 ≤ c
     ·rw [if_pos h1, if_neg (fun h => h0 ⟨h1, h⟩)]; rfl
     ·rw [if_neg h1]; rfl)
  ((0 : Int), []) ⟨0, rfl, by omega, by simp, by simp⟩
 exact ⟨o, ho, h1, h2⟩
theorem aKj (q : AB) (s : Int) (l : List Int) (hW : ∀ t ∈ q.trans, J8 t) (hI : aGd q) : Xp q s l = some true := by
 obtain ⟨r, hr, hP⟩ := aFd q hW
 unfold Xp
 rw [hr, AH, aL5]
 cases r with
 | false => rfl
 | true =>
  obtain ⟨hF, hR, _, _⟩ := hP rfl
  have hfr := hF.frees
  rw [Bool.not_true, AN, GQ]
  split
  ·rfl
  ·rename_i h20
   have key : ∀ s7 : Int, Yf q s = some s7 → (AG (Rx s l s7 q 0 ([] : List X2)) fun o22 => AG (Yo o22) fun r23 => AG (Yf q s) fun r24 => AE (decide (r24 = s7)) ( AG (Xh q r23) fun r25 => AG (Yj q r23) fun r26 => AE (decide (r25 = r26)) ( AG (some true : Option Bool) fun r27 => some r27) ( some false)) ( some false)) = some true := fun s7 hk => by
    obtain ⟨w, hw, h1, h2⟩ := aBw (q := q) (by omega) s l (by omega) s7
    have hCW : ∀ c ∈ w, CW c := fun c hc => by
     have e := (h2 c hc).2
     refine ⟨by rw [e, List.length_map]; omega, fun v hv => ?_⟩
     rw [e] at hv
     obtain ⟨f, hf, rfl⟩ := mm.1 hv
     exact hI f hf
    obtain ⟨w2, hw2, h3, h4⟩ := aGg hCW (by omega)
    have hin : InS q w2 := fun c hc => (h2 c (h3 c hc)).1
    rw [hw, AH, hw2, AH, hk, AH, decide_eq_true rfl, AP, aJ6 hF hR (by omega) hin, AH, aLq hF hR (by omega) hin, AH, decide_eq_true rfl]
    rfl
   rw [GQ]
   split
   ·rename_i h0
    by_cases h1 : s < (q.states.length : Int)
    ·have e := aG1 hF hR ⟨h0, h1⟩
     rw [decide_eq_true h1]
     simp only [Lr, AP, aGv hF hR ⟨h0, h1⟩, AH]
     exact key _ e
    ·rw [decide_eq_false h1]
     simp only [Lr, AN, AH]
     exact key 0 (by unfold Yf; rw [decide_eq_false (by omega), AN, decide_eq_true (by omega), AP])
   ·rename_i h0
    simp only [Lr, AN, AH]
    exact key 0 (by unfold Yf; rw [decide_eq_true (by omega), AP])
end
end Go.Ac
