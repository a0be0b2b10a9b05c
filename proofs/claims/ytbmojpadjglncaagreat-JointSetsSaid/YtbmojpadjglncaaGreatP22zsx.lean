/- Own work: the plain law. -/
import Derived.Test.YtbmojpadjglncaaGreatSh22zs
import Derived.Test.YtbmojpadjglncaaGreatAcC
set_option linter.unusedVariables false
set_option linter.unusedSimpArgs false
namespace Go.Ac
noncomputable section
def vR (v : X0) : Bool :=
 if v.kind = 1 then decide (v.str = []) && !v.bool
 else if v.kind = 2 then decide (v.int = 0) && !v.bool && decide (v.str.length ≤ 4096)
 else if v.kind = 3 then decide (v.int = 0) && decide (v.str = []) else false
theorem aEm (v : X0) : Z2 v = some (vR v) := by
 unfold Z2 vR
 have hc : decide ((v.str.length : Int) ≤ 4096) = decide (v.str.length ≤ 4096) := by
  by_cases h : v.str.length ≤ 4096
  ·have : (v.str.length : Int) ≤ 4096 := by omega
   simp [h, this]
  ·have : ¬ (v.str.length : Int) ≤ 4096 := by omega
   simp [h, this]
 rw [hc]
 by_cases h1 : v.kind = 1
 ·by_cases hs : v.str = [] <;> simp [h1, hs, AD]
 by_cases h2 : v.kind = 2
 ·by_cases hn : v.int = 0 <;> cases hb : v.bool <;> simp [h2, hn, AD]
 by_cases h3 : v.kind = 3
 ·by_cases hn : v.int = 0 <;> simp [h3, hn, AD]
 ·simp [h1, h2, h3, AD]
theorem X2.eqb_dec (a b : X2) : X2.eqb a b = decide (a = b) := by rw [Bool.eq_iff_iff, X2.eqb_iff]; simp
theorem X0.eqb_dec (a b : X0) : X0.eqb a b = decide (a = b) := by rw [Bool.eq_iff_iff, X0.eqb_iff]; simp
def zV : X0 := ⟨0, 0, [], false⟩
def B0 (l : List X2) (v : Int) : X0 × Bool := match l.findSome? (fun s => if s.var = v then some s.value else none) with
 | some x => (x, true)
 | none => (zV, false)
theorem V3 (l : List X2) (v : Int) (o : Unit ⊕ X0) (h : o = (l.findSome? (fun s => if s.var = v then some (Sum.inr s.value : Unit ⊕ X0) else none)).getD (.inl ())) :
 BI o (fun _ => some (X0.mk 0 0 ([] : List UInt8) false, false)) (fun o4 => some (o4, true)) = some (B0 l v) := by
 subst h
 have e : l.findSome? (fun s => if s.var = v then some (Sum.inr s.value : Unit ⊕ X0) else none) = (l.findSome? (fun s => if s.var = v then some s.value else none)).map Sum.inr := by
  induction l with
  | nil => rfl
  | cons s l ih => rw [List.findSome?_cons, List.findSome?_cons]; by_cases h : s.var = v <;> simp [h, ih]
 rw [e]
 unfold B0
 cases l.findSome? (fun s => if s.var = v then some s.value else none) <;> rfl
theorem aDn (l : List X2) (v : Int) (hl : l.length ≤ 9223372036854775807) : Yf l v = some (B0 l v) := by
 unfold Yf aI2
 rw [Dh l (fun _ s => if s.var = v then some (Sum.inr s.value : Unit ⊕ X0) else none) (.inl ())
  (fun i x hx => by simp only [JP, ltD hx, AJ, AO hx, At hx hl, CX]; by_cases h : x.var = v <;> simp [h])
  (by simp only [JP, ltI, AI]), CG, AB]
 exact V3 l v _ rfl
theorem aQs (l : List X2) (v : Int) (hl : l.length ≤ 9223372036854775807) : Y0 l v = some (B0 l v) := by
 unfold Y0 Oz
 rw [Dh l (fun _ s => if s.var = v then some (Sum.inr s.value : Unit ⊕ X0) else none) (.inl ())
  (fun i x hx => by simp only [DX, ltD hx, AJ, AO hx, At hx hl, CX]; by_cases h : x.var = v <;> simp [h])
  (by simp only [DX, ltI, AI]), CG, AB]
 exact V3 l v _ rfl
theorem aG0 (v : X0) : ∃ b, Z2 v = some b := by
 unfold Z2
 simp only [BF]
 repeat' split
 all_goals exact ⟨_, rfl⟩
theorem Ci {l : List X2} {v : Int} {x : X0} (h : B0 l v = (x, true)) : X2.mk v x ∈ l := by
 unfold B0 at h
 split at h
 ·rename_i y hy
  cases h
  obtain ⟨s, hs, hv⟩ := List.exists_of_findSome?_eq_some hy
  split at hv
  ·rename_i e; cases hv; rw [← e]; exact hs
  ·cases hv
 ·cases h
theorem Kb {β : Type} {a b n : Nat} (h : a + b ≤ 1073741824) (hn : n ≤ 131072) (k : Option β) : AZ (fit a b n) k = k := BK (BH h hn) k
structure DJ (q : AE) : Prop where
 decls : q.decls.length ≤ 12
 quants : q.quants.length ≤ 9
 frees : q.frees.length ≤ 12
 states : q.states.length ≤ 12
 symbols : q.symbols.length ≤ 12
 trans : q.trans.length ≤ 12
 nodes : q.nodes.length ≤ 40
 args : ∀ s ∈ q.symbols, s.args.length ≤ 12
 sets : ∀ t ∈ q.trans, t.sets.length ≤ 12
theorem EU {α : Type} {l : List α} {R : α → Prop} (h : ∀ j, j < l.length → ∀ x, l[j]? = some x → R x) : ∀ x ∈ l, R x := by
 intro x hx
 obtain ⟨j, hj, rfl⟩ := List.mem_iff_getElem.1 hx
 exact h j hj _ (List.getElem?_eq_getElem hj)
theorem aPq (q : AE) : ∃ n, Xb q = some n ∧ (n ≠ 0 → DJ q) := by
 unfold Xb
 simp only [CX]
 iterate 8 (split; · exact ⟨0, rfl, by simp⟩)
 rename_i h1 h2 h3 h4 h5 h6 h7 h8
 have hd : q.decls.length ≤ 9223372036854775807 := by omega
 have hs : q.symbols.length ≤ 9223372036854775807 := by omega
 have hf : q.frees.length ≤ 9223372036854775807 := by omega
 have hn : q.nodes.length ≤ 9223372036854775807 := by omega
 have ht : q.trans.length ≤ 9223372036854775807 := by omega
 obtain ⟨t1, e1, _⟩ := Ah (step := fun s => GW q s) q.decls.length (fun _ => True) (fun _ => True)
  (fun i hi => by
   obtain ⟨x, hx, _⟩ := AY hi
   simp only [GW, ltD hx, AJ, AO hx, At hx hd]
   simp only [BF]
   repeat' split
   all_goals first | exact .inl ⟨rfl, trivial⟩ | exact .inr ⟨_, rfl, trivial⟩)
  (fun _ => ⟨.inl (), by simp only [GW, ltI, AI], trivial⟩)
 obtain ⟨t2, e2, Q2⟩ := Ah (step := fun s => GX q s) q.symbols.length (fun i => ∀ x, q.symbols[i]? = some x → x.args.length ≤ 12) (fun t => t = .inl () → ∀ s ∈ q.symbols, s.args.length ≤ 12)
  (fun i hi => by
   obtain ⟨x, hx, _⟩ := AY hi
   simp only [GX, ltD hx, AJ, AO hx, At hx hs, CX]
   split
   ·exact .inr ⟨_, rfl, by simp⟩
   ·rename_i h12
    obtain ⟨t3, e3, _⟩ := Ah (step := fun s => GY (i : Int) q s) x.args.length (fun _ => True) (fun _ => True)
     (fun j hj => by
      obtain ⟨y, hy, _⟩ := AY hj
      simp only [GY, AO hx, ltD hy, AJ, AO hy, At hy (show x.args.length ≤ 9223372036854775807 by omega)]
      simp only [BF]
      split
      ·exact .inr ⟨_, rfl, trivial⟩
      ·exact .inl ⟨rfl, trivial⟩)
     (fun _ => ⟨.inl (), by simp only [GY, AO hx, ltI, AI], trivial⟩)
    unfold aIc
    rw [e3, AB]
    rcases t3 with _ | _
    ·exact .inl ⟨rfl, fun y hy => by rw [hx] at hy; cases hy; omega⟩
    ·exact .inr ⟨_, rfl, by simp⟩)
  (fun hP => ⟨.inl (), by simp only [GX, ltI, AI], fun _ => EU hP⟩)
 obtain ⟨t4, e4, _⟩ := Ah (step := fun s => GZ q s) q.frees.length (fun _ => True) (fun _ => True)
  (fun i hi => by
   obtain ⟨x, hx, _⟩ := AY hi
   simp only [GZ, ltD hx, AJ, AO hx, At hx hf]
   simp only [BF]
   split
   ·exact .inr ⟨_, rfl, trivial⟩
   ·exact .inl ⟨rfl, trivial⟩)
  (fun _ => ⟨.inl (), by simp only [GZ, ltI, AI], trivial⟩)
 obtain ⟨t5, e5, _⟩ := Ah (step := fun s => Ga q s) q.nodes.length (fun _ => True) (fun _ => True)
  (fun i hi => by
   obtain ⟨x, hx, _⟩ := AY hi
   simp only [Ga, ltD hx, AJ, AO hx, At hx hn]
   simp only [BF]
   split
   ·exact .inr ⟨_, rfl, trivial⟩
   ·exact .inl ⟨rfl, trivial⟩)
  (fun _ => ⟨.inl (), by simp only [Ga, ltI, AI], trivial⟩)
 obtain ⟨t6, e6, Q6⟩ := Ah (step := fun s => Gb q s) q.trans.length (fun i => ∀ x, q.trans[i]? = some x → x.sets.length ≤ 12) (fun t => t = .inl () → ∀ s ∈ q.trans, s.sets.length ≤ 12)
  (fun i hi => by
   obtain ⟨x, hx, _⟩ := AY hi
   simp only [Gb, ltD hx, AJ, AO hx, At hx ht, CX]
   split
   ·exact .inr ⟨_, rfl, by simp⟩
   ·exact .inl ⟨rfl, fun y hy => by rw [hx] at hy; cases hy; omega⟩)
  (fun hP => ⟨.inl (), by simp only [Gb, ltI, AI], fun _ => EU hP⟩)
 unfold aIa aIb aId aIe aIf
 rw [e1, AB, e2, e4, e5, e6]
 simp only [AB]
 rcases t1 with _ | _ <;> rcases t2 with _ | _ <;> rcases t4 with _ | _ <;> rcases t5 with _ | _ <;> rcases t6 with _ | _ <;> simp only [BU, Cx] <;>
  first
  | exact ⟨0, rfl, by simp⟩
  | exact ⟨1, rfl, fun _ => ⟨by omega, by omega, by omega, by omega, by omega, by omega, by omega, Q2 rfl, Q6 rfl⟩⟩
theorem aMa (s : List UInt8) : ∃ b, Yw s = some b := by
 unfold Yw
 simp only [CX]
 split
 ·exact ⟨_, rfl⟩
 split
 ·exact ⟨_, rfl⟩
 obtain ⟨t1, e1, _⟩ := Ah (step := fun i => HK s i) s.length (fun _ => True) (fun _ => True)
  (fun i hi => by
   obtain ⟨x, hx, _⟩ := AY hi
   simp only [HK, ltD hx, AJ, AO hx, At hx (show s.length ≤ 9223372036854775807 by omega)]
   simp only [BF]
   repeat' split
   all_goals first | exact .inl ⟨rfl, trivial⟩ | exact .inr ⟨_, rfl, trivial⟩)
  (fun _ => ⟨.inl (), by simp only [HK, ltI, AI], trivial⟩)
 unfold aI8
 rw [e1, AB]
 rcases t1 with _ | _ <;> exact ⟨_, rfl⟩
theorem Nh (s : List UInt8) : ∃ b, Yi s = some b := by
 unfold Yi Qs
 rw [AB]
 generalize hw : ([([97, 99, 99, 101, 112, 116] : List UInt8), ([97, 108, 115, 111] : List UInt8), ([97, 110, 100] : List UInt8), ([98, 111, 111, 108] : List UInt8), ([100, 111] : List UInt8), ([101, 118, 101, 110, 116] : List UInt8), ([101, 120, 105, 115, 116, 115] : List UInt8), ([102, 97, 108, 115, 101] : List UInt8), ([102, 111, 114, 97, 108, 108] : List UInt8), ([102, 114, 101, 101] : List UInt8), ([105, 102] : List UInt8), ([105, 110, 116] : List UInt8), ([110, 101, 120, 116] : List UInt8), ([110, 111, 116] : List UInt8), ([111, 110] : List UInt8), ([111, 114] : List UInt8), ([113, 101, 97] : List UInt8), ([115, 107, 105, 112] : List UInt8), ([115, 116, 97, 114, 116] : List UInt8), ([115, 116, 114, 105, 110, 103] : List UInt8), ([116, 111] : List UInt8), ([116, 114, 117, 101] : List UInt8)] : List (List UInt8)) = ws
 have hl : ws.length ≤ 9223372036854775807 := by rw [← hw]; simp
 obtain ⟨t1, e1, _⟩ := Ah (step := fun i => HC s ws i) ws.length (fun _ => True) (fun _ => True)
  (fun i hi => by
   obtain ⟨x, hx, _⟩ := AY hi
   simp only [HC, ltD hx, AJ, AO hx, At hx hl]
   simp only [BF]
   split
   ·exact .inr ⟨_, rfl, trivial⟩
   ·exact .inl ⟨rfl, trivial⟩)
  (fun _ => ⟨.inl (), by simp only [HC, ltI, AI], trivial⟩)
 unfold aI4
 rw [e1, AB]
 rcases t1 with _ | _
 ·obtain ⟨b, hb⟩ := aMa s
  rw [BU, hb, AB]
  cases b <;> exact ⟨_, rfl⟩
 ·exact ⟨_, rfl⟩
def EW (l : List X6) (n : List UInt8) : Option Nat := if l.any (fun d => decide (d.name = n)) = true then some (l.findIdx fun d => decide (d.name = n)) else none
theorem aL6 (l : List X6) (n : List UInt8) (hl : l.length ≤ 9223372036854775807) : Yq l n = some (match EW l n with | some i => (i : Int) | none => -1) := by
 unfold Yq aI5
 rw [Fe l (fun d => decide (d.name = n))
  (fun i x hx => by
   simp only [JQ, ltD hx, AJ, AO hx, At hx hl]
   simp only [BF]
   cases decide (x.name = n) <;> rfl)
  (by simp only [JQ, ltI, AI]), AB]
 unfold EW
 cases l.any _ <;> rfl
theorem Is {l : List X6} {n : List UInt8} {i : Nat} (h : EW l n = some i) : ∃ d, l[i]? = some d ∧ d.name = n := by
 unfold EW at h
 split at h
 ·rename_i ha
  cases h
  obtain ⟨d, hd, hn⟩ := List.any_eq_true.1 ha
  have hlt := List.findIdx_lt_length_of_exists (p := fun d => decide (d.name = n)) ⟨d, hd, hn⟩
  exact ⟨_, List.getElem?_eq_getElem hlt, by simpa using List.findIdx_getElem (w := hlt)⟩
 ·cases h
theorem aFm {l : List X6} {n : List UInt8} {j : Nat} {d : X6} (hj : l[j]? = some d) (hn : d.name = n) : ∃ i, EW l n = some i ∧ i ≤ j := by
 have ha : l.any (fun d => decide (d.name = n)) = true := List.any_eq_true.2 ⟨d, List.mem_of_getElem? hj, by simpa using hn⟩
 refine ⟨l.findIdx fun d => decide (d.name = n), by unfold EW; rw [if_pos ha], ?_⟩
 refine Nat.le_of_not_lt fun hlt => ?_
 have := List.not_of_lt_findIdx hlt
 obtain ⟨h1, rfl⟩ := List.getElem?_eq_some_iff.1 hj
 simp [hn] at this
def LT (l : List X6) : Prop := ∀ j d, l[j]? = some d → EW l d.name = some j
theorem aQl (l : List X6) (hl : l.length ≤ 9223372036854775807) : ∃ r, Xv l = some r ∧ (r.1 = 0 → LT l) := by
 unfold Xv
 rw [CX]
 split
 ·exact ⟨_, rfl, by simp⟩
 obtain ⟨t1, e1, Q1⟩ := Ah (step := fun i => DV l i) l.length (fun i => ∀ d, l[i]? = some d → EW l d.name = some i) (fun t => match t with | .inl _ => LT l | .inr r => r.1 ≠ 0)
  (fun i hi => by
   obtain ⟨x, hx, _⟩ := AY hi
   obtain ⟨b, hb⟩ := Nh x.name
   simp only [DV, ltD hx, AJ, AO hx, At hx hl, hb, AB, aL6 l _ hl]
   cases b with
   | false => exact .inr ⟨_, rfl, by simp⟩
   | true =>
    simp only [Bool.not_true, AI]
    obtain ⟨k, hk, hki⟩ := aFm hx rfl
    rw [hk]
    dsimp only
    rw [CX]
    split
    ·exact .inr ⟨_, rfl, by simp⟩
    ·rename_i hge
     rw [CX]
     split
     ·exact .inr ⟨_, rfl, by simp⟩
     ·obtain ⟨t2, e2, _⟩ := Ah (step := fun s => DW l (i : Int) s) x.types.length (fun _ => True) (fun _ => True)
       (fun j hj => by
        obtain ⟨y, hy, _⟩ := AY hj
        simp only [DW, AO hx, ltD hy, AJ, AO hy, At hy (show x.types.length ≤ 9223372036854775807 by omega)]
        simp only [BF]
        repeat' split
        all_goals first | exact .inl ⟨rfl, trivial⟩ | exact .inr ⟨_, rfl, trivial⟩)
       (fun _ => ⟨.inl (), by simp only [DW, AO hx, ltI, AI], trivial⟩)
      unfold aBw
      rw [e2, AB]
      rcases t2 with _ | _
      ·refine .inl ⟨rfl, fun d hd => ?_⟩
       rw [hx] at hd; cases hd
       have : k = i := by omega
       rw [hk, this]
      ·exact .inr ⟨_, rfl, by simp⟩)
  (fun hP => ⟨.inl (), by simp only [DV, ltI, AI], fun j d hd => hP j (Fz hd) d hd⟩)
 unfold aBu
 rw [e1, AB]
 rcases t1 with _ | r
 ·exact ⟨_, rfl, fun _ => Q1⟩
 ·exact ⟨_, rfl, fun h => absurd h Q1⟩
theorem aG1 (op : Int) : ∃ r, Zn op 0 0 = some r := by
 unfold Zn
 rw [show Qj 0 0 = some (AA .add .i64 0 0, true) by simp [Qj, AD], show Zm 0 0 = some (AA .sub .i64 0 0, true) by simp [Zm, AD], show Qk 0 0 = some (0, true) by simp [Qk, AD], show Ql 0 0 = some (0, 0, 7) by simp [Ql, AD]]
 simp only [AB, Zs, Bool.not_true, AI]
 refine I7 ?_
 repeat' first | exact ⟨_, rfl, trivial⟩ | refine A4 (fun _ => ?_) (fun _ => ?_) | refine N0 (fun _ => ?_) (fun _ => ?_)
theorem aTl (a b : Int) : ∃ r, Zj ⟨a, 0, [], false⟩ ⟨b, 0, [], false⟩ = some r := by
 unfold Zj
 have hb : Yn [] [] = some false := by
  unfold Yn aD2
  rw [Ae]
  simp [FR, AD, BB, AF, BI]
 simp only [hb, AB]
 refine I7 ?_
 repeat' first | exact ⟨_, rfl, trivial⟩ | refine A4 (fun _ => ?_) (fun _ => ?_) | refine CF (fun _ => ?_) (fun _ => ?_) | refine N0 (fun _ => ?_) (fun _ => ?_)
theorem aTw (op a b : Int) : ∃ r, Q3 op ⟨a, 0, [], false⟩ ⟨b, 0, [], false⟩ = some r := by
 unfold Q3
 obtain ⟨r1, h1⟩ := aTl a b
 obtain ⟨r2, h2⟩ := aTl b a
 obtain ⟨r3, h3⟩ := aG1 9
 obtain ⟨r4, h4⟩ := aG1 op
 have h4' : Zn op 0 0 = some r4 := h4
 have hc : ∀ {β : Type} (k : Option β), AZ (([] : List UInt8).length + ([] : List UInt8).length ≤ 9223372036854775807) k = k := fun k => BK (by simp) k
 simp only [Zf, AB, h1, h2, h3, h4', hc, AI]
 refine I7 ?_
 repeat' first | exact ⟨_, rfl, trivial⟩ | refine A4 (fun _ => ?_) (fun _ => ?_) | refine CF (fun _ => ?_) (fun _ => ?_) | refine N0 (fun _ => ?_) (fun _ => ?_)
theorem aMl (op a b : Int) : ∃ r, Zt op a b = some r ∧ (r ≠ 0 → a ≠ 0) := by
 unfold Zt
 obtain ⟨r, hr⟩ := aTw op a b
 rw [hr]
 simp only [AB]
 refine A4 (fun _ => ⟨_, rfl, by simp⟩) (fun h => ?_)
 repeat' first | exact ⟨_, rfl, fun _ => by omega⟩ | refine A4 (fun _ => ?_) (fun _ => ?_) | refine CF (fun _ => ?_) (fun _ => ?_)
theorem W3 {α : Type} {l : List α} {i : Int} (h0 : 0 ≤ i) (h1 : i < l.length) : ∃ x, l[i.toNat]? = some x ∧ i = (i.toNat : Int) := by
 obtain ⟨x, hx, _⟩ := AY (l := l) (i := i.toNat) (by omega)
 exact ⟨x, hx, by omega⟩
theorem Cs {α β : Type} {l : List α} {i : Int} {x : α} (h : l[i.toNat]? = some x) (h0 : 0 ≤ i) (k : α → Option β) : AV l i k = k x := by
 have e : AV l ((i.toNat : Nat) : Int) k = k x := AO h k
 rwa [show ((i.toNat : Nat) : Int) = i by omega] at e
theorem aFg (q : AE) (hq : q.nodes.length ≤ 2048) : ∀ (n : Nat) (i : Int), -9223372036854775000 ≤ i → 0 < n → i + 1 < n → ∃ r, aGz n q i = some r ∧ (r.1 ≠ 0 → 0 ≤ r.2.2 ∧ r.2.2 ≤ i ∧ i < q.nodes.length) := by
 intro n
 induction n with
 | zero => intro i h0 h; omega
 | succ n ih =>
  intro i h0 _ h
  show ∃ r, aI9 (aGz n) q i = some r ∧ _
  unfold aI9
  refine A4 (fun _ => ⟨_, rfl, by simp⟩) (fun hi0 => ?_)
  refine A4 (fun _ => ⟨_, rfl, by simp⟩) (fun hi1 => ?_)
  obtain ⟨x, hx, _⟩ := W3 (l := q.nodes) (i := i) (by omega) (by omega)
  rw [Cs hx (by omega)]
  obtain ⟨b, hb⟩ := aG0 x.value
  have e1 : AA .sub .i64 i 1 = i - 1 := Pi (by omega) (by omega)
  rw [e1]
  refine A4 (fun _ => ?_) (fun _ => ?_)
  ·refine CF (fun _ => ⟨_, rfl, by simp⟩) (fun _ => ?_)
   refine CF (fun _ => ⟨_, rfl, by simp⟩) (fun _ => ?_)
   refine BA hb ?_
   exact Df (fun _ => ⟨_, rfl, by simp⟩) (fun _ => ⟨_, rfl, fun _ => ⟨by simp only; omega, Int.le_refl _, by omega⟩⟩)
  refine Df (fun _ => ⟨_, rfl, by simp⟩) (fun _ => ?_)
  refine A4 (fun _ => ?_) (fun _ => ?_)
  ·refine A4 (fun _ => ⟨_, rfl, by simp⟩) (fun _ => ?_)
   refine A4 (fun _ => ⟨_, rfl, by simp⟩) (fun _ => ?_)
   refine CF (fun _ => ⟨_, rfl, by simp⟩) (fun _ => ?_)
   obtain ⟨y, hy, _⟩ := W3 (l := q.quants) (i := x.a) (by omega) (by omega)
   rw [Cs hy (by omega)]
   exact ⟨_, rfl, fun _ => ⟨by simp only; omega, Int.le_refl _, by omega⟩⟩
  refine A4 (fun _ => ?_) (fun _ => ?_)
  ·refine A4 (fun _ => ⟨_, rfl, by simp⟩) (fun _ => ?_)
   refine A4 (fun _ => ⟨_, rfl, by simp⟩) (fun _ => ?_)
   refine CF (fun _ => ⟨_, rfl, by simp⟩) (fun _ => ?_)
   obtain ⟨y, hy, _⟩ := W3 (l := q.frees) (i := x.a) (by omega) (by omega)
   rw [Cs hy (by omega)]
   exact ⟨_, rfl, fun _ => ⟨by simp only; omega, Int.le_refl _, by omega⟩⟩
  refine A4 (fun _ => ⟨_, rfl, by simp⟩) (fun _ => ?_)
  refine A4 (fun _ => ⟨_, rfl, by simp⟩) (fun _ => ?_)
  obtain ⟨r5, h5, p5⟩ := ih (i - 1) (by omega) (by omega) (by omega)
  refine BA h5 ?_
  refine A4 (fun _ => ?_) (fun _ => ?_)
  ·refine A4 (fun _ => ⟨_, rfl, by simp⟩) (fun hk => ?_)
   refine CF (fun _ => ⟨_, rfl, by simp⟩) (fun _ => ?_)
   refine CF (fun _ => ⟨_, rfl, by simp⟩) (fun _ => ?_)
   obtain ⟨r6, h6, _⟩ := aMl x.op r5.1 r5.1
   refine BA h6 ?_
   have := p5 hk
   exact ⟨_, rfl, fun _ => by simp only; omega⟩
  ·refine A4 (fun _ => ⟨_, rfl, by simp⟩) (fun hk => ?_)
   have hp := p5 hk
   have e2 : AA .sub .i64 r5.2.2 1 = r5.2.2 - 1 := Pi (by omega) (by omega)
   rw [e2]
   refine CF (fun _ => ⟨_, rfl, by simp⟩) (fun _ => ?_)
   refine CF (fun _ => ⟨_, rfl, by simp⟩) (fun _ => ?_)
   obtain ⟨r7, h7, p7⟩ := ih (r5.2.2 - 1) (by omega) (by omega) (by omega)
   refine BA h7 ?_
   obtain ⟨r8, h8, p8⟩ := aMl x.op r7.1 r5.1
   refine BA h8 ?_
   refine ⟨_, rfl, fun h => ?_⟩
   have := p7 (p8 h)
   simp only; omega
theorem Pl (q : AE) (hq : q.nodes.length ≤ 2048) (f i : Int) (hi : -9223372036854775808 ≤ i ∧ i ≤ 9223372036854775807) : ∃ r, Q0 q f i = some r ∧ (r.1 ≠ 0 → 0 ≤ i ∧ i < q.nodes.length) := by
 unfold Q0 Yx
 by_cases h : 0 ≤ i ∧ i < q.nodes.length
 ·obtain ⟨r, hr, _⟩ := aFg q hq 100000 i (by omega) (by omega) (by omega)
  refine BA hr ?_
  refine A4 (fun _ => ⟨_, rfl, by simp⟩) (fun _ => ?_)
  exact CF (fun _ => ⟨_, rfl, by simp⟩) (fun _ => ⟨_, rfl, fun _ => h⟩)
 ·have hz : aGz 100000 q i = some (0, 0, 0) := by
   show aI9 (aGz 99999) q i = _
   unfold aI9
   rw [CX, CX]
   split
   ·rfl
   ·rw [if_pos (by omega)]
  refine BA hz ?_
  exact ⟨(0, 0), by simp [AD], by simp⟩
theorem KF (s : X5) (v : Int) (hs : s.args.length ≤ 9223372036854775807) : ∃ r, Yu s v = some r := by
 unfold Yu aI7
 obtain ⟨t, ht, _⟩ := Ah (step := fun i => HJ v s i) s.args.length (fun _ => True) (fun _ => True)
  (fun i hi => by
   obtain ⟨x, hx, _⟩ := AY hi
   simp only [HJ, ltD hx, AJ, AO hx, At hx hs]
   simp only [BF]
   repeat' split
   all_goals first | exact .inl ⟨rfl, trivial⟩ | exact .inr ⟨_, rfl, trivial⟩)
  (fun _ => ⟨.inl (), by simp only [HJ, ltI, AI], trivial⟩)
 rw [ht, AB]
 rcases t with _ | _ <;> exact ⟨_, rfl⟩
theorem Vo (q : AE) (s : X5) (hs : s.args.length ≤ 9223372036854775807) (hq : q.nodes.length ≤ 2048) (f t : Int) (hf : 0 ≤ f) (ht : t ≤ q.nodes.length) : ∃ r, Z9 q s f t = some r := by
 unfold Z9 aJh
 obtain ⟨u, hu, _⟩ := A5 (step := fun i => HR t q s i) (fun i => 0 ≤ i) (fun i => (t - i).toNat) (fun _ => True)
  (by
   intro i hi
   by_cases h : i < t
   ·obtain ⟨x, hx, _⟩ := W3 (l := q.nodes) (i := i) hi (by omega)
    obtain ⟨b, hb⟩ := KF s x.a hs
    simp only [HR, h, decide_true, AJ, Cs hx hi, hb, AB, KT (a := i) (b := 1) (by omega) (by omega)]
    simp only [BF]
    repeat' split
    all_goals first | exact .inl ⟨_, rfl, trivial⟩ | exact .inr ⟨_, rfl, by omega, by omega⟩
   ·exact .inl ⟨.inl (), by simp [HR, h, AD], trivial⟩)
  f hf
 rw [hu, AB]
 rcases u with _ | _ <;> exact ⟨_, rfl⟩
def aLb (n : Int) : Prop := -9223372036854775808 ≤ n ∧ n ≤ 9223372036854775807
structure KJ (t : Xm) : Prop where
 guard : aLb t.guard
 sets : ∀ s ∈ t.sets, aLb s.expr
theorem aGo (q : AE) (hF : DJ q) (t : Xm) (hT : KJ t) (hts : t.sets.length ≤ 12) (f : Int) (hf : 0 ≤ f) (hfl : f ≤ q.nodes.length) :
 ∃ r, Xw q t f = some r ∧ (r.2 = true → 0 ≤ t.symbol ∧ t.symbol < q.symbols.length ∧ 0 ≤ r.1 ∧ r.1 ≤ q.nodes.length ∧ (t.guard = -1 ∨ 0 ≤ t.guard) ∧ (0 ≤ t.from_ ∧ t.from_ < q.states.length) ∧ 0 ≤ t.to ∧ t.to < q.states.length) := by
 have hn : q.nodes.length ≤ 2048 := Nat.le_trans hF.nodes (by decide)
 have hfr : q.frees.length ≤ 12 := hF.frees
 unfold Xw
 refine A4 (fun _ => ⟨_, rfl, by simp⟩) (fun ha => ?_)
 refine A4 (fun _ => ⟨_, rfl, by simp⟩) (fun hb => ?_)
 refine A4 (fun _ => ⟨_, rfl, by simp⟩) (fun hc => ?_)
 refine A4 (fun _ => ⟨_, rfl, by simp⟩) (fun hd => ?_)
 refine A4 (fun _ => ⟨_, rfl, by simp⟩) (fun hs0 => ?_)
 refine A4 (fun _ => ⟨_, rfl, by simp⟩) (fun hs1 => ?_)
 obtain ⟨o2, h2, p2⟩ : ∃ o, TH f f (!decide (t.guard = (-1))) q t = some o ∧ ∀ x, o = .inl x → 0 ≤ x ∧ x ≤ q.nodes.length ∧ (t.guard = -1 ∨ 0 ≤ t.guard) := by
  unfold TH
  refine CF (fun _ => ?_) (fun hg => ⟨_, rfl, fun x hx => by cases hx; exact ⟨hf, hfl, .inl hg⟩⟩)
  obtain ⟨r1, h1, p1⟩ := Pl q hn f t.guard hT.guard
  refine BA h1 ?_
  refine CF (fun _ => ⟨_, rfl, by simp⟩) (fun h3 => ?_)
  refine A4 (fun _ => ⟨_, rfl, by simp⟩) (fun _ => ?_)
  have := p1 (by omega)
  refine ⟨_, rfl, fun x hx => ?_⟩
  cases hx
  refine ⟨?_, ?_, .inr this.1⟩ <;> (rw [KT (by omega) (by omega)]; omega)
 refine BA h2 ?_
 rcases o2 with o3 | _
 ·have h3 := p2 o3 rfl
  rw [BU]
  unfold aIm
  obtain ⟨u, hu, pu⟩ := A5 (step := fun s : Int × Int => Gw f q t s.1 s.2) (fun s => ∃ i : Nat, s.2 = (i : Int) ∧ i ≤ t.sets.length ∧ 0 ≤ s.1 ∧ s.1 ≤ q.nodes.length) (fun s => (t.sets.length - s.2).toNat)
   (fun o => ∀ x, o = .inl x → 0 ≤ x ∧ x ≤ q.nodes.length)
   (by
    rintro ⟨w, s⟩ ⟨i, rfl, hi, hw0, hw1⟩
    simp only at hw0 hw1 ⊢
    by_cases he : i = t.sets.length
    ·subst he
     exact .inl ⟨.inl w, by simp only [Gw, ltI, AI], fun x hx => by cases hx; exact ⟨hw0, hw1⟩⟩
    ·obtain ⟨x, hx, _⟩ := AY (l := t.sets) (i := i) (by omega)
     obtain ⟨r6, h6, p6⟩ := Pl q hn w x.expr (hT.sets x (List.mem_of_getElem? hx))
     have h6' : Q0 q w x.expr = some r6 := h6
     simp only [Gw, ltD hx, AJ, AO hx, h6', AB, At hx (show t.sets.length ≤ 9223372036854775807 by omega)]
     by_cases g1 : x.free < 0
     ·exact .inl ⟨.inr (), by simp [g1, AD], by simp⟩
     by_cases g2 : (q.frees.length : Int) ≤ x.free
     ·exact .inl ⟨.inr (), by simp [g1, g2, AD], by simp⟩
     by_cases g3 : r6.1 = 0
     ·exact .inl ⟨.inr (), by simp [g1, g2, g3, AD], by simp⟩
     by_cases g4 : 64 < r6.2
     ·exact .inl ⟨.inr (), by simp [g1, g2, g3, g4, AD], by simp⟩
     obtain ⟨y, hy, _⟩ := W3 (l := q.frees) (i := x.free) (by omega) (by omega)
     by_cases g5 : r6.1 = y.init_.kind
     ·obtain ⟨t3, e3, _⟩ := Ah (step := fun s => Gx f (i : Int) q t x s) i (fun _ => True) (fun _ => True)
       (fun j hj => by
        obtain ⟨z, hz, _⟩ := AY (l := t.sets) (i := j) (by omega)
        have hlt : decide ((j : Int) < (i : Int)) = true := by simp; omega
        simp only [Gx, hlt, AJ, AO hz, At hz (show t.sets.length ≤ 9223372036854775807 by omega)]
        simp only [BF]
        split
        ·exact .inr ⟨_, rfl, trivial⟩
        ·exact .inl ⟨rfl, trivial⟩)
       (fun _ => ⟨.inl (), by simp only [Gx, ltI, AI], trivial⟩)
      have e3' : aIn f (i : Int) q t x 0 = some t3 := e3
      have hp := p6 g3
      rcases t3 with _ | _
      ·refine .inr ⟨(AA .add .i64 x.expr 1, ((i + 1 : Nat) : Int)), ?_, ⟨i + 1, rfl, by omega, ?_, ?_⟩, by simp only; omega⟩
       ·rw [CX, if_neg g1, CX, if_neg g2, CX, if_neg g3, CX, if_neg g4, Cs hy (show 0 ≤ x.free by omega)]
        simp only [g5, decide_true, Bool.not_true, AI, e3', AB, BU]
       ·simp only; rw [KT (by omega) (by omega)]; omega
       ·simp only; rw [KT (by omega) (by omega)]; omega
      ·refine .inl ⟨.inr (), ?_, by simp⟩
       rw [CX, if_neg g1, CX, if_neg g2, CX, if_neg g3, CX, if_neg g4, Cs hy (show 0 ≤ x.free by omega)]
       simp only [g5, decide_true, Bool.not_true, AI, e3', AB, Cx]
     ·refine .inl ⟨.inr (), ?_, by simp⟩
      rw [CX, if_neg g1, CX, if_neg g2, CX, if_neg g3, CX, if_neg g4, Cs hy (show 0 ≤ x.free by omega)]
      simp only [g5, decide_false, Bool.not_false, AJ])
   (o3, (0 : Int)) ⟨0, rfl, by omega, h3.1, h3.2.1⟩
  refine BA hu ?_
  rcases u with o13 | _
  ·rw [BU]
   have h13 := pu o13 rfl
   obtain ⟨x, hx, _⟩ := W3 (l := q.symbols) (i := t.symbol) (by omega) (by omega)
   rw [Cs hx (by omega)]
   obtain ⟨r16, h16⟩ := Vo q x (Nat.le_trans (hF.args x (List.mem_of_getElem? hx)) (by decide)) hn f o13 hf h13.2
   refine BA h16 ⟨_, rfl, fun _ => ⟨by omega, by omega, h13.1, h13.2, h3.2.2, ⟨by omega, by omega⟩, by omega, by omega⟩⟩
  ·exact ⟨_, rfl, by simp⟩
 ·exact ⟨_, rfl, by simp⟩
structure Pj (q : AE) (a : Av) : Prop where
 two : a.kind = 2 → 0 ≤ a.n ∧ a.n < q.quants.length
 three : a.kind = 3 → 0 ≤ a.n ∧ a.n < q.frees.length
 one : a.kind = 1 → vR a.value = true
theorem aOa (q : AE) (a : Av) (k : Int) : ∃ r, Q4 q a k = some r ∧ (r = true → Pj q a) := by
 unfold Q4
 have hb := aEm a.value
 refine A4 (fun h => ?_) (fun h1 => ?_)
 ·have ho : vR a.value = true → Pj q a := fun hv => ⟨fun h2 => by omega, fun h2 => by omega, fun _ => hv⟩
  refine A4 (fun _ => ?_) (fun _ => ⟨_, rfl, by simp⟩)
  refine BA hb ?_
  exact N0 (fun hv => ⟨_, rfl, fun _ => ho hv⟩) (fun _ => ⟨_, rfl, by simp⟩)
 refine Df (fun _ => ⟨_, rfl, by simp⟩) (fun _ => ?_)
 refine A4 (fun h2 => ?_) (fun h2 => ?_)
 ·refine A4 (fun h3 => ?_) (fun _ => ⟨_, rfl, by simp⟩)
  refine A4 (fun h4 => ?_) (fun _ => ⟨_, rfl, by simp⟩)
  obtain ⟨y, hy, _⟩ := W3 h3 h4
  rw [Cs hy h3]
  exact ⟨_, rfl, fun _ => ⟨fun _ => ⟨h3, h4⟩, fun h => by omega, fun h => by omega⟩⟩
 refine A4 (fun h5 => ?_) (fun h5 => ?_)
 ·refine A4 (fun h3 => ?_) (fun _ => ⟨_, rfl, by simp⟩)
  refine A4 (fun h4 => ?_) (fun _ => ⟨_, rfl, by simp⟩)
  obtain ⟨y, hy, _⟩ := W3 h3 h4
  rw [Cs hy h3]
  exact ⟨_, rfl, fun _ => ⟨fun h => by omega, fun _ => ⟨h3, h4⟩, fun h => by omega⟩⟩
 exact A4 (fun _ => ⟨_, rfl, fun _ => ⟨fun h => by omega, fun h => by omega, fun h => by omega⟩⟩) (fun _ => ⟨_, rfl, by simp⟩)
structure Px (q : AE) (s : X5) : Prop where
 event : 0 ≤ s.event
 decl : ∃ d, q.decls[s.event.toNat]? = some d ∧ s.args.length = d.types.length
 args : ∀ a ∈ s.args, Pj q a
theorem aRr (q : AE) (s : X5) (hs : s.args.length ≤ 12) : ∃ r, Z4 q s = some r ∧ (r = true → Px q s) := by
 unfold Z4
 refine A4 (fun _ => ⟨_, rfl, by simp⟩) (fun h0 => ?_)
 refine A4 (fun _ => ⟨_, rfl, by simp⟩) (fun h1 => ?_)
 obtain ⟨d, hd, _⟩ := W3 (l := q.decls) (i := s.event) (by omega) (by omega)
 rw [Cs hd (by omega)]
 refine CF (fun _ => ⟨_, rfl, by simp⟩) (fun h2 => ?_)
 obtain ⟨t, ht, hQ⟩ := Ah (step := fun i => HP q s i) s.args.length (fun i => ∀ a, s.args[i]? = some a → Pj q a) (fun t => t = .inl () → ∀ a ∈ s.args, Pj q a)
  (fun i hi => by
   obtain ⟨x, hx, _⟩ := AY hi
   obtain ⟨y, hy, _⟩ := AY (l := d.types) (i := i) (by omega)
   obtain ⟨b, hb, hbo⟩ := aOa q x y
   simp only [HP, ltD hx, AJ, AO hx, Cs hd (show 0 ≤ s.event by omega), AO hy, hb, AB, At hx (show s.args.length ≤ 9223372036854775807 by omega)]
   cases b with
   | false => exact .inr ⟨_, rfl, by simp⟩
   | true => exact .inl ⟨rfl, fun a ha => by rw [hx] at ha; cases ha; exact hbo rfl⟩)
  (fun hP => ⟨.inl (), by simp only [HP, ltI, AI], fun _ => EU hP⟩)
 refine BA ht ?_
 rcases t with _ | _
 ·exact ⟨_, rfl, fun _ => ⟨by omega, ⟨d, hd, by omega⟩, hQ rfl⟩⟩
 ·exact ⟨_, rfl, by simp⟩
theorem II (a b : X5) (ha : a.args.length ≤ 9223372036854775807) : ∃ r, Zb a b = some r := by
 unfold Zb
 refine I7 ?_
 refine CF (fun _ => ⟨_, rfl, trivial⟩) (fun _ => ?_)
 refine CF (fun _ => ⟨_, rfl, trivial⟩) (fun h => ?_)
 obtain ⟨t, ht, _⟩ := Ah (step := fun i => HT a b i) a.args.length (fun _ => True) (fun _ => True)
  (fun i hi => by
   obtain ⟨x, hx, _⟩ := AY hi
   obtain ⟨y, hy, _⟩ := AY (l := b.args) (i := i) (by omega)
   simp only [HT, ltD hx, AJ, AO hx, AO hy, At hx ha]
   simp only [BF]
   split
   ·exact .inr ⟨_, rfl, trivial⟩
   ·exact .inl ⟨rfl, trivial⟩)
  (fun _ => ⟨.inl (), by simp only [HT, ltI, AI], trivial⟩)
 refine BA ht ?_
 rcases t with _ | _ <;> exact ⟨_, rfl, trivial⟩
theorem aPn (q : AE) (hF : DJ q) (hT : ∀ t ∈ q.trans, 0 ≤ t.symbol ∧ t.symbol < q.symbols.length) : ∃ r, X8 q = some r ∧ (r = true → ∀ s ∈ q.symbols, Px q s) := by
 have hsy := hF.symbols; have htr := hF.trans; have hqu := hF.quants
 unfold X8
 rw [BK ⟨by omega, BH (by omega) (by decide)⟩]
 obtain ⟨o9, h9, hl9⟩ := A5 (step := fun s : Int × List Bool × List Int => GL q s.1 s.2.1 s.2.2) (fun s => ∃ i : Nat, s.1 = (i : Int) ∧ i ≤ q.trans.length ∧ s.2.1.length = q.symbols.length ∧ s.2.2.length ≤ i) (fun s => (q.trans.length - s.1).toNat) (fun o => o.length ≤ 12)
  (by
   rintro ⟨s, u, w⟩ ⟨i, rfl, hi, hu, hw⟩
   simp only at hu hw ⊢
   by_cases he : i = q.trans.length
   ·subst he
    exact .inl ⟨w, by simp only [GL, ltI, AI], by omega⟩
   ·obtain ⟨x, hx, _⟩ := AY (l := q.trans) (i := i) (by omega)
    have hxs := hT x (List.mem_of_getElem? hx)
    obtain ⟨y, hy, _⟩ := W3 (l := u) (i := x.symbol) hxs.1 (by omega)
    have hb5 : ∃ w', QF (i : Int) x.symbol (!y) q u w = some w' ∧ w'.length ≤ i + 1 := by
     unfold QF
     refine Df (fun _ => ?_) (fun _ => ⟨_, rfl, by omega⟩)
     rw [Kb (by simp; omega) (by decide)]
     exact ⟨_, rfl, by simpa using hw⟩
    obtain ⟨w', hb, hw'⟩ := hb5
    refine .inr ⟨(((i + 1 : Nat) : Int), u.set x.symbol.toNat true, w'), ?_, ⟨i + 1, rfl, by omega, by simpa using hu, hw'⟩, by simp only; omega⟩
    simp only [GL, ltD hx, AJ, At hx (show q.trans.length ≤ 9223372036854775807 by omega)]
    unfold YC
    rw [AO hx, BK (by omega), Cs hy hxs.1, hb, AB, BK (by omega), BK (by omega)]
    rfl)
  ((0 : Int), List.replicate (q.symbols.length : Int).toNat false, ([] : List Int)) ⟨0, rfl, by omega, by simp, by simp⟩
 refine BA h9 ?_
 obtain ⟨t1, e1, _⟩ := Ah (step := fun s => GM q o9 s) o9.length (fun _ => True) (fun _ => True)
  (fun i hi => by
   obtain ⟨x, hx, _⟩ := AY hi
   simp only [GM, ltD hx, AJ, AO hx, At hx (show o9.length ≤ 9223372036854775807 by omega)]
   simp only [BF]
   split
   ·exact .inr ⟨_, rfl, trivial⟩
   ·exact .inl ⟨rfl, trivial⟩)
  (fun _ => ⟨.inl (), by simp only [GM, ltI, AI], trivial⟩)
 refine BA e1 ?_
 rcases t1 with _ | _
 case inr => exact ⟨_, rfl, by simp⟩
 rw [BU]
 have hsl : q.symbols.length ≤ 9223372036854775807 := by omega
 obtain ⟨t2, e2, Q2⟩ := Ah (step := fun s => GN q s) q.symbols.length (fun i => ∀ s, q.symbols[i]? = some s → Px q s) (fun t => t = .inl () → ∀ s ∈ q.symbols, Px q s)
  (fun i hi => by
   obtain ⟨x, hx, _⟩ := AY hi
   have hxa := hF.args x (List.mem_of_getElem? hx)
   obtain ⟨b, hb, hbo⟩ := aRr q x hxa
   simp only [GN, ltD hx, AJ, AO hx, hb, AB, At hx hsl]
   cases b with
   | false => exact .inr ⟨_, rfl, by simp⟩
   | true =>
    simp only [Bool.not_true, AI]
    obtain ⟨t3, e3, _⟩ := Ah (step := fun s => GO (i : Int) q s) i (fun _ => True) (fun _ => True)
     (fun j hj => by
      obtain ⟨y, hy, _⟩ := AY (l := q.symbols) (i := j) (by omega)
      obtain ⟨c, hc⟩ := II x y (by omega)
      have hlt : decide ((j : Int) < (i : Int)) = true := by simp; omega
      simp only [GO, hlt, AJ, AO hx, AO hy, hc, AB, At hy hsl]
      simp only [BF]
      split
      ·exact .inr ⟨_, rfl, trivial⟩
      ·exact .inl ⟨rfl, trivial⟩)
     (fun _ => ⟨.inl (), by simp only [GO, ltI, AI], trivial⟩)
    unfold aH7
    rw [e3, AB]
    rcases t3 with _ | _
    ·exact .inl ⟨rfl, fun s hs => by rw [hx] at hs; cases hs; exact hbo rfl⟩
    ·exact .inr ⟨_, rfl, by simp⟩)
  (fun hP => ⟨.inl (), by simp only [GN, ltI, AI], fun _ => EU hP⟩)
 refine BA e2 ?_
 rcases t2 with _ | _
 case inr => exact ⟨_, rfl, by simp⟩
 rw [BU]
 obtain ⟨t4, e4, _⟩ := Ah (step := fun s => GP q s) q.quants.length (fun _ => True) (fun _ => True)
  (fun i hi => by
   have hlt : decide ((i : Int) < (q.quants.length : Int)) = true := by simp; omega
   obtain ⟨o, ho, _⟩ := A5 (step := fun s : Bool × Int => Dp (i : Int) q s.1 s.2) (fun s => ∃ j : Nat, s.2 = (j : Int) ∧ j ≤ q.symbols.length) (fun s => (q.symbols.length - s.2).toNat) (fun _ => True)
    (by
     rintro ⟨b, s⟩ ⟨j, rfl, hj⟩
     simp only
     by_cases he : j = q.symbols.length
     ·subst he; exact .inl ⟨b, by simp only [Dp, ltI, AI], trivial⟩
     ·obtain ⟨x, hx, _⟩ := AY (l := q.symbols) (i := j) (by omega)
      have hxa := hF.args x (List.mem_of_getElem? hx)
      obtain ⟨c, hc⟩ := KF x (i : Int) (by omega)
      have hc' : Yu x (i : Int) = some c := hc
      cases b with
      | true => exact .inr ⟨(true, ((j + 1 : Nat) : Int)), by simp only [Dp, ltD hx, AJ, At hx hsl], ⟨j + 1, rfl, by omega⟩, by simp only; omega⟩
      | false => exact .inr ⟨(c, ((j + 1 : Nat) : Int)), by simp only [Dp, ltD hx, AJ, AI, AO hx, hc', AB, At hx hsl], ⟨j + 1, rfl, by omega⟩, by simp only; omega⟩)
    (false, (0 : Int)) ⟨0, rfl, by omega⟩
   have ho' : QG (i : Int) q false 0 = some o := ho
   simp only [GP, hlt, AJ, ho', AB, J9 (show i < 9223372036854775807 by omega)]
   simp only [BF]
   split
   ·exact .inr ⟨_, rfl, trivial⟩
   ·exact .inl ⟨rfl, trivial⟩)
  (fun _ => ⟨.inl (), by simp only [GP, ltI, AI], trivial⟩)
 refine BA e4 ?_
 rcases t4 with _ | _
 ·exact ⟨_, rfl, fun _ => Q2 rfl⟩
 ·exact ⟨_, rfl, by simp⟩
theorem LJ (l : List (List UInt8)) (at' : Nat) (h : at' < l.length) (hl : l.length ≤ 9223372036854775807) : ∃ r, Z3 l (at' : Int) = some r := by
 unfold Z3
 refine I7 ?_
 obtain ⟨y, hy, _⟩ := AY h
 obtain ⟨t, ht, _⟩ := Ah (step := fun i => HO l (at' : Int) i) at' (fun _ => True) (fun _ => True)
  (fun i hi => by
   obtain ⟨x, hx, _⟩ := AY (l := l) (i := i) (by omega)
   have hlt : decide ((i : Int) < (at' : Int)) = true := by simp; omega
   simp only [HO, hlt, AJ, AO hx, AO hy, At hx hl]
   simp only [BF]
   split
   ·exact .inr ⟨_, rfl, trivial⟩
   ·exact .inl ⟨rfl, trivial⟩)
  (fun _ => ⟨.inl (), by simp only [HO, ltI, AI], trivial⟩)
 refine BA ht ?_
 rcases t with _ | _ <;> exact ⟨_, rfl, trivial⟩
theorem aLs (q : AE) (hF : DJ q) : ∃ r, Xj q = some r := by
 have h1 := hF.quants; have h2 := hF.frees; have h3 := hF.states
 unfold Xj
 refine I7 ?_
 obtain ⟨o7, e7, p7⟩ := A5 (step := fun s : Int × List (List UInt8) => Gi q s.1 s.2) (fun s => ∃ i : Nat, s.1 = (i : Int) ∧ i ≤ q.quants.length ∧ s.2.length ≤ i) (fun s => (q.quants.length - s.1).toNat) (fun o => ∀ w, o = .inl w → w.length ≤ 9)
  (by
   rintro ⟨s, w⟩ ⟨i, rfl, hi, hw⟩
   simp only at hw ⊢
   by_cases he : i = q.quants.length
   ·subst he; exact .inl ⟨.inl w, by simp only [Gi, ltI, AI], fun w' hw' => by cases hw'; omega⟩
   ·obtain ⟨x, hx, _⟩ := AY (l := q.quants) (i := i) (by omega)
    simp only [Gi, ltD hx, AJ, AO hx, At hx (show q.quants.length ≤ 9223372036854775807 by omega)]
    rw [Kb (by simp; omega) (by decide)]
    simp only [BF]
    split
    ·exact .inl ⟨_, rfl, by simp⟩
    ·split
     ·exact .inl ⟨_, rfl, by simp⟩
     ·exact .inr ⟨_, rfl, ⟨i + 1, rfl, by omega, by simpa using hw⟩, by simp only; omega⟩)
  ((0 : Int), ([] : List (List UInt8))) ⟨0, rfl, by omega, by simp⟩
 refine BA e7 ?_
 rcases o7 with o8 | _
 case inr => exact ⟨_, rfl, trivial⟩
 rw [BU]
 have hw8 := p7 o8 rfl
 obtain ⟨o13, e13, p13⟩ := A5 (step := fun s : Int × List (List UInt8) => Gj q s.1 s.2) (fun s => ∃ i : Nat, s.1 = (i : Int) ∧ i ≤ q.frees.length ∧ s.2.length ≤ 9 + i) (fun s => (q.frees.length - s.1).toNat) (fun o => ∀ w, o = .inl w → w.length ≤ 21)
  (by
   rintro ⟨s, w⟩ ⟨i, rfl, hi, hw⟩
   simp only at hw ⊢
   by_cases he : i = q.frees.length
   ·subst he; exact .inl ⟨.inl w, by simp only [Gj, ltI, AI], fun w' hw' => by cases hw'; omega⟩
   ·obtain ⟨x, hx, _⟩ := AY (l := q.frees) (i := i) (by omega)
    obtain ⟨b, hb⟩ := aG0 x.init_
    simp only [Gj, ltD hx, AJ, AO hx, hb, AB, At hx (show q.frees.length ≤ 9223372036854775807 by omega)]
    rw [Kb (by simp; omega) (by decide)]
    simp only [BF]
    split
    ·exact .inl ⟨_, rfl, by simp⟩
    ·exact .inr ⟨_, rfl, ⟨i + 1, rfl, by omega, by simp; omega⟩, by simp only; omega⟩)
  ((0 : Int), o8) ⟨0, rfl, by omega, by simpa using hw8⟩
 refine BA e13 ?_
 rcases o13 with o14 | _
 case inr => exact ⟨_, rfl, trivial⟩
 rw [BU]
 have hw14 := p13 o14 rfl
 obtain ⟨t, ht, _⟩ := Ah (step := fun i => Gk q o14 i) o14.length (fun _ => True) (fun _ => True)
  (fun i hi => by
   obtain ⟨x, hx, _⟩ := AY hi
   obtain ⟨b, hb⟩ := Nh x
   obtain ⟨c, hc⟩ := LJ o14 i hi (by omega)
   simp only [Gk, ltD hx, AJ, AO hx, hb, hc, AB, At hx (show o14.length ≤ 9223372036854775807 by omega)]
   simp only [BF]
   repeat' split
   all_goals first | exact .inl ⟨rfl, trivial⟩ | exact .inr ⟨_, rfl, trivial⟩)
  (fun _ => ⟨.inl (), by simp only [Gk, ltI, AI], trivial⟩)
 refine BA ht ?_
 rcases t with _ | _
 case inr => exact ⟨_, rfl, trivial⟩
 rw [BU]
 obtain ⟨o30, e30, _⟩ := A5 (step := fun s : Int × List (List UInt8) => Gm q s.1 s.2) (fun s => ∃ i : Nat, s.1 = (i : Int) ∧ i ≤ q.states.length ∧ s.2.length = i) (fun s => (q.states.length - s.1).toNat) (fun _ => True)
  (by
   rintro ⟨s, w⟩ ⟨i, rfl, hi, hw⟩
   simp only at hw ⊢
   by_cases he : i = q.states.length
   ·subst he; exact .inl ⟨.inl (), by simp only [Gm, ltI, AI], trivial⟩
   ·obtain ⟨x, hx, _⟩ := AY (l := q.states) (i := i) (by omega)
    have hg : (w ++ [x.name])[i]? = some x.name := by rw [← hw]; simp
    obtain ⟨b, hb⟩ := Nh x.name
    obtain ⟨c, hc⟩ := LJ (w ++ [x.name]) i (by simp; omega) (by simp; omega)
    simp only [Gm, ltD hx, AJ, AO hx, At hx (show q.states.length ≤ 9223372036854775807 by omega)]
    rw [Kb (by simp; omega) (by decide), AO hg, hb, AB, hc]
    simp only [AB, BF]
    split
    ·exact .inl ⟨_, rfl, trivial⟩
    ·split
     ·exact .inl ⟨_, rfl, trivial⟩
     ·exact .inr ⟨_, rfl, ⟨i + 1, rfl, by omega, by simp; omega⟩, by simp only; omega⟩)
  ((0 : Int), ([] : List (List UInt8))) ⟨0, rfl, by omega, by simp⟩
 refine BA e30 ?_
 rcases o30 with _ | _
 ·obtain ⟨b, hb⟩ := Nh q.name
  rw [BU]
  exact BA hb ⟨_, rfl, trivial⟩
 ·exact ⟨_, rfl, trivial⟩
structure A6 (q : AE) : Prop where
 decls : LT q.decls
 quants : q.quants.length ≤ 8
 symbols : ∀ s ∈ q.symbols, Px q s
 guards : ∀ t ∈ q.trans, t.guard = -1 ∨ 0 ≤ t.guard
 ends : ∀ t ∈ q.trans, (0 ≤ t.symbol ∧ t.symbol < q.symbols.length) ∧ (0 ≤ t.from_ ∧ t.from_ < q.states.length) ∧ 0 ≤ t.to ∧ t.to < q.states.length
 fires : ∀ t ∈ q.trans, ∃ f r, Xw q t f = some (r, true)
theorem aRe (q : AE) (hF : DJ q) (hW : ∀ t ∈ q.trans, KJ t) : ∃ r, Yr q = some r ∧ (r = true → A6 q) := by
 have h1 := hF.decls; have h2 := hF.trans
 unfold Yr
 obtain ⟨r1, e1, p1⟩ := aQl q.decls (by omega)
 refine BA e1 ?_
 refine CF (fun _ => ⟨_, rfl, by simp⟩) (fun hz => ?_)
 refine A4 (fun _ => ⟨_, rfl, by simp⟩) (fun hq => ?_)
 refine A4 (fun _ => ⟨_, rfl, by simp⟩) (fun _ => ?_)
 refine A4 (fun _ => ⟨_, rfl, by simp⟩) (fun _ => ?_)
 refine A4 (fun _ => ⟨_, rfl, by simp⟩) (fun _ => ?_)
 refine A4 (fun _ => ⟨_, rfl, by simp⟩) (fun _ => ?_)
 refine A4 (fun _ => ⟨_, rfl, by simp⟩) (fun _ => ?_)
 refine A4 (fun _ => ⟨_, rfl, by simp⟩) (fun _ => ?_)
 refine A4 (fun _ => ⟨_, rfl, by simp⟩) (fun _ => ?_)
 obtain ⟨r2, e2⟩ := aLs q hF
 refine BA e2 ?_
 refine Df (fun _ => ⟨_, rfl, by simp⟩) (fun _ => ?_)
 obtain ⟨o5, e5, p5⟩ := A5 (step := fun s : Int × Int => HG q s.1 s.2) (fun s => ∃ i : Nat, s.2 = (i : Int) ∧ i ≤ q.trans.length ∧ 0 ≤ s.1 ∧ s.1 ≤ q.nodes.length ∧ ∀ j, j < i → ∀ t, q.trans[j]? = some t → 0 ≤ t.symbol ∧ t.symbol < q.symbols.length ∧ (t.guard = -1 ∨ 0 ≤ t.guard) ∧ (0 ≤ t.from_ ∧ t.from_ < q.states.length) ∧ 0 ≤ t.to ∧ t.to < q.states.length ∧ ∃ f r, Xw q t f = some (r, true)) (fun s => (q.trans.length - s.2).toNat)
  (fun o => ∀ w, o = .inl w → ∀ t ∈ q.trans, 0 ≤ t.symbol ∧ t.symbol < q.symbols.length ∧ (t.guard = -1 ∨ 0 ≤ t.guard) ∧ (0 ≤ t.from_ ∧ t.from_ < q.states.length) ∧ 0 ≤ t.to ∧ t.to < q.states.length ∧ ∃ f r, Xw q t f = some (r, true))
  (by
   rintro ⟨w, s⟩ ⟨i, rfl, hi, hw0, hw1, hP⟩
   simp only at hw0 hw1 hP ⊢
   by_cases he : i = q.trans.length
   ·subst he; exact .inl ⟨.inl w, by simp only [HG, ltI, AI], fun _ _ => EU hP⟩
   ·obtain ⟨x, hx, _⟩ := AY (l := q.trans) (i := i) (by omega)
    have hxm := List.mem_of_getElem? hx
    obtain ⟨r4, e4, p4⟩ := aGo q hF x (hW x hxm) (hF.sets x hxm) w hw0 hw1
    simp only [HG, ltD hx, AJ, AO hx, e4, AB, At hx (show q.trans.length ≤ 9223372036854775807 by omega)]
    cases hb : r4.2 with
    | false => exact .inl ⟨.inr (), rfl, by simp⟩
    | true =>
     have hp := p4 hb
     refine .inr ⟨(r4.1, ((i + 1 : Nat) : Int)), rfl, ⟨i + 1, rfl, by omega, hp.2.2.1, hp.2.2.2.1, fun j hj t ht => ?_⟩, by simp only; omega⟩
     rcases Nat.lt_or_ge j i with h | h
     ·exact hP j h t ht
     ·have : j = i := by omega
      subst this; rw [hx] at ht; cases ht; exact ⟨hp.1, hp.2.1, hp.2.2.2.2.1, hp.2.2.2.2.2.1, hp.2.2.2.2.2.2.1, hp.2.2.2.2.2.2.2, w, r4.1, by rw [e4, ← hb]⟩)
  ((0 : Int), (0 : Int)) ⟨0, rfl, by omega, by simp, by simp, fun j hj => by omega⟩
 refine BA e5 ?_
 rcases o5 with o6 | _
 ·rw [BU]
  refine A4 (fun _ => ?_) (fun _ => ⟨_, rfl, by simp⟩)
  obtain ⟨r8, e8, p8⟩ := aPn q hF (fun t ht => ⟨(p5 o6 rfl t ht).1, (p5 o6 rfl t ht).2.1⟩)
  refine BA e8 ⟨_, rfl, fun hr => ⟨p1 hz, by omega, p8 hr, fun t ht => (p5 o6 rfl t ht).2.2.1, fun t ht => ⟨⟨(p5 o6 rfl t ht).1, (p5 o6 rfl t ht).2.1⟩, (p5 o6 rfl t ht).2.2.2.1, (p5 o6 rfl t ht).2.2.2.2.1, (p5 o6 rfl t ht).2.2.2.2.2.1⟩, fun t ht => (p5 o6 rfl t ht).2.2.2.2.2.2⟩⟩
 ·exact ⟨_, rfl, by simp⟩
theorem aOh (v : X0) : Qb v = some (vR v) := by
 rw [← aEm]
 obtain ⟨k, n, s, b⟩ := v
 unfold Qb Z2 Qw Qx Zo
 simp only [AB, CX, X0.eqb_dec, X0.mk.injEq, BF]
 by_cases h1 : k = 1
 ·subst h1; by_cases hs : s = [] <;> cases b <;> simp [hs]
 by_cases h2 : k = 2
 ·subst h2; by_cases hn : n = 0 <;> cases b <;> simp [hn]
 by_cases h3 : k = 3
 ·subst h3; by_cases hn : n = 0 <;> by_cases hs : s = [] <;> cases b <;> simp [hn, hs]
 ·simp [h1, h2, h3]
def KX (a : List X0) (t : List Int) : Bool := decide (a.length = t.length) && (a.zip t).all fun p => decide (p.1.kind = p.2) && vR p.1
def eR (l : List X6) (e : X3) : Bool := match EW l e.name with
 | none => false
 | some i => match l[i]? with
  | none => false
  | some d => KX e.args d.types
theorem KE (a : List X0) (t : List Int) (ha : a.length ≤ 9223372036854775807) : Zc a t = some (KX a t) := by
 unfold Zc KX
 rw [BF, Mj]
 by_cases hl : a.length = t.length
 ·rw [if_neg (by simp [hl])]
  unfold aJj
  have hz : (a.zip t).length = a.length := by simp [hl]
  rw [Ev (a.zip t) (fun p => decide (p.1.kind = p.2) && vR p.1) (.inl () : Unit ⊕ Unit) (.inr ())
   (fun i z hz => by
    obtain ⟨hx, hy⟩ := M5 hz
    simp only [JW, ltD hx, AJ, AO hx, AO hy, Qy, aOh, AB, At hx ha, CX]
    by_cases h : z.1.kind = z.2 <;> cases hv : vR z.1 <;> simp [h, AF, AD])
   (by rw [hz]; simp only [JW, ltI, AI]), AB]
  cases (a.zip t).all _ <;> simp [BI, hl]
 ·rw [if_pos (by simp [hl])]; simp [hl]
theorem aOj (l : List X6) (e : X3) (hl : l.length ≤ 9223372036854775807) (he : e.args.length ≤ 9223372036854775807) : Qc l e = some (eR l e) := by
 unfold Qc Qv Ze aJk
 rw [Fe l (fun d => decide (d.name = e.name))
  (fun i x hx => by
   simp only [JX, ltD hx, AJ, AO hx, Qu, AB, At hx hl]
   simp only [BF]
   cases decide (x.name = e.name) <;> rfl)
  (by simp only [JX, ltI, AI])]
 unfold eR
 cases hf : EW l e.name with
 | none =>
  have : ¬ (l.any fun d => decide (d.name = e.name)) = true := by
   intro h; unfold EW at hf; rw [if_pos h] at hf; cases hf
  simp [this, AF, BI, AD]
 | some i =>
  have ha : (l.any fun d => decide (d.name = e.name)) = true := by
   unfold EW at hf; split at hf
   ·assumption
   ·cases hf
  have hi : (l.findIdx fun d => decide (d.name = e.name)) = i := by
   unfold EW at hf; rw [if_pos ha] at hf; cases hf; rfl
  obtain ⟨d, hd, _⟩ := Is hf
  rw [if_pos ha, hi]
  have hm : W5 (i : Int) 0 = (i : Int) := by unfold W5; exact if_neg (Int.not_lt.2 (Int.natCast_nonneg i))
  have h0 : decide ((0 : Int) ≤ (i : Int)) = true := by simp
  simp only [AB, Cx, hm, h0, Bool.not_true, AI, AO hd, KE _ _ he, hd]
theorem aRx (l : List X6) (e : X3) (hl : l.length ≤ 9223372036854775807) (he : e.args.length ≤ 9223372036854775807) : Z7 l e = some (eR l e) := by
 unfold Z7
 rw [aL6 l _ hl, AB]
 unfold eR
 cases hf : EW l e.name with
 | none => simp [AD]
 | some i =>
  obtain ⟨d, hd, _⟩ := Is hf
  dsimp only
  rw [CX, if_neg (Int.not_lt.2 (Int.natCast_nonneg i)), AO hd, hd, BF, Mj]
  dsimp only
  unfold KX
  by_cases hl2 : d.types.length = e.args.length
  ·rw [if_neg (by simp [hl2])]
   unfold aJf
   have hz : (e.args.zip d.types).length = e.args.length := by simp [hl2]
   rw [Ev (e.args.zip d.types) (fun p => decide (p.1.kind = p.2) && vR p.1) (.inl () : Unit ⊕ Unit) (.inr ())
    (fun i z hz => by
     obtain ⟨hx, hy⟩ := M5 hz
     simp only [JV, ltD hx, AJ, AO hx, AO hd, AO hy, aEm, AB, At hx he]
     by_cases h : z.1.kind = z.2 <;> cases hv : vR z.1 <;> simp [h, AD])
    (by rw [hz]; simp only [JV, ltI, AI]), AB]
   cases (e.args.zip d.types).all _ <;> simp [BI, hl2]
  ·rw [if_pos (by simp [hl2])]
   have : ¬ e.args.length = d.types.length := fun h => hl2 h.symm
   simp [this]

theorem aTo {i j : Nat} (h : i + j < 4611686018427387904) : IntKind.wrap .i64 (AA .shr .u64 (IntKind.wrap .u64 (AA .add .i64 (i : Int) (j : Int))) 1) = (((i + j) / 2 : Nat) : Int) := by
 have e1 : AA .add .i64 (i : Int) (j : Int) = ((i + j : Nat) : Int) := by rw [KT (by omega) (by omega)]; omega
 rw [e1, BO (by omega)]
 have e2 : AA .shr .u64 (((i + j : Nat)) : Int) 1 = (((i + j) / 2 ^ 1 : Nat) : Int) := aTh (n := i + j) (k := 1) (by decide)
 rw [e2, Nat.pow_one, aKv (by omega) (by omega)]
theorem Vp {step : Int × Int → Option ((Int × Int) ⊕ Int)} (n : Nat) (lt : Nat → Bool)
 (h1 : ∀ i j : Nat, i < j → j ≤ n → step ((i : Int), (j : Int)) = some (.inl (if lt ((i + j) / 2) = true then ((((i + j) / 2 + 1 : Nat) : Int), (j : Int)) else ((i : Int), (((i + j) / 2 : Nat) : Int)))))
 (h2 : ∀ i : Nat, step ((i : Int), (i : Int)) = some (.inr (i : Int))) (hm : ∀ a b, a ≤ b → b < n → lt b = true → lt a = true) :
 ∃ k : Nat, k ≤ n ∧ AW step (0, (n : Int)) = some (k : Int) ∧ (∀ a, a < k → lt a = true) ∧ ∀ a, k ≤ a → a < n → lt a = false := by
 obtain ⟨t, ht, k, hk, rfl, p1, p2⟩ := A5 (step := step) (fun s => ∃ i j : Nat, s = ((i : Int), (j : Int)) ∧ i ≤ j ∧ j ≤ n ∧ (∀ a, a < i → lt a = true) ∧ ∀ a, j ≤ a → a < n → lt a = false) (fun s => (s.2 - s.1).toNat)
  (fun t => ∃ k : Nat, k ≤ n ∧ t = (k : Int) ∧ (∀ a, a < k → lt a = true) ∧ ∀ a, k ≤ a → a < n → lt a = false)
  (by
   rintro s ⟨i, j, rfl, hij, hj, q1, q2⟩
   rcases Nat.lt_or_ge i j with h | h
   ·right
    cases hl : lt ((i + j) / 2) with
    | true =>
     refine ⟨((((i + j) / 2 + 1 : Nat) : Int), (j : Int)), by rw [h1 i j h hj, hl]; rfl, ⟨(i + j) / 2 + 1, j, rfl, by omega, hj, fun a ha => hm a ((i + j) / 2) (by omega) (by omega) hl, q2⟩, by simp only; omega⟩
    | false =>
     refine ⟨((i : Int), (((i + j) / 2 : Nat) : Int)), by rw [h1 i j h hj, hl]; rfl, ⟨i, (i + j) / 2, rfl, by omega, by omega, q1, fun a ha hn => ?_⟩, by simp only; omega⟩
     rcases Nat.lt_or_ge a j with g | g
     ·cases hla : lt a with
      | false => rfl
      | true => rw [hm ((i + j) / 2) a ha hn hla] at hl; cases hl
     ·exact q2 a g hn
   ·have : i = j := by omega
    subst this
    exact .inl ⟨(i : Int), h2 i, i, hj, rfl, q1, q2⟩)
  (0, (n : Int)) ⟨0, n, rfl, by omega, Nat.le_refl _, fun a ha => by omega, fun a ha hn => by omega⟩
 exact ⟨k, hk, ht, p1, p2⟩

def SV (w : List X2) : Prop := w.Pairwise (fun a b => a.var < b.var) ∧ ∀ s ∈ w, 0 ≤ s.var ∧ s.var ≤ 63
theorem Fj : ∀ {a b : List X2}, a.Pairwise (fun x y => x.var < y.var) → b.Pairwise (fun x y => x.var < y.var) → (∀ s, s ∈ a ↔ s ∈ b) → a = b
 | [], [], _, _, _ => rfl
 | [], y :: b, _, _, h => by have := (h y).2 (by simp); simp at this
 | x :: a, [], _, _, h => by have := (h x).1 (by simp); simp at this
 | x :: a, y :: b, ha, hb, h => by
  obtain ⟨ha1, ha2⟩ := List.pairwise_cons.1 ha
  obtain ⟨hb1, hb2⟩ := List.pairwise_cons.1 hb
  have hxy : x = y := by
   rcases mc.1 ((h x).1 (by simp)) with e | e
   ·exact e
   ·rcases mc.1 ((h y).2 (by simp)) with e2 | e2
    ·exact e2.symm
    ·have := hb1 x e; have := ha1 y e2; omega
  subst hxy
  congr 1
  refine Fj ha2 hb2 fun s => ⟨fun hs => ?_, fun hs => ?_⟩
  ·rcases mc.1 ((h s).1 (List.mem_cons_of_mem _ hs)) with e | e
   ·subst e; have := ha1 s hs; omega
   ·exact e
  ·rcases mc.1 ((h s).2 (List.mem_cons_of_mem _ hs)) with e | e
   ·subst e; have := hb1 s hs; omega
   ·exact e
def LP : List X2 → X2 → List X2
 | [], x => [x]
 | y :: l, x => if x.var < y.var then x :: y :: l else y :: LP l x
theorem C4 : ∀ (l : List X2) (x s : X2), s ∈ LP l x ↔ s = x ∨ s ∈ l
 | [], x, s => by simp [LP]
 | y :: l, x, s => by
  unfold LP
  split
  ·simp
  ·rw [mc, C4 l x s, mc]
   constructor
   ·rintro (h | h | h) <;> simp [h]
   ·rintro (h | h | h) <;> simp [h]
theorem EY : ∀ (l : List X2) (x : X2), l.Pairwise (fun a b => a.var < b.var) → (∀ s ∈ l, s.var ≠ x.var) → (LP l x).Pairwise (fun a b => a.var < b.var)
 | [], x, _, _ => by simp [LP]
 | y :: l, x, h, hn => by
  obtain ⟨h1, h2⟩ := List.pairwise_cons.1 h
  unfold LP
  split
  ·rename_i hxy
   refine List.pairwise_cons.2 ⟨fun s hs => ?_, h⟩
   rcases mc.1 hs with rfl | hs
   ·exact hxy
   ·have := h1 s hs; omega
  ·rename_i hxy
   refine List.pairwise_cons.2 ⟨fun s hs => ?_, EY l x h2 fun s hs => hn s (List.mem_cons_of_mem _ hs)⟩
   rcases (C4 l x s).1 hs with rfl | hs
   ·have := hn y (by simp); omega
   ·exact h1 s hs
theorem N7 : ∀ (l : List X2) (x : X2), (LP l x).length = l.length + 1
 | [], x => rfl
 | y :: l, x => by unfold LP; split <;> simp [N7 l x]
theorem Ep {l : List X2} {v : Int} (h : (B0 l v).2 = false) : ∀ s ∈ l, s.var ≠ v := by
 intro s hs e
 unfold B0 at h
 cases hf : l.findSome? (fun s => if s.var = v then some s.value else none) with
 | some x => rw [hf] at h; cases h
 | none =>
  rw [List.findSome?_eq_none_iff] at hf
  have := hf s hs
  simp [e] at this
theorem Cq {l : List X2} (hl : l.Pairwise (fun a b => a.var < b.var)) {s : X2} (h : s ∈ l) : B0 l s.var = (s.value, true) := by
 have key : ∀ (l : List X2), l.Pairwise (fun a b => a.var < b.var) → s ∈ l → l.findSome? (fun t => if t.var = s.var then some t.value else none) = some s.value := by
  intro l
  induction l with
  | nil => intro _ h; simp at h
  | cons t l ih =>
   intro hp hs
   rw [List.findSome?_cons]
   obtain ⟨h1, h2⟩ := List.pairwise_cons.1 hp
   rcases mc.1 hs with rfl | hs
   ·simp
   ·have := h1 s hs
    rw [if_neg (by omega)]
    exact ih h2 hs
 unfold B0
 rw [key l hl h]
def IQ (w : List X2) (x : X2) : Option (List X2) := if (B0 w x.var).2 = true then (if (B0 w x.var).1 = x.value then some w else none) else some (LP w x)
theorem Ea {w w' : List X2} {x : X2} (hw : SV w) (hx : 0 ≤ x.var ∧ x.var ≤ 63) (h : IQ w x = some w') : SV w' ∧ w'.length ≤ w.length + 1 := by
 unfold IQ at h
 split at h
 ·split at h
  ·cases h; exact ⟨hw, by omega⟩
  ·cases h
 ·rename_i hn
  cases h
  have hn' : (B0 w x.var).2 = false := by simpa using hn
  refine ⟨⟨EY w x hw.1 (Ep hn'), fun s hs => ?_⟩, by rw [N7]; exact Nat.le_refl _⟩
  rcases (C4 w x s).1 hs with rfl | hs
  ·exact hx
  ·exact hw.2 s hs
theorem Vv {w : List X2} {x : X2} (hw : w.Pairwise (fun a b => a.var < b.var)) (hn : ∀ s ∈ w, s.var ≠ x.var) {k : Nat} (hk : k ≤ w.length) (h1 : ∀ j s, w[j]? = some s → j < k → s.var < x.var) (h2 : ∀ j s, w[j]? = some s → k ≤ j → x.var < s.var) :
 w.take k ++ [x] ++ w.drop k = LP w x := by
 refine Fj ?_ (EY w x hw hn) fun s => ?_
 ·rw [List.append_assoc, List.singleton_append]
  have hd : ∀ s ∈ w.drop k, x.var < s.var := fun s hs => by
   obtain ⟨j, hj, rfl⟩ := List.mem_iff_getElem.1 hs
   rw [List.getElem_drop]
   exact h2 (k + j) _ (List.getElem?_eq_getElem (by simp at hj; omega)) (by omega)
  have htk : ∀ s ∈ w.take k, s.var < x.var := fun s hs => by
   obtain ⟨j, hj, rfl⟩ := List.mem_iff_getElem.1 hs
   rw [List.getElem_take]
   simp at hj
   exact h1 j _ (List.getElem?_eq_getElem (by omega)) (by omega)
  refine List.pairwise_append.2 ⟨hw.sublist (List.take_sublist _ _), List.pairwise_cons.2 ⟨hd, hw.sublist (List.drop_sublist _ _)⟩, fun a ha b hb => ?_⟩
  rcases mc.1 hb with rfl | hb
  ·exact htk a ha
  ·have := htk a ha; have := hd b hb; omega
 ·rw [C4]
  have hw2 : s ∈ w ↔ s ∈ w.take k ∨ s ∈ w.drop k := by
   conv => lhs; rw [← List.take_append_drop k w]
   rw [ma]
  rw [hw2]
  simp only [ma, List.mem_singleton]
  constructor
  ·rintro ((h | h) | h) <;> simp [h]
  ·rintro (h | h | h) <;> simp [h]
theorem aFh {w : List X2} {v : Int} (hw : SV w) (hv : 0 ≤ v ∧ v ≤ 63) (hl : w.length ≤ 1000) :
 ∃ k : Nat, k ≤ w.length ∧ Yb w v = some ((k : Int), (B0 w v).2) ∧ (∀ j s, w[j]? = some s → j < k → s.var < v) ∧ (∀ j s, w[j]? = some s → k ≤ j → v ≤ s.var) ∧
  ((B0 w v).2 = true → ∃ s, w[k]? = some s ∧ s.var = v) := by
 have hsub : ∀ s ∈ w, Qd s v = some (s.var - v) := fun s hs => by
  have := hw.2 s hs
  unfold Qd; rw [Pi (by omega) (by omega)]
 unfold Yb aIy
 obtain ⟨k, hk, hkr, p1, p2⟩ := Vp (step := fun s : Int × Int => G9 w v (w.length : Int) s.1 s.2) w.length (fun a => match w[a]? with | some s => decide (s.var < v) | none => false)
  (fun i j hij hj => by
   obtain ⟨x, hx, _⟩ := AY (l := w) (i := (i + j) / 2) (by omega)
   have hd : decide ((i : Int) < (j : Int)) = true := by simp; omega
   simp only [G9, hd, AJ, aDb, aTo (show i + j < 4611686018427387904 by omega), AO hx, hsub x (List.mem_of_getElem? hx), AB, aDd, hx]
   by_cases h : x.var < v
   ·have h' : x.var - v < 0 := by omega
    simp only [h, h', decide_true, AJ, AB, if_true, J9 (show (i + j) / 2 < 9223372036854775807 by omega)]
   ·have h' : ¬ x.var - v < 0 := by omega
    simp [h, h', AD, AF])
  (fun i => by simp [G9, AD])
  (fun a b hab hb h => by
   obtain ⟨x, hx, _⟩ := AY (l := w) (i := a) (by omega)
   obtain ⟨y, hy, _⟩ := AY (l := w) (i := b) hb
   simp only [hx, hy, decide_eq_true_eq] at h ⊢
   rcases Nat.lt_or_ge a b with g | g
   ·obtain ⟨ha', rfl⟩ := List.getElem?_eq_some_iff.1 hx
    obtain ⟨hb', rfl⟩ := List.getElem?_eq_some_iff.1 hy
    have := List.pairwise_iff_getElem.1 hw.1 a b ha' hb' g; omega
   ·have : a = b := by omega
    subst this; rw [hx] at hy; cases hy; exact h)
 have q1 : ∀ j s, w[j]? = some s → j < k → s.var < v := fun j s hs hj => by
  have := p1 j hj; simp only [hs] at this; simpa using this
 have q2 : ∀ j s, w[j]? = some s → k ≤ j → v ≤ s.var := fun j s hs hj => by
  have := p2 j hj (Fz hs); simp only [hs] at this; simp at this; exact this
 refine ⟨k, hk, ?_, q1, q2, ?_⟩
 ·rw [hkr, AB]
  by_cases h : k < w.length
  ·obtain ⟨x, hx, _⟩ := AY h
   rw [CX, if_pos (by omega), AO hx, hsub x (List.mem_of_getElem? hx), AB]
   have hge := q2 k x hx (Nat.le_refl _)
   by_cases hv2 : x.var = v
   ·have := Cq hw.1 (List.mem_of_getElem? hx)
    rw [hv2] at this
    simp [this, hv2]
   ·cases hg : (B0 w v).2 with
    | false => have : ¬ x.var - v = 0 := by omega
               simp [this]
    | true =>
     have hm := Ci (l := w) (v := v) (x := (B0 w v).1) (by rw [← hg])
     obtain ⟨j, hj, hjs⟩ := List.mem_iff_getElem.1 hm
     have hjg : w[j]? = some (X2.mk v (B0 w v).1) := by rw [List.getElem?_eq_getElem hj, hjs]
     rcases Nat.lt_trichotomy j k with g | g | g
     ·have := q1 j _ hjg g; simp at this
     ·subst g; rw [hx] at hjg; cases hjg; exact absurd rfl hv2
     ·obtain ⟨hk', hxe⟩ := List.getElem?_eq_some_iff.1 hx
      have := List.pairwise_iff_getElem.1 hw.1 k j hk' hj g
      rw [hxe, hjs] at this
      simp only at this; omega
  ·rw [CX, if_neg (by omega)]
   cases hg : (B0 w v).2 with
   | false => rfl
   | true =>
    have hm := Ci (l := w) (v := v) (x := (B0 w v).1) (by rw [← hg])
    obtain ⟨j, hj, hjs⟩ := List.mem_iff_getElem.1 hm
    have := q1 j _ (by rw [List.getElem?_eq_getElem hj, hjs]) (by omega)
    simp at this
 ·intro hg
  have hm := Ci (l := w) (v := v) (x := (B0 w v).1) (by rw [← hg])
  obtain ⟨j, hj, hjs⟩ := List.mem_iff_getElem.1 hm
  have hjg : w[j]? = some (X2.mk v (B0 w v).1) := by rw [List.getElem?_eq_getElem hj, hjs]
  have hkj : k ≤ j := Nat.le_of_not_lt fun g => by have := q1 j _ hjg g; simp at this
  obtain ⟨x, hx, _⟩ := AY (l := w) (i := k) (by omega)
  refine ⟨x, hx, ?_⟩
  have hge := q2 k x hx (Nat.le_refl _)
  rcases Nat.eq_or_lt_of_le hkj with e | e
  ·subst e; rw [hx] at hjg; cases hjg; rfl
  ·obtain ⟨hk', hxe⟩ := List.getElem?_eq_some_iff.1 hx
   have := List.pairwise_iff_getElem.1 hw.1 k j hk' hj e
   rw [hxe, hjs] at this
   simp only at this; omega
theorem aHn {w : List X2} {x : X2} (hw : SV w) (hx : 0 ≤ x.var ∧ x.var ≤ 63) (hl : w.length ≤ 900) :
 ∃ r, Zk x w = some r ∧ match IQ w x with | none => r.1 = false | some w' => r = (true, w') := by
 unfold Zk
 obtain ⟨k, hk, hb, q1, q2, q3⟩ := aFh hw hx (show w.length ≤ 1000 by omega)
 rw [hb, AB]
 unfold IQ
 cases hg : (B0 w x.var).2 with
 | true =>
  obtain ⟨s, hs, hsv⟩ := q3 hg
  have hklt := Fz hs
  have hgs := Cq hw.1 (List.mem_of_getElem? hs)
  rw [hsv] at hgs
  simp only [AJ]
  rw [BK (by omega), AO hs]
  refine ⟨_, rfl, ?_⟩
  rw [hgs]
  simp only [if_true, X2.eqb_dec]
  have he : (s = x) ↔ s.value = x.value := by
   obtain ⟨a, b⟩ := s; obtain ⟨c, d⟩ := x
   simp only at hsv; subst hsv; simp
  by_cases h : s.value = x.value
  ·rw [if_pos h]; simp [he, h]
  ·rw [if_neg h]; simp [he, h]
 | false =>
  have hn := Ep hg
  simp only [AI, Bool.false_eq_true, if_false]
  have hin : Qz (k : Int) w [x] = some (LP w x) := by
   unfold Qz aK5
   rw [if_pos ⟨by omega, by omega, by simp, BH (by simp; omega) (by decide)⟩, Int.toNat_natCast]
   rw [Vv hw.1 hn hk q1 (fun j s hs hj => by
    have h1 := q2 j s hs hj
    have h2 := hn s (List.mem_of_getElem? hs)
    omega)]
  exact ⟨_, by rw [hin]; rfl, rfl⟩
def Eo : List Av → List X0 → List X2 → List X2 → Option (List X2 × List X2)
 | a :: al, x :: xs, b, f =>
  if a.kind = 1 then (if a.value = x then Eo al xs b f else none)
  else if a.kind = 2 then (match IQ b ⟨a.n, x⟩ with | none => none | some b' => Eo al xs b' f)
  else if a.kind = 3 then (match IQ f ⟨a.n, x⟩ with | none => none | some f' => Eo al xs b f')
  else Eo al xs b f
 | _, _, b, f => some (b, f)
def aK8 (a : Av) : Prop := (a.kind = 2 → 0 ≤ a.n ∧ a.n ≤ 7) ∧ (a.kind = 3 → 0 ≤ a.n ∧ a.n ≤ 63)
def B7 (b : List X2) : Prop := ∀ s ∈ b, s.var ≤ 7
theorem aHm {w w' : List X2} {x : X2} (hw : B7 w) (hx : x.var ≤ 7) (h : IQ w x = some w') : B7 w' := by
 unfold IQ at h
 split at h
 ·split at h
  ·cases h; exact hw
  ·cases h
 ·cases h
  intro s hs
  rcases (C4 w x s).1 hs with rfl | hs
  ·exact hx
  ·exact hw s hs
theorem FZ : ∀ (al : List Av) (xs : List X0) (b f : List X2) (p : List X2 × List X2), (∀ a ∈ al, aK8 a) → SV b → SV f → B7 b → Eo al xs b f = some p → SV p.1 ∧ SV p.2 ∧ B7 p.1 ∧ p.1.length ≤ b.length + al.length ∧ p.2.length ≤ f.length + al.length
 | [], xs, b, f, p, _, hb, hf, h7, h => by simp only [Eo] at h; cases h; exact ⟨hb, hf, h7, by simp, by simp⟩
 | a :: al, [], b, f, p, _, hb, hf, h7, h => by simp only [Eo] at h; cases h; exact ⟨hb, hf, h7, by simp, by simp⟩
 | a :: al, x :: xs, b, f, p, hA, hb, hf, h7, h => by
  have hA' : ∀ a ∈ al, aK8 a := fun a h => hA a (List.mem_cons_of_mem _ h)
  have hAa := hA a (by simp)
  simp only [Eo] at h
  split at h
  ·split at h
   ·obtain ⟨a1, a2, a3, a4, a5⟩ := FZ al xs b f p hA' hb hf h7 h
    exact ⟨a1, a2, a3, by simp; omega, by simp; omega⟩
   ·cases h
  ·split at h
   ·rename_i h2
    split at h
    ·cases h
    ·rename_i b' hp
     have hv := hAa.1 h2
     obtain ⟨c1, c2⟩ := Ea hb (x := ⟨a.n, x⟩) ⟨hv.1, by simp only; omega⟩ hp
     obtain ⟨a1, a2, a3, a4, a5⟩ := FZ al xs b' f p hA' c1 hf (aHm h7 (by simp only; omega) hp) h
     exact ⟨a1, a2, a3, by simp; omega, by simp; omega⟩
   ·split at h
    ·rename_i h3
     split at h
     ·cases h
     ·rename_i f' hp
      have hv := hAa.2 h3
      obtain ⟨c1, c2⟩ := Ea hf (x := ⟨a.n, x⟩) hv hp
      obtain ⟨a1, a2, a3, a4, a5⟩ := FZ al xs b f' p hA' hb c1 h7 h
      exact ⟨a1, a2, a3, by simp; omega, by simp; omega⟩
    ·obtain ⟨a1, a2, a3, a4, a5⟩ := FZ al xs b f p hA' hb hf h7 h
     exact ⟨a1, a2, a3, by simp; omega, by simp; omega⟩
theorem aFn {al : List Av} {e : X3} (hlen : al.length = e.args.length) (h12 : al.length ≤ 12) (hA : ∀ a ∈ al, aK8 a) : ∀ (n i : Nat) (b f : List X2), al.length - i = n → i ≤ al.length → SV b → SV f → b.length ≤ i → f.length ≤ i →
 ∃ o, UX al (al.length : Int) e (i : Int) b f = some o ∧ match Eo (al.drop i) (e.args.drop i) b f with | none => ∃ z, o = .inr z | some p => o = .inl p := by
 intro n
 induction n with
 | zero =>
  intro i b f hn hi _ _ _ _
  have : i = al.length := by omega
  subst this
  rw [Nl]
  refine ⟨.inl (b, f), by simp only [HI, ltI, AI, Aa], ?_⟩
  rw [List.drop_length]; simp [Eo]
 | succ n ih =>
  intro i b f hn hi hb hf hbl hfl
  obtain ⟨a, ha, hda⟩ := AY (l := al) (i := i) (by omega)
  obtain ⟨x, hx, hdx⟩ := AY (l := e.args) (i := i) (by omega)
  have hAa := hA a (List.mem_of_getElem? ha)
  rw [Nl, hda, hdx]
  simp only [HI, ltD ha, AJ, AO ha, AO hx, At ha (show al.length ≤ 9223372036854775807 by omega), X0.eqb_dec]
  simp only [Eo]
  by_cases h1 : a.kind = 1
  ·have h2 : ¬ a.kind = 2 := by omega
   have h3 : ¬ a.kind = 3 := by omega
   by_cases hv : a.value = x
   ·obtain ⟨o, ho, hm⟩ := ih (i + 1) b f (by omega) (by omega) hb hf (by omega) (by omega)
    refine ⟨o, by simp [h1, hv, AD, BB]; exact_mod_cast ho, by simpa [h1, hv] using hm⟩
   ·exact ⟨.inr (b, f), by simp [h1, hv, AD, BB], by simp [h1, hv]⟩
  by_cases h2 : a.kind = 2
  ·have h3 : ¬ a.kind = 3 := by omega
   have hvr := hAa.1 h2
   obtain ⟨r, hr, hrm⟩ := aHn (w := b) (x := ⟨a.n, x⟩) hb ⟨hvr.1, by simp only; omega⟩ (by omega)
   rw [hr]
   cases hp : IQ b ⟨a.n, x⟩ with
   | none =>
    rw [hp] at hrm
    simp only at hrm
    exact ⟨.inr (r.2, f), by simp [h1, h2, hrm, AD, BB, AF], by simp [h1, h2]⟩
   | some b' =>
    rw [hp] at hrm
    simp only at hrm
    subst hrm
    obtain ⟨c1, c2⟩ := Ea hb (x := ⟨a.n, x⟩) ⟨hvr.1, by simp only; omega⟩ hp
    obtain ⟨o, ho, hm⟩ := ih (i + 1) b' f (by omega) (by omega) c1 hf (by omega) (by omega)
    refine ⟨o, by simp [h1, h2, h3, AD, BB, AF]; exact_mod_cast ho, by simpa [h1, h2] using hm⟩
  by_cases h3 : a.kind = 3
  ·have hvr := hAa.2 h3
   obtain ⟨r, hr, hrm⟩ := aHn (w := f) (x := ⟨a.n, x⟩) hf hvr (by omega)
   rw [hr]
   cases hp : IQ f ⟨a.n, x⟩ with
   | none =>
    rw [hp] at hrm
    simp only at hrm
    exact ⟨.inr (b, r.2), by simp [h1, h2, h3, hrm, AD, BB, AF], by simp [h1, h2, h3]⟩
   | some f' =>
    rw [hp] at hrm
    simp only at hrm
    subst hrm
    obtain ⟨c1, c2⟩ := Ea hf (x := ⟨a.n, x⟩) hvr hp
    obtain ⟨o, ho, hm⟩ := ih (i + 1) b f' (by omega) (by omega) hb c1 (by omega) (by omega)
    refine ⟨o, by simp [h1, h2, h3, AD, BB, AF]; exact_mod_cast ho, by simpa [h1, h2, h3] using hm⟩
  ·obtain ⟨o, ho, hm⟩ := ih (i + 1) b f (by omega) (by omega) hb hf (by omega) (by omega)
   refine ⟨o, by simp [h1, h2, h3, AD, BB]; exact_mod_cast ho, by simpa [h1, h2, h3] using hm⟩
def aFo (a b : List X2) : Bool := a.all fun s => !(B0 b s.var).2 || decide ((B0 b s.var).1 = s.value)
theorem aRt (a b : List X2) (ha : a.length ≤ 9223372036854775807) (hb : b.length ≤ 9223372036854775807) : Z5 a b = some (aFo a b) := by
 unfold Z5 aJd
 rw [Ev a (fun s => !(B0 b s.var).2 || decide ((B0 b s.var).1 = s.value)) (.inl () : Unit ⊕ Unit) (.inr ())
  (fun i x hx => by
   simp only [JT, ltD hx, AJ, AO hx, At hx ha, aDn b _ hb, AB, X0.eqb_dec]
   obtain ⟨y, o⟩ := B0 b x.var
   cases o
   ·simp [AD]
   ·by_cases h : y = x.value <;> simp [AD, h])
  (by simp only [JT, ltI, AI]), AB]
 unfold aFo
 cases a.all _ <;> rfl
theorem GA (x : X2) (v : Int) : B0 [x] v = if x.var = v then (x.value, true) else (zV, false) := by
 unfold B0
 by_cases h : x.var = v <;> simp [h]
def Dn (a b : List X2) (v : Nat) : Option X2 :=
 if (B0 a v).2 = true then some ⟨v, (B0 a v).1⟩ else if (B0 b v).2 = true then some ⟨v, (B0 b v).1⟩ else none
def ID (a b : List X2) : List X2 := (List.range 8).filterMap (Dn a b)
theorem aQv (a b : List X2) (ha : a.length ≤ 9223372036854775807) (hb : b.length ≤ 9223372036854775807) : Y1 a b = some (ID a b) := by
 unfold Y1 aIq
 have hg : ∀ (l : List X2) (v : Int), l.length ≤ 9223372036854775807 → Yf l v = some (B0 l v) := fun l v hl => aDn l v hl
 have h := Ct (step := fun s : Int × List X2 => G3 a b s.1 s.2) (List.range 8) (fun w v => w ++ (Dn a b v).toList) (fun w => w) (fun i w => w.length ≤ i)
  (fun i x w hx hI => by
   have hi : i < 8 := by simpa using Fz hx
   have hxi : x = i := by
    rw [List.getElem?_range hi] at hx; cases hx; rfl
   subst hxi
   have hd : decide ((x : Int) < 8) = true := by simp; omega
   refine ⟨?_, ?_⟩
   ·simp only [G3, hd, AJ, aCe, hg a _ ha, hg b _ hb, AB, aCg, aCi, J9 (show x < 9223372036854775807 by omega), Dn]
    rw [Kb (by simp; omega) (by decide), Kb (by simp; omega) (by decide)]
    cases (B0 a (x : Int)).2 <;> cases (B0 b (x : Int)).2 <;> simp [AD, AF]
   ·unfold Dn
    split
    ·simpa using hI
    ·split
     ·simpa using hI
     ·simp; omega)
  (fun w _ => by simp [G3, AD]) [] (by simp)
 rw [h, AB]
 congr 1
 unfold ID
 have key : ∀ (l : List Nat) (w : List X2), l.foldl (fun w v => w ++ (Dn a b v).toList) w = w ++ l.filterMap (Dn a b) := by
  intro l
  induction l with
  | nil => intro w; simp
  | cons v l ih => intro w; rw [List.foldl_cons, ih, List.filterMap_cons]; cases Dn a b v <;> simp
 rw [key]; simp
theorem Fk {a b : List X2} {v : Nat} {s : X2} (h : Dn a b v = some s) : s.var = (v : Int) := by
 unfold Dn at h
 split at h
 ·cases h; rfl
 ·split at h
  ·cases h; rfl
  ·cases h
theorem KA (a b : List X2) : (ID a b).Pairwise (fun x y => x.var < y.var) := by
 unfold ID
 have h8 : (List.range 8).Pairwise (· < ·) := List.pairwise_lt_range
 rw [List.pairwise_filterMap]
 refine h8.imp fun {v w} hvw s hs t ht => ?_
 have := Fk hs; have := Fk ht; omega
theorem Pb {a b : List X2} {s : X2} : s ∈ ID a b ↔ 0 ≤ s.var ∧ s.var ≤ 7 ∧ (B0 a s.var = (s.value, true) ∨ (B0 a s.var).2 = false ∧ B0 b s.var = (s.value, true)) := by
 unfold ID
 rw [List.mem_filterMap]
 constructor
 ·rintro ⟨v, hv, h⟩
  have hv8 : v < 8 := by simpa using hv
  have hsv := Fk h
  refine ⟨by omega, by omega, ?_⟩
  rw [hsv]
  unfold Dn at h
  split at h
  ·rename_i ha; cases h; left; simp only; rw [← ha]
  ·rename_i ha
   split at h
   ·rename_i hb; cases h; right; exact ⟨by simpa using ha, by simp only; rw [← hb]⟩
   ·cases h
 ·rintro ⟨h0, h7, h⟩
  refine ⟨s.var.toNat, by simp; omega, ?_⟩
  have e : ((s.var.toNat : Nat) : Int) = s.var := by omega
  unfold Dn
  rw [e]
  rcases h with h | ⟨h, h'⟩
  ·rw [h]; simp
  ·rw [h, h']; simp
theorem aFp {b : List X2} {x : X2} (hb : SV b) : aFo b [x] = (IQ b x).isSome := by
 unfold aFo IQ
 cases hg : (B0 b x.var).2 with
 | true =>
  have hm := Ci (l := b) (v := x.var) (x := (B0 b x.var).1) (by rw [← hg])
  by_cases hv : (B0 b x.var).1 = x.value
  ·simp only [if_true, hv, Option.isSome_some]
   rw [List.all_eq_true]
   intro s hs
   rw [GA]
   by_cases h : x.var = s.var
   ·have := Cq hb.1 hs
    rw [← h] at this
    rw [this] at hv
    simp [h, ← hv]
   ·simp [h]
  ·simp only [if_true, hv, if_false, Option.isSome_none]
   rw [List.all_eq_false]
   refine ⟨_, hm, ?_⟩
   rw [GA]
   simp
   exact fun h => hv h.symm
 | false =>
  simp only [Bool.false_eq_true, if_false, Option.isSome_some]
  rw [List.all_eq_true]
  intro s hs
  rw [GA]
  have := Ep hg s hs
  have h' : ¬ x.var = s.var := fun h => this h.symm
  simp [h']
theorem Wz {b w : List X2} {x : X2} (hb : SV b) (h7 : B7 b) (hx : 0 ≤ x.var ∧ x.var ≤ 7) (h : IQ b x = some w) : ID b [x] = w := by
 have hw := Ea hb (x := x) ⟨hx.1, by omega⟩ h
 refine Fj (KA _ _) hw.1.1 fun s => ?_
 rw [Pb, GA]
 unfold IQ at h
 split at h
 ·rename_i hg
  split at h
  ·rename_i hv
   cases h
   constructor
   ·rintro ⟨_, _, h1 | ⟨h1, h2⟩⟩
    ·exact Ci h1
    ·split at h2
     ·rename_i e; rw [e] at hg; rw [h1] at hg; cases hg
     ·simp at h2
   ·intro hs
    exact ⟨(hb.2 s hs).1, h7 s hs, .inl (Cq hb.1 hs)⟩
  ·cases h
 ·rename_i hg
  have hg' : (B0 b x.var).2 = false := by simpa using hg
  cases h
  rw [C4]
  constructor
  ·rintro ⟨_, _, h1 | ⟨h1, h2⟩⟩
   ·exact .inr (Ci h1)
   ·split at h2
    ·rename_i e
     left
     obtain ⟨a, c⟩ := s
     obtain ⟨a', c'⟩ := x
     simp only at e h2
     subst e
     simp at h2
     rw [h2]
    ·simp at h2
  ·rintro (rfl | hs)
   ·exact ⟨hx.1, hx.2, .inr ⟨hg', by simp⟩⟩
   ·exact ⟨(hb.2 s hs).1, h7 s hs, .inl (Cq hb.1 hs)⟩
theorem aRp {w : List X2} {x : X2} (hw : SV w) (hn : ∀ s ∈ w, s.var ≠ x.var) (hl : w.length ≤ 1000) : Z1 w x = some (LP w x) := by
 unfold Z1 aJc
 obtain ⟨t, ht, k, hk, rfl, p1, p2⟩ := A5 (step := fun s => HN w x s) (fun s => ∃ i : Nat, s = (i : Int) ∧ i ≤ w.length ∧ ∀ j s, w[j]? = some s → i ≤ j → x.var < s.var) (fun s => s.toNat)
  (fun t => ∃ k : Nat, k ≤ w.length ∧ t = (k : Int) ∧ (∀ j s, w[j]? = some s → j < k → s.var < x.var) ∧ ∀ j s, w[j]? = some s → k ≤ j → x.var < s.var)
  (by
   rintro s ⟨i, rfl, hi, hj⟩
   cases i with
   | zero => exact .inl ⟨0, by simp [HN, AD], 0, by omega, rfl, fun j s _ h => by omega, hj⟩
   | succ i =>
    obtain ⟨y, hy, _⟩ := AY (l := w) (i := i) (by omega)
    have e : AA .sub .i64 ((i + 1 : Nat) : Int) 1 = (i : Int) := by rw [Pi (by omega) (by omega)]; omega
    have hd : decide ((0 : Int) < ((i + 1 : Nat) : Int)) = true := by simp
    simp only [HN, hd, AJ, e, AO hy]
    by_cases h : x.var < y.var
    ·refine .inr ⟨_, by simp only [h, decide_true, AJ], ⟨i, rfl, by omega, fun j s hs hij => ?_⟩, by omega⟩
     rcases Nat.eq_or_lt_of_le hij with g | g
     ·subst g; rw [hy] at hs; cases hs; exact h
     ·exact hj j s hs g
    ·refine .inl ⟨_, by simp only [h, decide_false, AI], i + 1, hi, rfl, fun j s hs hij => ?_, hj⟩
     have hyx : y.var < x.var := by
      have := hn y (List.mem_of_getElem? hy); omega
     rcases Nat.lt_or_ge j i with g | g
     ·obtain ⟨a1, rfl⟩ := List.getElem?_eq_some_iff.1 hs
      obtain ⟨a2, rfl⟩ := List.getElem?_eq_some_iff.1 hy
      have := List.pairwise_iff_getElem.1 hw.1 j i a1 a2 g; omega
     ·have : j = i := by omega
      subst this; rw [hy] at hs; cases hs; exact hyx)
  (w.length : Int) ⟨w.length, rfl, Nat.le_refl _, fun j s hs hij => by have := Fz hs; omega⟩
 rw [ht, AB]
 have es : sub w 0 (k : Int) = w.take k := by rw [show (0 : Int) = ((0 : Nat) : Int) from rfl, Wt]; rfl
 rw [es, Wr, BK (by omega), Kb (by simp; omega) (by decide), Kb (by simp; omega) (by decide), BK (by omega), Kb (by simp; omega) (by decide)]
 rw [List.nil_append, Vv hw.1 hn hk p1 p2]
theorem aFv {al : List Av} {e : X3} {sy : X5} {s1 w6 : Int} {w9 : AN} (hsy : sy.args = al) (hlen : al.length = e.args.length) (h12 : al.length ≤ 12) (hA : ∀ a ∈ al, aK8 a) : ∀ (n i : Nat) (b f : List X2), al.length - i = n → i ≤ al.length → SV b → SV f → B7 b → b.length ≤ i → f.length ≤ i →
 Ow s1 e w6 sy w9 b f (i : Int) = some (match Eo (al.drop i) (e.args.drop i) b f with | none => .inr () | some p => .inl p) := by
 subst hsy
 intro n
 induction n with
 | zero =>
  intro i b f hn hi _ _ _ _ _
  have : i = sy.args.length := by omega
  subst this
  rw [NX]
  simp only [Gs, ltI, AI, Aa]
  rw [List.drop_length]; simp [Eo]
 | succ n ih =>
  intro i b f hn hi hb hf h7 hbl hfl
  obtain ⟨a, ha, hda⟩ := AY (l := sy.args) (i := i) (by omega)
  obtain ⟨x, hx, hdx⟩ := AY (l := e.args) (i := i) (by omega)
  have hAa := hA a (List.mem_of_getElem? ha)
  rw [NX, hda, hdx]
  simp only [Gs, ltD ha, AJ, aA2, AO ha, AO hx, At ha (show sy.args.length ≤ 9223372036854775807 by omega), X0.eqb_dec, Sf, Sg, Sh]
  simp only [Eo]
  by_cases h1 : a.kind = 1
  ·have h2 : ¬ a.kind = 2 := by omega
   have h3 : ¬ a.kind = 3 := by omega
   by_cases hv : a.value = x
   ·have ho := ih (i + 1) b f (by omega) (by omega) hb hf h7 (by omega) (by omega)
    simp [h1, hv, AD, BB, AF, BI]; exact_mod_cast ho
   ·simp [h1, hv, AD, BB, AF, BI]
  by_cases h2 : a.kind = 2
  ·have h3 : ¬ a.kind = 3 := by omega
   have hvr := hAa.1 h2
   rw [aRt _ _ (by omega) (by simp), aFp (x := ⟨a.n, x⟩) hb, aQv _ _ (by omega) (by simp)]
   cases hp : IQ b ⟨a.n, x⟩ with
   | none => simp [h1, h2, AD, BB, AF, BI]
   | some b' =>
    obtain ⟨c1, c2⟩ := Ea hb (x := ⟨a.n, x⟩) ⟨hvr.1, by simp only; omega⟩ hp
    rw [Wz hb h7 (x := ⟨a.n, x⟩) hvr hp]
    have ho := ih (i + 1) b' f (by omega) (by omega) c1 hf (aHm h7 (by simp only; omega) hp) (by omega) (by omega)
    simp [h1, h2, h3, AD, BB, AF, BI]; exact_mod_cast ho
  by_cases h3 : a.kind = 3
  ·have hvr := hAa.2 h3
   rw [aDn f _ (by omega)]
   unfold IQ
   simp only
   cases hg : (B0 f a.n).2 with
   | true =>
    by_cases hv : (B0 f a.n).1 = x
    ·have ho := ih (i + 1) b f (by omega) (by omega) hb hf h7 (by omega) (by omega)
     simp [h1, h2, h3, hg, hv, AD, BB, AF, BI]; exact_mod_cast ho
    ·simp [h1, h2, h3, hg, hv, AD, BB, AF, BI]
   | false =>
    have hp : IQ f ⟨a.n, x⟩ = some (LP f ⟨a.n, x⟩) := by unfold IQ; simp [hg]
    obtain ⟨c1, c2⟩ := Ea hf (x := ⟨a.n, x⟩) hvr hp
    have ho := ih (i + 1) b (LP f ⟨a.n, x⟩) (by omega) (by omega) hb c1 h7 (by omega) (by omega)
    have hput := aRp (w := f) (x := ⟨a.n, x⟩) hf (Ep hg) (by omega)
    simp [h1, h2, h3, hg, AD, BB, AF, BI, V6, hput]; exact_mod_cast ho
  ·have ho := ih (i + 1) b f (by omega) (by omega) hb hf h7 (by omega) (by omega)
   simp [h1, h2, h3, AD, BB, AF, BI]; exact_mod_cast ho
def EX (q : AE) (i : Nat) (e : X3) : Option AN := match q.symbols[i]? with
 | none => none
 | some s => match q.decls[s.event.toNat]? with
  | none => none
  | some d => if d.name = e.name ∧ s.args.length = e.args.length then (Eo s.args e.args [] []).map fun p => ⟨i, p.1, p.2⟩ else none
def D9 (q : AE) (e : X3) : List AN := if eR q.decls e = true then (List.range q.symbols.length).filterMap fun i => EX q i e else []
theorem Ia : SV [] := ⟨List.Pairwise.nil, by simp⟩
theorem aNz {q : AE} (hF : DJ q) (hR : A6 q) {s : X5} (hs : s ∈ q.symbols) : ∀ a ∈ s.args, aK8 a := fun a ha => by
 have := (hR.symbols s hs).args a ha
 have h8 := hR.quants; have hf := hF.frees
 exact ⟨fun h => by have := this.two h; omega, fun h => by have := this.three h; omega⟩
def Pf (o : Option AN) : AN × Bool := match o with
 | some h => (h, true)
 | none => (⟨0, [], []⟩, false)
theorem aFi {q : AE} (hR : A6 q) {e : X3} (he : eR q.decls e = true) {s : X5} (hs : s ∈ q.symbols) {d : X6} (hd : q.decls[s.event.toNat]? = some d) (hn : d.name = e.name) : s.args.length = e.args.length := by
 obtain ⟨d', hd', hl⟩ := (hR.symbols s hs).decl
 rw [hd] at hd'; cases hd'
 have hf := hR.decls _ d hd
 rw [hn] at hf
 unfold eR at he
 rw [hf] at he
 simp only [hd] at he
 unfold KX at he
 simp at he
 omega
theorem aOl {q : AE} (hF : DJ q) (hR : A6 q) {e : X3} (he : eR q.decls e = true) {i : Nat} (hi : i < q.symbols.length) : Qe q i e = some (Pf (EX q i e)) := by
 obtain ⟨s, hs, _⟩ := AY hi
 have hsm := List.mem_of_getElem? hs
 have hso := hR.symbols s hsm
 obtain ⟨d, hd, hdl⟩ := hso.decl
 unfold Qe EX
 rw [AO hs, Cs hd hso.event, hs]
 simp only [hd]
 by_cases hn : d.name = e.name
 ·have hlen := aFi hR he hsm hd hn
  have h12 := hF.args s hsm
  obtain ⟨o, ho, hm⟩ := aFn hlen h12 (aNz hF hR hsm) _ 0 [] [] rfl (by omega) Ia Ia (by simp) (by simp)
  unfold Yt
  rw [show (0 : Int) = ((0 : Nat) : Int) from rfl, ho]
  simp only [List.drop_zero] at hm
  simp only [hn, hlen, and_self, if_true, decide_true, Bool.not_true, AI, AB]
  cases hfit : Eo s.args e.args [] [] with
  | none =>
   rw [hfit] at hm
   obtain ⟨z, rfl⟩ := hm
   simp [BI, AF, AD, Pf]
  | some p =>
   rw [hfit] at hm
   simp only at hm
   subst hm
   simp [BI, AF, AD, Pf]
 ·simp [hn, AD, Pf]
theorem aQc {q : AE} (hF : DJ q) (hR : A6 q) {e : X3} {i : Nat} (hi : i < q.symbols.length) : Xo q i e = some (Pf (EX q i e)) := by
 obtain ⟨s, hs, _⟩ := AY hi
 have hsm := List.mem_of_getElem? hs
 have hso := hR.symbols s hsm
 obtain ⟨d, hd, hdl⟩ := hso.decl
 unfold Xo EX
 rw [AO hs, Cs hd hso.event, hs, Mj]
 simp only [hd]
 by_cases hn : d.name = e.name
 ·by_cases hlen : s.args.length = e.args.length
  ·have h12 := hF.args s hsm
   have ho := aFv (sy := s) (s1 := (i : Int)) (w6 := 0) (w9 := ⟨0, [], []⟩) rfl hlen h12 (aNz hF hR hsm) _ 0 [] [] rfl (by omega) Ia Ia (fun s hs => by simp at hs) (by simp) (by simp)
   rw [show (0 : Int) = ((0 : Nat) : Int) from rfl] at ho ⊢
   simp only [List.drop_zero] at ho
   simp only [hn, hlen, and_self, if_true, decide_true, Bool.not_true, AI]
   rw [show Ow (i : Int) e ((0 : Nat) : Int) s (AN.mk ((0 : Nat) : Int) [] []) [] [] ((0 : Nat) : Int) = _ from ho, AB]
   cases Eo s.args e.args [] [] with
   | none => simp [BI, Pf]
   | some p => simp [BI, Pf]
  ·simp [hn, hlen, AD, Pf]
 ·simp [hn, AD, Pf]
theorem IN {α β : Type} (g : α → Option β) : ∀ (l : List α) (w : List β), l.foldl (fun w v => w ++ (g v).toList) w = w ++ l.filterMap g := by
 intro l
 induction l with
 | nil => intro w; simp
 | cons v l ih => intro w; rw [List.foldl_cons, ih, List.filterMap_cons]; cases g v <;> simp
theorem We {n i x : Nat} (h : (List.range n)[i]? = some x) : x = i ∧ i < n := by
 have hi : i < n := by simpa using Fz h
 rw [List.getElem?_range hi] at h; cases h; exact ⟨rfl, hi⟩
def Jt {φ : Type} (step : φ → AN → Option (φ × Bool)) : List AN → φ → Option φ
 | [], f => some f
 | h :: hs, f => match step f h with
  | some (f', true) => Jt step hs f'
  | some (f', false) => some f'
  | none => none
theorem aOq {q : AE} (hF : DJ q) (hR : A6 q) {e : X3} (h12 : e.args.length ≤ 12) {φ : Type} (step : φ → AN → Option (φ × Bool)) (f0 : φ) : Yl step q e f0 = Jt step (D9 q e) f0 := by
 have hd := hF.decls; have hs := hF.symbols
 unfold Yl D9
 rw [aOj _ _ (by omega) (by omega), AB]
 cases he : eR q.decls e with
 | false => simp [AD, Jt]
 | true =>
  simp only [Bool.not_true, AI, if_true]
  have key : ∀ (n i : Nat) (f : φ), q.symbols.length - i = n → i ≤ q.symbols.length → (AF (UG step q e (q.symbols.length : Int) f (i : Int)) fun o5 => BI o5 (fun o6 => some o6) (fun o7 => some o7)) = Jt step ((List.range' i n).filterMap fun i => EX q i e) f := by
   intro n
   induction n with
   | zero =>
    intro i f hn hi
    have : i = q.symbols.length := by omega
    subst this
    rw [Nj]
    simp [HD, AD, BB, AF, BI, Jt]
   | succ n ih =>
    intro i f hn hi
    have hlt : decide ((i : Int) < (q.symbols.length : Int)) = true := by simp; omega
    rw [Nj]
    simp only [HD, hlt, AJ, aOl hF hR he (show i < q.symbols.length by omega), AB, J9 (show i < 9223372036854775807 by omega)]
    rw [List.range'_succ, List.filterMap_cons]
    cases hh : EX q i e with
    | none =>
     simp only [Pf, AI, Ay]
     exact ih (i + 1) f (by omega) (by omega)
    | some h =>
     simp only [Pf, AJ, Jt]
     rcases hst : step f h with _ | ⟨f', _ | _⟩
     ·simp [W9, BB, AF]
     ·simp [W9, BB, AF, BI]
     ·simp only [W9, Ay]
      exact ih (i + 1) f' (by omega) (by omega)
  rw [List.range_eq_range']
  exact key q.symbols.length 0 f0 (by omega) (by omega)
theorem aKh {q : AE} (hF : DJ q) (hR : A6 q) {e : X3} {h : AN} (hh : h ∈ D9 q e) : SV h.bind ∧ B7 h.bind ∧ h.bind.length ≤ 12 ∧ h.frees.length ≤ 12 ∧ SV h.frees := by
 unfold D9 at hh
 split at hh
 ·obtain ⟨i, _, hi⟩ := List.mem_filterMap.1 hh
  unfold EX at hi
  split at hi
  ·cases hi
  ·rename_i s hs
   have hsm := List.mem_of_getElem? hs
   split at hi
   ·cases hi
   ·split at hi
    ·simp only [om] at hi
     obtain ⟨p, hp, rfl⟩ := hi
     have h12 := hF.args s hsm
     obtain ⟨a1, a2, a3, a4, a5⟩ := FZ _ _ _ _ _ (aNz hF hR hsm) Ia Ia (fun s hs => by simp at hs) hp
     simp only [List.length_nil] at a4 a5
     exact ⟨a1, a3, by simp only; omega, by simp only; omega, a2⟩
    ·cases hi
 ·simp at hh
theorem aG7 : ∀ x : List UInt8, Op.bytesLess x x = false
 | [] => rfl
 | a :: x => by simp [Op.bytesLess, aG7 x]
theorem Nq : ∀ {x y z : List UInt8}, Op.bytesLess x y = true → Op.bytesLess y z = true → Op.bytesLess x z = true
 | [], [], _, h, _ => by simp [Op.bytesLess] at h
 | _ :: _, [], _, h, _ => by simp [Op.bytesLess] at h
 | [], _ :: _, [], _, h => by simp [Op.bytesLess] at h
 | [], _ :: _, _ :: _, _, _ => rfl
 | _ :: _, _ :: _, [], _, h => by simp [Op.bytesLess] at h
 | a :: x, b :: y, c :: z, h1, h2 => by
  simp only [Op.bytesLess, Bool.or_eq_true, ba, decide_eq_true_eq, beq_iff_eq] at h1 h2 ⊢
  rcases h1 with h1 | ⟨rfl, h1⟩
  ·rcases h2 with h2 | ⟨rfl, h2⟩
   ·exact .inl (UInt8.lt_trans h1 h2)
   ·exact .inl h1
  ·rcases h2 with h2 | ⟨rfl, h2⟩
   ·exact .inl h2
   ·exact .inr ⟨rfl, Nq h1 h2⟩
theorem aG8 : ∀ {x y : List UInt8}, x ≠ y → Op.bytesLess x y = true ∨ Op.bytesLess y x = true
 | [], [], h => absurd rfl h
 | _ :: _, [], _ => .inr rfl
 | [], _ :: _, _ => .inl rfl
 | a :: x, b :: y, h => by
  simp only [Op.bytesLess, Bool.or_eq_true, ba, decide_eq_true_eq, beq_iff_eq]
  by_cases hab : a = b
  ·subst hab
   rcases aG8 (x := x) (y := y) (fun e => h (by rw [e])) with g | g
   ·exact .inl (.inr ⟨rfl, g⟩)
   ·exact .inr (.inr ⟨rfl, g⟩)
  ·have : a < b ∨ b < a := by
    rw [UInt8.lt_iff_toNat_lt, UInt8.lt_iff_toNat_lt]
    have : a.toNat ≠ b.toNat := fun e => hab (UInt8.toNat_inj.1 e)
    omega
   rcases this with g | g
   ·exact .inl (.inl g)
   ·exact .inr (.inl g)
theorem Vm : ∀ (x y : List UInt8), (match ((x.zip y).findSome? fun z => if z.1 = z.2 then none else some (Sum.inr (decide (z.1 < z.2)) : Unit ⊕ Bool)).getD (.inl ()) with | .inl _ => decide (x.length < y.length) | .inr b => b) = Op.bytesLess x y
 | [], [] => rfl
 | _ :: _, [] => rfl
 | [], _ :: _ => by simp [Op.bytesLess]
 | a :: x, b :: y => by
  rw [List.zip_cons_cons, List.findSome?_cons]
  by_cases h : a = b
  ·subst h
   simp only [if_true, Op.bytesLess, beq_self_eq_true, Bool.true_and, ← Vm x y]
   have : decide (a < a) = false := by simp
   rw [this, Bool.false_or]
   simp only [List.length_cons, Nat.add_lt_add_iff_right]
  ·simp [h, Op.bytesLess]
theorem aRa (x y : List UInt8) (hx : x.length ≤ 9223372036854775807) (hy : y.length ≤ 9223372036854775807) : Yn x y = some (Op.bytesLess x y) := by
 unfold Yn aD2
 have hz : (x.zip y).length = min x.length y.length := by simp
 rw [Dh (x.zip y) (fun _ z => if z.1 = z.2 then none else some (Sum.inr (decide (z.1 < z.2)) : Unit ⊕ Bool)) (.inl ())
  (fun i z h => by
   obtain ⟨h1, h2⟩ := M5 h
   simp only [FR, ltD h1, ltD h2, AJ, AO h1, AO h2, At h1 hx]
   by_cases e : z.1 = z.2
   ·simp [e, AD]
   ·have : ¬ (z.1.toNat : Int) = (z.2.toNat : Int) := fun g => e (UInt8.toNat_inj.1 (by omega))
    have : (decide ((z.1.toNat : Int) < (z.2.toNat : Int))) = decide (z.1 < z.2) := decide_eq_decide.2 (by rw [UInt8.lt_iff_toNat_lt]; omega)
    rw [this, if_neg e]
    simp [*, AD])
  (by
   rw [hz]
   rcases Nat.le_total x.length y.length with h | h
   ·rw [Nat.min_eq_left h]; simp only [FR, ltI, AI]
   ·rw [Nat.min_eq_right h]; simp only [FR, ltI, AI]; cases decide ((y.length : Int) < (x.length : Int)) <;> rfl), AB, CG, ← Vm]
 cases ((x.zip y).findSome? fun z => if z.1 = z.2 then none else some (Sum.inr (decide (z.1 < z.2)) : Unit ⊕ Bool)).getD (.inl ()) <;> simp [BI]
def ltV (a b : X0) : Bool := if a.kind = b.kind then (if a.kind = 1 then decide (a.int < b.int) else if a.kind = 2 then Op.bytesLess a.str b.str else !a.bool && b.bool) else decide (a.kind < b.kind)
theorem aMn (a b : X0) : Zv a b = some (ltV a b) := by
 unfold Zv ltV
 by_cases h : a.kind = b.kind <;> by_cases h1 : a.kind = 1 <;> by_cases h2 : a.kind = 2 <;> cases ha : a.bool <;> simp_all [AD]
theorem aSa (a b : X0) (ha : a.str.length ≤ 9223372036854775807) (hb : b.str.length ≤ 9223372036854775807) : Zj a b = some (ltV a b) := by
 unfold Zj ltV
 rw [aRa _ _ ha hb]
 by_cases h : a.kind = b.kind <;> by_cases h1 : a.kind = 1 <;> by_cases h2 : a.kind = 2 <;> cases ha : a.bool <;> simp_all [AD, AF]
theorem Hs (a : X0) : ltV a a = false := by
 unfold ltV; rw [if_pos rfl]; split
 ·simp
 ·split
  ·exact aG7 _
  ·cases a.bool <;> rfl
theorem Ew {a b c : X0} (h1 : ltV a b = true) (h2 : ltV b c = true) : ltV a c = true := by
 unfold ltV at *
 by_cases e1 : a.kind = b.kind
 ·by_cases e2 : b.kind = c.kind
  ·rw [if_pos e1] at h1
   rw [if_pos e2] at h2
   rw [if_pos (e1.trans e2)]
   rw [e1] at h1 ⊢
   split
   ·rename_i h; rw [if_pos h] at h1 h2; simp at h1 h2 ⊢; omega
   ·rename_i h; rw [if_neg h] at h1 h2
    split
    ·rename_i h; rw [if_pos h] at h1 h2; exact Nq h1 h2
    ·rename_i h; rw [if_neg h] at h1 h2; simp at h1 h2 ⊢; exact ⟨h1.1, h2.2⟩
  ·rw [if_neg e2] at h2; rw [e1, if_neg e2]; exact h2
 ·rw [if_neg e1] at h1
  by_cases e2 : b.kind = c.kind
  ·rw [← e2, if_neg e1]; exact h1
  ·rw [if_neg e2] at h2
   simp only [decide_eq_true_eq] at h1 h2
   rw [if_neg (by omega)]; simp; omega
theorem GB {v : X0} (h : vR v = true) : (v.kind = 1 ∧ v.str = [] ∧ v.bool = false) ∨ (v.kind = 2 ∧ v.int = 0 ∧ v.bool = false ∧ v.str.length ≤ 4096) ∨ (v.kind = 3 ∧ v.int = 0 ∧ v.str = []) := by
 unfold vR at h
 split at h
 ·left; simp at h; exact ⟨by assumption, h.1, h.2⟩
 ·split at h
  ·right; left; simp at h; exact ⟨by assumption, h.1.1, h.1.2, h.2⟩
  ·split at h
   ·right; right; simp at h; exact ⟨by assumption, h.1, h.2⟩
   ·cases h
theorem Ml {a b : X0} (ha : vR a = true) (hb : vR b = true) (h : a ≠ b) : ltV a b = true ∨ ltV b a = true := by
 unfold ltV
 by_cases e : a.kind = b.kind
 ·rw [if_pos e, if_pos e.symm, ← e]
  obtain ⟨k, n, s, t⟩ := a
  obtain ⟨k', n', s', t'⟩ := b
  simp only at e; subst e
  rcases GB ha with ⟨rfl, h2, h3⟩ | ⟨rfl, h2, h3, h4⟩ | ⟨rfl, h2, h3⟩ <;> rcases GB hb with ⟨g1, g2, g3⟩ | ⟨g1, g2, g3, g4⟩ | ⟨g1, g2, g3⟩ <;> simp only [Int.reduceEq] at g1 h2 h3 g2 g3 <;> subst_vars
  ·simp at h ⊢; omega
  ·simp at h ⊢; exact aG8 h
  ·simp at h ⊢; cases t <;> cases t' <;> simp_all
 ·rw [if_neg e, if_neg (Ne.symm e)]; simp; omega
theorem aGe {w w' : List X2} {x s : X2} (h : IQ w x = some w') (hs : s ∈ w') : s = x ∨ s ∈ w := by
 unfold IQ at h
 split at h
 ·split at h
  ·cases h; exact .inr hs
  ·cases h
 ·cases h; exact (C4 w x s).1 hs
theorem N5 : ∀ (al : List Av) (xs : List X0) (b f : List X2) (p : List X2 × List X2), Eo al xs b f = some p → ∀ s ∈ p.1, s ∈ b ∨ s.value ∈ xs
 | [], xs, b, f, p, h => by simp only [Eo] at h; cases h; exact fun s hs => .inl hs
 | a :: al, [], b, f, p, h => by simp only [Eo] at h; cases h; exact fun s hs => .inl hs
 | a :: al, x :: xs, b, f, p, h => by
  simp only [Eo] at h
  have go : ∀ b f, Eo al xs b f = some p → ∀ s ∈ p.1, s ∈ b ∨ s.value ∈ x :: xs := fun b f h s hs => (N5 al xs b f p h s hs).imp id (List.mem_cons_of_mem _)
  split at h
  ·split at h
   ·exact go b f h
   ·cases h
  ·split at h
   ·split at h
    ·cases h
    ·rename_i b' hp
     intro s hs
     rcases go b' f h s hs with g | g
     ·rcases aGe hp g with rfl | g
      ·exact .inr (by simp)
      ·exact .inl g
     ·exact .inr g
   ·split at h
    ·split at h
     ·cases h
     ·rename_i f' hp
      exact go b f' h
    ·exact go b f h
theorem Kr {q : AE} {e : X3} {i : Nat} {h : AN} (hi : EX q i e = some h) : h.symbol = i ∧ ∀ s ∈ h.bind, s.value ∈ e.args := by
 unfold EX at hi
 split at hi
 ·cases hi
 ·split at hi
  ·cases hi
  ·split at hi
   ·simp only [om] at hi
    obtain ⟨p, hp, rfl⟩ := hi
    exact ⟨rfl, fun s hs => (N5 _ _ _ _ _ hp s hs).resolve_left (by simp)⟩
   ·cases hi
theorem aFw (q : AE) (e : X3) (hF : DJ q) : (D9 q e).length ≤ 1000 := by
 unfold D9
 split
 ·refine Nat.le_trans (List.length_filterMap_le _ _) ?_
  rw [List.length_range]
  exact Nat.le_trans hF.symbols (by decide)
 ·simp
theorem aOn {q : AE} (hF : DJ q) (hR : A6 q) {e : X3} (h12 : e.args.length ≤ 12) : Qf q e = some (D9 q e) := by
 unfold Qf Qi
 rw [AB]
 unfold U0 Xp
 simp only
 rw [aOq hF hR h12]
 have key : ∀ (hs w : List AN), w.length + hs.length ≤ 1000 → Jt (Ca (Cf q e)) hs (.inl w) = some (.inl (w ++ hs)) := by
  intro hs
  induction hs with
  | nil => intro w _; simp [Jt]
  | cons h hs ih =>
   intro w hl
   rw [List.length_cons] at hl
   have e1 : Ca (Cf q e) (.inl w) h = some (.inl (w ++ [h]), true) := by
    simp only [Ca, Cf, aA5, aA7, AB]
    rw [Kb (by simp; omega) (by decide), AB]
   rw [Jt, e1]
   simp only
   rw [ih _ (by simp; omega)]
   simp
 rw [key _ _ (by have := aFw q e hF; simp; omega)]
 rfl
theorem PM {α : Type} {p : α → Bool} {w : List α} {k : Nat} (h1 : ∀ (j : Nat) y, w[j]? = some y → j < k → p y = true) (h2 : ∀ (j : Nat) y, w[j]? = some y → k ≤ j → p y = false) : w.take k = w.filter p ∧ w.drop k = w.filter fun y => !p y := by
 have a : ∀ y ∈ w.take k, p y = true := fun y hy => by
  obtain ⟨j, hj⟩ := List.mem_iff_getElem?.1 hy
  rw [List.getElem?_take] at hj
  split at hj
  ·exact h1 j y hj (by assumption)
  ·cases hj
 have b : ∀ y ∈ w.drop k, p y = false := fun y hy => by
  obtain ⟨j, hj⟩ := List.mem_iff_getElem?.1 hy
  rw [List.getElem?_drop] at hj
  exact h2 (k + j) y hj (by omega)
 have e : ∀ p : α → Bool, w.filter p = (w.take k).filter p ++ (w.drop k).filter p := fun p => by rw [← List.filter_append, List.take_append_drop]
 constructor
 ·rw [e, List.filter_eq_self.2 a, List.filter_eq_nil_iff.2 (fun y hy => by simp [b y hy]), List.append_nil]
 ·rw [e, List.filter_eq_nil_iff.2 (fun y hy => by simp [a y hy]), List.filter_eq_self.2 (fun y hy => by simp [b y hy]), List.nil_append]
def SW (w : List X0) : Prop := w.Pairwise (fun a b => ltV a b = true) ∧ ∀ v ∈ w, vR v = true
def LQ (w : List X0) (x : X0) : List X0 := if x ∈ w then w else w.filter (fun y => ltV y x) ++ x :: w.filter fun y => !ltV y x
theorem aHs {v : X0} (h : vR v = true) : v.str.length ≤ 9223372036854775807 := by
 rcases GB h with ⟨_, h2, _⟩ | ⟨_, _, _, h4⟩ | ⟨_, _, h3⟩
 ·rw [h2]; decide
 ·omega
 ·rw [h3]; decide
theorem aF5 {a b : X0} (h1 : ltV a b = true) : ltV b a = false := by
 cases h : ltV b a with
 | false => rfl
 | true => have := Ew h1 h; rw [Hs] at this; cases this
theorem aH1 {w : List X0} (hw : SW w) {i j : Nat} {y z : X0} (hi : w[i]? = some y) (hj : w[j]? = some z) (h : i < j) : ltV y z = true := by
 obtain ⟨a1, rfl⟩ := List.getElem?_eq_some_iff.1 hi
 obtain ⟨a2, rfl⟩ := List.getElem?_eq_some_iff.1 hj
 exact List.pairwise_iff_getElem.1 hw.1 i j a1 a2 h
theorem KI {w : List X0} {x : X0} (hw : SW w) (hx : vR x = true) : SW (LQ w x) ∧ (LQ w x).length = w.length + (if x ∈ w then 0 else 1) := by
 unfold LQ
 split
 ·exact ⟨hw, by simp [*]⟩
 ·rename_i hn
  refine ⟨⟨?_, fun b hb => ?_⟩, ?_⟩
  ·rw [List.pairwise_append, List.pairwise_cons]
   have hgt : ∀ y ∈ w.filter (fun y => !ltV y x), ltV x y = true := fun y hy => by
    obtain ⟨h1, h2⟩ := List.mem_filter.1 hy
    rcases Ml (hw.2 y h1) hx (fun e => hn (e ▸ h1)) with g | g
    ·rw [g] at h2; cases h2
    ·exact g
   refine ⟨hw.1.filter _, ⟨hgt, hw.1.filter _⟩, fun y hy z hz => ?_⟩
   have hyx := (List.mem_filter.1 hy).2
   rcases mc.1 hz with rfl | hz
   ·exact hyx
   ·exact Ew hyx (hgt z hz)
  ·rcases ma.1 hb with h | h
   ·exact hw.2 b (List.mem_filter.1 h).1
   ·rcases mc.1 h with rfl | h
    ·exact hx
    ·exact hw.2 b (List.mem_filter.1 h).1
  ·have h1 : ∀ w : List X0, (w.filter fun y => ltV y x).length + (w.filter fun y => !ltV y x).length = w.length := by
    intro w
    induction w with
    | nil => rfl
    | cons y w ih => rw [List.filter_cons, List.filter_cons]; cases ltV y x <;> simp <;> omega
   have h1 := h1 w
   rw [List.length_append, List.length_cons]
   omega
def AtW (w : List X0) (x : X0) (k : Nat) : Prop := k ≤ w.length ∧ (∀ (j : Nat) y, w[j]? = some y → j < k → ltV y x = true) ∧ (∀ (j : Nat) y, w[j]? = some y → k ≤ j → ltV y x = false)
theorem aG4 {w : List X0} {x : X0} {k : Nat} (h : AtW w x k) (hn : x ∉ w) : w.take k ++ [x] ++ w.drop k = LQ w x := by
 obtain ⟨c1, c2⟩ := PM h.2.1 h.2.2
 unfold LQ
 rw [c1, c2, if_neg hn]
 simp
def aK3 (y x : X0) : Int := if ltV y x = true then -1 else if ltV x y = true then 1 else 0
theorem XD {y x : X0} {s : List X0} (hy : vR y = true) (hx : vR x = true) : Zw y x s = some (aK3 y x) := by
 unfold Zw aK3
 rw [aMn, aMn, AB, AB]
 cases ltV y x <;> cases ltV x y <;> rfl
theorem aJ8 {y x : X0} : decide (aK3 y x < 0) = ltV y x := by
 unfold aK3; cases ltV y x <;> cases ltV x y <;> rfl
theorem aJ6 {w s : List X0} {x : X0} (hw : SW w) (hx : vR x = true) (hl : w.length ≤ 1000) :
 ∃ k : Nat, AtW w x k ∧ Xq w x s = some ((k : Int), decide (x ∈ w)) := by
 have hsub : ∀ y ∈ w, Zw y x s = some (aK3 y x) := fun y hy => XD (hw.2 y hy) hx
 unfold Xq Ox
 obtain ⟨k, hk, hkr, p1, p2⟩ := Vp (step := fun s' : Int × Int => ES w s (w.length : Int) x s'.1 s'.2) w.length (fun a => match w[a]? with | some y => ltV y x | none => false)
  (fun i j hij hj => by
   obtain ⟨y, hy, _⟩ := AY (l := w) (i := (i + j) / 2) (by omega)
   have hd : decide ((i : Int) < (j : Int)) = true := by simp; omega
   simp only [ES, hd, AJ, aBa, aTo (show i + j < 4611686018427387904 by omega), AO hy, hsub y (List.mem_of_getElem? hy), AB, Sq, hy, aJ8]
   cases ltV y x with
   | true => simp only [AJ, AB, if_true, J9 (show (i + j) / 2 < 9223372036854775807 by omega)]
   | false => simp [AD, AF])
  (fun i => by simp [ES, AD])
  (fun a b hab hb h => by
   obtain ⟨y, hy, _⟩ := AY (l := w) (i := a) (by omega)
   obtain ⟨z, hz, _⟩ := AY (l := w) (i := b) hb
   simp only [hy, hz] at h ⊢
   rcases Nat.lt_or_ge a b with g | g
   ·exact Ew (aH1 hw hy hz g) h
   ·have : a = b := by omega
    subst this; rw [hy] at hz; cases hz; exact h)
 have q1 : ∀ (j : Nat) y, w[j]? = some y → j < k → ltV y x = true := fun j s hs hj => by
  have := p1 j hj; simp only [hs] at this; exact this
 have q2 : ∀ (j : Nat) y, w[j]? = some y → k ≤ j → ltV y x = false := fun j s hs hj => by
  have := p2 j hj (Fz hs); simp only [hs] at this; exact this
 refine ⟨k, ⟨hk, q1, q2⟩, ?_⟩
 rw [hkr, AB]
 have hmem : ∀ j : Nat, w[j]? = some x → j = k := fun j hj => by
  rcases Nat.lt_trichotomy j k with g | g | g
  ·have := q1 j x hj g; rw [Hs] at this; cases this
  ·exact g
  ·obtain ⟨y, hy, _⟩ := AY (l := w) (i := k) (by have := Fz hj; omega)
   have h1 := q2 k y hy (Nat.le_refl _)
   rw [aH1 hw hy hj g] at h1; cases h1
 by_cases h : k < w.length
 ·obtain ⟨y, hy, _⟩ := AY h
  rw [CX, if_pos (by omega), AO hy, hsub y (List.mem_of_getElem? hy), AB]
  have hge := q2 k y hy (Nat.le_refl _)
  congr 2
  rw [decide_eq_decide]
  unfold aK3
  rw [hge, if_neg (by simp)]
  constructor
  ·intro hc
   rcases (Classical.em (y = x)) with e | e
   ·exact e ▸ List.mem_of_getElem? hy
   ·rcases Ml (hw.2 y (List.mem_of_getElem? hy)) hx e with g | g
    ·rw [hge] at g; cases g
    ·rw [if_pos g] at hc; cases hc
  ·intro hm
   obtain ⟨j, hj⟩ := List.mem_iff_getElem?.1 hm
   have := hmem j hj
   subst this
   rw [hy] at hj; cases hj
   rw [Hs]; rfl
 ·rw [CX, if_neg (by omega)]
  congr 2
  symm
  rw [decide_eq_false_iff_not]
  intro hm
  obtain ⟨j, hj⟩ := List.mem_iff_getElem?.1 hm
  have := hmem j hj
  have := Fz hj
  omega
theorem KG {w : List X0} {x : X0} (hw : SW w) (hx : vR x = true) (hl : w.length ≤ 900) : Yz x w = some (!decide (x ∈ w), LQ w x) := by
 unfold Yz Uk
 obtain ⟨k, hk, hb⟩ := aJ6 (s := w) hw hx (by omega)
 rw [hb, AB]
 by_cases hm : x ∈ w
 ·simp [hm, AD, AF, LQ]
 ·have hin : Qt (k : Int) w [x] = some (LQ w x) := by
   unfold Qt aK5
   have := hk.1
   rw [if_pos ⟨by omega, by omega, by simp, BH (by simp; omega) (by decide)⟩, Int.toNat_natCast, aG4 hk hm]
  simp only [hm, decide_false, Bool.not_false, AJ]
  rw [hin]; rfl
theorem aGl {α : Type} (w : List α) (k : Nat) : sub w 0 (k : Int) = w.take k := by simp [sub]
theorem aGk {α : Type} (w : List α) (k : Nat) : sub w (k : Int) (w.length : Int) = w.drop k := by simp [sub]
theorem aDg {w : List X0} {x : X0} (hw : SW w) (hx : vR x = true) (hl : w.length ≤ 900) : Yd w x = some (LQ w x) := by
 unfold Yd aIz
 obtain ⟨t, ht, k, hk, rfl, p1, p2⟩ := A5 (step := fun s => HA w x s) (fun s => ∃ i : Nat, s = (i : Int) ∧ i ≤ w.length ∧ ∀ (j : Nat) s, w[j]? = some s → i ≤ j → ltV x s = true) (fun s => s.toNat)
  (fun t => ∃ k : Nat, k ≤ w.length ∧ t = (k : Int) ∧ (∀ (j : Nat) s, w[j]? = some s → k = j + 1 → ltV x s = false) ∧ ∀ (j : Nat) s, w[j]? = some s → k ≤ j → ltV x s = true)
  (by
   rintro s ⟨i, rfl, hi, hj⟩
   cases i with
   | zero => exact .inl ⟨0, by simp [HA, AD], 0, by omega, rfl, fun j s _ h => by omega, hj⟩
   | succ i =>
    obtain ⟨y, hy, _⟩ := AY (l := w) (i := i) (by omega)
    have hyR := hw.2 y (List.mem_of_getElem? hy)
    have e : AA .sub .i64 ((i + 1 : Nat) : Int) 1 = (i : Int) := by rw [Pi (by omega) (by omega)]; omega
    have hd : decide ((0 : Int) < ((i + 1 : Nat) : Int)) = true := by simp
    simp only [HA, hd, AJ, e, AO hy, aSa _ _ (aHs hx) (aHs hyR), AB]
    cases h : ltV x y with
    | true =>
     refine .inr ⟨_, by simp only [AJ], ⟨i, rfl, by omega, fun j s hs hij => ?_⟩, by omega⟩
     rcases Nat.eq_or_lt_of_le hij with g | g
     ·subst g; rw [hy] at hs; cases hs; exact h
     ·exact hj j s hs g
    | false =>
     refine .inl ⟨_, by simp only [AI], i + 1, hi, rfl, fun j s hs hij => ?_, hj⟩
     have : j = i := by omega
     subst this; rw [hy] at hs; cases hs; exact h)
  (w.length : Int) ⟨w.length, rfl, Nat.le_refl _, fun j s hs hij => by have := Fz hs; omega⟩
 rw [ht, AB]
 have hrest : (∀ y, w[k - 1]? = some y → 0 < k → y ≠ x) → (AZ ((0 : Int) ≤ 0 ∧ (0 : Int) ≤ (k : Int) ∧ (k : Int) ≤ (w.length : Int)) (
  AZ (fit ([] : List X0).length (sub w 0 (k : Int)).length 40) (
   AZ (fit (([] : List X0) ++ (sub w 0 (k : Int))).length [x].length 40) (
    AZ ((0 : Int) ≤ (k : Int) ∧ ((k : Int) : Int) ≤ (w.length : Int) ∧ (w.length : Int) ≤ (w.length : Int)) (
     AZ (fit ((([] : List X0) ++ (sub w 0 (k : Int))) ++ [x]).length (sub w (k : Int) (w.length : Int)).length 40) (
      some (((([] : List X0) ++ (sub w 0 (k : Int))) ++ [x]) ++ (sub w (k : Int) (w.length : Int)))))))) : Option (List X0)) = some (LQ w x) := by
  intro hne
  have hlt : ∀ (j : Nat) y, w[j]? = some y → j < k → ltV y x = true := fun j y hy hj => by
   obtain ⟨z, hz, _⟩ := AY (l := w) (i := k - 1) (by omega)
   have h1 := p1 (k - 1) z hz (by omega)
   have h2 := hne z hz (by omega)
   have h3 : ltV z x = true := by
    rcases Ml (hw.2 z (List.mem_of_getElem? hz)) hx h2 with g | g
    ·exact g
    ·rw [h1] at g; cases g
   rcases Nat.lt_or_ge j (k - 1) with g | g
   ·exact Ew (aH1 hw hy hz g) h3
   ·have : j = k - 1 := by omega
    subst this; rw [hz] at hy; cases hy; exact h3
  have hAt : AtW w x k := ⟨hk, hlt, fun j y hy hj => aF5 (p2 j y hy hj)⟩
  have hn : x ∉ w := fun hm => by
   obtain ⟨j, hj⟩ := List.mem_iff_getElem?.1 hm
   rcases Nat.lt_or_ge j k with g | g
   ·have := hlt j x hj g; rw [Hs] at this; cases this
   ·have := p2 j x hj g; rw [Hs] at this; cases this
  rw [aGl, aGk, BK (by omega), Kb (by simp; omega) (by decide), Kb (by simp; omega) (by decide), BK (by omega), Kb (by simp; omega) (by decide), List.nil_append, aG4 hAt hn]
 rw [CX]
 split
 ·rename_i h0
  obtain ⟨y, hy, _⟩ := AY (l := w) (i := k - 1) (by omega)
  have e : AA .sub .i64 (k : Int) 1 = ((k - 1 : Nat) : Int) := by rw [Pi (by omega) (by omega)]; omega
  rw [e, AO hy, X0.eqb_dec]
  by_cases hyx : y = x
  ·subst hyx
   have hm := List.mem_of_getElem? hy
   simp [AD, LQ, hm]
  ·simp only [hyx, decide_false, AI]
   exact hrest fun z hz _ => by rw [hy] at hz; cases hz; exact hyx
 ·exact hrest fun z hz h => by omega
theorem aLz {q : AE} {e : X3} (hF : DJ q) (hR : A6 q) : Y3 q e = some ((List.range q.symbols.length).filterMap fun i => EX q i e) := by
 have hs := hF.symbols
 unfold Y3 aIr
 have h := Ct (step := fun s : Int × List AN => G5 q e s.1 s.2) (List.range q.symbols.length) (fun w i => w ++ (EX q i e).toList) (fun w => w) (fun i w => w.length ≤ i)
  (fun i x w hx hI => by
   obtain ⟨rfl, hi⟩ := We hx
   have hlt : decide ((x : Int) < (q.symbols.length : Int)) = true := by simp; omega
   refine ⟨?_, by cases EX q x e <;> simp <;> omega⟩
   simp only [G5, hlt, AJ, aCp, aQc hF hR hi, AB, aCr, J9 (show x < 9223372036854775807 by omega)]
   rw [Kb (by simp; omega) (by decide)]
   cases EX q x e <;> simp [Pf, AD, AF])
  (fun w _ => by rw [List.length_range]; simp only [G5, ltI, AI]) [] (by simp)
 rw [h, AB, IN]
 simp
def BY (a b : List X2) : Bool := a.all fun s => decide (B0 b s.var = (s.value, true))
theorem aRv (a b : List X2) (ha : a.length ≤ 9223372036854775807) (hb : b.length ≤ 9223372036854775807) : Z6 a b = some (BY a b) := by
 unfold Z6 aJe
 rw [Ev a (fun s => decide (B0 b s.var = (s.value, true))) (.inl ()) (.inr ())
  (fun i x hx => by
   simp only [JU, ltD hx, AJ, AO hx, At hx ha, aDn b _ hb, AB, X0.eqb_dec]
   obtain ⟨y, o⟩ := B0 b x.var
   cases o
   ·simp [AD]
   ·by_cases h : y = x.value <;> simp [AD, h])
  (by simp only [JU, ltI, AI]), AB]
 unfold BY
 cases a.all _ <;> rfl
theorem aPz (a b : List X2) (ha : a.length ≤ 9223372036854775807) (hb : b.length ≤ 9223372036854775807) : Xf a b = some (BY a b) := by
 unfold Xf U1
 simp only [AB]
 unfold Y9 aIx
 have h := Di (step := fun s : (Bool ⊕ Bool) × Int => G8 (Ca (Ce a b)) b a (a.length : Int) s.1 s.2) a (fun i w => (w, (i : Int)))
  (fun _ (w : Bool ⊕ Bool) x => if B0 b x.var = (x.value, true) then .inl w else .inr (.inr (.inr false))) (fun w => .inl w) (fun _ w => w = .inl false) (fun i x w hx hI => by
   subst hI
   refine ⟨?_, fun w' hw => ?_⟩
   ·simp only [G8, ltD hx, AJ, aC8, AO hx, aQs b _ hb, AB, At hx ha]
    obtain ⟨y, o⟩ := B0 b x.var
    cases o
    ·simp [AD, W9, Ca, Ce, BI, AF, ZW, ZZ]
    ·by_cases h : y = x.value <;> simp [AD, W9, Ca, Ce, BI, AF, ZV, ZY, X0.eqb_dec, h]
   ·split at hw
    ·cases hw; rfl
    ·cases hw)
  (fun w _ => by simp only [G8, ltI, AI]) (a.length + 1) 0 (.inl false) (by omega) (by omega) rfl
 rw [show ((.inl false : Bool ⊕ Bool), (0 : Int)) = (.inl false, ((0 : Nat) : Int)) from rfl, h, List.drop_zero, AB]
 unfold BY
 generalize 0 = i
 clear h ha
 revert i
 induction a with
 | nil => intro i; rfl
 | cons x xs ih =>
  intro i
  rw [Ph, List.all_cons]
  by_cases h : B0 b x.var = (x.value, true)
  ·simp only [h, if_true, decide_true, Bool.true_and]; exact ih (i + 1)
  ·simp [h, BI, AF]
theorem aL1 {l : List AN} {b : List X2} (hl : l.length ≤ 1000) (hs : ∀ h ∈ l, h.bind.length ≤ 9223372036854775807) (hb : b.length ≤ 9223372036854775807) : Y5 l b = some (l.filter fun h => BY h.bind b) := by
 unfold Y5 aIs
 rw [Ct l (fun w x => if (BY x.bind b) = true then w ++ [x] else w) (fun w => w) (fun i w => w.length ≤ i)
  (fun i x w hx hI => by
   have := Fz hx
   refine ⟨?_, ?_⟩
   rotate_left
   ·split
    ·simpa using hI
    ·omega
   simp only [JN, ltD hx, AJ, aCu, AO hx, aRv _ _ (hs x (List.mem_of_getElem? hx)) hb, AB, aCw, At hx (show l.length ≤ 9223372036854775807 by omega)]
   rw [Kb (by simp; omega) (by decide)]
   cases BY x.bind b <;> simp [AD, AF])
  (fun w _ => by simp only [JN, ltI, AI]) [] (by simp), Fq, AB]
 simp
def BR (b : List X2) : Prop := b.Pairwise (fun x y => x.var < y.var) ∧ ∀ s ∈ b, 0 ≤ s.var ∧ s.var ≤ 7 ∧ vR s.value = true
theorem I6 : ∀ (b : List X2) (lo : Int), b.Pairwise (fun x y => x.var < y.var) → (∀ s ∈ b, lo ≤ s.var ∧ s.var ≤ 7) → b.length ≤ (8 - lo).toNat
 | [], _, _, _ => by simp
 | x :: b, lo, hp, h => by
  rw [List.pairwise_cons] at hp
  have h1 := I6 b (x.var + 1) hp.2 fun s hs => ⟨by have := hp.1 s hs; omega, (h s (List.mem_cons_of_mem _ hs)).2⟩
  have h2 := h x (by simp)
  rw [List.length_cons]; omega
theorem M6 {b : List X2} (h : BR b) : b.length ≤ 8 := by
 have := I6 b 0 h.1 fun s hs => ⟨(h.2 s hs).1, (h.2 s hs).2.1⟩
 omega
def okB (l : List X2) (i : Nat) : Prop := ∀ j, j < i → ∃ x, l[j]? = some x ∧ 0 ≤ x.var ∧ x.var ≤ 7 ∧ vR x.value = true ∧ ∀ y, 0 < j → l[j - 1]? = some y → y.var < x.var
theorem WY {l : List X2} (h : okB l l.length) : BR l := by
 have get : ∀ j (hj : j < l.length), 0 ≤ l[j].var ∧ l[j].var ≤ 7 ∧ vR l[j].value = true ∧ ∀ (_ : 0 < j) (h2 : j - 1 < l.length), l[j - 1].var < l[j].var := by
  intro j hj
  obtain ⟨x, hx, h1, h2, h5, h3⟩ := h j hj
  obtain ⟨_, rfl⟩ := List.getElem?_eq_some_iff.1 hx
  exact ⟨h1, h2, h5, fun h0 h4 => h3 _ h0 (List.getElem?_eq_getElem h4)⟩
 refine ⟨List.pairwise_iff_getElem.2 ?_, fun s hs => ?_⟩
 ·intro i j hi hj hij
  induction j with
  | zero => omega
  | succ j ih =>
   have h1 := (get (j + 1) hj).2.2.2 (by omega) (by simp; omega)
   simp only [Nat.add_sub_cancel] at h1
   rcases Nat.lt_or_ge i j with h2 | h2
   ·have := ih (by omega) h2; omega
   ·have : i = j := by omega
    subst this; exact h1
 ·obtain ⟨j, hj, rfl⟩ := List.mem_iff_getElem.1 hs
  exact ⟨(get j hj).1, (get j hj).2.1, (get j hj).2.2.1⟩
theorem LC (l : List X2) (hl : l.length ≤ 9223372036854775807) : ∃ b, Za l = some b ∧ (b = true → BR l) := by
 unfold Za aJi
 obtain ⟨t, ht, hQ⟩ := A5 (step := fun s => HS l s) (fun s => ∃ i : Nat, s = (i : Int) ∧ i ≤ l.length ∧ okB l i) (fun s => (l.length - s).toNat) (fun t => t = .inl () → okB l l.length)
  (by
   rintro s ⟨i, rfl, hi, hok⟩
   by_cases he : i = l.length
   ·subst he
    exact .inl ⟨.inl (), by simp only [HS, ltI, AI], fun _ => hok⟩
   ·obtain ⟨x, hx, _⟩ := AY (l := l) (i := i) (by omega)
    simp only [HS, ltD hx, AJ, AO hx, aEm, AB, At hx hl, CX]
    have hgo : (∀ y, 0 < i → l[i - 1]? = some y → y.var < x.var) → ¬ x.var < 0 → ¬ 7 < x.var → vR x.value = true → okB l (i + 1) := by
     intro h1 h2 h3 h5 j hj
     rcases Nat.lt_or_ge j i with h4 | h4
     ·exact hok j h4
     ·have : j = i := by omega
      subst this
      exact ⟨x, hx, by omega, by omega, h5, h1⟩
    by_cases h1 : x.var < 0
    ·exact .inl ⟨.inr (), by simp [h1], by simp⟩
    by_cases h2 : 7 < x.var
    ·exact .inl ⟨.inr (), by simp [h1, h2], by simp⟩
    cases hb : vR x.value with
    | false => exact .inl ⟨.inr (), by simp [h1, h2, AD], by simp⟩
    | true =>
     by_cases h3 : 0 < i
     ·obtain ⟨y, hy, _⟩ := AY (l := l) (i := i - 1) (by omega)
      have e : AA .sub .i64 (i : Int) 1 = ((i - 1 : Nat) : Int) := by rw [Pi (by omega) (by omega)]; omega
      rw [e, AO hy]
      by_cases h4 : x.var ≤ y.var
      ·exact .inl ⟨.inr (), by simp [h1, h2, h3, h4, AD], by simp⟩
      ·refine .inr ⟨((i + 1 : Nat) : Int), by simp [h1, h2, h3, h4, AD], ⟨i + 1, rfl, by omega, hgo (fun z _ hz => ?_) h1 h2 hb⟩, by omega⟩
       rw [hy] at hz; cases hz; omega
     ·refine .inr ⟨((i + 1 : Nat) : Int), by simp [h1, h2, h3, AD], ⟨i + 1, rfl, by omega, hgo (fun z h0 => absurd h0 h3) h1 h2 hb⟩, by omega⟩)
  (0 : Int) ⟨0, rfl, by omega, fun j hj => by omega⟩
 rw [ht, AB]
 rcases t with _ | _
 ·exact ⟨true, rfl, fun _ => WY (hQ rfl)⟩
 ·exact ⟨false, rfl, by simp⟩
theorem aMq {l : List AN} {b : List X2} (hl : l.length ≤ 1000) (hs : ∀ h ∈ l, h.bind.length ≤ 9223372036854775807) (hb : b.length ≤ 9223372036854775807) : Zz l b = some (l.filter fun h => BY h.bind b) := by
 unfold Zz Yg aI3
 have h := Ct (step := fun s : Int × List AN × List AN => HB b l (l.length : Int) s.1 s.2.1 s.2.2) l (fun w e => if BY e.bind b = true then (w.1 ++ [e], w.2) else (w.1, w.2 ++ [e])) (fun w => w) (fun i w => w.1.length ≤ i ∧ w.2.length ≤ i)
  (fun i x w hx hI => by
   have hi := Fz hx
   refine ⟨?_, by split <;> simp <;> omega⟩
   simp only [HB, ltD hx, AJ, aDp, AO hx, U2, aPz _ _ (hs x (List.mem_of_getElem? hx)) hb, AB, aDr, At hx (show l.length ≤ 9223372036854775807 by omega)]
   rw [Kb (by simp; omega) (by decide), Kb (by simp; omega) (by decide)]
   cases BY x.bind b <;> simp [AD, AF])
  (fun w _ => by simp only [HB, ltI, AI]) (([] : List AN), ([] : List AN)) (by simp)
 rw [h, AB, AB]
 congr 1
 have key : ∀ (l : List AN) (w : List AN × List AN), (l.foldl (fun w e => if BY e.bind b = true then (w.1 ++ [e], w.2) else (w.1, w.2 ++ [e])) w).1 = w.1 ++ l.filter fun h => BY h.bind b := by
  intro l
  induction l with
  | nil => intro w; simp
  | cons e l ih => intro w; rw [List.foldl_cons, ih, List.filter_cons]; cases BY e.bind b <;> simp
 simp only [key]; simp
theorem aGi {s : Nat} (h : s < 64) : AA .shl .u64 1 (s : Int) = ((2 ^ s : Nat) : Int) := by
 have e : (1 : Int) * 2 ^ (min (Int.toNat (s : Int)) (IntKind.bits .u64)) = ((2 ^ s : Nat) : Int) := by
  rw [Int.toNat_natCast, show min s (IntKind.bits .u64) = s from Nat.min_eq_left (Nat.le_of_lt h)]
  simp
 show IntKind.wrap .u64 (1 * 2 ^ (min (Int.toNat (s : Int)) (IntKind.bits .u64))) = _
 rw [e]
 exact BO (Nat.lt_of_lt_of_le (Nat.pow_lt_pow_right (by decide) h) (by decide))
structure DG (q : AE) : Prop where
 frees : q.frees = []
 quants : q.quants.length ≤ 1
 states : q.states.length ≤ 8
 symbols : q.symbols.length ≤ 8
 guards : ∀ t ∈ q.trans, t.guard = -1
theorem aRm {q : AE} (hF : DJ q) : ∃ r, Yy q = some r ∧ (r = true → DG q) := by
 have ht := hF.trans
 obtain ⟨o, ho, hQ⟩ := Ah (step := fun s => HL q s) q.trans.length (fun i => ∀ t, q.trans[i]? = some t → t.guard = -1) (fun o => o = Sum.inl () → ∀ t ∈ q.trans, t.guard = -1)
  (fun i hi => by
   obtain ⟨x, hx, _⟩ := AY hi
   simp only [HL, ltD hx, AJ, AO hx, At hx (show q.trans.length ≤ 9223372036854775807 by omega)]
   by_cases h : x.guard = -1
   ·exact .inl ⟨by rw [decide_eq_true h]; rfl, fun t h2 => by rw [hx, oe] at h2; exact h2 ▸ h⟩
   ·exact .inr ⟨.inr (), by rw [decide_eq_false h]; rfl, fun h => by cases h⟩)
  (fun hall => ⟨.inl (), by simp only [HL, ltI, AI], fun _ => EU hall⟩)
 have ho' : aJb q 0 = some o := ho
 unfold Yy
 refine A4 (fun _ => ⟨_, rfl, by simp⟩) (fun h1 => ?_)
 refine A4 (fun _ => ⟨_, rfl, by simp⟩) (fun h2 => ?_)
 refine A4 (fun _ => ⟨_, rfl, by simp⟩) (fun h3 => ?_)
 refine A4 (fun _ => ⟨_, rfl, by simp⟩) (fun h4 => ?_)
 refine BA ho' ?_
 rcases o with ⟨⟩ | ⟨⟩
 ·rw [BU]
  exact ⟨_, rfl, fun _ => ⟨List.eq_nil_of_length_eq_zero (by omega), by omega, by omega, by omega, hQ rfl⟩⟩
 ·rw [Cx]
  exact ⟨_, rfl, by simp⟩
theorem aOc (q : AE) (b : List X2) (hb : b.length ≤ 9223372036854775807) : ∃ r, Q5 q b = some r ∧ (r = true → BR b) := by
 unfold Q5
 refine A4 (fun h => ⟨_, rfl, fun _ => ?_⟩) (fun _ => ?_)
 ·have : b = [] := List.eq_nil_of_length_eq_zero (by omega)
  subst this; exact ⟨List.Pairwise.nil, by simp⟩
 refine A4 (fun h1 => ?_) (fun _ => ⟨_, rfl, by simp⟩)
 refine A4 (fun h2 => ?_) (fun _ => ⟨_, rfl, by simp⟩)
 obtain ⟨x, hx, _⟩ := AY (l := b) (i := 0) (by omega)
 obtain ⟨y, hy, _⟩ := AY (l := q.quants) (i := 0) (by omega)
 rw [show (0 : Int) = ((0 : Nat) : Int) from rfl, AO hx]
 refine A4 (fun h3 => ?_) (fun _ => ⟨_, rfl, by simp⟩)
 rw [AO hx, AO hy]
 refine A4 (fun h4 => ?_) (fun _ => ⟨_, rfl, by simp⟩)
 obtain ⟨r, hr, hR⟩ := LC b hb
 exact BA hr ⟨_, rfl, hR⟩
theorem aRg (q : AE) (b : List X2) (hW : ∀ t ∈ q.trans, KJ t) (hb : b.length ≤ 9223372036854775807) : ∃ r, Ys q b = some r ∧ (r = true → DJ q ∧ A6 q ∧ DG q ∧ b.length = q.quants.length ∧ BR b ∧ ∀ d ∈ q.decls, d.types.length ≤ 3) := by
 obtain ⟨n, hn, hF⟩ := aPq q
 unfold Ys
 refine BA hn ?_
 refine A4 (fun _ => ⟨_, rfl, by simp⟩) (fun h0 => ?_)
 have hF := hF h0
 obtain ⟨r, hr, hR⟩ := aRe q hF hW
 refine BA hr ?_
 refine Df (fun _ => ⟨_, rfl, by simp⟩) (fun h1 => ?_)
 have hR := hR h1
 obtain ⟨r3, hr3, hS⟩ := aRm hF
 refine BA hr3 ?_
 refine Df (fun _ => ⟨_, rfl, by simp⟩) (fun h2 => ?_)
 obtain ⟨r4, hr4, hB⟩ := aOc q b hb
 refine BA hr4 ?_
 refine Df (fun _ => ⟨_, rfl, by simp⟩) (fun h3 => ?_)
 refine CF (fun _ => ⟨_, rfl, by simp⟩) (fun h4 => ?_)
 have hd := hF.decls
 obtain ⟨o, ho, hQ⟩ := Ah (step := fun s => HH b q s) q.decls.length (fun i => ∀ d, q.decls[i]? = some d → d.types.length ≤ 3) (fun o => o = Sum.inl () → ∀ d ∈ q.decls, d.types.length ≤ 3)
  (fun i hi => by
   obtain ⟨x, hx, _⟩ := AY hi
   simp only [HH, ltD hx, AJ, AO hx, At hx (show q.decls.length ≤ 9223372036854775807 by omega)]
   by_cases h : (3 : Int) < (x.types.length : Int)
   ·exact .inr ⟨.inr (), by rw [decide_eq_true h]; rfl, fun h => by cases h⟩
   ·exact .inl ⟨by rw [decide_eq_false h]; rfl, fun t h2 => by rw [hx, oe] at h2; subst h2; omega⟩)
  (fun hall => ⟨.inl (), by simp only [HH, ltI, AI], fun _ => EU hall⟩)
 have ho' : aI6 b q 0 = some o := ho
 refine BA ho' ?_
 have hall : ∀ {r : Bool}, o = Sum.inl () → (r = true → DJ q ∧ A6 q ∧ DG q ∧ b.length = q.quants.length ∧ BR b ∧ ∀ d ∈ q.decls, d.types.length ≤ 3) := fun e _ => ⟨hF, hR, hS h2, by omega, hB h3, hQ e⟩
 rcases o with ⟨⟩ | ⟨⟩
 ·rw [BU]
  refine A4 (fun _ => ⟨_, rfl, hall rfl⟩) (fun h => ?_)
  obtain ⟨x, hx, _⟩ := AY (l := b) (i := 0) (by omega)
  rw [show (0 : Int) = ((0 : Nat) : Int) from rfl, AO hx]
  exact ⟨_, rfl, hall rfl⟩
 ·rw [Cx]
  exact ⟨_, rfl, by simp⟩
theorem It : ∀ (al : List Av) (xs : List X0) (b : List X2) (p : List X2 × List X2), (∀ a ∈ al, a.kind ≠ 3) → Eo al xs b [] = some p → p.2 = []
 | [], xs, b, p, _, h => by
  cases xs <;> (simp only [Eo, oe] at h; subst h; rfl)
 | a :: al, [], b, p, _, h => by simp only [Eo, oe] at h; subst h; rfl
 | a :: al, x :: xs, b, p, hk, h => by
  have ih := fun b' h' => It al xs b' p (fun a ha => hk a (List.mem_cons_of_mem _ ha)) h'
  rw [Eo] at h
  split at h
  ·split at h
   ·exact ih _ h
   ·cases h
  ·split at h
   ·split at h
    ·cases h
    ·exact ih _ h
   ·split at h
    ·exact absurd (by assumption) (hk a (by simp))
    ·exact ih _ h
theorem V4 {q : AE} (hR : A6 q) (hS : DG q) {e : X3} {i : Nat} {h : AN} (hh : EX q i e = some h) : h.frees = [] := by
 unfold EX at hh
 split at hh
 ·cases hh
 ·rename_i s hs
  split at hh
  ·cases hh
  ·split at hh
   ·rw [om] at hh
    obtain ⟨p, hp, rfl⟩ := hh
    refine It _ _ _ _ (fun a ha h3 => ?_) hp
    have := ((hR.symbols s (List.mem_of_getElem? hs)).args a ha).three h3
    rw [hS.frees] at this
    simp at this; omega
   ·cases hh
structure aN7 (l : List AN) : Prop where
 frees : ∀ h ∈ l, h.frees = []
 rise : l.Pairwise fun a b => a.symbol < b.symbol
 len : l.length ≤ 1000
structure aHv (n : Nat) (l : List AN) : Prop extends aN7 l where
 sym : ∀ h ∈ l, 0 ≤ h.symbol ∧ h.symbol < n
theorem aJs {a b : Nat} (h : a + b < 18446744073709551616) : AA .add .u64 (a : Int) (b : Int) = ((a + b : Nat) : Int) := by
 show IntKind.wrap .u64 ((a : Int) + (b : Int)) = _
 rw [← Int.natCast_add]; exact BO h
theorem Po {n : Nat} (hn : n ≤ 12) {l : List AN} (hl : aHv n l) : ∃ M : Nat, Yk l = some (M : Int) ∧ M < 18446744073709551616 ∧ ∀ k : Nat, M.testBit k = true ↔ ∃ h ∈ l, h.symbol = (k : Int) := by
 have hln := hl.len
 obtain ⟨o, ho, M, rfl, hQ⟩ := A5 (step := fun s : Int × Int => FQ l s.1 s.2)
  (fun s => ∃ (j w : Nat), s = ((w : Int), (j : Int)) ∧ j ≤ l.length ∧ w < 2 ^ 12 ∧ ∀ k : Nat, w.testBit k = true ↔ ∃ i, i < j ∧ ∃ h, l[i]? = some h ∧ h.symbol = (k : Int))
  (fun s => (l.length - s.2).toNat)
  (fun o => ∃ M : Nat, o = (M : Int) ∧ M < 18446744073709551616 ∧ ∀ k : Nat, M.testBit k = true ↔ ∃ h ∈ l, h.symbol = (k : Int))
  (by
   rintro s ⟨j, w, rfl, hj, hw, hm⟩
   by_cases he : j = l.length
   ·subst he
    refine .inl ⟨(w : Int), by simp only [FQ, ltI, AI], w, rfl, Nat.lt_of_lt_of_le hw (by decide), fun k => ?_⟩
    rw [hm k]
    constructor
    ·rintro ⟨i, _, h, hi, hs⟩; exact ⟨h, List.mem_of_getElem? hi, hs⟩
    ·rintro ⟨h, hh, hs⟩
     obtain ⟨i, hi⟩ := List.mem_iff_getElem?.1 hh
     exact ⟨i, (List.getElem?_eq_some_iff.1 hi).1, h, hi, hs⟩
   ·right
    obtain ⟨y, hy, _⟩ := AY (l := l) (i := j) (by omega)
    have hsy := hl.sym y (List.mem_of_getElem? hy)
    obtain ⟨z, hz⟩ : ∃ z : Nat, y.symbol = (z : Int) := ⟨y.symbol.toNat, by omega⟩
    have hz12 : z < 12 := by omega
    have hwz : w < 2 ^ z := Nat.lt_pow_two_of_testBit w fun i hi => by
     cases hb : w.testBit i with
     | false => rfl
     | true =>
      exfalso
      obtain ⟨a, ha, h, hh, hs⟩ := (hm i).1 hb
      obtain ⟨p1, e1⟩ := List.getElem?_eq_some_iff.1 hh
      obtain ⟨p2, e2⟩ := List.getElem?_eq_some_iff.1 hy
      have := List.pairwise_iff_getElem.1 hl.rise a j p1 p2 ha
      rw [e1, e2] at this
      omega
    have hor : w + 2 ^ z = 2 ^ z ||| w := by
     have := Nat.two_pow_add_eq_or_of_lt hwz 1
     rw [Nat.mul_one] at this
     rw [Nat.add_comm]; exact this
    have hp12 : 2 ^ z < 2 ^ 12 := Nat.pow_lt_pow_right (by decide) hz12
    have hlt12 : w + 2 ^ z < 2 ^ 12 := by rw [hor]; exact Nat.or_lt_two_pow hp12 hw
    have hwz2 : IntKind.wrap .u64 (z : Int) = (z : Int) := BO (by omega)
    refine ⟨(((w + 2 ^ z : Nat) : Int), ((j + 1 : Nat) : Int)), ?_, ⟨j + 1, w + 2 ^ z, rfl, by omega, hlt12, fun k => ?_⟩, by simp only; omega⟩
    ·simp only [FQ, ltD hy, AJ, AO hy, hz, hwz2, BK (show (0 : Int) ≤ (z : Int) by omega), At hy (show l.length ≤ 9223372036854775807 by omega)]
     rw [aGi (by omega), aJs (Nat.lt_of_lt_of_le hlt12 (by decide))]
    ·rw [hor, Nat.testBit_or, Nat.testBit_two_pow, Bool.or_eq_true, decide_eq_true_eq, hm k]
     constructor
     ·rintro (h | ⟨i, hi, a⟩)
      ·exact ⟨j, by omega, y, hy, by rw [hz, h]⟩
      ·exact ⟨i, by omega, a⟩
     ·rintro ⟨i, hi, h, hh, hs⟩
      rcases Nat.lt_or_ge i j with g | g
      ·exact .inr ⟨i, g, h, hh, hs⟩
      ·have : i = j := by omega
       subst this; rw [hy, oe] at hh; subst hh; exact .inl (by omega))
  ((0 : Int), (0 : Int)) ⟨0, 0, rfl, by omega, by decide, fun k => by simp⟩
 have ho' : UD l 0 0 = some (M : Int) := ho
 exact ⟨M, by unfold Yk; rw [ho', AB], hQ⟩
def ga (w : List Int) (i : Nat) : Int := w.getD i 0
def swp (w : List Int) (i j : Nat) : List Int := (w.set i (ga w j)).set j (ga w i)
theorem BJ (w : List Int) (i j : Nat) : (swp w i j).length = w.length := by unfold swp; rw [List.length_set, List.length_set]
theorem DR {w : List Int} {i j : Nat} (hi : i < w.length) (hj : j < w.length) (k : Nat) : ga (swp w i j) k = if k = j then ga w i else if k = i then ga w j else ga w k := by
 unfold swp ga
 simp only [List.getD_eq_getElem?_getD, List.getElem?_set, List.length_set]
 by_cases h1 : k = j
 ·subst h1; simp [hj]
 ·rw [if_neg (fun e => h1 e.symm), if_neg h1]
  by_cases h2 : k = i
  ·subst h2; simp [hi]
  ·rw [if_neg (fun e => h2 e.symm), if_neg h2]
theorem Hi {w : List Int} {i : Nat} (h : i < w.length) : w[i] = ga w i := by unfold ga; simp [h]
theorem aGm {w : List Int} {i j : Nat} (hi : i < w.length) (hj : j < w.length) : (swp w i j).Perm w := by
 have := List.set_set_perm hi hj
 rw [Hi hi, Hi hj] at this
 exact this
structure Pm (a b : Nat) (w w' : List Int) : Prop where
 perm : w'.Perm w
 out : ∀ i, i < a ∨ b ≤ i → ga w' i = ga w i
 src : ∀ j, a ≤ j → j < b → ∃ i, a ≤ i ∧ i < b ∧ ga w' j = ga w i
theorem Pm.len {a b : Nat} {w w' : List Int} (h : Pm a b w w') : w'.length = w.length := h.perm.length_eq
theorem Pm.refl (a b : Nat) (w : List Int) : Pm a b w w := ⟨List.Perm.refl _, fun _ _ => rfl, fun j h1 h2 => ⟨j, h1, h2, rfl⟩⟩
theorem Pm.trans {a b : Nat} {w w1 w2 : List Int} (h : Pm a b w w1) (k : Pm a b w1 w2) : Pm a b w w2 :=
 ⟨k.perm.trans h.perm, fun i hi => (k.out i hi).trans (h.out i hi), fun j h1 h2 => by
  obtain ⟨i, a1, a2, a3⟩ := k.src j h1 h2
  obtain ⟨i2, b1, b2, b3⟩ := h.src i a1 a2
  exact ⟨i2, b1, b2, a3.trans b3⟩⟩
theorem Pm.mono {a b a' b' : Nat} {w w1 : List Int} (h : Pm a b w w1) (h1 : a' ≤ a) (h2 : b ≤ b') : Pm a' b' w w1 :=
 ⟨h.perm, fun i hi => h.out i (by omega), fun j j1 j2 => by
  by_cases hj : a ≤ j ∧ j < b
  ·obtain ⟨i, a1, a2, a3⟩ := h.src j hj.1 hj.2
   exact ⟨i, by omega, by omega, a3⟩
  ·exact ⟨j, j1, j2, h.out j (by omega)⟩⟩
theorem Pm.swp {a b : Nat} {w : List Int} {i j : Nat} (hi : a ≤ i ∧ i < b) (hj : a ≤ j ∧ j < b) (hb : b ≤ w.length) : Pm a b w (swp w i j) := by
 have h1 : i < w.length := by omega
 have h2 : j < w.length := by omega
 refine ⟨aGm h1 h2, fun k hk => ?_, fun k k1 k2 => ?_⟩
 ·rw [DR h1 h2, if_neg (by omega), if_neg (by omega)]
 ·rw [DR h1 h2]
  split
  ·exact ⟨i, hi.1, hi.2, rfl⟩
  ·split
   ·exact ⟨j, hj.1, hj.2, rfl⟩
   ·exact ⟨k, k1, k2, rfl⟩
section
variable {β : Type}
theorem DT {w : List Int} {n : Nat} (h : n < w.length) (k : Int → Option β) : AV w (n : Int) k = k (ga w n) := by
 refine AO ?_ k
 rw [List.getElem?_eq_getElem h, Hi h]
theorem Dy {w : List Int} {n : Nat} (h : n < w.length) (k : Option β) : AZ (0 ≤ (n : Int) ∧ (n : Int) + 1 ≤ (w.length : Int)) k = k := BK ⟨by omega, by omega⟩ k
theorem ltT {i j : Nat} (h : i < j) (x y : Option β) : AD (decide ((i : Int) < (j : Int))) x y = x := by rw [decide_eq_true (by omega)]; rfl
theorem ltF {i j : Nat} (h : ¬ i < j) (x y : Option β) : AD (decide ((i : Int) < (j : Int))) x y = y := by rw [decide_eq_false (by omega)]; rfl
theorem leT {i j : Nat} (h : i ≤ j) (x y : Option β) : AD (decide ((i : Int) ≤ (j : Int))) x y = x := by rw [decide_eq_true (by omega)]; rfl
theorem leF {i j : Nat} (h : ¬ i ≤ j) (x y : Option β) : AD (decide ((i : Int) ≤ (j : Int))) x y = y := by rw [decide_eq_false (by omega)]; rfl
end
theorem E6 {n : Nat} (h : n ≤ 4611686018427387904) : AA .add .i64 (n : Int) 1 = ((n + 1 : Nat) : Int) := J9 (by omega)
theorem CR {n : Nat} (h : 1 ≤ n ∧ n ≤ 4611686018427387904) : AA .sub .i64 (n : Int) 1 = ((n - 1 : Nat) : Int) := by
 rw [Pi (by omega) (by omega)]; omega
theorem Nn {n m : Nat} (h : n + m ≤ 4611686018427387904) : AA .add .i64 (n : Int) (m : Int) = ((n + m : Nat) : Int) := by
 rw [KT (by omega) (by omega)]; omega
theorem Wq {n m : Nat} (h : m ≤ n ∧ n ≤ 4611686018427387904) : AA .sub .i64 (n : Int) (m : Int) = ((n - m : Nat) : Int) := by
 rw [Pi (by omega) (by omega)]; omega
theorem BE (a b : Int) : Yc a b = some (decide (a < b)) := by
 unfold Yc Qg
 simp [AF, AD]
theorem aSx (a i : Nat) (s2 s6 : Int) : ∀ (j : Nat) (w : List Int), w.length ≤ 1000000 → i < w.length → a ≤ j → j ≤ i → (∀ p q, a ≤ p → p < q → q ≤ i → q ≠ j → ga w p ≤ ga w q) →
 ∃ w', TA (a : Int) s2 s6 (j : Int) w = some w' ∧ Pm a (i + 1) w w' ∧ ∀ p q, a ≤ p → p < q → q ≤ i → ga w' p ≤ ga w' q := by
 intro j
 induction j with
 | zero =>
  intro w hl hi ha hj hs
  refine ⟨w, ?_, Pm.refl _ _ _, fun p q h1 h2 h3 => hs p q h1 h2 h3 (by omega)⟩
  rw [Nb]
  unfold ET
  rw [ltF (by omega), Aa]
 | succ j ih =>
  intro w hl hi ha hj hs
  rw [Nb]
  by_cases h0 : a < j + 1
  ·by_cases h1 : ga w (j + 1) < ga w j
   ·have hp := Pm.swp (a := a) (b := i + 1) (w := w) (i := j + 1) (j := j) ⟨by omega, by omega⟩ ⟨by omega, by omega⟩ (by omega)
    have hg := DR (w := w) (i := j + 1) (j := j) (by omega) (by omega)
    obtain ⟨w', e1, e2, e3⟩ := ih (swp w (j + 1) j) (by rw [BJ]; omega) (by rw [BJ]; omega) (by omega) (by omega) (fun p q p1 p2 p3 p4 => by
     have b1 := hs p q p1 p2 p3
     have b2 := hs p (j + 1) p1
     have b3 := hs p j p1
     have b4 := hs (j + 1) q (by omega)
     have b5 := hs j q (by omega)
     rw [hg, hg]
     by_cases c1 : p = j
     ·rw [if_pos c1]
      by_cases c2 : q = j + 1
      ·rw [if_neg (by omega), if_pos c2]; omega
      ·rw [if_neg (by omega), if_neg c2]; exact b4 (by omega) p3 c2
     ·rw [if_neg c1]
      by_cases c2 : p = j + 1
      ·rw [if_pos c2, if_neg (by omega), if_neg (by omega)]; exact b5 (by omega) p3 (by omega)
      ·rw [if_neg c2]
       by_cases c3 : q = j + 1
       ·rw [if_neg (by omega), if_pos c3]; exact b3 (by omega) (by omega) (by omega)
       ·rw [if_neg (by omega), if_neg c3]; exact b1 c3)
    refine ⟨w', ?_, hp.trans e2, e3⟩
    rw [← e1]
    unfold ET
    rw [ltT h0]
    simp (disch := omega) only [CR, Nat.add_sub_cancel, Dy, DT, BE, AB, h1, decide_true, AJ, List.length_set, Int.toNat_natCast, Ay]
    rfl
   ·refine ⟨w, ?_, Pm.refl _ _ _, fun p q p1 p2 p3 => ?_⟩
    ·unfold ET
     rw [ltT h0]
     simp (disch := omega) only [CR, Nat.add_sub_cancel, Dy, DT, BE, AB, h1, decide_false, AI, Aa]
    ·by_cases hq : q = j + 1
     ·subst hq
      by_cases hpj : p = j
      ·subst hpj; omega
      ·have := hs p j p1 (by omega) (by omega) (by omega)
       omega
     ·exact hs p q p1 p2 p3 hq
  ·refine ⟨w, ?_, Pm.refl _ _ _, fun p q p1 p2 p3 => hs p q p1 p2 p3 (by omega)⟩
   unfold ET
   rw [ltF h0, Aa]
def So (a b : Nat) (w : List Int) : Prop := ∀ p q, a ≤ p → p < q → q < b → ga w p ≤ ga w q
theorem aSw (a b : Nat) : ∀ (m i : Nat) (w : List Int), b ≤ i + m → w.length ≤ 1000000 → b ≤ w.length → a < i → So a i w →
 ∃ w', S7 (a : Int) (b : Int) (i : Int) w = some w' ∧ Pm a b w w' ∧ So a b w' := by
 intro m
 induction m with
 | zero =>
  intro i w hm hl hb ha hs
  refine ⟨w, ?_, Pm.refl _ _ _, fun p q h1 h2 h3 => hs p q h1 h2 (by omega)⟩
  rw [Na]
  unfold Gv
  rw [ltF (by omega), Aa]
 | succ m ih =>
  intro i w hm hl hb ha hs
  rw [Na]
  unfold Gv
  by_cases h0 : i < b
  ·obtain ⟨w1, e1, e2, e3⟩ := aSx a i (b : Int) (i : Int) i w hl (by omega) (by omega) (by omega) (fun p q h1 h2 h3 h4 => hs p q h1 h2 (by omega))
   obtain ⟨w2, f1, f2, f3⟩ := ih (i + 1) w1 (by omega) (by rw [e2.len]; exact hl) (by rw [e2.len]; exact hb) (by omega) (fun p q h1 h2 h3 => e3 p q h1 h2 (by omega))
   refine ⟨w2, ?_, (e2.mono (by omega) (by omega)).trans f2, f3⟩
   rw [ltT h0, e1, AB, E6 (by omega), Ay]
   exact f1
  ·refine ⟨w, by rw [ltF h0, Aa], Pm.refl _ _ _, fun p q h1 h2 h3 => hs p q h1 h2 (by omega)⟩
theorem aSy (a b : Nat) (w : List Int) (hl : w.length ≤ 1000000) (hb : b ≤ w.length) (hab : a ≤ b) : ∃ w', Xu (a : Int) (b : Int) w = some w' ∧ Pm a b w w' ∧ So a b w' := by
 obtain ⟨w', e1, e2, e3⟩ := aSw a b b (a + 1) w (by omega) hl hb (by omega) (fun p q h1 h2 h3 => by omega)
 refine ⟨w', ?_, e2, e3⟩
 unfold Xu
 rw [E6 (by omega), e1, AB]
theorem K3 {n : Nat} (h : 2 * n ≤ 4611686018427387904) : AA .mul .i64 2 (n : Int) = ((2 * n : Nat) : Int) := by
 rw [aNb (by omega) (by omega)]; omega
theorem aNi {n k : Nat} (h : n ≤ 4611686018427387904) : AA .quo .i64 (n : Int) (k : Int) = ((n / k : Nat) : Int) := by
 show IntKind.wrap .i64 ((n : Int).tdiv (k : Int)) = _
 rw [← Int.ofNat_tdiv]
 have : n / k ≤ n := Nat.div_le_self _ _
 generalize n / k = d at *
 exact aKv (by omega) (by omega)
def Ch (k c : Nat) : Prop := c = 2 * k + 1 ∨ c = 2 * k + 2
def HpX (f lo hi r : Nat) (w : List Int) : Prop := ∀ k c, lo ≤ k → Ch k c → c < hi → k ≠ r → ga w (f + c) ≤ ga w (f + k)
def Hp (f lo hi : Nat) (w : List Int) : Prop := ∀ k c, lo ≤ k → Ch k c → c < hi → ga w (f + c) ≤ ga w (f + k)
theorem aKo (f lo hi : Nat) : ∀ (m r : Nat) (w : List Int), hi ≤ r + m → lo ≤ r → r ≤ 1000000 → w.length ≤ 1000000 → f + hi ≤ w.length → HpX f lo hi r w →
 (∀ k c, lo ≤ k → Ch k r → Ch r c → c < hi → ga w (f + c) ≤ ga w (f + k)) →
 ∃ w' o, Sy (hi : Int) (f : Int) (r : Int) w = some o ∧ (o = .inl w' ∨ o = .inr w') ∧ Pm (f + lo) (f + hi) w w' ∧ Hp f lo hi w' := by
 intro m
 induction m with
 | zero =>
  intro r w hm hr hr1 hl hf hH hG
  refine ⟨w, _, ?_, .inl rfl, Pm.refl _ _ _, fun k c h1 h2 h3 => hH k c h1 h2 h3 (by unfold Ch at h2; omega)⟩
  rw [NZ]
  unfold DK KM
  simp (disch := omega) only [K3, E6, leT, AB, Cx, BU, Aa]
 | succ m ih =>
  intro r w hm hr hr1 hl hf hH hG
  rw [NZ]
  by_cases h0 : hi ≤ 2 * r + 1
  ·refine ⟨w, _, ?_, .inl rfl, Pm.refl _ _ _, fun k c h1 h2 h3 => hH k c h1 h2 h3 (by unfold Ch at h2; omega)⟩
   unfold DK KM
   simp (disch := omega) only [K3, E6, leT, AB, Cx, BU, Aa]
  ·have key : ∃ c2, Ch r c2 ∧ c2 < hi ∧ (∀ c, Ch r c → c < hi → ga w (f + c) ≤ ga w (f + c2)) ∧
    DK (hi : Int) (f : Int) (r : Int) w = (if ga w (f + r) < ga w (f + c2) then some (.inl ((c2 : Int), swp w (f + r) (f + c2))) else some (.inr (.inr w))) := by
    by_cases h1 : 2 * r + 2 < hi
    ·by_cases h2 : ga w (f + (2 * r + 1)) < ga w (f + (2 * r + 2))
     ·refine ⟨2 * r + 2, .inr rfl, h1, fun c hc hch => by rcases hc with rfl | rfl <;> omega, ?_⟩
      unfold DK KM MB
      have h2' : ga w (f + (2 * r + 1)) < ga w (f + (2 * r + 1) + 1) := h2
      by_cases h3 : ga w (f + r) < ga w (f + (2 * r + 2))
      ·have h3' : ga w (f + r) < ga w (f + (2 * r + 1 + 1)) := h3
       rw [if_pos h3]
       simp (disch := omega) only [K3, E6, Nn, leF, ltT, Dy, DT, BE, AB, h2', h3', decide_true, Bool.not_true, AJ, AI, List.length_set, Int.toNat_natCast, BU]
       rfl
      ·have h3' : ¬ ga w (f + r) < ga w (f + (2 * r + 1 + 1)) := h3
       rw [if_neg h3]
       simp (disch := omega) only [K3, E6, Nn, leF, ltT, Dy, DT, BE, AB, h2', h3', decide_true, decide_false, Bool.not_false, AJ, AI, List.length_set, Int.toNat_natCast, BU, Cx]
     ·refine ⟨2 * r + 1, .inl rfl, by omega, fun c hc hch => by rcases hc with rfl | rfl <;> omega, ?_⟩
      unfold DK KM MB
      have h2' : ¬ ga w (f + (2 * r + 1)) < ga w (f + (2 * r + 1) + 1) := h2
      by_cases h3 : ga w (f + r) < ga w (f + (2 * r + 1))
      ·rw [if_pos h3]
       simp (disch := omega) only [K3, E6, Nn, leF, ltT, Dy, DT, BE, AB, h2', h3, decide_true, decide_false, Bool.not_true, AJ, AI, List.length_set, Int.toNat_natCast, BU]
       rfl
      ·rw [if_neg h3]
       simp (disch := omega) only [K3, E6, Nn, leF, ltT, Dy, DT, BE, AB, h2', h3, decide_true, decide_false, Bool.not_false, AJ, AI, List.length_set, Int.toNat_natCast, BU, Cx]
    ·refine ⟨2 * r + 1, .inl rfl, by omega, fun c hc hch => by rcases hc with rfl | rfl <;> omega, ?_⟩
     unfold DK KM MB
     by_cases h3 : ga w (f + r) < ga w (f + (2 * r + 1))
     ·rw [if_pos h3]
      simp (disch := omega) only [K3, E6, Nn, leF, ltF, Dy, DT, BE, AB, h3, decide_true, decide_false, Bool.not_true, AJ, AI, List.length_set, Int.toNat_natCast, BU]
      rfl
     ·rw [if_neg h3]
      simp (disch := omega) only [K3, E6, Nn, leF, ltF, Dy, DT, BE, AB, h3, decide_true, decide_false, Bool.not_false, AJ, AI, List.length_set, Int.toNat_natCast, BU, Cx]
   obtain ⟨c2, hc2, hc2h, hmax, hstep⟩ := key
   rw [hstep]
   have hrc : r < c2 := by unfold Ch at hc2; omega
   by_cases h3 : ga w (f + r) < ga w (f + c2)
   ·rw [if_pos h3, Ay]
    have hg := DR (w := w) (i := f + r) (j := f + c2) (by omega) (by omega)
    have er : ga (swp w (f + r) (f + c2)) (f + r) = ga w (f + c2) := by rw [hg, if_neg (by omega), if_pos rfl]
    have ec : ga (swp w (f + r) (f + c2)) (f + c2) = ga w (f + r) := by rw [hg, if_pos rfl]
    have en : ∀ x, x ≠ r → x ≠ c2 → ga (swp w (f + r) (f + c2)) (f + x) = ga w (f + x) := fun x h1 h2 => by rw [hg, if_neg (by omega), if_neg (by omega)]
    obtain ⟨w', o, e1, e2, e3, e4⟩ := ih c2 (swp w (f + r) (f + c2)) (by omega) (by omega) (by omega) (by rw [BJ]; exact hl) (by rw [BJ]; exact hf)
     (fun k c h1 h2 h4 h5 => by
      by_cases k1 : k = r
      ·subst k1
       by_cases k2 : c = c2
       ·subst k2; rw [ec, er]; omega
       ·rw [er, en c (by unfold Ch at h2; omega) k2]; exact hmax c h2 h4
      ·rw [en k k1 h5]
       by_cases k2 : c = r
       ·subst k2; rw [er]; exact hG k c2 h1 h2 hc2 hc2h
       ·by_cases k3 : c = c2
        ·exfalso; unfold Ch at h2 hc2; omega
        ·rw [en c k2 k3]; exact hH k c h1 h2 h4 k1)
     (fun k c h1 h2 h4 h5 => by
      have : k = r := by unfold Ch at h2 hc2; omega
      subst this
      rw [er, en c (by unfold Ch at h4; omega) (by unfold Ch at h4; omega)]
      exact hH c2 c (by omega) h4 h5 (by omega))
    exact ⟨w', o, e1, e2, (Pm.swp ⟨by omega, by omega⟩ ⟨by omega, by omega⟩ hf).trans e3, e4⟩
   ·rw [if_neg h3, Aa]
    refine ⟨w, _, rfl, .inr rfl, Pm.refl _ _ _, fun k c h1 h2 h4 => ?_⟩
    by_cases k1 : k = r
    ·subst k1; have := hmax c h2 h4; omega
    ·exact hH k c h1 h2 h4 k1
theorem Wn {f lo hi : Nat} {w : List Int} (hl : w.length ≤ 1000000) (hf : f + hi ≤ w.length) (hr : lo ≤ 1000000) (hH : HpX f lo hi lo w) :
 ∃ w', Xs (lo : Int) (hi : Int) (f : Int) w = some w' ∧ Pm (f + lo) (f + hi) w w' ∧ Hp f lo hi w' := by
 obtain ⟨w', o, e1, e2, e3, e4⟩ := aKo f lo hi hi lo w (by omega) (Nat.le_refl _) hr hl hf hH (fun k c h1 h2 h3 h4 => by unfold Ch at h2; omega)
 refine ⟨w', ?_, e3, e4⟩
 unfold Xs
 rw [e1, AB]
 rcases e2 with rfl | rfl <;> rfl
theorem aKe (f hi : Nat) : ∀ (m : Nat) (w : List Int), w.length ≤ 1000000 → f + hi ≤ w.length → m ≤ 1000000 → Hp f m hi w →
 ∃ w', TM (f : Int) 0 (hi : Int) ((m : Int) - 1) w = some w' ∧ Pm f (f + hi) w w' ∧ Hp f 0 hi w' := by
 intro m
 induction m with
 | zero =>
  intro w hl hf hm hH
  refine ⟨w, ?_, Pm.refl _ _ _, hH⟩
  rw [Nc]
  unfold Gy
  rw [decide_eq_false (by omega), AI, Aa]
 | succ m ih =>
  intro w hl hf hm hH
  obtain ⟨w1, e1, e2, e3⟩ := Wn (f := f) (lo := m) (hi := hi) hl hf (by omega) (fun k c h1 h2 h3 h4 => hH k c (by omega) h2 h3)
  obtain ⟨w2, f1, f2, f3⟩ := ih w1 (by rw [e2.len]; exact hl) (by rw [e2.len]; exact hf) (by omega) e3
  refine ⟨w2, ?_, (e2.mono (by omega) (by omega)).trans f2, f3⟩
  rw [Nc]
  unfold Gy
  rw [show (((m + 1 : Nat) : Int) - 1) = (m : Int) by omega, decide_eq_true (by omega), AJ, e1, AB, Pi (by omega) (by omega), Ay]
  exact f1
theorem aFt {f hi : Nat} {w : List Int} (h : Hp f 0 hi w) : ∀ k, k < hi → ga w (f + k) ≤ ga w f := by
 intro k
 induction k using Nat.strongRecOn with
 | ind k ih =>
  intro hk
  by_cases h0 : k = 0
  ·subst h0; exact Int.le_refl _
  ·have h1 := h ((k - 1) / 2) k (by omega) (by unfold Ch; omega) hk
   have h2 := ih ((k - 1) / 2) (by omega) (by omega)
   omega
theorem aKf (f hi : Nat) : ∀ (m : Nat) (w : List Int), w.length ≤ 1000000 → f + hi ≤ w.length → m ≤ hi → Hp f 0 m w → (∀ p q, p < q → q < hi → m ≤ q → ga w (f + p) ≤ ga w (f + q)) →
 ∃ w', TP (f : Int) 0 ((m : Int) - 1) w = some w' ∧ Pm f (f + hi) w w' ∧ ∀ p q, p < q → q < hi → ga w' (f + p) ≤ ga w' (f + q) := by
 intro m
 induction m with
 | zero =>
  intro w hl hf hm hH hs
  refine ⟨w, ?_, Pm.refl _ _ _, fun p q h1 h2 => hs p q h1 h2 (by omega)⟩
  rw [Nd]
  unfold Gz
  rw [decide_eq_false (by omega), AI, Aa]
 | succ m ih =>
  intro w hl hf hm hH hs
  have hg := DR (w := w) (i := f) (j := f + m) (by omega) (by omega)
  have hmx := aFt hH
  obtain ⟨w1, e1, e2, e3⟩ := Wn (f := f) (lo := 0) (hi := m) (w := swp w f (f + m)) (by rw [BJ]; exact hl) (by rw [BJ]; omega) (by omega) (fun k c h1 h2 h3 h4 => by
   have : 0 < c := by unfold Ch at h2; omega
   have := hH k c h1 h2 (by omega)
   by_cases km : k = m
   ·unfold Ch at h2; omega
   ·rw [hg, hg, if_neg (by omega), if_neg (by omega), if_neg (by omega), if_neg (by omega)]; exact this)
  rw [Nat.add_zero] at e2
  have hsw : Pm f (f + (m + 1)) w (swp w f (f + m)) := Pm.swp ⟨by omega, by omega⟩ ⟨by omega, by omega⟩ (by omega)
  have hpm := hsw.trans (e2.mono (Nat.le_refl _) (by omega))
  obtain ⟨w2, f1, f2, f3⟩ := ih w1 (by rw [hpm.len]; exact hl) (by rw [hpm.len]; exact hf) (by omega) e3 (fun p q h1 h2 h3 => by
   have hp' : ∀ p, p < m + 1 → ∃ p', p' < m + 1 ∧ ga w1 (f + p) = ga w (f + p') := fun p hp => by
    obtain ⟨i, i1, i2, i3⟩ := hpm.src (f + p) (by omega) (by omega)
    exact ⟨i - f, by omega, by rw [i3]; congr 1; omega⟩
   by_cases hq : q = m
   ·subst hq
    have eq1 : ga w1 (f + q) = ga w f := by
     rw [e2.out (f + q) (by omega), hg, if_pos rfl]
    obtain ⟨p', p1, p2⟩ := hp' p (by omega)
    rw [eq1, p2]; exact hmx p' p1
   ·have eq1 : ga w1 (f + q) = ga w (f + q) := hpm.out _ (by omega)
    rw [eq1]
    by_cases hpm1 : p < m + 1
    ·obtain ⟨p', p1, p2⟩ := hp' p hpm1
     rw [p2]; exact hs p' q (by omega) h2 (by omega)
    ·rw [hpm.out (f + p) (by omega)]; exact hs p q h1 h2 (by omega))
  refine ⟨w2, ?_, (hpm.mono (by omega) (by omega)).trans f2, f3⟩
  rw [Nd]
  unfold Gz
  rw [show (((m + 1 : Nat) : Int) - 1) = (m : Int) by omega, decide_eq_true (by omega), AJ]
  simp (disch := omega) only [Nn, Dy, DT, List.length_set, Int.toNat_natCast]
  have e1' : Xs 0 (m : Int) (f : Int) ((w.set f (ga w (f + m))).set (f + m) (ga w f)) = some w1 := e1
  rw [e1', AB, Pi (by omega) (by omega), Ay]
  exact f1
theorem aKg (a b : Nat) (w : List Int) (hl : w.length ≤ 1000000) (hb : b ≤ w.length) (hab : a < b) : ∃ w', Xx (a : Int) (b : Int) w = some w' ∧ Pm a b w w' ∧ So a b w' := by
 obtain ⟨w1, e1, e2, e3⟩ := aKe a (b - a) ((b - a - 1) / 2 + 1) w hl (by omega) (by omega) (fun k c h1 h2 h3 => by unfold Ch at h2; omega)
 obtain ⟨w2, f1, f2, f3⟩ := aKf a (b - a) (b - a) w1 (by rw [e2.len]; exact hl) (by rw [e2.len]; omega) (Nat.le_refl _) e3 (fun p q h1 h2 h3 => by omega)
 have hab' : a + (b - a) = b := by omega
 rw [hab'] at e2 f2
 refine ⟨w2, ?_, e2.trans f2, fun p q h1 h2 h3 => ?_⟩
 ·unfold Xx
  rw [Wq (by omega), CR (by omega)]
  have hq : AA .quo .i64 ((b - a - 1 : Nat) : Int) 2 = (((b - a - 1) / 2 : Nat) : Int) := aNi (k := 2) (by omega)
  rw [hq]
  rw [show ((((b - a - 1) / 2 + 1 : Nat) : Int) - 1) = (((b - a - 1) / 2 : Nat) : Int) by omega] at e1
  rw [show (((b - a : Nat) : Int) - 1) = ((b - a - 1 : Nat) : Int) by omega] at f1
  rw [e1, AB, f1, AB]
 ·have := f3 (p - a) (q - a) (by omega) (by omega)
  rw [show a + (p - a) = p by omega, show a + (q - a) = q by omega] at this
  exact this
theorem aNj (a b : Nat) : ∀ (m i j : Nat) (w : List Int), j ≤ i + m → a ≤ i → j ≤ b → w.length ≤ 1000000 → b ≤ w.length → i ≤ 1000000 →
 ∃ w', Uc (i : Int) ((j : Int) - 1) w = some w' ∧ Pm a b w w' := by
 intro m
 induction m using Nat.strongRecOn with
 | ind m ih =>
  intro i j w hm ha hj hl hb hi
  rw [aEd]
  unfold JR
  by_cases h0 : i + 1 < j
  ·have hs : Pm a b w (swp w i (j - 1)) := Pm.swp ⟨by omega, by omega⟩ ⟨by omega, by omega⟩ hb
   obtain ⟨w', e1, e2⟩ := ih (m - 2) (by omega) (i + 1) (j - 1) (swp w i (j - 1)) (by omega) (by omega) (by omega) (by rw [BJ]; exact hl) (by rw [BJ]; exact hb) (by omega)
   refine ⟨w', ?_, hs.trans e2⟩
   rw [show ((j : Int) - 1) = ((j - 1 : Nat) : Int) by omega]
   rw [show (((j - 1 : Nat) : Int) - 1) = ((j - 1 - 1 : Nat) : Int) by omega] at e1
   rw [← e1]
   simp (disch := omega) only [ltT, Dy, DT, E6, CR, List.length_set, Int.toNat_natCast, Ay]
   rfl
  ·refine ⟨w, ?_, Pm.refl _ _ _⟩
   rw [decide_eq_false (by omega), AI, Aa]
theorem aNk (a b : Nat) (w : List Int) (hl : w.length ≤ 1000000) (hb : b ≤ w.length) (hab : a ≤ b) : ∃ w', Yv (a : Int) (b : Int) w = some w' ∧ Pm a b w w' := by
 obtain ⟨w', e1, e2⟩ := aNj a b b a b w (by omega) (Nat.le_refl _) (Nat.le_refl _) hl hb (by omega)
 refine ⟨w', ?_, e2⟩
 unfold Yv
 rw [Pi (by omega) (by omega), e1, AB]
def l8 : List UInt8 := [0, 1, 2, 2, 3, 3, 3, 3, 4, 4, 4, 4, 4, 4, 4, 4, 5, 5, 5, 5, 5, 5, 5, 5, 5, 5, 5, 5, 5, 5, 5, 5, 6, 6, 6, 6, 6, 6, 6, 6, 6, 6, 6, 6, 6, 6, 6, 6, 6, 6, 6, 6, 6, 6, 6, 6, 6, 6, 6, 6, 6, 6, 6, 6] ++ List.replicate 64 7 ++ List.replicate 128 8
theorem aM6 : ∀ n, n < 256 → ∃ c : UInt8, l8[n]? = some c ∧ c.toNat ≤ 8 ∧ n < 2 ^ c.toNat ∧ (0 < n → 2 ^ c.toNat ≤ 2 * n) := by
 have key : ((List.range 256).all fun n => match l8[n]? with
  | some c => decide (c.toNat ≤ 8) && decide (n < 2 ^ c.toNat) && (decide (n = 0) || decide (2 ^ c.toNat ≤ 2 * n))
  | none => false) = true := by kernel_rfl
 intro n hn
 have h := (List.all_eq_true.1 key) n (List.mem_range.2 hn)
 revert h
 cases l8[n]? with
 | none => intro h; cases h
 | some c =>
  intro h
  simp only [ba, Bool.or_eq_true, decide_eq_true_eq] at h
  exact ⟨c, rfl, h.1.1, h.1.2, fun h0 => by rcases h.2 with h2 | h2 <;> omega⟩
theorem aKi (a0 : Int) : Yo a0 = (AF (UL a0 0 (decide (4294967296 ≤ a0))) fun o1 => AF (UM o1.1 o1.2 (decide (65536 ≤ o1.1))) fun o2 => AF (UN o2.1 o2.2 (decide (256 ≤ o2.1))) fun o3 =>
 AV l8 ((u8w o3.1).toNat : Int) fun x4 => some (AA .add .i64 o3.2 (x4.toNat : Int))) := by kernel_rfl
theorem aGv {n : Nat} (hn : n < 65536) : ∃ k : Nat, Q8 ((n : Nat) : Int) = some (k : Int) ∧ k ≤ 16 ∧ n < 2 ^ k ∧ (0 < n → 2 ^ k ≤ 2 * n) := by
 unfold Q8
 rw [aKi]
 unfold UL UM UN
 rw [decide_eq_false (by omega), AI, AB, decide_eq_false (by simp only; omega), AI, AB]
 simp only
 by_cases h : 256 ≤ n
 ·obtain ⟨c, e1, e2, e3, e4⟩ := aM6 (n / 256) (by omega)
  refine ⟨8 + c.toNat, ?_, by omega, ?_, fun _ => ?_⟩
  ·rw [decide_eq_true (by omega), AJ, AB]
   simp only
   have hs : AA .shr .u64 (n : Int) 8 = ((n / 2 ^ 8 : Nat) : Int) := aTh (k := 8) (by decide)
   rw [hs, show (n / 2 ^ 8) = n / 256 from rfl, Wx (by omega)]
   rw [AO (xs := l8) e1, AB, KT (a := 0) (b := 8) (by omega) (by omega), KT (by omega) (by omega)]
   simp
  ·rw [Nat.pow_add]; omega
  ·rw [Nat.pow_add]; have := e4 (by omega); omega
 ·obtain ⟨c, e1, e2, e3, e4⟩ := aM6 n (by omega)
  refine ⟨c.toNat, ?_, by omega, e3, e4⟩
  rw [decide_eq_false (by omega), AI, AB]
  simp only
  rw [Wx (by omega)]
  rw [AO (xs := l8) e1, AB, KT (by omega) (by omega)]
  simp
theorem aJw (x k : Nat) (hk : k ≤ 62) (hx : x < 18446744073709551616) : AA .and .u64 (x : Int) (AA .sub .u64 ((2 ^ k : Nat) : Int) 1) = ((x % 2 ^ k : Nat) : Int) := by
 have hp : 2 ^ k ≤ 2 ^ 62 := Nat.pow_le_pow_right (by decide) hk
 have hp0 : 0 < 2 ^ k := Nat.two_pow_pos k
 have hs : AA .sub .u64 ((2 ^ k : Nat) : Int) 1 = ((2 ^ k - 1 : Nat) : Int) := by
  show IntKind.wrap .u64 (((2 ^ k : Nat) : Int) - 1) = _
  rw [show ((2 ^ k : Nat) : Int) - 1 = ((2 ^ k - 1 : Nat) : Int) by omega]
  exact BO (by omega)
 rw [hs, aTm hx (by omega), Nat.and_two_pow_sub_one_eq_mod]
theorem PU {n : Nat} (hn : n < 65536) : ∃ k : Nat, Qo (n : Int) = some ((2 ^ k : Nat) : Int) ∧ k ≤ 16 ∧ n < 2 ^ k ∧ (0 < n → 2 ^ k ≤ 2 * n) := by
 obtain ⟨k, e1, e2, e3, e4⟩ := aGv hn
 refine ⟨k, ?_, e2, e3, e4⟩
 unfold Qo
 rw [BO (by omega), e1, AB, BK (by omega)]
 have hs : AA .shl .u64 1 (k : Int) = ((1 * 2 ^ k % 18446744073709551616 : Nat) : Int) := aTq (n := 1) (by omega)
 have hp : 2 ^ k ≤ 2 ^ 62 := Nat.pow_le_pow_right (by decide) (by omega)
 rw [hs, Nat.one_mul, Nat.mod_eq_of_lt (by omega)]
theorem aKw {x : Nat} (hx : x < 18446744073709551616) : ∃ y : Nat, Qp (x : Int) = some ((y : Int), (y : Int)) ∧ y < 18446744073709551616 := by
 have h1 : ∀ (a k : Nat), k ≤ 64 → ∃ b : Nat, AA .shl .u64 (a : Int) (k : Int) = (b : Int) ∧ b < 18446744073709551616 := fun a k hk => ⟨_, aTq hk, Nat.mod_lt _ (by decide)⟩
 have h2 : ∀ (a k : Nat), k ≤ 64 → a < 18446744073709551616 → ∃ b : Nat, AA .shr .u64 (a : Int) (k : Int) = (b : Int) ∧ b < 18446744073709551616 := fun a k hk ha => ⟨_, aTh hk, Nat.lt_of_le_of_lt (Nat.div_le_self _ _) ha⟩
 have h3 : ∀ (a b : Nat), a < 18446744073709551616 → b < 18446744073709551616 → ∃ c : Nat, AA .xor .u64 (a : Int) (b : Int) = (c : Int) ∧ c < 18446744073709551616 := fun a b ha hb => ⟨_, aTz ha hb, Nat.xor_lt_two_pow (n := 64) ha hb⟩
 obtain ⟨a1, e1, f1⟩ := h1 x 13 (by decide)
 obtain ⟨a2, e2, f2⟩ := h3 x a1 hx f1
 obtain ⟨a3, e3, f3⟩ := h2 a2 7 (by decide) f2
 obtain ⟨a4, e4, f4⟩ := h3 a2 a3 f2 f3
 obtain ⟨a5, e5, f5⟩ := h1 a4 17 (by decide)
 obtain ⟨a6, e6, f6⟩ := h3 a4 a5 f4 f5
 refine ⟨a6, ?_, f6⟩
 have e1' : AA .shl .u64 (x : Int) 13 = (a1 : Int) := e1
 have e3' : AA .shr .u64 (a2 : Int) 7 = (a3 : Int) := e3
 have e5' : AA .shl .u64 (a4 : Int) 17 = (a5 : Int) := e5
 unfold Qp
 rw [e1', e2, e3', e4, e5', e6]
theorem aMt (a n k q : Nat) : ∀ (m i : Nat) (w : List Int) (x : Nat), q ≤ i + m → x < 18446744073709551616 → w.length ≤ 60000 → a + n ≤ w.length → a ≤ i → q ≤ a + n → 0 < n → n < 2 ^ k → 2 ^ k ≤ 2 * n → k ≤ 16 → q = a + n / 4 * 2 + 2 →
 ∃ w', TY (a : Int) (n : Int) ((2 ^ k : Nat) : Int) (i : Int) w (x : Int) = some w' ∧ Pm a (a + n) w w' := by
 intro m
 induction m with
 | zero =>
  intro i w x hm hx hl hb ha hq h0 hk1 hk2 hk3 hqe
  refine ⟨w, ?_, Pm.refl _ _ _⟩
  rw [Nf]
  unfold G2
  have hd : AA .quo .i64 (n : Int) 4 = ((n / 4 : Nat) : Int) := aNi (k := 4) (by omega)
  have hmu : AA .mul .i64 ((n / 4 : Nat) : Int) 2 = ((n / 4 * 2 : Nat) : Int) := by rw [aNb (by omega) (by omega)]; omega
  rw [hd, hmu, Nn (by omega), E6 (by omega), leF (by omega), Aa]
 | succ m ih =>
  intro i w x hm hx hl hb ha hq h0 hk1 hk2 hk3 hqe
  rw [Nf]
  unfold G2
  have hd : AA .quo .i64 (n : Int) 4 = ((n / 4 : Nat) : Int) := aNi (k := 4) (by omega)
  have hmu : AA .mul .i64 ((n / 4 : Nat) : Int) 2 = ((n / 4 * 2 : Nat) : Int) := by rw [aNb (by omega) (by omega)]; omega
  rw [hd, hmu, Nn (by omega), E6 (by omega)]
  by_cases h1 : i ≤ a + n / 4 * 2 + 1
  ·obtain ⟨y, ey, fy⟩ := aKw hx
   have hmod : y % 2 ^ k < 2 ^ k := Nat.mod_lt _ (Nat.two_pow_pos k)
   have hp : 2 ^ k ≤ 2 ^ 16 := Nat.pow_le_pow_right (by decide) hk3
   obtain ⟨o, ho, hon⟩ : ∃ o : Nat, TX (a : Int) (n : Int) ((2 ^ k : Nat) : Int) (i : Int) (((y % 2 ^ k : Nat)) : Int) (decide ((n : Int) ≤ ((y % 2 ^ k : Nat) : Int))) w (y : Int) = some (o : Int) ∧ o < n := by
    unfold TX
    by_cases h2 : n ≤ y % 2 ^ k
    ·exact ⟨y % 2 ^ k - n, by rw [decide_eq_true (by omega), AJ, Wq (by omega)], by omega⟩
    ·exact ⟨y % 2 ^ k, by rw [decide_eq_false (by omega), AI], by omega⟩
   have hs : Pm a (a + n) w (swp w i (a + o)) := Pm.swp ⟨ha, by omega⟩ ⟨by omega, by omega⟩ hb
   obtain ⟨w', e1, e2⟩ := ih (i + 1) (swp w i (a + o)) y (by omega) fy (by rw [BJ]; exact hl) (by rw [BJ]; exact hb) (by omega) hq h0 hk1 hk2 hk3 hqe
   refine ⟨w', ?_, hs.trans e2⟩
   rw [← e1, leT h1]
   unfold aB8
   rw [ey, AB]
   simp only
   have hw : IntKind.wrap .i64 ((y % 2 ^ k : Nat) : Int) = ((y % 2 ^ k : Nat) : Int) := aKv (by omega) (by omega)
   rw [aJw y k (by omega) fy, hw, ho, AB]
   simp (disch := omega) only [Nn, Dy, DT, List.length_set, Int.toNat_natCast, AB, E6, Ay]
   rfl
  ·refine ⟨w, by rw [leF h1, Aa], Pm.refl _ _ _⟩
theorem aMu (a b : Nat) (w : List Int) (hl : w.length ≤ 60000) (hb : b ≤ w.length) (hab : a + 8 ≤ b) : ∃ w', Xz (a : Int) (b : Int) w = some w' ∧ Pm a b w w' := by
 obtain ⟨k, e1, e2, e3, e4⟩ := PU (n := b - a) (by omega)
 have hd : AA .quo .i64 ((b - a : Nat) : Int) 4 = (((b - a) / 4 : Nat) : Int) := aNi (k := 4) (by omega)
 have hmu : AA .mul .i64 (((b - a) / 4 : Nat) : Int) 2 = (((b - a) / 4 * 2 : Nat) : Int) := by rw [aNb (by omega) (by omega)]; omega
 obtain ⟨w', f1, f2⟩ := aMt a (b - a) k (a + (b - a) / 4 * 2 + 2) 3 (a + (b - a) / 4 * 2 - 1) w (b - a) (by omega) (by omega) hl (by omega) (by omega) (by omega) (by omega) e3 (e4 (by omega)) e2 rfl
 rw [show a + (b - a) = b by omega] at f2
 refine ⟨w', ?_, f2⟩
 unfold Xz aB6
 rw [Wq (by omega), decide_eq_true (by omega), AJ, e1, AB, hd, hmu, Nn (by omega), CR (by omega), BO (by omega), f1, AB, AB]
def Vx (lo hi : Nat) (x : Int) : Prop := ∃ n : Nat, x = (n : Int) ∧ lo ≤ n ∧ n < hi
theorem Mt {lo hi : Nat} {w : List Int} (hh : hi ≤ w.length) {x y : Int} (s : Int) (hx : Vx lo hi x) (hy : Vx lo hi y) : ∃ u v s', Zx w x y s = some (u, v, s') ∧ Vx lo hi u ∧ Vx lo hi v := by
 obtain ⟨i, rfl, i1, i2⟩ := hx
 obtain ⟨j, rfl, j1, j2⟩ := hy
 unfold Zx
 simp (disch := omega) only [DT, BE, AB]
 by_cases h : ga w j < ga w i
 ·exact ⟨_, _, _, by rw [decide_eq_true h]; rfl, ⟨j, rfl, j1, j2⟩, ⟨i, rfl, i1, i2⟩⟩
 ·exact ⟨_, _, _, by rw [decide_eq_false h]; rfl, ⟨i, rfl, i1, i2⟩, ⟨j, rfl, j1, j2⟩⟩
theorem aHh {lo hi : Nat} {w : List Int} (hh : hi ≤ w.length) {x y z : Int} (s : Int) (hx : Vx lo hi x) (hy : Vx lo hi y) (hz : Vx lo hi z) : ∃ u s', Q9 w x y z s = some (u, s') ∧ Vx lo hi u := by
 obtain ⟨a1, b1, s1, e1, f1, g1⟩ := Mt hh s hx hy
 obtain ⟨b2, c2, s2, e2, f2, g2⟩ := Mt hh s1 g1 hz
 obtain ⟨a3, b3, s3, e3, f3, g3⟩ := Mt hh s2 f1 f2
 refine ⟨b3, s3, ?_, g3⟩
 unfold Q9
 simp only [e1, AB, e2, e3]
theorem VY {lo hi n : Nat} {w : List Int} (hh : hi ≤ w.length) (hl : w.length ≤ 1000000) (s : Int) (h1 : lo + 1 ≤ n) (h2 : n + 1 < hi) : ∃ u s', Zy w (n : Int) s = some (u, s') ∧ Vx lo hi u := by
 obtain ⟨u, s', e, h⟩ := aHh (lo := lo) (hi := hi) hh (x := ((n - 1 : Nat) : Int)) (y := (n : Int)) (z := ((n + 1 : Nat) : Int)) s ⟨n - 1, rfl, by omega, by omega⟩ ⟨n, rfl, by omega, by omega⟩ ⟨n + 1, rfl, by omega, by omega⟩
 refine ⟨u, s', ?_, h⟩
 unfold Zy
 rw [CR (by omega), E6 (by omega), e, AB]
theorem aS2 {n k : Nat} (h : n * k ≤ 4611686018427387904) : AA .mul .i64 (n : Int) (k : Int) = ((n * k : Nat) : Int) := by
 have e : (n : Int) * (k : Int) = ((n * k : Nat) : Int) := by simp
 generalize n * k = d at *
 rw [aNb (by omega) (by omega)]; exact e
theorem aNe (a b : Nat) (w : List Int) (hl : w.length ≤ 1000000) (hb : b ≤ w.length) (hab : a + 12 < b) : ∃ p h, Zg w (a : Int) (b : Int) = some (p, h) ∧ Vx a b p := by
 have hd : AA .quo .i64 ((b - a : Nat) : Int) 4 = (((b - a) / 4 : Nat) : Int) := aNi (k := 4) (by omega)
 have m1 : AA .mul .i64 (((b - a) / 4 : Nat) : Int) 1 = (((b - a) / 4 * 1 : Nat) : Int) := aS2 (k := 1) (by omega)
 have m2 : AA .mul .i64 (((b - a) / 4 : Nat) : Int) 2 = (((b - a) / 4 * 2 : Nat) : Int) := aS2 (k := 2) (by omega)
 have m3 : AA .mul .i64 (((b - a) / 4 : Nat) : Int) 3 = (((b - a) / 4 * 3 : Nat) : Int) := aS2 (k := 3) (by omega)
 have fin : ∀ (x s : Int), Vx a b x → ∃ p h, (AD (decide (s = 0)) (some (x, (1 : Int))) (AD (decide (s = 12)) (some (x, 2)) (some (x, 0)))) = some (p, h) ∧ Vx a b p := fun x s hx => by
  by_cases h1 : s = 0
  ·exact ⟨x, 1, by rw [decide_eq_true h1]; rfl, hx⟩
  ·by_cases h2 : s = 12
   ·exact ⟨x, 2, by rw [decide_eq_false h1, decide_eq_true h2]; rfl, hx⟩
   ·exact ⟨x, 0, by rw [decide_eq_false h1, decide_eq_false h2]; rfl, hx⟩
 unfold Zg aEz
 rw [Wq (by omega), hd, m1, m2, m3, Nn (by omega), Nn (by omega), Nn (by omega), decide_eq_true (by omega), AJ]
 have hb2 : ∃ x y z s, VL w ((a + (b - a) / 4 * 1 : Nat) : Int) ((a + (b - a) / 4 * 2 : Nat) : Int) ((a + (b - a) / 4 * 3 : Nat) : Int) (decide (50 ≤ ((b - a : Nat) : Int))) 0 = some (x, y, z, s) ∧ Vx a b x ∧ Vx a b y ∧ Vx a b z := by
  unfold VL
  by_cases h : 50 ≤ b - a
  ·obtain ⟨x, s1, e1, h1⟩ := VY (lo := a) (hi := b) (n := a + (b - a) / 4 * 1) hb hl 0 (by omega) (by omega)
   obtain ⟨y, s2, e2, h2⟩ := VY (lo := a) (hi := b) (n := a + (b - a) / 4 * 2) hb hl s1 (by omega) (by omega)
   obtain ⟨z, s3, e3, h3⟩ := VY (lo := a) (hi := b) (n := a + (b - a) / 4 * 3) hb hl s2 (by omega) (by omega)
   refine ⟨x, y, z, s3, ?_, h1, h2, h3⟩
   rw [decide_eq_true (by omega), AJ, e1, AB, e2, AB, e3, AB]
  ·refine ⟨_, _, _, _, by rw [decide_eq_false (by omega), AI], ⟨_, rfl, by omega, by omega⟩, ⟨_, rfl, by omega, by omega⟩, ⟨_, rfl, by omega, by omega⟩⟩
 obtain ⟨x, y, z, s, e, hx, hy, hz⟩ := hb2
 obtain ⟨u, s', e', hu⟩ := aHh hb s hx hy hz
 rw [e, AB]
 simp only
 rw [e', AB, AB]
 exact fin u s' hu
theorem aNf (a j : Nat) (w : List Int) (hl : w.length ≤ 1000000) (hj : j < w.length) (ha : a < w.length) : ∀ (m i : Nat), j + 1 ≤ i + m → i ≤ j + 1 →
 ∃ o : Nat, Oh (a : Int) (j : Int) w (i : Int) = some (o : Int) ∧ i ≤ o ∧ o ≤ j + 1 ∧ (∀ k, i ≤ k → k < o → ga w k < ga w a) ∧ (o ≤ j → ¬ ga w o < ga w a) := by
 intro m
 induction m with
 | zero =>
  intro i hm hi
  refine ⟨i, ?_, Nat.le_refl _, hi, fun k h1 h2 => by omega, fun h => by omega⟩
  rw [NI]
  unfold GU
  rw [leF (by omega), Aa]
 | succ m ih =>
  intro i hm hi
  rw [NI]
  unfold GU
  by_cases h0 : i ≤ j
  ·by_cases h1 : ga w i < ga w a
   ·obtain ⟨o, e1, e2, e3, e4, e5⟩ := ih (i + 1) (by omega) (by omega)
    refine ⟨o, ?_, by omega, e3, fun k k1 k2 => ?_, e5⟩
    ·simp (disch := omega) only [leT, Dy, DT, BE, AB, h1, decide_true, AJ, E6, Ay]
     exact e1
    ·by_cases hk : k = i
     ·subst hk; exact h1
     ·exact e4 k (by omega) k2
   ·refine ⟨i, ?_, Nat.le_refl _, hi, fun k k1 k2 => by omega, fun _ => h1⟩
    simp (disch := omega) only [leT, Dy, DT, BE, AB, h1, decide_false, AI, Aa]
  ·refine ⟨i, by rw [leF h0, Aa], Nat.le_refl _, hi, fun k k1 k2 => by omega, fun h => absurd h h0⟩
theorem aNg (a i : Nat) (w : List Int) (hl : w.length ≤ 1000000) (ha : a < w.length) (hi : 1 ≤ i) : ∀ (j : Nat), j < w.length → i ≤ j + 1 →
 ∃ o : Nat, Oi (a : Int) (i : Int) w (j : Int) = some (o : Int) ∧ i ≤ o + 1 ∧ o ≤ j ∧ (∀ k, o < k → k ≤ j → ¬ ga w k < ga w a) ∧ (i ≤ o → ga w o < ga w a) := by
 intro j
 induction j with
 | zero =>
  intro hj hij
  refine ⟨0, ?_, hij, Nat.le_refl _, fun k h1 h2 => by omega, fun h => by omega⟩
  rw [NJ]
  unfold GV
  rw [leF (by omega), Aa]
 | succ j ih =>
  intro hj hij
  rw [NJ]
  unfold GV
  by_cases h0 : i ≤ j + 1
  ·by_cases h1 : ga w (j + 1) < ga w a
   ·refine ⟨j + 1, ?_, by omega, Nat.le_refl _, fun k k1 k2 => by omega, fun _ => h1⟩
    simp (disch := omega) only [leT, Dy, DT, BE, AB, h1, decide_true, Bool.not_true, AI, Aa]
   ·obtain ⟨o, e1, e2, e3, e4, e5⟩ := ih (by omega) (by omega)
    refine ⟨o, ?_, e2, by omega, fun k k1 k2 => ?_, e5⟩
    ·simp (disch := omega) only [leT, Dy, DT, BE, AB, h1, decide_false, Bool.not_false, AJ, CR, Ay, Nat.add_sub_cancel]
     exact e1
    ·by_cases hk : k = j + 1
     ·subst hk; exact h1
     ·exact e4 k k1 (by omega)
  ·refine ⟨j + 1, by rw [leF h0, Aa], by omega, Nat.le_refl _, fun k k1 k2 => by omega, fun h => absurd h h0⟩
theorem aTe : aH8 = Oh := rfl
theorem aTf : aH9 = Oi := rfl
theorem aTd (a b : Nat) : ∀ (m i j : Nat) (w : List Int), j + 1 ≤ i + m → w.length ≤ 1000000 → b ≤ w.length → a + 1 ≤ i → i ≤ j + 1 → j < b → (∀ k, a < k → k < i → ga w k < ga w a) → (∀ k, j < k → k < b → ¬ ga w k < ga w a) →
 ∃ (o : Nat) (w' : List Int), RN (a : Int) (i : Int) (j : Int) w = some ((o : Int), w') ∧ a ≤ o ∧ o < b ∧ Pm (a + 1) b w w' ∧ (∀ k, a < k → k ≤ o → ga w' k < ga w a) ∧ (∀ k, o < k → k < b → ¬ ga w' k < ga w a) := by
 intro m
 induction m using Nat.strongRecOn with
 | ind m ih =>
  intro i j w hm hl hb hi hij hj hA hB
  obtain ⟨x, e1, e2, e3, e4, e5⟩ := aNf a j w hl (by omega) (by omega) m i hm hij
  obtain ⟨y, f1, f2, f3, f4, f5⟩ := aNg a x w hl (by omega) (by omega) j (by omega) e3
  rw [YU]
  unfold JE
  rw [aTe, aTf, e1, AB, f1, AB]
  have hA' : ∀ k, a < k → k < x → ga w k < ga w a := fun k k1 k2 => by
   by_cases h : k < i
   ·exact hA k k1 h
   ·exact e4 k (by omega) k2
  have hB' : ∀ k, y < k → k < b → ¬ ga w k < ga w a := fun k k1 k2 => by
   by_cases h : j < k
   ·exact hB k h k2
   ·exact f4 k k1 (by omega)
  by_cases h0 : y < x
  ·refine ⟨y, w, by rw [ltT h0, Aa], by omega, by omega, Pm.refl _ _ _, fun k k1 k2 => hA' k k1 (by omega), hB'⟩
  ·have hx := e5 (by omega)
   have hy := f5 (by omega)
   have hxy : x ≠ y := fun h => by subst h; exact hx hy
   have hg := DR (w := w) (i := x) (j := y) (by omega) (by omega)
   have ha : ga (swp w x y) a = ga w a := by rw [hg, if_neg (by omega), if_neg (by omega)]
   obtain ⟨o, w', g1, g2, g3, g4, g5, g6⟩ := ih (m - 2) (by omega) (x + 1) (y - 1) (swp w x y) (by omega) (by rw [BJ]; exact hl) (by rw [BJ]; exact hb) (by omega) (by omega) (by omega)
    (fun k k1 k2 => by
     rw [ha, hg]
     by_cases c1 : k = x
     ·rw [if_neg (by omega), if_pos c1]; exact hy
     ·rw [if_neg (by omega), if_neg c1]; exact hA' k k1 (by omega))
    (fun k k1 k2 => by
     rw [ha, hg]
     by_cases c1 : k = y
     ·rw [if_pos c1]; exact hx
     ·rw [if_neg c1, if_neg (by omega)]; exact hB' k (by omega) k2)
   rw [ha] at g5 g6
   refine ⟨o, w', ?_, g2, g3, (Pm.swp ⟨by omega, by omega⟩ ⟨by omega, by omega⟩ hb).trans g4, g5, g6⟩
   rw [← g1]
   simp (disch := omega) only [ltF, Dy, DT, List.length_set, Int.toNat_natCast, E6, CR, Ay]
   rfl
end
end Go.Ac
