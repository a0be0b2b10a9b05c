/- Own work: the plain law. -/
import Derived.Test.YtbmojpadjglncaaGreatP22zsx
set_option linter.unusedVariables false
set_option linter.unusedSimpArgs false
namespace Go.Ac
noncomputable section
theorem aTg (a b p : Nat) (w : List Int) (hl : w.length ≤ 1000000) (hb : b ≤ w.length) (hp : a ≤ p ∧ p < b) (hab : a + 2 ≤ b) :
 ∃ (o : Nat) (f : Bool) (w' : List Int), Xa (a : Int) (b : Int) (p : Int) w = some ((o : Int), f, w') ∧ a ≤ o ∧ o < b ∧ Pm a b w w' ∧ (∀ k, a ≤ k → k < o → ga w' k ≤ ga w' o) ∧ (∀ k, o < k → k < b → ga w' o ≤ ga w' k) := by
 have hs : Pm a b w (swp w a p) := Pm.swp ⟨by omega, by omega⟩ hp hb
 have hl1 : (swp w a p).length = w.length := BJ w a p
 -- the end, from a row that is parted behind its first one
 have fin : ∀ (o : Nat) (w2 : List Int), a ≤ o → o < b → Pm a b w w2 → (∀ k, a < k → k ≤ o → ga w2 k < ga w2 a) → (∀ k, o < k → k < b → ¬ ga w2 k < ga w2 a) →
  Pm a b w (swp w2 o a) ∧ (∀ k, a ≤ k → k < o → ga (swp w2 o a) k ≤ ga (swp w2 o a) o) ∧ (∀ k, o < k → k < b → ga (swp w2 o a) o ≤ ga (swp w2 o a) k) := fun o w2 h1 h2 h3 h4 h5 => by
  have hl2 := h3.len
  have hg := DR (w := w2) (i := o) (j := a) (by omega) (by omega)
  have ho : ga (swp w2 o a) o = ga w2 a := by
   rw [hg]
   by_cases c : o = a
   ·rw [if_pos c, c]
   ·rw [if_neg c, if_pos rfl]
  refine ⟨h3.trans (Pm.swp ⟨h1, h2⟩ ⟨by omega, by omega⟩ (by omega)), fun k k1 k2 => ?_, fun k k1 k2 => ?_⟩
  ·rw [ho, hg]
   by_cases c : k = a
   ·rw [if_pos c]; have := h4 o (by omega) (Nat.le_refl _); omega
   ·rw [if_neg c, if_neg (by omega)]; have := h4 k (by omega) (by omega); omega
  ·rw [ho, hg, if_neg (by omega), if_neg (by omega)]
   have := h5 k k1 k2; omega
 obtain ⟨x, e1, e2, e3, e4, e5⟩ := aNf a (b - 1) (swp w a p) (by omega) (by omega) (by omega) b (a + 1) (by omega) (by omega)
 obtain ⟨y, f1, f2, f3, f4, f5⟩ := aNg a x (swp w a p) (by omega) (by omega) (by omega) (b - 1) (by omega) e3
 have hA : ∀ k, a < k → k < x → ga (swp w a p) k < ga (swp w a p) a := fun k k1 k2 => e4 k (by omega) k2
 have hB : ∀ k, y < k → k < b → ¬ ga (swp w a p) k < ga (swp w a p) a := fun k k1 k2 => f4 k k1 (by omega)
 have hdef : ((w.set a (ga w p)).set p (ga w a)) = swp w a p := rfl
 unfold Xa
 simp (disch := omega) only [Dy, DT, List.length_set, Int.toNat_natCast, E6, CR, hdef, e1, f1, AB]
 by_cases h0 : y < x
 ·obtain ⟨g1, g2, g3⟩ := fin y (swp w a p) (by omega) (by omega) hs (fun k k1 k2 => hA k k1 (by omega)) hB
  refine ⟨y, true, swp (swp w a p) y a, ?_, by omega, by omega, g1, g2, g3⟩
  simp (disch := omega) only [ltT, Dy, DT, List.length_set, Int.toNat_natCast]
  rfl
 ·have hx := e5 (by omega)
  have hy := f5 (by omega)
  have hxy : x ≠ y := fun h => by subst h; exact hx hy
  have hg := DR (w := swp w a p) (i := x) (j := y) (by omega) (by omega)
  have ha : ga (swp (swp w a p) x y) a = ga (swp w a p) a := by rw [hg, if_neg (by omega), if_neg (by omega)]
  have hl2 : (swp (swp w a p) x y).length = w.length := by rw [BJ, hl1]
  obtain ⟨o, w', g1, g2, g3, g4, g5, g6⟩ := aTd a b b (x + 1) (y - 1) (swp (swp w a p) x y) (by omega) (by omega) (by omega) (by omega) (by omega) (by omega)
   (fun k k1 k2 => by
    rw [ha, hg]
    by_cases c1 : k = x
    ·rw [if_neg (by omega), if_pos c1]; exact hy
    ·rw [if_neg (by omega), if_neg c1]; exact hA k k1 (by omega))
   (fun k k1 k2 => by
    rw [ha, hg]
    by_cases c1 : k = y
    ·rw [if_pos c1]; exact hx
    ·rw [if_neg c1, if_neg (by omega)]; exact hB k (by omega) k2)
  have hwa : ga w' a = ga (swp (swp w a p) x y) a := g4.out a (by omega)
  rw [← hwa] at g5 g6
  have hpm := (hs.trans (Pm.swp (w := swp w a p) (i := x) (j := y) ⟨by omega, by omega⟩ ⟨by omega, by omega⟩ (by omega))).trans (g4.mono (by omega) (Nat.le_refl _))
  have hl3 := hpm.len
  obtain ⟨q1, q2, q3⟩ := fin o w' g2 g3 hpm g5 g6
  refine ⟨o, false, swp w' o a, ?_, g2, g3, q1, q2, q3⟩
  have hdef2 : (((swp w a p).set x (ga (swp w a p) y)).set y (ga (swp w a p) x)) = swp (swp w a p) x y := rfl
  simp (disch := omega) only [ltF, Dy, DT, List.length_set, Int.toNat_natCast, E6, CR, hdef2, g1, AB]
  rfl
theorem aS5 (a j : Nat) (w : List Int) (hl : w.length ≤ 1000000) (hj : j < w.length) (ha : a < w.length) : ∀ (m i : Nat), j + 1 ≤ i + m → i ≤ j + 1 →
 ∃ o : Nat, SE (a : Int) (j : Int) w (i : Int) = some (o : Int) ∧ i ≤ o ∧ o ≤ j + 1 ∧ (∀ k, i ≤ k → k < o → ¬ ga w a < ga w k) ∧ (o ≤ j → ga w a < ga w o) := by
 intro m
 induction m with
 | zero =>
  intro i hm hi
  refine ⟨i, ?_, Nat.le_refl _, hi, fun k h1 h2 => by omega, fun h => by omega⟩
  rw [NO]
  unfold Gg
  rw [leF (by omega), Aa]
 | succ m ih =>
  intro i hm hi
  rw [NO]
  unfold Gg
  by_cases h0 : i ≤ j
  ·by_cases h1 : ga w a < ga w i
   ·refine ⟨i, ?_, Nat.le_refl _, hi, fun k k1 k2 => by omega, fun _ => h1⟩
    simp (disch := omega) only [leT, Dy, DT, BE, AB, h1, decide_true, Bool.not_true, AI, Aa]
   ·obtain ⟨o, e1, e2, e3, e4, e5⟩ := ih (i + 1) (by omega) (by omega)
    refine ⟨o, ?_, by omega, e3, fun k k1 k2 => ?_, e5⟩
    ·simp (disch := omega) only [leT, Dy, DT, BE, AB, h1, decide_false, Bool.not_false, AJ, E6, Ay]
     exact e1
    ·by_cases hk : k = i
     ·subst hk; exact h1
     ·exact e4 k (by omega) k2
  ·refine ⟨i, by rw [leF h0, Aa], Nat.le_refl _, hi, fun k k1 k2 => by omega, fun h => absurd h h0⟩
theorem aS6 (a i : Nat) (w : List Int) (hl : w.length ≤ 1000000) (ha : a < w.length) (hi : 1 ≤ i) : ∀ (j : Nat), j < w.length → i ≤ j + 1 →
 ∃ o : Nat, SH (a : Int) (i : Int) w (j : Int) = some (o : Int) ∧ i ≤ o + 1 ∧ o ≤ j ∧ (∀ k, o < k → k ≤ j → ga w a < ga w k) ∧ (i ≤ o → ¬ ga w a < ga w o) := by
 intro j
 induction j with
 | zero =>
  intro hj hij
  refine ⟨0, ?_, hij, Nat.le_refl _, fun k h1 h2 => by omega, fun h => by omega⟩
  rw [NP]
  unfold Gh
  rw [leF (by omega), Aa]
 | succ j ih =>
  intro hj hij
  rw [NP]
  unfold Gh
  by_cases h0 : i ≤ j + 1
  ·by_cases h1 : ga w a < ga w (j + 1)
   ·obtain ⟨o, e1, e2, e3, e4, e5⟩ := ih (by omega) (by omega)
    refine ⟨o, ?_, e2, by omega, fun k k1 k2 => ?_, e5⟩
    ·simp (disch := omega) only [leT, Dy, DT, BE, AB, h1, decide_true, AJ, CR, Ay, Nat.add_sub_cancel]
     exact e1
    ·by_cases hk : k = j + 1
     ·subst hk; exact h1
     ·exact e4 k k1 (by omega)
   ·refine ⟨j + 1, ?_, by omega, Nat.le_refl _, fun k k1 k2 => by omega, fun _ => h1⟩
    simp (disch := omega) only [leT, Dy, DT, BE, AB, h1, decide_false, AI, Aa]
  ·refine ⟨j + 1, by rw [leF h0, Aa], by omega, Nat.le_refl _, fun k k1 k2 => by omega, fun h => absurd h h0⟩
theorem aS4 (a b : Nat) : ∀ (m i j : Nat) (w : List Int), j + 1 ≤ i + m → w.length ≤ 1000000 → b ≤ w.length → a + 1 ≤ i → i ≤ j + 1 → j < b → (∀ k, a < k → k < i → ¬ ga w a < ga w k) → (∀ k, j < k → k < b → ga w a < ga w k) →
 ∃ (o : Nat) (w' : List Int), SB (a : Int) (i : Int) (j : Int) w = some ((o : Int), w') ∧ a < o ∧ o ≤ b ∧ Pm (a + 1) b w w' ∧ (∀ k, a < k → k < o → ¬ ga w a < ga w' k) ∧ (∀ k, o ≤ k → k < b → ga w a < ga w' k) := by
 intro m
 induction m using Nat.strongRecOn with
 | ind m ih =>
  intro i j w hm hl hb hi hij hj hA hB
  obtain ⟨x, e1, e2, e3, e4, e5⟩ := aS5 a j w hl (by omega) (by omega) m i hm hij
  obtain ⟨y, f1, f2, f3, f4, f5⟩ := aS6 a x w hl (by omega) (by omega) j (by omega) e3
  rw [aAg]
  unfold JK
  rw [e1, AB, f1, AB]
  have hA' : ∀ k, a < k → k < x → ¬ ga w a < ga w k := fun k k1 k2 => by
   by_cases h : k < i
   ·exact hA k k1 h
   ·exact e4 k (by omega) k2
  have hB' : ∀ k, y < k → k < b → ga w a < ga w k := fun k k1 k2 => by
   by_cases h : j < k
   ·exact hB k h k2
   ·exact f4 k k1 (by omega)
  by_cases h0 : y < x
  ·refine ⟨x, w, by rw [ltT h0, Aa], by omega, by omega, Pm.refl _ _ _, hA', fun k k1 k2 => hB' k (by omega) k2⟩
  ·have hx := e5 (by omega)
   have hy := f5 (by omega)
   have hxy : x ≠ y := fun h => by subst h; exact hy hx
   have hg := DR (w := w) (i := x) (j := y) (by omega) (by omega)
   have ha : ga (swp w x y) a = ga w a := by rw [hg, if_neg (by omega), if_neg (by omega)]
   obtain ⟨o, w', g1, g2, g3, g4, g5, g6⟩ := ih (m - 2) (by omega) (x + 1) (y - 1) (swp w x y) (by omega) (by rw [BJ]; exact hl) (by rw [BJ]; exact hb) (by omega) (by omega) (by omega)
    (fun k k1 k2 => by
     rw [ha, hg]
     by_cases c1 : k = x
     ·rw [if_neg (by omega), if_pos c1]; exact hy
     ·rw [if_neg (by omega), if_neg c1]; exact hA' k k1 (by omega))
    (fun k k1 k2 => by
     rw [ha, hg]
     by_cases c1 : k = y
     ·rw [if_pos c1]; exact hx
     ·rw [if_neg c1, if_neg (by omega)]; exact hB' k (by omega) k2)
   rw [ha] at g5 g6
   refine ⟨o, w', ?_, g2, g3, (Pm.swp ⟨by omega, by omega⟩ ⟨by omega, by omega⟩ hb).trans g4, g5, g6⟩
   rw [← g1]
   simp (disch := omega) only [ltF, Dy, DT, List.length_set, Int.toNat_natCast, E6, CR, Ay]
   rfl
theorem aS7 (a b p : Nat) (w : List Int) (hl : w.length ≤ 1000000) (hb : b ≤ w.length) (hp : a ≤ p ∧ p < b) (hab : a + 2 ≤ b) :
 ∃ (o : Nat) (w' : List Int), Xi (a : Int) (b : Int) (p : Int) w = some ((o : Int), w') ∧ a < o ∧ o ≤ b ∧ Pm a b w w' ∧ (∀ k, a ≤ k → k < o → ga w' k ≤ ga w p) := by
 have hs : Pm a b w (swp w a p) := Pm.swp ⟨by omega, by omega⟩ hp hb
 have hl1 : (swp w a p).length = w.length := BJ w a p
 obtain ⟨o, w', e1, e2, e3, e4, e5, e6⟩ := aS4 a b b (a + 1) (b - 1) (swp w a p) (by omega) (by omega) (by omega) (by omega) (by omega) (by omega) (fun k k1 k2 => by omega) (fun k k1 k2 => by omega)
 have ha : ga (swp w a p) a = ga w p := by
  rw [DR (by omega) (by omega)]
  by_cases c : a = p
  ·rw [if_pos c, c]
  ·rw [if_neg c, if_pos rfl]
 rw [ha] at e5
 refine ⟨o, w', ?_, e2, e3, hs.trans (e4.mono (by omega) (Nat.le_refl _)), fun k k1 k2 => ?_⟩
 ·have hdef : ((w.set a (ga w p)).set p (ga w a)) = swp w a p := rfl
  unfold Xi
  simp (disch := omega) only [Dy, DT, List.length_set, Int.toNat_natCast, E6, CR, hdef, e1, AB]
 ·by_cases c : k = a
  ·subst c; rw [e4.out k (by omega), ha]; exact Int.le_refl _
  ·have := e5 k (by omega) k2; omega
def Lo (a b : Nat) (w : List Int) : Prop := 0 < a → ∀ k, a ≤ k → k < b → ga w (a - 1) ≤ ga w k
theorem Lo.pm {a b : Nat} {w w' : List Int} (h : Lo a b w) (p : Pm a b w w') : Lo a b w' := fun h0 k k1 k2 => by
 obtain ⟨i, i1, i2, i3⟩ := p.src k k1 k2
 rw [i3, p.out (a - 1) (by omega)]
 exact h h0 i i1 i2
theorem aS9 (a b : Nat) (s8 : Int) (w : List Int) (hl : w.length ≤ 1000000) (hb : b ≤ w.length) : ∀ (m i : Nat), b ≤ i + m → a < i → i ≤ b → So a i w →
 ∃ o : Nat, QW (a : Int) (b : Int) s8 w (i : Int) = some (o : Int) ∧ i ≤ o ∧ o ≤ b ∧ So a o w := by
 intro m
 induction m with
 | zero =>
  intro i hm ha hi hs
  refine ⟨i, ?_, Nat.le_refl _, hi, hs⟩
  rw [NE]
  unfold GR
  rw [ltF (by omega), Aa]
 | succ m ih =>
  intro i hm ha hi hs
  rw [NE]
  unfold GR
  by_cases h0 : i < b
  ·by_cases h1 : ga w i < ga w (i - 1)
   ·refine ⟨i, ?_, Nat.le_refl _, hi, hs⟩
    simp (disch := omega) only [ltT, Dy, DT, CR, BE, AB, h1, decide_true, Bool.not_true, AI, Aa]
   ·obtain ⟨o, e1, e2, e3, e4⟩ := ih (i + 1) (by omega) (by omega) (by omega) (fun p q p1 p2 p3 => by
     by_cases hq : q = i
     ·subst hq
      by_cases hp : p = q - 1
      ·subst hp; omega
      ·have := hs p (q - 1) p1 (by omega) (by omega); omega
     ·exact hs p q p1 p2 (by omega))
    refine ⟨o, ?_, by omega, e3, e4⟩
    simp (disch := omega) only [ltT, Dy, DT, CR, BE, AB, h1, decide_false, Bool.not_false, AJ, E6, Ay]
    exact e1
  ·refine ⟨i, by rw [ltF h0, Aa], Nat.le_refl _, hi, hs⟩
theorem aTa (a b i : Nat) (s2 s7 s8 : Int) (hib : i < b) : ∀ (j : Nat) (w : List Int), w.length ≤ 1000000 → b ≤ w.length → a ≤ j → j ≤ i → Lo a b w → (∀ p q, a ≤ p → p < q → q ≤ i → q ≠ j → ga w p ≤ ga w q) →
 ∃ w', QZ (a : Int) s2 s7 s8 (j : Int) w = some w' ∧ Pm a (i + 1) w w' ∧ So a (i + 1) w' := by
 intro j
 induction j with
 | zero =>
  intro w hl hb ha hj hL hs
  refine ⟨w, ?_, Pm.refl _ _ _, fun p q h1 h2 h3 => hs p q h1 h2 (by omega) (by omega)⟩
  rw [NG]
  unfold GS
  rw [decide_eq_false (by omega), AI, Aa]
 | succ j ih =>
  intro w hl hb ha hj hL hs
  rw [NG]
  unfold GS
  rw [decide_eq_true (by omega), AJ]
  by_cases h1 : ga w (j + 1) < ga w j
  ·by_cases h0 : a < j + 1
   ·have hp := Pm.swp (a := a) (b := i + 1) (w := w) (i := j + 1) (j := j) ⟨by omega, by omega⟩ ⟨by omega, by omega⟩ (by omega)
    have hg := DR (w := w) (i := j + 1) (j := j) (by omega) (by omega)
    obtain ⟨w', e1, e2, e3⟩ := ih (swp w (j + 1) j) (by rw [BJ]; omega) (by rw [BJ]; omega) (by omega) (by omega) (hL.pm (hp.mono (Nat.le_refl _) (by omega))) (fun p q p1 p2 p3 p4 => by
     have b1 := hs p q p1 p2 p3
     have b2 := hs p (j + 1) p1
     have b3 := hs p j p1
     have b4 := hs (j + 1) q (by omega)
     have b5 := hs j q (by omega)
     rw [hg, hg]
     by_cases c1 : p = j
     ·rw [if_pos c1]
      by_cases c2 : q = j + 1
      ·rw [if_neg (by omega), if_pos c2]; omega
      ·rw [if_neg (by omega), if_neg c2]; exact b4 (by omega) p3 c2
     ·rw [if_neg c1]
      by_cases c2 : p = j + 1
      ·rw [if_pos c2, if_neg (by omega), if_neg (by omega)]; exact b5 (by omega) p3 (by omega)
      ·rw [if_neg c2]
       by_cases c3 : q = j + 1
       ·rw [if_neg (by omega), if_pos c3]; exact b3 (by omega) (by omega) (by omega)
       ·rw [if_neg (by omega), if_neg c3]; exact b1 c3)
    refine ⟨w', ?_, hp.trans e2, e3⟩
    rw [← e1]
    simp (disch := omega) only [CR, Nat.add_sub_cancel, Dy, DT, BE, AB, h1, decide_true, Bool.not_true, AI, List.length_set, Int.toNat_natCast, Ay]
    rfl
   ·exfalso
    have := hL (by omega) (j + 1) (by omega) (by omega)
    rw [show a - 1 = j by omega] at this
    omega
  ·refine ⟨w, ?_, Pm.refl _ _ _, fun p q p1 p2 p3 => ?_⟩
   ·simp (disch := omega) only [CR, Nat.add_sub_cancel, Dy, DT, BE, AB, h1, decide_false, Bool.not_false, AJ, Aa]
   ·by_cases hq : q = j + 1
    ·subst hq
     by_cases hpj : p = j
     ·subst hpj; omega
     ·have := hs p j p1 (by omega) (by omega) (by omega)
      omega
    ·exact hs p q p1 p2 (by omega) hq
theorem aTb (o b : Nat) (s1 s7 s8 : Int) : ∀ (m j : Nat) (w : List Int), b ≤ j + m → w.length ≤ 1000000 → b ≤ w.length → o < j →
 ∃ w', RF s1 (b : Int) s7 s8 (j : Int) w = some w' ∧ Pm o b w w' := by
 intro m
 induction m with
 | zero =>
  intro j w hm hl hb hj
  refine ⟨w, ?_, Pm.refl _ _ _⟩
  rw [NH]
  unfold GT
  rw [ltF (by omega), Aa]
 | succ m ih =>
  intro j w hm hl hb hj
  rw [NH]
  unfold GT
  by_cases h0 : j < b
  ·by_cases h1 : ga w j < ga w (j - 1)
   ·have hp := Pm.swp (a := o) (b := b) (w := w) (i := j) (j := j - 1) ⟨by omega, by omega⟩ ⟨by omega, by omega⟩ hb
    obtain ⟨w', e1, e2⟩ := ih (j + 1) (swp w j (j - 1)) (by omega) (by rw [BJ]; exact hl) (by rw [BJ]; exact hb) (by omega)
    refine ⟨w', ?_, hp.trans e2⟩
    rw [← e1]
    simp (disch := omega) only [ltT, CR, Dy, DT, BE, AB, h1, decide_true, Bool.not_true, AI, List.length_set, Int.toNat_natCast, E6, Ay]
    rfl
   ·refine ⟨w, ?_, Pm.refl _ _ _⟩
    simp (disch := omega) only [ltT, CR, Dy, DT, BE, AB, h1, decide_false, Bool.not_false, AJ, Aa]
  ·refine ⟨w, by rw [ltF h0, Aa], Pm.refl _ _ _⟩
theorem aS8 (a b : Nat) : ∀ (m k i : Nat) (w : List Int), 5 ≤ k + m → k ≤ 5 → w.length ≤ 1000000 → b ≤ w.length → a < i → i ≤ b → Lo a b w → So a i w →
 ∃ w' o, Og (a : Int) (b : Int) (i : Int) (k : Int) w = some o ∧ Pm a b w w' ∧ (o = .inl w' ∨ ∃ f, o = .inr (f, w') ∧ (f = true → So a b w')) := by
 intro m
 induction m with
 | zero =>
  intro k i w hm hk hl hb ha hi hL hs
  refine ⟨w, _, ?_, Pm.refl _ _ _, .inl rfl⟩
  rw [ND]
  unfold GQ
  rw [decide_eq_false (by omega), AI, Aa]
 | succ m ih =>
  intro k i w hm hk hl hb ha hi hL hs
  rw [ND]
  unfold GQ
  by_cases h5 : k < 5
  ·rw [decide_eq_true (by omega), AJ]
   unfold YK
   obtain ⟨o, e1, e2, e3, e4⟩ := aS9 a b (k : Int) w hl hb b i (by omega) ha hi hs
   rw [e1, AB]
   by_cases h0 : o = b
   ·refine ⟨w, _, by rw [decide_eq_true (by omega), AJ, AB, Cx, Aa], Pm.refl _ _ _, .inr ⟨true, rfl, fun _ => h0 ▸ e4⟩⟩
   ·rw [decide_eq_false (by omega), AI, Wq (by omega)]
    by_cases h50 : b - a < 50
    ·refine ⟨w, _, by rw [decide_eq_true (by omega), AJ, AB, Cx, Aa], Pm.refl _ _ _, .inr ⟨false, rfl, fun h => by cases h⟩⟩
    ·rw [decide_eq_false (by omega), AI]
     have hsw := Pm.swp (a := a) (b := b) (w := w) (i := o) (j := o - 1) ⟨by omega, by omega⟩ ⟨by omega, by omega⟩ hb
     have hg := DR (w := w) (i := o) (j := o - 1) (by omega) (by omega)
     have hdef : ((w.set o (ga w (o - 1))).set (o - 1) (ga w o)) = swp w o (o - 1) := rfl
     obtain ⟨w1, f1, f2, f3⟩ : ∃ w1, QS (a : Int) (b : Int) (o : Int) (k : Int) (decide (2 ≤ ((o - a : Nat) : Int))) (swp w o (o - 1)) = some w1 ∧ Pm a b (swp w o (o - 1)) w1 ∧ So a o w1 := by
      unfold QS
      by_cases h2 : 2 ≤ o - a
      ·obtain ⟨w1, g1, g2, g3⟩ := aTa a b (o - 1) (b : Int) (o : Int) (k : Int) (by omega) (o - 1) (swp w o (o - 1)) (by rw [BJ]; exact hl) (by rw [BJ]; exact hb) (by omega) (Nat.le_refl _) (hL.pm hsw) (fun p q p1 p2 p3 p4 => by
        rw [hg, hg, if_neg (by omega), if_neg (by omega), if_neg (by omega), if_neg (by omega)]
        exact e4 p q p1 p2 (by omega))
       rw [show o - 1 + 1 = o by omega] at g2 g3
       refine ⟨w1, ?_, g2.mono (Nat.le_refl _) (by omega), g3⟩
       rw [decide_eq_true (by omega), AJ, CR (by omega), g1, AB]
      ·exact ⟨_, by rw [decide_eq_false (by omega), AI], Pm.refl _ _ _, fun p q p1 p2 p3 => by omega⟩
     have hl1 : w1.length = w.length := by rw [f2.len, BJ]
     obtain ⟨w2, g1, g2⟩ : ∃ w2, QT (a : Int) (b : Int) (o : Int) (k : Int) (decide (2 ≤ ((b - o : Nat) : Int))) w1 = some w2 ∧ Pm o b w1 w2 := by
      unfold QT
      by_cases h2 : 2 ≤ b - o
      ·obtain ⟨w2, g1, g2⟩ := aTb o b (a : Int) (o : Int) (k : Int) b (o + 1) w1 (by omega) (by omega) (by omega) (by omega)
       exact ⟨w2, by rw [decide_eq_true (by omega), AJ, E6 (by omega), g1, AB], g2⟩
      ·exact ⟨_, by rw [decide_eq_false (by omega), AI], Pm.refl _ _ _⟩
     have hpm := (hsw.trans f2).trans (g2.mono (by omega) (Nat.le_refl _))
     have hl2 := hpm.len
     obtain ⟨w3, q, r1, r2, r3⟩ := ih (k + 1) o w2 (by omega) (by omega) (by omega) (by omega) (by omega) (by omega) (hL.pm hpm) (fun p q p1 p2 p3 => by
      rw [g2.out p (by omega), g2.out q (by omega)]; exact f3 p q p1 p2 p3)
     refine ⟨w3, q, ?_, hpm.trans r2, r3⟩
     rw [← r1]
     simp (disch := omega) only [Dy, DT, CR, Wq, List.length_set, Int.toNat_natCast, hdef, f1, g1, AB, BU, E6, Ay]
  ·exact ⟨w, _, by rw [decide_eq_false (by omega), AI, Aa], Pm.refl _ _ _, .inl rfl⟩
theorem aTc (a b : Nat) (w : List Int) (hl : w.length ≤ 1000000) (hb : b ≤ w.length) (hab : a < b) (hL : Lo a b w) :
 ∃ (f : Bool) (w' : List Int), X9 (a : Int) (b : Int) w = some (f, w') ∧ Pm a b w w' ∧ (f = true → So a b w') := by
 obtain ⟨w', o, e1, e2, e3⟩ := aS8 a b 5 0 (a + 1) w (by omega) (by omega) hl hb (by omega) (by omega) hL (fun p q p1 p2 p3 => by omega)
 unfold X9
 have e1' : Og (a : Int) (b : Int) ((a + 1 : Nat) : Int) 0 w = some o := e1
 rw [E6 (by omega), e1', AB]
 rcases e3 with rfl | ⟨f, rfl, hf⟩
 ·exact ⟨false, w', rfl, e2, fun h => by cases h⟩
 ·exact ⟨f, w', rfl, e2, hf⟩
abbrev aN8 := Int × Int × Int × Bool × Bool × List Int
def Rd (a b : Nat) (w : List Int) (x : aN8) : Prop := ∃ a' b' : Nat, x.1 = (a' : Int) ∧ x.2.1 = (b' : Int) ∧ a ≤ a' ∧ a' ≤ b' ∧ b' ≤ b ∧ b' - a' < b - a ∧ Pm a b w x.2.2.2.2.2 ∧ Lo a' b' x.2.2.2.2.2 ∧
 (∀ p q, a ≤ p → p < a' → p < q → q < b → ga x.2.2.2.2.2 p ≤ ga x.2.2.2.2.2 q) ∧ ∀ p q, a ≤ p → p < q → b' ≤ q → q < b → ga x.2.2.2.2.2 p ≤ ga x.2.2.2.2.2 q
def Slf (self : Int → Int → Int → List Int → Option (List Int)) (N : Nat) : Prop := ∀ (a b : Nat) (lim : Int) (w : List Int), b - a < N → a ≤ b → b ≤ w.length → w.length ≤ 60000 → Lo a b w → ∃ w', self (a : Int) (b : Int) lim w = some w' ∧ Pm a b w w' ∧ So a b w'
theorem Lo.sub {a b b' : Nat} {w : List Int} (h : Lo a b w) (hb : b' ≤ b) : Lo a b' w := fun h0 k k1 k2 => h h0 k k1 (by omega)
theorem aSt {self : Int → Int → Int → List Int → Option (List Int)} {a b o : Nat} (lim : Int) (wp : Bool) (t : Int) {w w1 : List Int} (hS : Slf self (b - a)) (hl : w.length ≤ 60000) (hb : b ≤ w.length) (ho : a ≤ o) (hob : o < b) (hp : Pm a b w w1) (hL : Lo a b w1)
 (h1 : ∀ k, a ≤ k → k < o → ga w1 k ≤ ga w1 o) (h2 : ∀ k, o < k → k < b → ga w1 o ≤ ga w1 k) (hab : 2 ≤ b - a) :
 ∃ y : Int × Int × Bool × List Int, FK self (a : Int) (b : Int) lim wp (o : Int) ((o - a : Nat) : Int) ((b - o : Nat) : Int) t (decide (((o - a : Nat) : Int) < ((b - o : Nat) : Int))) w1 = some y ∧ ∀ wb, Rd a b w (y.1, y.2.1, lim, wb, wp, y.2.2.2) := by
 have hl1 := hp.len
 unfold FK
 by_cases h : o - a < b - o
 ·obtain ⟨w2, e1, e2, e3⟩ := hS a o lim w1 (by omega) ho (by omega) (by omega) (hL.sub (by omega))
  refine ⟨(AA .add .i64 (o : Int) 1, (b : Int), decide (t ≤ ((o - a : Nat) : Int)), w2), by rw [decide_eq_true (by omega), AJ, e1, AB], fun wb => ⟨o + 1, b, E6 (by omega), rfl, by omega, by omega, by omega, by omega, hp.trans (e2.mono (Nat.le_refl _) (by omega)), fun h0 k k1 k2 => ?_, fun p q p1 p2 p3 p4 => ?_, fun p q p1 p2 p3 p4 => by omega⟩⟩
  ·show ga w2 (o + 1 - 1) ≤ ga w2 k
   rw [Nat.add_sub_cancel, e2.out o (by omega), e2.out k (by omega)]
   exact h2 k (by omega) k2
  ·show ga w2 p ≤ ga w2 q
   by_cases c1 : q < o
   ·exact e3 p q p1 p3 c1
   ·rw [e2.out q (by omega)]
    have hpo : ga w2 p ≤ ga w1 o := by
     by_cases c2 : p = o
     ·rw [c2, e2.out o (by omega)]; exact Int.le_refl _
     ·obtain ⟨p', q1, q2, q3⟩ := e2.src p p1 (by omega)
      rw [q3]; exact h1 p' q1 q2
    by_cases c3 : q = o
    ·rw [c3]; exact hpo
    ·have := h2 q (by omega) p4; omega
 ·obtain ⟨w2, e1, e2, e3⟩ := hS (o + 1) b lim w1 (by omega) (by omega) (by omega) (by omega) (fun h0 k k1 k2 => by rw [Nat.add_sub_cancel]; exact h2 k (by omega) k2)
  have hL2 : Lo a b w2 := hL.pm (e2.mono (by omega) (Nat.le_refl _))
  refine ⟨((a : Int), (o : Int), decide (t ≤ ((b - o : Nat) : Int)), w2), by rw [decide_eq_false (by omega), AI, E6 (by omega), e1, AB], fun wb => ⟨a, o, rfl, rfl, Nat.le_refl _, ho, by omega, by omega, hp.trans (e2.mono (by omega) (Nat.le_refl _)), hL2.sub (by omega), fun p q p1 p2 p3 p4 => by omega, fun p q p1 p2 p3 p4 => ?_⟩⟩
  show ga w2 p ≤ ga w2 q
  by_cases c1 : o < p
  ·exact e3 p q c1 p2 p4
  ·rw [e2.out p (by omega)]
   have hpo : ga w1 p ≤ ga w1 o := by
    by_cases c2 : p = o
    ·rw [c2]; exact Int.le_refl _
    ·exact h1 p p1 (by omega)
   by_cases c3 : q = o
   ·rw [c3, e2.out o (by omega)]; exact hpo
   ·obtain ⟨q', q1, q2, q3⟩ := e2.src q (by omega) p4
    have := h2 q' (by omega) q2
    omega
def aKr (self : Int → Int → Int → List Int → Option (List Int)) (s1 s2 d lim : Int) (s8 s9 : Bool) (pv : Int) (w : List Int) : Option (aN8 ⊕ List Int) :=
 AD (decide (0 < s1)) (
  AZ (0 ≤ (AA .sub .i64 s1 1) ∧ (AA .sub .i64 s1 1) + 1 ≤ (w.length : Int)) (
   AV w (AA .sub .i64 s1 1) fun x12 =>
   AZ (0 ≤ pv ∧ pv + 1 ≤ (w.length : Int)) (
    AV w pv fun x13 =>
    AF (Yc x12 x13) fun r14 =>
    AD (!r14) (
     AF (Xi s1 s2 pv w) fun r15 =>
     some (.inl (r15.1, s2, lim, s8, s9, r15.2))) (
     AF (Xa s1 s2 pv w) fun r16 =>
     AF (FK self s1 s2 lim r16.2.1 r16.1 (AA .sub .i64 r16.1 s1) (AA .sub .i64 s2 r16.1) (AA .quo .i64 d 8) (decide ((AA .sub .i64 r16.1 s1) < (AA .sub .i64 s2 r16.1))) r16.2.2) fun o19 =>
     some (.inl (o19.1, o19.2.1, lim, o19.2.2.1, r16.2.1, o19.2.2.2)))))) (
  AF (Xa s1 s2 pv w) fun r20 =>
  AF (FK self s1 s2 lim r20.2.1 r20.1 (AA .sub .i64 r20.1 s1) (AA .sub .i64 s2 r20.1) (AA .quo .i64 d 8) (decide ((AA .sub .i64 r20.1 s1) < (AA .sub .i64 s2 r20.1))) r20.2.2) fun o21 =>
  some (.inl (o21.1, o21.2.1, lim, o21.2.2.1, r20.2.1, o21.2.2.2)))
theorem aKs {self : Int → Int → Int → List Int → Option (List Int)} {a b p : Nat} (d lim : Int) (s8 s9 : Bool) {w w1 : List Int} (hS : Slf self (b - a)) (hl : w.length ≤ 60000) (hb : b ≤ w.length) (hp : a ≤ p ∧ p < b) (hab : a + 2 ≤ b) (h1 : Pm a b w w1) (hL : Lo a b w1) :
 ∃ x, aKr self (a : Int) (b : Int) d lim s8 s9 (p : Int) w1 = some (.inl x) ∧ Rd a b w x := by
 have hl1 := h1.len
 have part : ∃ x, (AF (Xa (a : Int) (b : Int) (p : Int) w1) fun r20 =>
  AF (FK self (a : Int) (b : Int) lim r20.2.1 r20.1 (AA .sub .i64 r20.1 (a : Int)) (AA .sub .i64 (b : Int) r20.1) (AA .quo .i64 d 8) (decide ((AA .sub .i64 r20.1 (a : Int)) < (AA .sub .i64 (b : Int) r20.1))) r20.2.2) fun o21 =>
  some (.inl (o21.1, o21.2.1, lim, o21.2.2.1, r20.2.1, o21.2.2.2) : aN8 ⊕ List Int)) = some (.inl x) ∧ Rd a b w x := by
  obtain ⟨o, f, w2, e1, e2, e3, e4, e5, e6⟩ := aTg a b p w1 (by omega) (by omega) hp hab
  obtain ⟨y, f1, f2⟩ := aSt (o := o) lim f (AA .quo .i64 d 8) hS hl hb e2 e3 (h1.trans e4) (hL.pm e4) e5 e6 (by omega)
  refine ⟨_, ?_, f2 y.2.2.1⟩
  rw [e1, AB]
  simp only
  rw [Wq (n := o) (m := a) (by omega), Wq (n := b) (m := o) (by omega), f1, AB]
 unfold aKr
 by_cases h0 : 0 < a
 ·rw [decide_eq_true (by omega), AJ]
  by_cases hc : ga w1 (a - 1) < ga w1 p
  ·obtain ⟨x, x1, x2⟩ := part
   refine ⟨x, ?_, x2⟩
   rw [← x1]
   simp (disch := omega) only [CR, Dy, DT, BE, AB, hc, decide_true, Bool.not_true, AI]
  ·obtain ⟨o, w2, e1, e2, e3, e4, e5⟩ := aS7 a b p w1 (by omega) (by omega) hp hab
   have hL2 := hL.pm e4
   have ha : ga w2 (a - 1) = ga w1 (a - 1) := e4.out _ (by omega)
   refine ⟨((o : Int), (b : Int), lim, s8, s9, w2), ?_, ⟨o, b, rfl, rfl, by omega, e3, Nat.le_refl _, by omega, h1.trans e4, fun q0 k k1 k2 => ?_, fun p' q p1 p2 p3 p4 => ?_, fun p' q p1 p2 p3 p4 => by omega⟩⟩
   ·simp (disch := omega) only [CR, Dy, DT, BE, AB, hc, decide_false, Bool.not_false, AJ, e1]
   ·show ga w2 (o - 1) ≤ ga w2 k
    have := e5 (o - 1) (by omega) (by omega)
    have := hL2 h0 k (by omega) k2
    omega
   ·show ga w2 p' ≤ ga w2 q
    have := e5 p' p1 p2
    have := hL2 h0 q (by omega) p4
    omega
 ·rw [decide_eq_false (by omega), AI]; exact part
theorem aSs {self : Int → Int → Int → List Int → Option (List Int)} {a b : Nat} (lim : Int) (s8 s9 fl : Bool) (t pv : Int) {w1 : List Int} (hl : w1.length ≤ 60000) (hb : b ≤ w1.length) (hab : a < b) (hL : Lo a b w1) :
 ∃ o w2, KK self (a : Int) (b : Int) lim s8 s9 t pv fl w1 = some o ∧ Pm a b w1 w2 ∧ (o = .inl w2 ∨ o = .inr w2 ∧ So a b w2) := by
 unfold KK
 cases fl with
 | false => exact ⟨_, w1, rfl, Pm.refl _ _ _, .inl rfl⟩
 | true =>
  obtain ⟨f, w2, e1, e2, e3⟩ := aTc a b w1 (by omega) hb hab hL
  rw [AJ, e1, AB]
  cases f with
  | true => exact ⟨_, w2, rfl, e2, .inr ⟨rfl, e3 rfl⟩⟩
  | false => exact ⟨_, w2, rfl, e2, .inl rfl⟩
theorem aSr {self : Int → Int → Int → List Int → Option (List Int)} {a b : Nat} (lim : Int) (s8 s9 : Bool) {w : List Int} (hS : Slf self (b - a)) (hl : w.length ≤ 60000) (hb : b ≤ w.length) (hab : a ≤ b) (hL : Lo a b w) :
 ∃ o, Rr self (a : Int) (b : Int) lim s8 s9 w = some o ∧ ((∃ w', o = .inr w' ∧ Pm a b w w' ∧ So a b w') ∨ ∃ x, o = .inl x ∧ Rd a b w x) := by
 unfold Rr
 rw [Wq (n := b) (m := a) (by omega)]
 by_cases h12 : b - a ≤ 12
 ·obtain ⟨w', e1, e2, e3⟩ := aSy a b w (by omega) hb hab
  exact ⟨_, by rw [decide_eq_true (by omega), AJ, e1, AB], .inl ⟨w', rfl, e2, e3⟩⟩
 ·rw [decide_eq_false (by omega), AI]
  by_cases hlim : lim = 0
  ·obtain ⟨w', e1, e2, e3⟩ := aKg a b w (by omega) hb (by omega)
   exact ⟨_, by rw [decide_eq_true hlim, AJ, e1, AB], .inl ⟨w', rfl, e2, e3⟩⟩
  ·rw [decide_eq_false hlim, AI]
   obtain ⟨l1, w1, e1, e2⟩ : ∃ l1 w1, Rs self (a : Int) (b : Int) lim s8 s9 ((b - a : Nat) : Int) (!s8) w = some (l1, w1) ∧ Pm a b w w1 := by
    unfold Rs
    cases s8 with
    | true => exact ⟨_, _, rfl, Pm.refl _ _ _⟩
    | false =>
     obtain ⟨w1, e1, e2⟩ := aMu a b w hl hb (by omega)
     exact ⟨_, w1, by rw [Bool.not_false, AJ, e1, AB], e2⟩
   have hl1 := e2.len
   obtain ⟨pv, hint, f1, p, rfl, p1, p2⟩ := aNe a b w1 (by omega) (by omega) (by omega)
   obtain ⟨p', hint', w2, g1, g2, g3, g4⟩ : ∃ (p' : Nat) (hint' : Int) (w2 : List Int), Rt self (a : Int) (b : Int) l1 s8 s9 ((b - a : Nat) : Int) (p : Int) hint (decide (hint = 2)) w1 = some ((p' : Int), hint', w2) ∧ a ≤ p' ∧ p' < b ∧ Pm a b w1 w2 := by
    unfold Rt
    by_cases h2 : hint = 2
    ·obtain ⟨w2, g1, g2⟩ := aNk a b w1 (by omega) (by omega) hab
     refine ⟨b - 1 - (p - a), 1, w2, ?_, by omega, by omega, g2⟩
     rw [decide_eq_true h2, AJ, g1, AB, CR (by omega), Wq (n := p) (m := a) (by omega), Wq (n := b - 1) (m := p - a) (by omega)]
    ·exact ⟨p, hint, w1, by rw [decide_eq_false h2, AI], p1, p2, Pm.refl _ _ _⟩
   have h02 := e2.trans g4
   have hL2 := hL.pm h02
   have hl2 := h02.len
   have fin : ∀ fl : Bool, ∃ o, (AF (KK self (a : Int) (b : Int) l1 s8 s9 ((b - a : Nat) : Int) (p' : Int) fl w2) fun o9 =>
    BI o9 (fun o10 => aKr self (a : Int) (b : Int) ((b - a : Nat) : Int) l1 s8 s9 (p' : Int) o10) (fun o11 => some (.inr o11))) = some o ∧ ((∃ w', o = .inr w' ∧ Pm a b w w' ∧ So a b w') ∨ ∃ x, o = .inl x ∧ Rd a b w x) := fun fl => by
    obtain ⟨o, w3, h1, h2, h3⟩ := aSs (self := self) l1 s8 s9 fl ((b - a : Nat) : Int) (p' : Int) (w1 := w2) (by omega) (by omega) (by omega) hL2
    rw [h1, AB]
    rcases h3 with rfl | ⟨rfl, h3⟩
    ·obtain ⟨x, x1, x2⟩ := aKs ((b - a : Nat) : Int) l1 s8 s9 hS hl hb ⟨g2, g3⟩ (by omega) (h02.trans h2) (hL2.pm h2)
     exact ⟨_, by rw [BU, x1], .inr ⟨x, rfl, x2⟩⟩
    ·exact ⟨_, Cx _ _ _, .inl ⟨w3, rfl, h02.trans h2, h3⟩⟩
   rw [e1, AB]
   simp only
   rw [f1, AB]
   simp only
   rw [g1, AB]
   simp only
   cases s8 with
   | true => cases s9 with
    | true => rw [AJ, AJ]; exact fin (decide (hint' = 1))
    | false => rw [AJ, AI]; exact fin false
   | false => rw [AI]; exact fin false
theorem aNd {self : Int → Int → Int → List Int → Option (List Int)} {N : Nat} (hS : Slf self N) : ∀ (m a b : Nat) (lim : Int) (s8 s9 : Bool) (w : List Int), b - a ≤ m → b - a ≤ N → w.length ≤ 60000 → b ≤ w.length → a ≤ b → Lo a b w →
 ∃ w', Ru self (a : Int) (b : Int) lim s8 s9 w = some w' ∧ Pm a b w w' ∧ So a b w' := by
 intro m
 induction m using Nat.strongRecOn with
 | ind m ih =>
  intro a b lim s8 s9 w hm hN hl hb hab hL
  rw [ZN]
  unfold JG
  obtain ⟨o, e1, e2⟩ := aSr lim s8 s9 (fun a' b' l w' h1 h2 h3 h4 h5 => hS a' b' l w' (by omega) h2 h3 h4 h5) hl hb hab hL
  rw [e1, AB]
  rcases e2 with ⟨w', rfl, f1, f2⟩ | ⟨x, rfl, f1⟩
  ·exact ⟨w', by rw [Cx, Aa], f1, f2⟩
  ·obtain ⟨a', b', x1, x2, k1, k2, k3, k4, k5, k6, k7, k8⟩ := f1
   have hl5 := k5.len
   obtain ⟨w', g1, g2, g3⟩ := ih (b' - a') (by omega) a' b' x.2.2.1 x.2.2.2.1 x.2.2.2.2.1 x.2.2.2.2.2 (Nat.le_refl _) (by omega) (by omega) (by omega) k2 k6
   refine ⟨w', ?_, k5.trans (g2.mono k1 k3), fun p q p1 p2 p3 => ?_⟩
   ·rw [BU, Ay]
    simp only
    rw [x1, x2]; exact g1
   ·by_cases c1 : p < a'
    ·rw [g2.out p (by omega)]
     by_cases c2 : a' ≤ q ∧ q < b'
     ·obtain ⟨q', q1, q2, q3⟩ := g2.src q c2.1 c2.2
      rw [q3]; exact k7 p q' p1 c1 (by omega) (by omega)
     ·rw [g2.out q (by omega)]; exact k7 p q p1 c1 p2 p3
    ·by_cases c2 : b' ≤ q
     ·rw [g2.out q (by omega)]
      by_cases c3 : p < b'
      ·obtain ⟨p', q1, q2, q3⟩ := g2.src p (by omega) c3
       rw [q3]; exact k8 p' q (by omega) (by omega) c2 p3
      ·rw [g2.out p (by omega)]; exact k8 p q p1 p2 c2 p3
     ·exact g3 p q (by omega) p2 (by omega)
theorem aS3 : ∀ n, Slf (aK1 n) n := by
 intro n
 induction n with
 | zero => intro a b lim w h; omega
 | succ n ih =>
  intro a b lim w h1 h2 h3 h4 h5
  obtain ⟨w', e1, e2, e3⟩ := aNd ih (b - a) a b lim true true w (Nat.le_refl _) (by omega) h4 h3 h2 h5
  refine ⟨w', ?_, e2, e3⟩
  show aLn (aK1 n) (a : Int) (b : Int) lim w = some w'
  unfold aLn
  rw [e1, AB]
theorem aH3 {w : List Int} (hl : w.length ≤ 60000) : ∃ w', Qq w = some w' ∧ w'.Perm w ∧ w'.Pairwise (· ≤ ·) := by
 obtain ⟨k, e1, _⟩ := aGv (n := w.length) (by omega)
 obtain ⟨w', f1, f2, f3⟩ := aS3 100000 0 w.length (k : Int) w (by omega) (by omega) (Nat.le_refl _) hl (fun h => by omega)
 refine ⟨w', ?_, f2.perm, ?_⟩
 ·unfold Qq
  rw [BO (by omega), e1, AB]
  have f1' : Xd 0 (w.length : Int) (k : Int) w = some w' := f1
  rw [f1', AB]
 ·rw [List.pairwise_iff_getElem]
  intro i j hi hj hij
  have := f3 i j (by omega) hij (by have := f2.len; omega)
  rw [Hi hi, Hi hj]; exact this
theorem Ef {l m : List Int} (h1 : l.Pairwise (· ≤ ·)) (h2 : m.Pairwise (· ≤ ·)) (hp : l.Perm m) : l = m :=
 List.Perm.eq_of_pairwise (fun a b _ _ h3 h4 => by omega) h1 h2 hp
theorem M9 {w l : List Int} (hl : w.length ≤ 60000) (hs : l.Pairwise (· ≤ ·)) (hp : l.Perm w) : Qr w = some l := by
 unfold Qr
 refine aJ3 fun p hp' => ?_
 obtain ⟨w', e1, e2, e3⟩ := aH3 (w := p) (by rw [hp'.length_eq]; exact hl)
 rw [e1, Ef e3 hs (e2.trans (hp'.trans hp.symm))]
theorem V7 {α : Type} {le : α → α → Bool} {x y : α} {l : List α} : y ∈ Ku le x l ↔ y = x ∨ y ∈ l := by
 rw [(Fb le x l).mem_iff, mc]
theorem Fr {α : Type} {le : α → α → Bool} (h1 : ∀ a b, le a b = true ∨ le b a = true) (h2 : ∀ a b c, le a b = true → le b c = true → le a c = true) (x : α) : ∀ {l : List α}, l.Pairwise (fun a b => le a b = true) → (Ku le x l).Pairwise (fun a b => le a b = true)
 | [], _ => by simp [Ku]
 | y :: l, h => by
  obtain ⟨ha, hb⟩ := List.pairwise_cons.1 h
  rw [Ku]
  split
  ·rename_i hxy
   refine List.pairwise_cons.2 ⟨fun z hz => ?_, h⟩
   rcases mc.1 hz with rfl | hz
   ·exact hxy
   ·exact h2 _ _ _ hxy (ha z hz)
  ·rename_i hxy
   refine List.pairwise_cons.2 ⟨fun z hz => ?_, Fr h1 h2 x hb⟩
   rcases V7.1 hz with rfl | hz
   ·rcases h1 y z with h | h
    ·exact h
    ·rw [hxy] at h; cases h
   ·exact ha z hz
theorem DQ {α : Type} {le : α → α → Bool} (h1 : ∀ a b, le a b = true ∨ le b a = true) (h2 : ∀ a b c, le a b = true → le b c = true → le a c = true) : ∀ (l : List α), (LG le l).Pairwise (fun a b => le a b = true)
 | [] => List.Pairwise.nil
 | x :: l => Fr h1 h2 x (DQ h1 h2 l)
theorem Cw (xs : List Int) : (W6 xs).Pairwise (· ≤ ·) :=
 (DQ (le := fun a b : Int => decide (a ≤ b)) (fun a b => by simp only [decide_eq_true_eq]; omega) (fun a b c h1 h2 => by simp only [decide_eq_true_eq] at *; omega) xs).imp fun h => by simpa using h
theorem Hn {V : Type} (S : List (Int × V)) : (aF0 S).Pairwise (fun a b => a.1 ≤ b.1) :=
 (DQ (le := fun a b : Int × V => decide (a.1 ≤ b.1)) (fun a b => by simp only [decide_eq_true_eq]; omega) (fun a b c h1 h2 => by simp only [decide_eq_true_eq] at *; omega) S).imp fun h => by simpa using h
def aKq (xs : List Int) : Option (List Int) := AD (Nat.ble xs.length 60000) (some (W6 xs)) none
theorem aGj (xs : List Int) : Le (aKq xs) (Qr xs) := by
 intro r h
 unfold aKq at h
 rcases iS h with ⟨h1, h⟩ | ⟨h1, h⟩
 ·cases si h
  exact M9 (by simpa using h1) (Cw xs) (CY xs)
 ·cases h
def MC (s1 : Int) (s9 : List X5) (s10 : Int) (s5 : Int) (s11 : Int) : Option (Int) := itE (fun s : Int × Int => FN s1 s9 s10 s.1 s.2) 70 (s5, s11)
theorem aBq (s1 : Int) (s9 : List X5) (s10 : Int) (s5 : Int) (s11 : Int) : Le (MC s1 s9 s10 s5 s11) (S4 s1 s9 s10 s5 s11) := by
 unfold MC S4
 repeat' (first | refine B3 (fun _ => ?_) _ _ | exact Le.refl _)
def aQh (a0 : AE) (a1 : Int) : Option (Int) :=
 AF (MC a1 a0.symbols (a0.symbols.length : Int) 0 0) fun o4 =>
 some o4
theorem aQi (a0 : AE) (a1 : Int) : Le (aQh a0 a1) (Xt a0 a1) := by
 unfold aQh Xt
 repeat' (first | exact aBq _ _ _ _ _ | refine Am ?_ fun _ => ?_ | exact Le.refl _)
def MA (s0 : List X0) (s2 : List X0) (s8 : Int) (w4 : X0) (s9 : Int) (s10 : Int) : Option (Int) := itE (fun s : Int × Int => ES s0 s2 s8 w4 s.1 s.2) 70 (s9, s10)
theorem aBd (s0 : List X0) (s2 : List X0) (s8 : Int) (w4 : X0) (s9 : Int) (s10 : Int) : Le (MA s0 s2 s8 w4 s9 s10) (Ox s0 s2 s8 w4 s9 s10) := by
 unfold MA Ox
 repeat' (first | refine B3 (fun _ => ?_) _ _ | exact Le.refl _)
def aNw (a0 : List X0) (a1 : X0) (a2 : List X0) : Option (Int × Bool) :=
 AF (MA a0 a2 (a0.length : Int) a1 0 (a0.length : Int)) fun o5 =>
 AD (decide (o5 < (a0.length : Int))) (
  AV a0 o5 fun x6 =>
  AF (Zw x6 a1 a2) fun r7 =>
  some (o5, decide (r7 = 0))) (
  some (o5, false))
theorem aLu (a0 : List X0) (a1 : X0) (a2 : List X0) : Le (aNw a0 a1 a2) (Xq a0 a1 a2) := by
 unfold aNw Xq
 repeat' (first | exact aBd _ _ _ _ _ _ | refine Am ?_ fun _ => ?_ | refine Bb ?_ ?_ | refine DN fun _ => ?_ | exact Le.refl _)
def aR4 (a1 : X0) : Option (Bool × List X0) :=
 AF (aNw ([] : List X0) a1 ([] : List X0)) fun r1 =>
 AF (VI r1.1 r1.2 (!r1.2) a1) fun o3 =>
 some (!r1.2, o3)
theorem aR5 (a1 : X0) : Le (aR4 a1) (Zd a1) := by
 unfold aR4 Zd
 repeat' (first | exact aLu _ _ _ | refine Am ?_ fun _ => ?_ | exact Le.refl _)
def aNx (a1 : X0) (w1 : List X0) : Option (Bool × List X0) :=
 AF (aNw w1 a1 w1) fun r1 =>
 AF (Uk r1.1 r1.2 (!r1.2) a1 w1) fun o3 =>
 some (!r1.2, o3)
theorem aMb (a1 : X0) (w1 : List X0) : Le (aNx a1 w1) (Yz a1 w1) := by
 unfold aNx Yz
 repeat' (first | exact aLu _ _ _ | refine Am ?_ fun _ => ?_ | exact Le.refl _)
def Lg (s1 : Int) (s12 : Bool) (w2 : AE) : Option ((List X0)) :=
 AD (s12) (
  AF (Zo false) fun r2 =>
  AF (aR4 r2) fun r3 =>
  AF (Zo true) fun r4 =>
  AF (aNx r4 r3.2) fun r5 =>
  some r5.2) (
  some ([] : List X0))
theorem XT (s1 : Int) (s12 : Bool) (w2 : AE) : Le (Lg s1 s12 w2) (Lf s1 s12 w2) := by
 unfold Lg Lf
 repeat' (first | exact aR5 _ | exact aMb _ _ | refine Am ?_ fun _ => ?_ | refine Bb ?_ ?_ | exact Le.refl _)
def JD (s1 : Int) (s20 : List X5) (s21 : Int) (s22 : Int) (s27 : List Av) (s28 : Int) (s29 : Int) (s42 : Bool) (w9 : Av) (w518 : List X0) : Option ((List X0)) :=
 AD (s42) (
  AF (aNx w9.value w518) fun r9 =>
  some r9.2) (
  some w518)
theorem XX (s1 : Int) (s20 : List X5) (s21 : Int) (s22 : Int) (s27 : List Av) (s28 : Int) (s29 : Int) (s42 : Bool) (w9 : Av) (w518 : List X0) : Le (JD s1 s20 s21 s22 s27 s28 s29 s42 w9 w518) (Li s1 s20 s21 s22 s27 s28 s29 s42 w9 w518) := by
 unfold JD Li
 repeat' (first | exact aMb _ _ | refine Am ?_ fun _ => ?_ | refine Bb ?_ ?_ | exact Le.refl _)
def Lh (s1 : Int) (s20 : List X5) (s21 : Int) (s22 : Int) (s27 : List Av) (s28 : Int) (s29 : Int) (w518 : List X0) : Option ((List X0)) :=
 AV s27 s29 fun x8 =>
 AD (decide (x8.kind = 1)) (
  AF (JD s1 s20 s21 s22 s27 s28 s29 (decide (x8.value.kind = s1)) x8 w518) fun o10 =>
  some o10) (
  AF (JD s1 s20 s21 s22 s27 s28 s29 false x8 w518) fun o11 =>
  some o11)
theorem XV (s1 : Int) (s20 : List X5) (s21 : Int) (s22 : Int) (s27 : List Av) (s28 : Int) (s29 : Int) (w518 : List X0) : Le (Lh s1 s20 s21 s22 s27 s28 s29 w518) (Oc s1 s20 s21 s22 s27 s28 s29 w518) := by
 unfold Lh Oc
 repeat' (first | exact XX _ _ _ _ _ _ _ _ _ _ | refine Am ?_ fun _ => ?_ | refine Bb ?_ ?_ | refine DN fun _ => ?_ | exact Le.refl _)
def GK (s1 : Int) (s20 : List X5) (s21 : Int) (s22 : Int) (s27 : List Av) (s28 : Int) (s29 : Int) (w518 : List X0) : Option ((Int × List X0) ⊕ ((List X0))) :=
 AD (decide (s29 < s28)) (
  AF (Lh s1 s20 s21 s22 s27 s28 s29 w518) fun o12 =>
  some (.inl ((AA .add .i64 s29 1), o12))) (
  some (.inr w518))
theorem Of (s1 : Int) (s20 : List X5) (s21 : Int) (s22 : Int) (s27 : List Av) (s28 : Int) (s29 : Int) (w518 : List X0) : Le (GK s1 s20 s21 s22 s27 s28 s29 w518) (EK s1 s20 s21 s22 s27 s28 s29 w518) := by
 unfold GK EK
 repeat' (first | exact XV _ _ _ _ _ _ _ _ | refine Am ?_ fun _ => ?_ | refine Bb ?_ ?_ | exact Le.refl _)
def Lk (s1 : Int) (s20 : List X5) (s21 : Int) (s22 : Int) (s27 : List Av) (s28 : Int) (s29 : Int) (w518 : List X0) : Option ((List X0)) := itE (fun s : Int × List X0 => GK s1 s20 s21 s22 s27 s28 s.1 s.2) 70 (s29, w518)
theorem YA (s1 : Int) (s20 : List X5) (s21 : Int) (s22 : Int) (s27 : List Av) (s28 : Int) (s29 : Int) (w518 : List X0) : Le (Lk s1 s20 s21 s22 s27 s28 s29 w518) (Oe s1 s20 s21 s22 s27 s28 s29 w518) := by
 unfold Lk Oe
 repeat' (first | exact Of _ _ _ _ _ _ _ _ | refine B3 (fun _ => ?_) _ _ | exact Le.refl _)
def GJ (s1 : Int) (s20 : List X5) (s21 : Int) (s22 : Int) (w518 : List X0) : Option ((Int × List X0) ⊕ ((List X0))) :=
 AD (decide (s22 < s21)) (
  AV s20 s22 fun x7 =>
  AF (Lk s1 s20 s21 s22 x7.args (x7.args.length : Int) 0 w518) fun o13 =>
  some (.inl ((AA .add .i64 s22 1), o13))) (
  some (.inr w518))
theorem Od (s1 : Int) (s20 : List X5) (s21 : Int) (s22 : Int) (w518 : List X0) : Le (GJ s1 s20 s21 s22 w518) (EJ s1 s20 s21 s22 w518) := by
 unfold GJ EJ
 repeat' (first | exact YA _ _ _ _ _ _ _ _ | refine Am ?_ fun _ => ?_ | refine Bb ?_ ?_ | refine DN fun _ => ?_ | exact Le.refl _)
def Lj (s1 : Int) (s20 : List X5) (s21 : Int) (s22 : Int) (w518 : List X0) : Option ((List X0)) := itE (fun s : Int × List X0 => GJ s1 s20 s21 s.1 s.2) 70 (s22, w518)
theorem XY (s1 : Int) (s20 : List X5) (s21 : Int) (s22 : Int) (w518 : List X0) : Le (Lj s1 s20 s21 s22 w518) (QA s1 s20 s21 s22 w518) := by
 unfold Lj QA
 repeat' (first | exact Od _ _ _ _ _ | refine B3 (fun _ => ?_) _ _ | exact Le.refl _)
def aPk (a0 : AE) (a1 : Int) : Option (List X0) :=
 AF (Qm) fun r1 =>
 AF (Lg a1 (decide (a1 = 3)) a0) fun o6 =>
 AF (Lj a1 a0.symbols (a0.symbols.length : Int) 0 o6) fun o14 =>
 AF (Q7 o14) fun r15 =>
 some r15.1
theorem aPl (a0 : AE) (a1 : Int) : Le (aPk a0 a1) (X7 a0 a1) := by
 unfold aPk X7
 repeat' (first | exact XT _ _ _ | exact XY _ _ _ _ _ | refine Am ?_ fun _ => ?_ | exact Le.refl _)
def MF (s0 : List X0) (s7 : Int) (w3 : X0) (s8 : Int) : Option (Unit ⊕ Int) := itE (fun s : Int => FO s0 s7 w3 s) 70 s8
theorem aC0 (s0 : List X0) (s7 : Int) (w3 : X0) (s8 : Int) : Le (MF s0 s7 w3 s8) (O0 s0 s7 w3 s8) := by
 unfold MF O0
 repeat' (first | refine B3 (fun _ => ?_) _ _ | exact Le.refl _)
def aQz (a0 : List X0) (a1 : X0) : Option (Int) :=
 AF (MF a0 (a0.length : Int) a1 0) fun o2 =>
 BI o2 (fun o3 =>
  some (-1)) (fun o4 =>
  some o4)
theorem aQ0 (a0 : List X0) (a1 : X0) : Le (aQz a0 a1) (Y7 a0 a1) := by
 unfold aQz Y7
 repeat' (first | exact aC0 _ _ _ _ | refine Am ?_ fun _ => ?_ | refine M1 (fun _ => ?_) fun _ => ?_ | exact Le.refl _)
def aNy (a0 : List X0) (a1 : X0) : Option (Bool) :=
 AF (aQz a0 a1) fun r1 =>
 some (decide (0 ≤ r1))
theorem aMi (a0 : List X0) (a1 : X0) : Le (aNy a0 a1) (Zi a0 a1) := by
 unfold aNy Zi
 repeat' (first | exact aQ0 _ _ | refine Am ?_ fun _ => ?_ | exact Le.refl _)
def Ls (s0 : List (List X0)) (s9 : List (List X0)) (s10 : Int) (s3 : Int) (s11 : Int) : Option (Int) := itE (fun s : Int × Int => EN s0 s9 s10 s.1 s.2) 70 (s3, s11)
theorem ZR (s0 : List (List X0)) (s9 : List (List X0)) (s10 : Int) (s3 : Int) (s11 : Int) : Le (Ls s0 s9 s10 s3 s11) (Lr s0 s9 s10 s3 s11) := by
 unfold Ls Lr
 repeat' (first | refine B3 (fun _ => ?_) _ _ | exact Le.refl _)
def Lu (s25 : List (List X0)) (s26 : Int) (s27 : Int) (w6 : List X0) : Option ((List X0)) := itE (fun s : Int × List X0 => EO s25 s26 s.1 s.2) 70 (s27, w6)
theorem ZT (s25 : List (List X0)) (s26 : Int) (s27 : Int) (w6 : List X0) : Le (Lu s25 s26 s27 w6) (Lt s25 s26 s27 w6) := by
 unfold Lu Lt
 repeat' (first | refine B3 (fun _ => ?_) _ _ | exact Le.refl _)
def aPw (a0 : List (List X0)) : Option (List X0) :=
 AF (Ls a0 a0 (a0.length : Int) 0 0) fun o4 =>
 AF (Qn o4) fun r5 =>
 AF (Lu a0 (a0.length : Int) 0 r5) fun o7 =>
 some o7
theorem aPx (a0 : List (List X0)) : Le (aPw a0) (Xe a0) := by
 unfold aPw Xe
 repeat' (first | exact ZR _ _ _ _ _ | exact ZT _ _ _ _ | refine Am ?_ fun _ => ?_ | exact Le.refl _)
def Gn (s0 : Int) (s1 : List X0) (w4 : X0) (w6 : X0) : Option ((X0) ⊕ (X0)) :=
 AF (aNy s1 w6) fun r1 =>
 AD (r1) (
  AF (Oq s0 s1 w4 w6) fun o3 =>
  some (.inl o3)) (
  some (.inr w6))
theorem Ot (s0 : Int) (s1 : List X0) (w4 : X0) (w6 : X0) : Le (Gn s0 s1 w4 w6) (EQ s0 s1 w4 w6) := by
 unfold Gn EQ
 repeat' (first | exact aMi _ _ | refine Am ?_ fun _ => ?_ | refine Bb ?_ ?_ | exact Le.refl _)
def JL (s0 : Int) (s1 : List X0) (w4 : X0) (w6 : X0) : Option (X0) := itE (fun s : X0 => Gn s0 s1 w4 s) 70 w6
theorem aAr (s0 : Int) (s1 : List X0) (w4 : X0) (w6 : X0) : Le (JL s0 s1 w4 w6) (KL s0 s1 w4 w6) := by
 unfold JL KL
 repeat' (first | exact Ot _ _ _ _ | refine B3 (fun _ => ?_) _ _ | exact Le.refl _)
def aP5 (a0 : Int) (a1 : List X0) : Option (X0 × Bool) :=
 AD (!decide (a0 = 1)) (
  AD (!decide (a0 = 2)) (
   some (X0.mk 0 0 ([] : List UInt8) false, false)) (
   AF (JL a0 a1 (X0.mk 0 0 ([] : List UInt8) false) (X0.mk a0 0 ([] : List UInt8) false)) fun o4 =>
   some (o4, true))) (
  AF (JL a0 a1 (X0.mk 0 0 ([] : List UInt8) false) (X0.mk a0 0 ([] : List UInt8) false)) fun o5 =>
  some (o5, true))
theorem aP6 (a0 : Int) (a1 : List X0) : Le (aP5 a0 a1) (Xk a0 a1) := by
 unfold aP5 Xk
 repeat' (first | exact aAr _ _ _ _ | refine Am ?_ fun _ => ?_ | refine Bb ?_ ?_ | exact Le.refl _)
def L1 (s1 : List X0) (s5 : Int) (s28 : List X2) (s29 : Int) (s30 : Int) (w6 : List X0) : Option ((List X0)) :=
 AV s28 s30 fun x4 =>
 AD (decide (x4.value.kind = s5)) (
  AF (aNy w6 x4.value) fun r5 =>
  AF (L3 s1 s5 s28 s29 s30 (!r5) w6 x4) fun o6 =>
  some o6) (
  AF (L3 s1 s5 s28 s29 s30 false w6 x4) fun o7 =>
  some o7)
theorem aAb (s1 : List X0) (s5 : Int) (s28 : List X2) (s29 : Int) (s30 : Int) (w6 : List X0) : Le (L1 s1 s5 s28 s29 s30 w6) (Om s1 s5 s28 s29 s30 w6) := by
 unfold L1 Om
 repeat' (first | exact aMi _ _ | refine Am ?_ fun _ => ?_ | refine Bb ?_ ?_ | refine DN fun _ => ?_ | exact Le.refl _)
def Gf (s1 : List X0) (s5 : Int) (s28 : List X2) (s29 : Int) (s30 : Int) (w6 : List X0) : Option ((Int × List X0) ⊕ ((List X0))) :=
 AD (decide (s30 < s29)) (
  AF (L1 s1 s5 s28 s29 s30 w6) fun o8 =>
  some (.inl ((AA .add .i64 s30 1), o8))) (
  some (.inr w6))
theorem Oo (s1 : List X0) (s5 : Int) (s28 : List X2) (s29 : Int) (s30 : Int) (w6 : List X0) : Le (Gf s1 s5 s28 s29 s30 w6) (EP s1 s5 s28 s29 s30 w6) := by
 unfold Gf EP
 repeat' (first | exact aAb _ _ _ _ _ _ | refine Am ?_ fun _ => ?_ | refine Bb ?_ ?_ | exact Le.refl _)
def L5 (s1 : List X0) (s5 : Int) (s28 : List X2) (s29 : Int) (s30 : Int) (w6 : List X0) : Option ((List X0)) := itE (fun s : Int × List X0 => Gf s1 s5 s28 s29 s.1 s.2) 70 (s30, w6)
theorem aAe (s1 : List X0) (s5 : Int) (s28 : List X2) (s29 : Int) (s30 : Int) (w6 : List X0) : Le (L5 s1 s5 s28 s29 s30 w6) (On s1 s5 s28 s29 s30 w6) := by
 unfold L5 On
 repeat' (first | exact Oo _ _ _ _ _ _ | refine B3 (fun _ => ?_) _ _ | exact Le.refl _)
def aP1 (a0 : Xh) (a1 : List X0) : Option (List X0) :=
 AV a0.q.decls a0.d_ fun x1 =>
 AV x1.types a0.at_ fun x2 =>
 AF (aPk a0.q x2) fun r3 =>
 AF (L5 a1 x2 a0.b (a0.b.length : Int) 0 r3) fun o9 =>
 AF (aPw [o9, a1]) fun r10 =>
 AF (aP5 x2 r10) fun r11 =>
 AF (L4 r11.2 o9 r11.1) fun o12 =>
 some o12
theorem aP2 (a0 : Xh) (a1 : List X0) : Le (aP1 a0 a1) (Xg a0 a1) := by
 unfold aP1 Xg
 repeat' (first | exact aPl _ _ | exact aAe _ _ _ _ _ _ | exact aPx _ | exact aP6 _ _ | refine Am ?_ fun _ => ?_ | refine DN fun _ => ?_ | exact Le.refl _)
def ME (s1 : Int) (s8 : List X2) (s9 : Int) (w4 : X0) (s10 : Int) : Option (Unit ⊕ X0) := itE (fun s : Int => DX s1 s8 s9 w4 s) 70 s10
theorem aCc (s1 : Int) (s8 : List X2) (s9 : Int) (w4 : X0) (s10 : Int) : Le (ME s1 s8 s9 w4 s10) (Oz s1 s8 s9 w4 s10) := by
 unfold ME Oz
 repeat' (first | refine B3 (fun _ => ?_) _ _ | exact Le.refl _)
def aQt (a0 : List X2) (a1 : Int) : Option (X0 × Bool) :=
 AF (ME a1 a0 (a0.length : Int) (X0.mk 0 0 ([] : List UInt8) false) 0) fun o2 =>
 BI o2 (fun o3 =>
  some (X0.mk 0 0 ([] : List UInt8) false, false)) (fun o4 =>
  some (o4, true))
theorem aQu (a0 : List X2) (a1 : Int) : Le (aQt a0 a1) (Y0 a0 a1) := by
 unfold aQt Y0
 repeat' (first | exact aCc _ _ _ _ _ | refine Am ?_ fun _ => ?_ | refine M1 (fun _ => ?_) fun _ => ?_ | exact Le.refl _)
def aSb (a0 : Xh) (a1 : Av) (a2 : X0) : Option (Bool) :=
 AD (decide (a1.kind = 1)) (
  some (X0.eqb a1.value a2)) (
  AD (decide (a1.kind = 2)) (
   AF (aQt a0.b a1.n) fun r1 =>
   AD (r1.2) (
    some (X0.eqb r1.1 a2)) (
    some false)) (
   some true))
theorem aSc (a0 : Xh) (a1 : Av) (a2 : X0) : Le (aSb a0 a1 a2) (Zl a0 a1 a2) := by
 unfold aSb Zl
 repeat' (first | exact aQu _ _ | refine Am ?_ fun _ => ?_ | refine Bb ?_ ?_ | exact Le.refl _)
def L6 (s6 : Int) (s11 : List X5) (s12 : Int) (s13 : Int) (w2 : Xh) (w3 : X0) : Option (Int) :=
 AV s11 s13 fun x1 =>
 AD (decide (x1.event = w2.d_)) (
  AV x1.args w2.at_ fun x2 =>
  AF (aSb w2 x2 w3) fun r3 =>
  AF (L7 s6 s13 s11 s12 s13 r3 w2 w3) fun o4 =>
  some o4) (
  AF (L7 s6 s13 s11 s12 s13 false w2 w3) fun o5 =>
  some o5)
theorem aAs (s6 : Int) (s11 : List X5) (s12 : Int) (s13 : Int) (w2 : Xh) (w3 : X0) : Le (L6 s6 s11 s12 s13 w2 w3) (Ou s6 s11 s12 s13 w2 w3) := by
 unfold L6 Ou
 repeat' (first | exact aSc _ _ _ | refine Am ?_ fun _ => ?_ | refine Bb ?_ ?_ | refine DN fun _ => ?_ | exact Le.refl _)
def Gp (s11 : List X5) (s12 : Int) (w2 : Xh) (w3 : X0) (s6 : Int) (s13 : Int) : Option ((Int × Int) ⊕ (Int)) :=
 AD (decide (s13 < s12)) (
  AF (L6 s6 s11 s12 s13 w2 w3) fun o6 =>
  some (.inl (o6, (AA .add .i64 s13 1)))) (
  some (.inr s6))
theorem Ov (s11 : List X5) (s12 : Int) (w2 : Xh) (w3 : X0) (s6 : Int) (s13 : Int) : Le (Gp s11 s12 w2 w3 s6 s13) (ER s11 s12 w2 w3 s6 s13) := by
 unfold Gp ER
 repeat' (first | exact aAs _ _ _ _ _ _ | refine Am ?_ fun _ => ?_ | refine Bb ?_ ?_ | exact Le.refl _)
def L8 (s11 : List X5) (s12 : Int) (w2 : Xh) (w3 : X0) (s6 : Int) (s13 : Int) : Option (Int) := itE (fun s : Int × Int => Gp s11 s12 w2 w3 s.1 s.2) 70 (s6, s13)
theorem aAu (s11 : List X5) (s12 : Int) (w2 : Xh) (w3 : X0) (s6 : Int) (s13 : Int) : Le (L8 s11 s12 w2 w3 s6 s13) (SU s11 s12 w2 w3 s6 s13) := by
 unfold L8 SU
 repeat' (first | exact Ov _ _ _ _ _ _ | refine B3 (fun _ => ?_) _ _ | exact Le.refl _)
def aP8 (a0 : Xh) (a1 : X0) : Option (Int) :=
 AF (L8 a0.q.symbols (a0.q.symbols.length : Int) a0 a1 0 0) fun o7 =>
 some o7
theorem aP9 (a0 : Xh) (a1 : X0) : Le (aP8 a0 a1) (Xl a0 a1) := by
 unfold aP8 Xl
 repeat' (first | exact aAu _ _ _ _ _ _ | refine Am ?_ fun _ => ?_ | exact Le.refl _)
def Ln (s8 : Int) (s12 : List X0) (s13 : Int) (s14 : Int) (w0 : List (Int × Bool)) (w3 : Xh) (w5 : List (Int × Bool)) : Option ((List (Int × Bool))) := Kh (Gd s8 s12 s13 s14 w0 w3) w0 (fun (x : Int × Bool) (s : (List (Int × Bool))) => EM s8 s12 s13 s14 w0 w3 x.1 x.2 s) w5
theorem ZI (s8 : Int) (s12 : List X0) (s13 : Int) (s14 : Int) (w0 : List (Int × Bool)) (w3 : Xh) (w5 : List (Int × Bool)) : Le (Ln s8 s12 s13 s14 w0 w3 w5) (Ro s8 s12 s13 s14 w0 w3 w5) := by
 unfold Ln Ro
 repeat' (first | refine Jq fun _ _ => ?_ | exact Le.refl _)
def Ll (s8 : Int) (s12 : List X0) (s13 : Int) (s14 : Int) (w0 : List (Int × Bool)) (w3 : Xh) (w5 : List (Int × Bool)) : Option ((List (Int × Bool))) :=
 AF (Ln s8 s12 s13 s14 w0 w3 w5) fun o4 =>
 some o4
theorem ZE (s8 : Int) (s12 : List X0) (s13 : Int) (s14 : Int) (w0 : List (Int × Bool)) (w3 : Xh) (w5 : List (Int × Bool)) : Le (Ll s8 s12 s13 s14 w0 w3 w5) (Ok s8 s12 s13 s14 w0 w3 w5) := by
 unfold Ll Ok
 repeat' (first | exact ZI _ _ _ _ _ _ _ | refine Am ?_ fun _ => ?_ | exact Le.refl _)
def Gc (s12 : List X0) (s13 : Int) (w0 : List (Int × Bool)) (w3 : Xh) (s14 : Int) (w5 : List (Int × Bool)) : Option ((Int × (List (Int × Bool))) ⊕ ((List (Int × Bool)))) :=
 AD (decide (s14 < s13)) (
  AV s12 s14 fun x2 =>
  AF (aP8 w3 x2) fun r3 =>
  AF (Ll r3 s12 s13 s14 w0 w3 w5) fun o5 =>
  some (.inl ((AA .add .i64 s14 1), o5))) (
  some (.inr w5))
theorem Ol (s12 : List X0) (s13 : Int) (w0 : List (Int × Bool)) (w3 : Xh) (s14 : Int) (w5 : List (Int × Bool)) : Le (Gc s12 s13 w0 w3 s14 w5) (EL s12 s13 w0 w3 s14 w5) := by
 unfold Gc EL
 repeat' (first | exact aP9 _ _ | exact ZE _ _ _ _ _ _ _ | refine Am ?_ fun _ => ?_ | refine Bb ?_ ?_ | refine DN fun _ => ?_ | exact Le.refl _)
def Lm (s12 : List X0) (s13 : Int) (w0 : List (Int × Bool)) (w3 : Xh) (s14 : Int) (w5 : List (Int × Bool)) : Option ((List (Int × Bool))) := itE (fun s : Int × (List (Int × Bool)) => Gc s12 s13 w0 w3 s.1 s.2) 70 (s14, w5)
theorem ZG (s12 : List X0) (s13 : Int) (w0 : List (Int × Bool)) (w3 : Xh) (s14 : Int) (w5 : List (Int × Bool)) : Le (Lm s12 s13 w0 w3 s14 w5) (Rl s12 s13 w0 w3 s14 w5) := by
 unfold Lm Rl
 repeat' (first | exact Ol _ _ _ _ _ _ | refine B3 (fun _ => ?_) _ _ | exact Le.refl _)
def aPs (a1 : Xh) (w0 : List (Int × Bool)) : Option ((List (Int × Bool))) :=
 AF (aP1 a1 ([] : List X0)) fun r1 =>
 AF (Lm r1 (r1.length : Int) w0 a1 0 ([] : List (Int × Bool))) fun o6 =>
 some o6
theorem aPt (a1 : Xh) (w0 : List (Int × Bool)) : Le (aPs a1 w0) (Xc a1 w0) := by
 unfold aPs Xc
 repeat' (first | exact aP2 _ _ | exact ZG _ _ _ _ _ _ | refine Am ?_ fun _ => ?_ | exact Le.refl _)
def GH (s1 : List X2) (s6 : Int) (s15 : Int) (s16 : Int) (s30 : Int) (w2 : AE) (w5 : List (Int × Bool)) (s31 : Int) (w7 : List (Int × Bool)) : Option ((Int × (List (Int × Bool))) ⊕ ((List (Int × Bool)))) :=
 AD (decide (s31 < s30)) (
  AF (aPs (Xh.mk w2 s1 s6 s31) w7) fun r3 =>
  some (.inl ((AA .add .i64 s31 1), r3))) (
  some (.inr w7))
theorem Oa (s1 : List X2) (s6 : Int) (s15 : Int) (s16 : Int) (s30 : Int) (w2 : AE) (w5 : List (Int × Bool)) (s31 : Int) (w7 : List (Int × Bool)) : Le (GH s1 s6 s15 s16 s30 w2 w5 s31 w7) (EI s1 s6 s15 s16 s30 w2 w5 s31 w7) := by
 unfold GH EI
 repeat' (first | exact aPt _ _ | refine Am ?_ fun _ => ?_ | refine Bb ?_ ?_ | exact Le.refl _)
def Lb (s1 : List X2) (s6 : Int) (s15 : Int) (s16 : Int) (s30 : Int) (w2 : AE) (w5 : List (Int × Bool)) (s31 : Int) (w7 : List (Int × Bool)) : Option ((List (Int × Bool))) := itE (fun s : Int × (List (Int × Bool)) => GH s1 s6 s15 s16 s30 w2 w5 s.1 s.2) 70 (s31, w7)
theorem XN (s1 : List X2) (s6 : Int) (s15 : Int) (s16 : Int) (s30 : Int) (w2 : AE) (w5 : List (Int × Bool)) (s31 : Int) (w7 : List (Int × Bool)) : Le (Lb s1 s6 s15 s16 s30 w2 w5 s31 w7) (P1 s1 s6 s15 s16 s30 w2 w5 s31 w7) := by
 unfold Lb P1
 repeat' (first | exact Oa _ _ _ _ _ _ _ _ _ | refine B3 (fun _ => ?_) _ _ | exact Le.refl _)
def Lc (s1 : List X2) (s15 : Int) (s16 : Int) (w2 : AE) (w7 : List (Int × Bool)) (w5 : List (Int × Bool)) : Option ((List (Int × Bool))) := Kh (GI s1 s15 s16 w2 w7) w7 (fun (x : Int × Bool) (s : (List (Int × Bool))) => FE s1 s15 s16 w2 w7 x.1 x.2 s) w5
theorem XP (s1 : List X2) (s15 : Int) (s16 : Int) (w2 : AE) (w7 : List (Int × Bool)) (w5 : List (Int × Bool)) : Le (Lc s1 s15 s16 w2 w7 w5) (P4 s1 s15 s16 w2 w7 w5) := by
 unfold Lc P4
 repeat' (first | refine Jq fun _ _ => ?_ | exact Le.refl _)
def LY (s1 : List X2) (s15 : Int) (s16 : Int) (w2 : AE) (w5 : List (Int × Bool)) (w7 : List (Int × Bool)) : Option ((List (Int × Bool))) :=
 AF (Lc s1 s15 s16 w2 w7 w5) fun o5 =>
 some o5
theorem XH (s1 : List X2) (s15 : Int) (s16 : Int) (w2 : AE) (w5 : List (Int × Bool)) (w7 : List (Int × Bool)) : Le (LY s1 s15 s16 w2 w5 w7) (OX s1 s15 s16 w2 w5 w7) := by
 unfold LY OX
 repeat' (first | exact XP _ _ _ _ _ _ | refine Am ?_ fun _ => ?_ | exact Le.refl _)
def GG (s1 : List X2) (s15 : Int) (w2 : AE) (s16 : Int) (w5 : List (Int × Bool)) : Option ((Int × (List (Int × Bool))) ⊕ ((List (Int × Bool)))) :=
 AD (decide (s16 < s15)) (
  AF (aQh w2 s16) fun r1 =>
  AV w2.decls s16 fun x2 =>
  AF (Lb s1 s16 s15 s16 (x2.types.length : Int) w2 w5 0 (Eg r1 true ([] : List (Int × Bool)))) fun o4 =>
  AF (LY s1 s15 s16 w2 w5 o4) fun o6 =>
  some (.inl ((AA .add .i64 s16 1), o6))) (
  some (.inr w5))
theorem OZ (s1 : List X2) (s15 : Int) (w2 : AE) (s16 : Int) (w5 : List (Int × Bool)) : Le (GG s1 s15 w2 s16 w5) (EH s1 s15 w2 s16 w5) := by
 unfold GG EH
 repeat' (first | exact aQi _ _ | exact XN _ _ _ _ _ _ _ _ _ | exact XH _ _ _ _ _ _ | refine Am ?_ fun _ => ?_ | refine Bb ?_ ?_ | refine DN fun _ => ?_ | exact Le.refl _)
def La (s1 : List X2) (s15 : Int) (w2 : AE) (s16 : Int) (w5 : List (Int × Bool)) : Option ((List (Int × Bool))) := itE (fun s : Int × (List (Int × Bool)) => GG s1 s15 w2 s.1 s.2) 70 (s16, w5)
theorem XL (s1 : List X2) (s15 : Int) (w2 : AE) (s16 : Int) (w5 : List (Int × Bool)) : Le (La s1 s15 w2 s16 w5) (Py s1 s15 w2 s16 w5) := by
 unfold La Py
 repeat' (first | exact OZ _ _ _ _ _ | refine B3 (fun _ => ?_) _ _ | exact Le.refl _)
def Ld (w5 : List (Int × Bool)) (w10 : List Int) : Option (List Int) := Kh (JC w5) w5 (fun (x : Int × Bool) (s : List Int) => DU w5 x.1 x.2 s) w10
theorem XR (w5 : List (Int × Bool)) (w10 : List Int) : Le (Ld w5 w10) (P7 w5 w10) := by
 unfold Ld P7
 repeat' (first | refine Jq fun _ _ => ?_ | exact Le.refl _)
def LZ (w5 : List (Int × Bool)) : Option ((List Int)) :=
 AF (Ld w5 ([] : List Int)) fun o8 =>
 some o8
theorem XJ (w5 : List (Int × Bool)) : Le (LZ w5) (OY w5) := by
 unfold LZ OY
 repeat' (first | exact XR _ _ | refine Am ?_ fun _ => ?_ | exact Le.refl _)
def aNv (a0 : AE) (a1 : List X2) : Option (List Int) :=
 AF (La a1 (a0.decls.length : Int) a0 0 ([] : List (Int × Bool))) fun o7 =>
 AF (LZ (LO 0 o7)) fun o9 =>
 AF (aKq o9) fun r10 =>
 some r10
theorem aPi (a0 : AE) (a1 : List X2) : Le (aNv a0 a1) (X4 a0 a1) := by
 unfold aNv X4
 repeat' (first | exact XL _ _ _ _ _ | exact XJ _ | exact aGj _ | refine Am ?_ fun _ => ?_ | exact Le.refl _)
def MG (s0 : List Xm) (s7 : Int) (s8 : Int) : Option (Unit ⊕ Int) := itE (fun s : Int => MH s0 s7 s) 70 s8
theorem aDx (s0 : List Xm) (s7 : Int) (s8 : Int) : Le (MG s0 s7 s8) (aDw s0 s7 s8) := by
 unfold MG aDw
 repeat' (first | refine B3 (fun _ => ?_) _ _ | exact Le.refl _)
def aQ6 (a0 : List Xm) : Option (Int) :=
 AF (MG a0 (a0.length : Int) 0) fun o3 =>
 BI o3 (fun o4 =>
  some (-1)) (fun o5 =>
  some o5)
theorem aQ7 (a0 : List Xm) : Le (aQ6 a0) (Yj a0) := by
 unfold aQ6 Yj
 repeat' (first | exact aDx _ _ _ | refine Am ?_ fun _ => ?_ | refine M1 (fun _ => ?_) fun _ => ?_ | exact Le.refl _)
def aSe (a0 : List Xm) : Option (Bool) :=
 AF (aQ6 a0) fun r1 =>
 some (decide (0 ≤ r1))
theorem aSf (a0 : List Xm) : Le (aSe a0) (Zp a0) := by
 unfold aSe Zp
 repeat' (first | exact aQ7 _ | refine Am ?_ fun _ => ?_ | exact Le.refl _)
def aSh (a0 : AE) : Option (Bool) :=
 AD (decide ((a0.frees.length : Int) = 0)) (
  AF (aSe a0.trans) fun r1 =>
  some (!r1)) (
  some false)
theorem aSi (a0 : AE) : Le (aSh a0) (Zq a0) := by
 unfold aSh Zq
 repeat' (first | exact aSf _ | refine Am ?_ fun _ => ?_ | refine Bb ?_ ?_ | exact Le.refl _)
def aSk (a0 : AE) : Option (Bool) :=
 AF (aSh a0) fun r1 =>
 AD (r1) (
  AD (decide ((a0.quants.length : Int) ≤ 1)) (
   AD (decide ((a0.states.length : Int) ≤ 8)) (
    some (decide ((a0.symbols.length : Int) ≤ 8))) (
    some false)) (
   some false)) (
  some false)
theorem aSl (a0 : AE) : Le (aSk a0) (Zr a0) := by
 unfold aSk Zr
 repeat' (first | exact aSi _ | refine Am ?_ fun _ => ?_ | refine Bb ?_ ?_ | exact Le.refl _)
def aTk : Option (Bool) :=
 AF (Zu 3) fun r1 =>
 AF (Zu 3) fun r2 =>
 AF (aNv (AE.mk ([113] : List UInt8) ([X6.mk ([97] : List UInt8) [1]]) ([Y4.mk false ([120] : List UInt8) 1]) ([] : List Ya) ([Yh.mk ([115] : List UInt8) false false]) 0 ([X5.mk 0 ([Av.mk 2 0 (X0.mk 0 0 ([] : List UInt8) false)]), X5.mk 0 [Av.mk 1 0 r1]]) ([] : List Ym) ([] : List Xm)) [X2.mk 0 r2]) fun r3 =>
 AF (Zu 4) fun r4 =>
 AF (aNv (AE.mk ([113] : List UInt8) ([X6.mk ([97] : List UInt8) [1]]) ([Y4.mk false ([120] : List UInt8) 1]) ([] : List Ya) ([Yh.mk ([115] : List UInt8) false false]) 0 ([X5.mk 0 ([Av.mk 2 0 (X0.mk 0 0 ([] : List UInt8) false)]), X5.mk 0 [Av.mk 1 0 r1]]) ([] : List Ym) ([] : List Xm)) [X2.mk 0 r4]) fun r5 =>
 AF (aSk (AE.mk ([113] : List UInt8) ([X6.mk ([97] : List UInt8) [1]]) ([Y4.mk false ([120] : List UInt8) 1]) ([] : List Ya) ([Yh.mk ([115] : List UInt8) false false]) 0 ([X5.mk 0 ([Av.mk 2 0 (X0.mk 0 0 ([] : List UInt8) false)]), X5.mk 0 [Av.mk 1 0 r1]]) ([] : List Ym) ([] : List Xm))) fun r6 =>
 AD (r6) (
  AD (decide ((r3.length : Int) = 1)) (
   AV r3 0 fun x7 =>
   AD (decide (x7 = 3)) (
    AD (decide ((r5.length : Int) = 2)) (
     AV r5 0 fun x8 =>
     AD (decide (x8 = 1)) (
      AV r5 1 fun x9 =>
      some (decide (x9 = 2))) (
      some false)) (
     some false)) (
    some false)) (
   some false)) (
  some false)
theorem aR9  : Le (aTk ) (Zh ) := by
 unfold aTk Zh
 repeat' (first | exact aPi _ _ | exact aSl _ | refine Am ?_ fun _ => ?_ | refine Bb ?_ ?_ | refine DN fun _ => ?_ | exact Le.refl _)
theorem aMh : Zh = some true := aR9 _ (by kernel_rfl)
theorem Iv {q : AE} (hF : DJ q) (hR : A6 q) (hS : DG q) (e : X3) (b : List X2) : aHv q.symbols.length (((List.range q.symbols.length).filterMap fun i => EX q i e).filter fun h => BY h.bind b) := by
 have hsy := hF.symbols
 have hmem : ∀ h ∈ (List.range q.symbols.length).filterMap (fun i => EX q i e), ∃ i, i < q.symbols.length ∧ EX q i e = some h := fun h hh => by
  obtain ⟨i, hi, hh⟩ := List.mem_filterMap.1 hh
  exact ⟨i, List.mem_range.1 hi, hh⟩
 refine ⟨⟨fun h hh => ?_, ?_, ?_⟩, fun h hh => ?_⟩
 ·obtain ⟨i, _, hi⟩ := hmem h (List.mem_filter.1 hh).1
  exact V4 hR hS hi
 ·refine List.Pairwise.filter _ ?_
  rw [List.pairwise_filterMap]
  refine List.Pairwise.imp ?_ (List.pairwise_lt_range (n := q.symbols.length))
  intro i j hij a ha c hc
  have h1 := (Kr ha).1
  have h2 := (Kr hc).1
  omega
 ·have h1 := List.length_filter_le (fun h : AN => BY h.bind b) ((List.range q.symbols.length).filterMap fun i => EX q i e)
  have h2 := List.length_filterMap_le (fun i => EX q i e) (List.range q.symbols.length)
  rw [List.length_range] at h2
  omega
 ·obtain ⟨i, hi, hh⟩ := hmem h (List.mem_filter.1 hh).1
  have := (Kr hh).1
  omega

theorem GD (l : List X0) (v : X0) (hl : l.length ≤ 1000000) : Zi l v = some (decide (v ∈ l)) := by
 have hloop : O0 l (l.length : Int) v 0 = some (if (l.any fun t => decide (v = t)) = true then .inr ((l.findIdx fun t => decide (v = t) : Nat) : Int) else .inl ()) := by
  unfold O0
  refine Fe (step := fun s => FO l (l.length : Int) v s) l (fun t => decide (v = t)) (fun i x hx => ?_) ?_
  ·simp only [FO, ltD hx, AJ, AO hx, X0.eqb_dec, At hx (show l.length ≤ 9223372036854775807 by omega)]
   by_cases h : v = x <;> simp [h, AD]
  ·simp only [FO, ltI, AI]
 have hany : (l.any fun t => decide (v = t)) = decide (v ∈ l) := by
  rw [Bool.eq_iff_iff, List.any_eq_true]
  simp
 unfold Zi Y7
 rw [hloop, AB, hany]
 by_cases h : v ∈ l
 ·simp only [h, decide_true, if_true, Cx, AB]; simp
 ·simp only [h, decide_false, Bool.false_eq_true, if_false, BU, AB]; rfl
theorem D3 {w : List X0} {x v : X0} : v ∈ LQ w x ↔ v = x ∨ v ∈ w := by
 unfold LQ
 by_cases h : x ∈ w
 ·rw [if_pos h]
  exact ⟨.inr, fun hh => hh.elim (fun e => e ▸ h) id⟩
 ·rw [if_neg h]
  simp only [ma, mc, List.mem_filter]
  cases ltV v x <;> simp <;> constructor <;> (intro hh; rcases hh with a | b <;> simp_all)
theorem Pp {x : X0} : Zd x = some (true, [x]) := by
 have hb : Xq ([] : List X0) x ([] : List X0) = some (0, false) := by
  unfold Xq Ox
  rw [Ae]
  simp [ES, Sq, AD, AF, BB]
 unfold Zd VI U3 aM1
 rw [hb]
 simp [AF, AD, fit]
theorem aK7 {w : List X0} (h : w.length ≤ 1000) : Q7 w = some (w, w) := by
 unfold Q7 U4 Ny
 rw [if_pos (BH (by omega) (by decide))]; rfl



theorem Fd {α β τ : Type} {step : β × Int → Option (β × Int ⊕ τ)} (l : List α) (f : β → α → β) (fin : β → τ) (I : Nat → β → Prop)
 (h1 : ∀ (i : Nat) x w, l[i]? = some x → I i w → step (w, (i : Int)) = some (.inl (f w x, ((i + 1 : Nat) : Int))) ∧ I (i + 1) (f w x))
 (h2 : ∀ w, I l.length w → step (w, (l.length : Int)) = some (.inr (fin w))) (w : β) (h0 : I 0 w) : AW step (w, 0) = some (fin (l.foldl f w)) := by
 have h := Di (step := step) l (fun i w => (w, (i : Int))) (fun _ w x => (.inl (f w x) : β ⊕ τ)) fin I (fun i x w hx hI => ⟨(h1 i x w hx hI).1, fun w' hw => by cases hw; exact (h1 i x w hx hI).2⟩) h2 (l.length + 1) 0 w (by omega) (by omega) h0
 rw [show (w, (0 : Int)) = (w, ((0 : Nat) : Int)) from rfl, h, List.drop_zero]
 congr 1
 clear h h1 h2 h0
 generalize 0 = i
 revert i w
 induction l with
 | nil => intro w i; rfl
 | cons x xs ih => intro w i; rw [Ph]; exact ih _ _
def Ig (k : Int) (w : List X0) (a : Av) : List X0 := if a.kind = 1 ∧ a.value.kind = k then LQ w a.value else w
def CE (q : AE) (k : Int) : List X0 := q.symbols.foldl (fun w s => s.args.foldl (Ig k) w) (if k = 3 then [X0.mk 3 0 [] false, X0.mk 3 0 [] true] else [])
theorem Hh {α β : Type} (I : Nat → β → Prop) (f : β → α → β) : ∀ (l : List α) (i : Nat) (w : β), (∀ (j : Nat) x w, x ∈ l → I j w → I (j + 1) (f w x)) → I i w → I (i + l.length) (l.foldl f w)
 | [], i, w, _, h0 => h0
 | x :: l, i, w, h, h0 => by
  rw [List.foldl_cons, List.length_cons, show i + (l.length + 1) = (i + 1) + l.length by omega]
  exact Hh I f l (i + 1) _ (fun j y w hy => h j y w (List.mem_cons_of_mem _ hy)) (h i x w (by simp) h0)
theorem LX (k : Int) : SW (if k = 3 then [X0.mk 3 0 [] false, X0.mk 3 0 [] true] else []) := by
 split
 ·refine ⟨?_, ?_⟩
  ·simp [ltV]
  ·intro v hv
   simp only [mc, List.not_mem_nil, or_false] at hv
   rcases hv with rfl | rfl <;> decide
 ·exact ⟨List.Pairwise.nil, by simp⟩
theorem Jf {k : Int} {w : List X0} {a : Av} {n : Nat} (ha : a.kind = 1 → vR a.value = true) (hw : SW w) (hl : w.length ≤ n) : SW (Ig k w a) ∧ (Ig k w a).length ≤ n + 1 := by
 unfold Ig
 split
 ·rename_i h
  have := KI hw (ha h.1)
  refine ⟨this.1, ?_⟩
  rw [this.2]; split <;> omega
 ·exact ⟨hw, by omega⟩
theorem Jg {q : AE} (hF : DJ q) (hR : A6 q) {s : X5} (hs : s ∈ q.symbols) {k : Int} {w : List X0} {n : Nat} (hw : SW w) (hl : w.length ≤ n) : SW (s.args.foldl (Ig k) w) ∧ (s.args.foldl (Ig k) w).length ≤ n + 12 := by
 have h := Hh (fun i w => SW w ∧ w.length ≤ n + i) (Ig k) s.args 0 w (fun j a w ha hI => Jf ((hR.symbols s hs).args a ha).one hI.1 hI.2) ⟨hw, by omega⟩
 have := hF.args s hs
 exact ⟨h.1, by omega⟩
theorem cons_inv {q : AE} (hF : DJ q) (hR : A6 q) (k : Int) : SW (CE q k) ∧ (CE q k).length ≤ 200 := by
 have h := Hh (fun i w => SW w ∧ w.length ≤ 2 + 12 * i) (fun w s => s.args.foldl (Ig k) w) q.symbols 0 (if k = 3 then [X0.mk 3 0 [] false, X0.mk 3 0 [] true] else [])
  (fun j s w hs hI => by have := Jg hF hR hs (k := k) hI.1 hI.2; exact ⟨this.1, by omega⟩) ⟨LX k, by split <;> simp⟩
 have := hF.symbols
 exact ⟨h.1, by unfold CE; omega⟩
theorem aPj {q : AE} (hF : DJ q) (hR : A6 q) (k : Int) : X7 q k = some (CE q k) := by
 have hsy := hF.symbols
 have hb : Lf k (decide (k = 3)) q = some (if k = 3 then [X0.mk 3 0 [] false, X0.mk 3 0 [] true] else []) := by
  unfold Lf Zo
  rw [CX]
  split
  ·simp only [AB, Pp]
   rw [KG (w := [X0.mk 3 0 [] false]) ⟨by simp, by simp; decide⟩ (by decide) (by simp)]
   rfl
  ·rfl
 have hin : ∀ (s : X5) (i : Int) (w : List X0), s ∈ q.symbols → SW w → w.length ≤ 200 → Oe k q.symbols (q.symbols.length : Int) i s.args (s.args.length : Int) 0 w = some (s.args.foldl (Ig k) w) := by
  intro s i w hs hw hl
  have ha := hF.args s hs
  unfold Oe
  refine Ct (step := fun z : Int × List X0 => EK k q.symbols (q.symbols.length : Int) i s.args (s.args.length : Int) z.1 z.2) s.args (Ig k) id (fun j w => SW w ∧ w.length ≤ 200 + j) (fun j a w hx hI => ?_) (fun w _ => ?_) w ⟨hw, by omega⟩
  ·have hv := ((hR.symbols s hs).args a (List.mem_of_getElem? hx)).one
   have hlt := (List.getElem?_eq_some_iff.1 hx).1
   refine ⟨?_, Jf hv hI.1 hI.2⟩
   simp only [EK, ltD hx, AJ, Oc, AO hx, At hx (show s.args.length ≤ 9223372036854775807 by omega), Li]
   unfold Ig
   by_cases h1 : a.kind = 1 <;> by_cases h2 : a.value.kind = k
   ·rw [CX, if_pos h1, CX, if_pos h2, if_pos ⟨h1, h2⟩, KG hI.1 (hv h1) (by have := hI.2; omega)]; rfl
   ·rw [CX, if_pos h1, CX, if_neg h2, if_neg (fun h => h2 h.2)]; rfl
   ·rw [CX, if_neg h1, if_neg (fun h => h1 h.1)]; rfl
   ·rw [CX, if_neg h1, if_neg (fun h => h1 h.1)]; rfl
  ·simp only [EK, ltI, AI, id]
 unfold X7 Qm QA
 rw [AB, hb, AB, Ct (step := fun z : Int × List X0 => EJ k q.symbols (q.symbols.length : Int) z.1 z.2) q.symbols (fun w s => s.args.foldl (Ig k) w) id (fun j w => SW w ∧ w.length ≤ 2 + 12 * j)
  (fun j s w hx hI => by
   have hs := List.mem_of_getElem? hx
   have hlt := (List.getElem?_eq_some_iff.1 hx).1
   have := Jg hF hR hs (k := k) hI.1 hI.2
   refine ⟨?_, this.1, by omega⟩
   simp only [EJ, ltD hx, AJ, AO hx, At hx (show q.symbols.length ≤ 9223372036854775807 by omega)]
   rw [hin s _ w hs hI.1 (by have := hI.2; omega)]; rfl)
  (fun w _ => by simp only [EJ, ltI, AI, id]) _ ⟨LX k, by split <;> simp⟩, AB]
 have hc := cons_inv hF hR k
 show AF (Q7 (CE q k)) _ = _
 rw [aK7 (by omega)]; rfl
theorem aLt {q : AE} (hF : DJ q) (hR : A6 q) (k : Int) : Xn q k = some (CE q k) := by
 have hsy := hF.symbols
 have hb : SZ k (decide (k = 3)) q = some (if k = 3 then [X0.mk 3 0 [] false, X0.mk 3 0 [] true] else []) := by
  unfold SZ
  rw [CX]
  split <;> rfl
 have hin : ∀ (s : X5) (i : Nat) (w : List X0), q.symbols[i]? = some s → SW w → w.length ≤ 200 → aA0 k (i : Int) q w 0 = some (s.args.foldl (Ig k) w) := by
  intro s i w hxs hw hl
  have hs := List.mem_of_getElem? hxs
  have ha := hF.args s hs
  unfold aA0
  refine Fd (step := fun z : List X0 × Int => Gr k (i : Int) q z.1 z.2) s.args (Ig k) id (fun j w => SW w ∧ w.length ≤ 200 + j) (fun j a w hx hI => ?_) (fun w _ => ?_) w ⟨hw, by omega⟩
  ·have hv := ((hR.symbols s hs).args a (List.mem_of_getElem? hx)).one
   have hlt := (List.getElem?_eq_some_iff.1 hx).1
   refine ⟨?_, Jf hv hI.1 hI.2⟩
   simp only [Gr, AO hxs, ltD hx, AJ, aAx, AO hx, At hx (show s.args.length ≤ 9223372036854775807 by omega), Sa]
   unfold Ig
   by_cases h1 : a.kind = 1 <;> by_cases h2 : a.value.kind = k
   ·rw [CX, if_pos h1, CX, if_pos h2, if_pos ⟨h1, h2⟩, aDg hI.1 (hv h1) (by have := hI.2; omega)]; rfl
   ·rw [CX, if_pos h1, CX, if_neg h2, if_neg (fun h => h2 h.2)]; rfl
   ·rw [CX, if_neg h1, if_neg (fun h => h1 h.1)]; rfl
   ·rw [CX, if_neg h1, if_neg (fun h => h1 h.1)]; rfl
  ·simp only [Gr, AO hxs, ltI, AI, id]
 unfold Xn aIj
 rw [hb, AB, Fd (step := fun z : List X0 × Int => Gq k q z.1 z.2) q.symbols (fun w s => s.args.foldl (Ig k) w) id (fun j w => SW w ∧ w.length ≤ 2 + 12 * j)
  (fun j s w hx hI => by
   have hs := List.mem_of_getElem? hx
   have hlt := (List.getElem?_eq_some_iff.1 hx).1
   have := Jg hF hR hs (k := k) hI.1 hI.2
   refine ⟨?_, this.1, by omega⟩
   simp only [Gq, ltD hx, AJ, At hx (show q.symbols.length ≤ 9223372036854775807 by omega)]
   rw [hin s j w hx hI.1 (by have := hI.2; omega)]; rfl)
  (fun w _ => by simp only [Gq, ltI, AI, id]) _ ⟨LX k, by split <;> simp⟩, AB]
 rfl
def E9 (k : Int) (j : Nat) : X0 := if k = 1 then ⟨k, (j : Int), [], false⟩ else ⟨k, 0, List.replicate j 97, false⟩
theorem aF7 {k : Int} {i j : Nat} (h : E9 k i = E9 k j) : i = j := by
 unfold E9 at h
 split at h
 ·injection h with _ h2; omega
 ·injection h with _ _ h3
  have := congrArg List.length h3
  simpa using this
theorem K4 (k : Int) (j : Nat) : (E9 k j).kind = k := by unfold E9; split <;> rfl
theorem WT {k : Int} {j : Nat} (hk : k = 1 ∨ k = 2) (hj : j ≤ 1000) : vR (E9 k j) = true := by
 unfold E9 vR
 rcases hk with rfl | rfl
 ·simp
 ·simp; omega
theorem aHl {α : Type} [DecidableEq α] (f : Nat → α) (hf : ∀ i j, f i = f j → i = j) : ∀ (n : Nat) (l : List α), (∀ i, i < n → f i ∈ l) → n ≤ l.length
 | 0, _, _ => Nat.zero_le _
 | n + 1, l, h => by
  have hm := h n (by omega)
  have := aHl f hf n (l.erase (f n)) (fun i hi => (List.mem_erase_of_ne (fun e => by have := hf _ _ e; omega)).2 (h i (by omega)))
  rw [List.length_erase_of_mem hm] at this
  have : 0 < l.length := List.length_pos_of_mem hm
  omega
theorem aLa {w : List X0} {v : X0} (hw : SW w) (hv : vR v = true) (hl : w.length ≤ 900) : Qh w v = some (decide (v ∈ w)) := by
 unfold Qh
 rw [aDg hw hv hl, AB, (KI hw hv).2]
 by_cases h : v ∈ w
 ·simp [h]
 ·simp only [h, if_false, decide_false, oe, decide_eq_false_iff_not]; omega
theorem K5 (k : Int) (j : Nat) (hk : k = 1 ∨ k = 2) (hj : j ≤ 1000) (l : List X0) (z : X0) : Oq k l z (E9 k j) = some (E9 k (j + 1)) ∧ Tf k l z (E9 k j) = some (E9 k (j + 1)) := by
 unfold Oq Tf aAp aCm E9
 rcases hk with rfl | rfl
 ·simp only [if_true, decide_true, AJ, AB]
  rw [KT (by omega) (by omega)]
  simp
 ·simp only [show ¬ (2 : Int) = 1 by decide, if_false, decide_false, AI, List.length_replicate]
  rw [BK (by simp; omega)]
  simp [AF, List.replicate_succ']
theorem OH {k : Int} (hk : k = 1 ∨ k = 2) {l w : List X0} (hl : l.length ≤ 1000) (hw : SW w) (hwl : w.length ≤ 900) (hm : ∀ v, v.kind = k → (v ∈ w ↔ v ∈ l)) (z : X0) : ∀ (m j : Nat), j + m ≤ 900 → (∃ i, j ≤ i ∧ i < j + m ∧ E9 k i ∉ l) → ∃ i, j ≤ i ∧ i < j + m ∧ E9 k i ∉ l ∧ KL k l z (E9 k j) = some (E9 k i) ∧ Tg k w z (E9 k j) = some (E9 k i)
 | 0, j, _, ⟨i, h1, h2, _⟩ => by omega
 | m + 1, j, hj, ⟨i, h1, h2, h3⟩ => by
  have e1 : Zi l (E9 k j) = some (decide (E9 k j ∈ l)) := GD _ _ (by omega)
  have e2 : Qh w (E9 k j) = some (decide (E9 k j ∈ l)) := by
   rw [aLa hw (WT hk (by omega)) hwl]
   simp only [hm _ (K4 k j)]
  by_cases h : E9 k j ∈ l
  ·have hne : i ≠ j := fun e => h3 (e ▸ h)
   obtain ⟨i', a1, a2, a3, a4, a5⟩ := OH hk hl hw hwl hm z m (j + 1) (by omega) ⟨i, by omega, by omega, h3⟩
   refine ⟨i', by omega, by omega, a3, ?_, ?_⟩
   ·rw [NQ]
    unfold EQ
    rw [e1, AB]
    simp only [h, decide_true, AJ, (K5 k j hk (by omega) l z).1, AB, Ay]
    exact a4
   ·rw [Ng]
    unfold G4
    rw [e2, AB]
    simp only [h, decide_true, AJ, (K5 k j hk (by omega) w z).2, AB, Ay]
    exact a5
  ·refine ⟨j, by omega, by omega, h, ?_, ?_⟩
   ·rw [NQ]
    unfold EQ
    rw [e1, AB]
    simp only [h, decide_false, AI, Aa]
   ·rw [Ng]
    unfold G4
    rw [e2, AB]
    simp only [h, decide_false, AI, Aa]
def Co (n : Nat) (p : Nat → Bool) : Nat := (List.range n).foldl (fun w i => if p i = true then w ||| 2 ^ i else w) 0
theorem Ij (n : Nat) (p : Nat → Bool) : Co (n + 1) p = if p n = true then Co n p ||| 2 ^ n else Co n p := by
 unfold Co; rw [List.range_succ, List.foldl_append]; rfl
theorem DZ (n : Nat) (p : Nat → Bool) (k : Nat) : (Co n p).testBit k = true ↔ k < n ∧ p k = true := by
 induction n with
 | zero => simp [Co]
 | succ n ih =>
  rw [Ij]
  split
  ·rename_i h
   rw [Nat.testBit_or, Nat.testBit_two_pow, Bool.or_eq_true, decide_eq_true_eq, ih]
   constructor
   ·rintro (⟨a, b⟩ | rfl)
    ·exact ⟨by omega, b⟩
    ·exact ⟨by omega, h⟩
   ·rintro ⟨a, b⟩
    by_cases hk : n = k
    ·exact .inr hk
    ·exact .inl ⟨by omega, b⟩
  ·rename_i h
   rw [ih]
   constructor
   ·rintro ⟨a, b⟩; exact ⟨by omega, b⟩
   ·rintro ⟨a, b⟩
    refine ⟨?_, b⟩
    by_cases hk : n = k
    ·subst hk; exact absurd b h
    ·omega
theorem F8 (n : Nat) (p : Nat → Bool) : Co n p < 2 ^ n := Nat.lt_pow_two_of_testBit _ fun i hi => by
 cases h : (Co n p).testBit i with
 | false => rfl
 | true => have := (DZ n p i).1 h; omega
theorem Jm {a b : Nat} (h : ∀ k, a.testBit k = true ↔ b.testBit k = true) : a = b := Nat.eq_of_testBit_eq fun i => by rw [Bool.eq_iff_iff]; exact h i
theorem K0 {step : Int × Int → Option (Int × Int ⊕ Int)} {n : Nat} (hn : n ≤ 12) (p : Nat → Bool)
 (h1 : ∀ i w : Nat, i < n → w < 4096 → step ((w : Int), (i : Int)) = some (.inl (((if p i = true then w ||| 2 ^ i else w : Nat) : Int), ((i + 1 : Nat) : Int))))
 (h2 : ∀ w : Nat, step ((w : Int), (n : Int)) = some (.inr (w : Int))) : AW step (0, 0) = some ((Co n p : Nat) : Int) := by
 refine aF3 (fun s => ∃ i : Nat, i ≤ n ∧ s = (((Co i p : Nat) : Int), (i : Int))) (fun s => (n - s.2).toNat) (fun _ => ((Co n p : Nat) : Int)) ?_ (0, 0) ⟨0, by omega, rfl⟩
 rintro s ⟨i, hi, rfl⟩
 by_cases he : i = n
 ·subst he; exact .inl (h2 _)
 ·have hlt : Co i p < 4096 := Nat.lt_of_lt_of_le (F8 i p) (show 2 ^ i ≤ 2 ^ 12 from Nat.pow_le_pow_right (by decide) (by omega))
  refine .inr ⟨_, h1 i (Co i p) (by omega) hlt, ⟨i + 1, by omega, by rw [Ij]⟩, ?_, rfl⟩
  simp only; omega
def KC (b : List X2) (a : Av) (x : X0) : Bool := if a.kind = 1 then decide (a.value = x) else if a.kind = 2 then decide (B0 b a.n = (x, true)) else true
theorem LK {w b : List X2} (h : BY w b = true) {s : X2} (hs : s ∈ w) : B0 b s.var = (s.value, true) := by
 unfold BY at h
 have := (List.all_eq_true.1 h) s hs
 simpa using this
theorem Wy {w b : List X2} {x : X2} : BY (LP w x) b = true ↔ B0 b x.var = (x.value, true) ∧ BY w b = true := by
 unfold BY
 simp only [List.all_eq_true, decide_eq_true_eq, C4]
 constructor
 ·intro h; exact ⟨h x (.inl rfl), fun s hs => h s (.inr hs)⟩
 ·rintro ⟨h1, h2⟩ s (rfl | hs)
  ·exact h1
  ·exact h2 s hs
theorem N4 (b : List X2) : ∀ (al : List Av) (xs : List X0) (bd f : List X2), al.length = xs.length → (∀ a ∈ al, a.kind ≠ 3) →
 ((∃ p, Eo al xs bd f = some p ∧ BY p.1 b = true) ↔ BY bd b = true ∧ ∀ z ∈ al.zip xs, KC b z.1 z.2 = true)
 | [], [], bd, f, _, _ => by simp [Eo]
 | [], x :: xs, bd, f, h, _ => by simp at h
 | a :: al, [], bd, f, h, _ => by simp at h
 | a :: al, x :: xs, bd, f, hl, hk => by
  have hl' : al.length = xs.length := by simpa using hl
  have hk' : ∀ a ∈ al, a.kind ≠ 3 := fun y hy => hk y (List.mem_cons_of_mem _ hy)
  have h3 := hk a (by simp)
  have ih := fun bd f => N4 b al xs bd f hl' hk'
  rw [Eo, List.zip_cons_cons]
  simp only [List.forall_mem_cons]
  unfold KC
  by_cases k1 : a.kind = 1
  ·rw [if_pos k1, if_pos k1]
   by_cases hv : a.value = x
   ·rw [if_pos hv, ih]; simp [hv, KC]
   ·rw [if_neg hv]; simp [hv]
  ·rw [if_neg k1, if_neg k1]
   by_cases k2 : a.kind = 2
   ·rw [if_pos k2, if_pos k2]
    unfold IQ
    by_cases hg : (B0 bd a.n).2 = true
    ·simp only [hg, if_true]
     have hge : B0 bd a.n = ((B0 bd a.n).1, true) := by rw [← hg]
     by_cases hv : (B0 bd a.n).1 = x
     ·simp only [hv, if_true]
      rw [ih]
      constructor
      ·rintro ⟨u, z⟩
       have := LK u (Ci hge)
       simp only [hv] at this
       exact ⟨u, by simp [this], z⟩
      ·rintro ⟨u, _, z⟩; exact ⟨u, z⟩
     ·simp only [hv, if_false]
      constructor
      ·rintro ⟨p, hp, _⟩; cases hp
      ·rintro ⟨u, z, _⟩
       have := LK u (Ci hge)
       simp only [decide_eq_true_eq] at z
       rw [z] at this
       exact absurd (by simpa using this.symm) hv
    ·simp only [hg, if_false, Bool.false_eq_true]
     rw [ih, Wy]
     simp only [decide_eq_true_eq]
     constructor
     ·rintro ⟨⟨h1, h2⟩, z⟩; exact ⟨h2, h1, z⟩
     ·rintro ⟨h2, h1, z⟩; exact ⟨⟨h1, h2⟩, z⟩
   ·rw [if_neg k2, if_neg h3, if_neg k2, ih]
    simp [KC]
def Kk (q : AE) (b : List X2) (d : Nat) (args : List X0) (i : Nat) : Bool := match q.symbols[i]? with
 | some s => decide (s.event = (d : Int)) && (s.args.zip args).all fun z => KC b z.1 z.2
 | none => false
def mkM (q : AE) (b : List X2) (d : Nat) (args : List X0) : Nat := Co q.symbols.length (Kk q b d args)
theorem PZ {q : AE} (hR : A6 q) (hS : DG q) {s : X5} (hs : s ∈ q.symbols) : ∀ a ∈ s.args, a.kind ≠ 3 := fun a ha h => by
 have := ((hR.symbols s hs).args a ha).three h
 rw [hS.frees] at this
 simp at this; omega
theorem Vw {q : AE} (hR : A6 q) {i j : Nat} {d d' : X6} (h1 : q.decls[i]? = some d) (h2 : q.decls[j]? = some d') (hn : d.name = d'.name) : i = j := by
 have a1 := hR.decls i d h1
 have a2 := hR.decls j d' h2
 rw [hn, a2] at a1
 exact (Option.some.inj a1).symm
theorem V5 {q : AE} (hR : A6 q) (hS : DG q) (b : List X2) {e : X3} {d i : Nat} {dd : X6} (hd : q.decls[d]? = some dd) (hn : e.name = dd.name) (hl : e.args.length = dd.types.length) :
 (∃ h, EX q i e = some h ∧ BY h.bind b = true) ↔ Kk q b d e.args i = true := by
 unfold EX Kk
 cases hs : q.symbols[i]? with
 | none => simp
 | some s =>
  have hsm := List.mem_of_getElem? hs
  obtain ⟨d', hd', hlen⟩ := (hR.symbols s hsm).decl
  have h0 := (hR.symbols s hsm).event
  simp only [hd', ba, decide_eq_true_eq]
  by_cases he : s.event = (d : Int)
  ·have : s.event.toNat = d := by omega
   rw [this, hd] at hd'
   cases hd'
   rw [if_pos ⟨hn.symm, by omega⟩]
   have := N4 b s.args e.args [] [] (by omega) (PZ hR hS hsm)
   rw [List.all_eq_true]
   constructor
   ·rintro ⟨h, hh, hu⟩
    obtain ⟨p, hp, rfl⟩ := om.1 hh
    exact ⟨he, (this.1 ⟨p, hp, hu⟩).2⟩
   ·rintro ⟨_, hz⟩
    obtain ⟨p, hp, hu⟩ := this.2 ⟨by simp [BY], hz⟩
    exact ⟨_, by rw [hp]; rfl, hu⟩
  ·constructor
   ·rintro ⟨h, hh, _⟩
    split at hh
    ·rename_i hc
     have := Vw hR hd' hd (by rw [hc.1, hn])
     omega
    ·cases hh
   ·rintro ⟨h, _⟩; exact absurd h he
theorem aKj {q : AE} (hF : DJ q) (hR : A6 q) (hS : DG q) (b : List X2) {e : X3} {d : Nat} {dd : X6} (hd : q.decls[d]? = some dd) (hn : e.name = dd.name) (hl : e.args.length = dd.types.length) :
 Yk (((List.range q.symbols.length).filterMap fun i => EX q i e).filter fun h => BY h.bind b) = some ((mkM q b d e.args : Nat) : Int) := by
 obtain ⟨M, hM, _, hb⟩ := Po hF.symbols (Iv hF hR hS e b)
 rw [hM]
 congr 2
 apply Jm
 intro k
 rw [hb]
 unfold mkM
 rw [DZ]
 simp only [List.mem_filter, List.mem_filterMap, List.mem_range]
 constructor
 ·rintro ⟨h, ⟨⟨i, hi, hh⟩, hu⟩, hk⟩
  have hik : i = k := by have := (Kr hh).1; omega
  subst hik
  exact ⟨hi, (V5 hR hS b hd hn hl).1 ⟨h, hh, hu⟩⟩
 ·rintro ⟨hk, hf⟩
  obtain ⟨h, hh, hu⟩ := (V5 hR hS b hd hn hl).2 hf
  exact ⟨h, ⟨⟨k, hk, hh⟩, hu⟩, (Kr hh).1⟩
theorem aNc {q : AE} (hF : DJ q) (d : Nat) : Xt q (d : Int) = some ((mkM q [] d [] : Nat) : Int) := by
 have hsy := hF.symbols
 have h := K0 (step := fun s : Int × Int => FN (d : Int) q.symbols (q.symbols.length : Int) s.1 s.2) hsy (Kk q [] d []) (fun i w hi hw => by
  obtain ⟨x, hx, _⟩ := AY hi
  have hwi : IntKind.wrap .u64 (i : Int) = (i : Int) := BO (by omega)
  simp only [FN, ltD hx, AJ, aBm, AO hx, aBo, hwi, BK (show (0 : Int) ≤ (i : Int) by omega), At hx (show q.symbols.length ≤ 9223372036854775807 by omega)]
  unfold Kk
  rw [hx]
  by_cases he : x.event = (d : Int)
  ·simp only [he, decide_true, AJ, AB, List.zip_nil_right, List.all_nil, Bool.and_self, if_true]
   rw [aGi (by omega), orU (by omega) (Nat.lt_of_lt_of_le (Nat.pow_lt_pow_right (by decide) (show i < 12 by omega)) (by decide))]
  ·simp only [he, decide_false, AI, AB, Bool.false_and, Bool.false_eq_true, if_false]) (fun w => by
  simp only [FN, ltI, AI])
 unfold Xt S4
 rw [h, AB]; rfl
theorem aK9 (b : List X2) (v : Int) (hb : b.length ≤ 1000) : Y0 b v = some (B0 b v) := by
 have hl := Dh (step := fun s => DX v b (b.length : Int) zV s) b (fun _ t => if t.var = v then some (Sum.inr t.value : Unit ⊕ X0) else none) (.inl ())
  (fun i x hx => by
   simp only [DX, ltD hx, AJ, AO hx, At hx (show b.length ≤ 9223372036854775807 by omega)]
   by_cases h : x.var = v <;> simp [h, AD]) (by simp only [DX, ltI, AI])
 unfold Y0 Oz
 have hz : (X0.mk 0 0 ([] : List UInt8) false) = zV := rfl
 rw [hz, hl, AB, CG (fun t : X2 => if t.var = v then some (Sum.inr t.value : Unit ⊕ X0) else none)]
 unfold B0
 have : (b.findSome? fun t => if t.var = v then some (Sum.inr t.value : Unit ⊕ X0) else none) = (b.findSome? fun s => if s.var = v then some s.value else none).map Sum.inr := by
  clear hl hb
  induction b with
  | nil => rfl
  | cons x b ih =>
   rw [List.findSome?_cons, List.findSome?_cons]
   by_cases h : x.var = v
   ·simp [h]
   ·simp only [h, if_false]; exact ih
 rw [this]
 cases (b.findSome? fun s => if s.var = v then some s.value else none) <;> rfl
theorem aKd (p : Xh) (a : Av) (x : X0) (hb : p.b.length ≤ 1000) : Zl p a x = some (KC p.b a x) := by
 unfold Zl KC
 rw [aK9 _ _ hb]
 by_cases k1 : a.kind = 1
 ·simp [k1, AD, X0.eqb_dec]
 ·by_cases k2 : a.kind = 2
  ·simp only [k2, decide_true, AJ, if_true, show ¬ (2 : Int) = 1 by decide, decide_false, AI, if_false, AB]
   cases hg : B0 p.b a.n with
   | mk v f => cases f with
    | true => simp [AD, X0.eqb_dec]
    | false => simp [AD]
  ·simp [k1, k2, AD]
def F4 (q : AE) (b : List X2) (d k : Nat) (v : X0) (i : Nat) : Bool := match q.symbols[i]? with
 | some s => decide (s.event = (d : Int)) && (match s.args[k]? with
  | some a => KC b a v
  | none => false)
 | none => false
theorem aKu {q : AE} (hF : DJ q) (hR : A6 q) {b : List X2} (hb : b.length ≤ 1000) {d k : Nat} {dd : X6} (hd : q.decls[d]? = some dd) (hk : k < dd.types.length) (v : X0) :
 Xl (Xh.mk q b (d : Int) (k : Int)) v = some ((Co q.symbols.length (F4 q b d k v) : Nat) : Int) := by
 have hsy := hF.symbols
 have h := K0 (step := fun s : Int × Int => ER q.symbols (q.symbols.length : Int) (Xh.mk q b (d : Int) (k : Int)) v s.1 s.2) hsy (F4 q b d k v) (fun i w hi hw => by
  obtain ⟨x, hx, _⟩ := AY hi
  have hwi : IntKind.wrap .u64 (i : Int) = (i : Int) := BO (by omega)
  have hxm := List.mem_of_getElem? hx
  simp only [ER, ltD hx, AJ, Ou, AO hx, L7, hwi, BK (show (0 : Int) ≤ (i : Int) by omega), At hx (show q.symbols.length ≤ 9223372036854775807 by omega)]
  unfold F4
  rw [hx]
  by_cases he : x.event = (d : Int)
  ·obtain ⟨d', hd', hlen⟩ := (hR.symbols x hxm).decl
   have : x.event.toNat = d := by omega
   rw [this, hd] at hd'; cases hd'
   obtain ⟨a, ha, _⟩ := AY (l := x.args) (i := k) (by omega)
   simp only [he, decide_true, AJ, AO ha, ha, Bool.true_and]
   rw [aKd (Xh.mk q b (d : Int) (k : Int)) a v hb, AB]
   cases KC b a v with
   | true =>
    simp only [AJ, if_true, AB]
    rw [aGi (by omega), orU (by omega) (Nat.lt_of_lt_of_le (Nat.pow_lt_pow_right (by decide) (show i < 12 by omega)) (by decide))]
   | false => simp only [AI, Bool.false_eq_true, if_false, AB]
  ·simp only [he, decide_false, AI, AB, Bool.false_and, Bool.false_eq_true, if_false]) (fun w => by
  simp only [ER, ltI, AI])
 unfold Xl SU
 simp only
 rw [h, AB]
theorem W2 {α β : Type} : ∀ {al : List α} {xs : List β} {a : α} (v : β), al[xs.length]? = some a → al.zip (xs ++ [v]) = al.zip xs ++ [(a, v)]
 | a :: al, [], _, v, h => by simp at h; subst h; simp
 | [], xs, _, v, h => by simp at h
 | a :: al, x :: xs, a', v, h => by
  simp only [List.length_cons, List.getElem?_cons_succ] at h
  simp [W2 v h]
theorem WP {q : AE} (hR : A6 q) {b : List X2} {d : Nat} {dd : X6} (hd : q.decls[d]? = some dd) {args : List X0} (hk : args.length < dd.types.length) (v : X0) :
 mkM q b d args &&& Co q.symbols.length (F4 q b d args.length v) = mkM q b d (args ++ [v]) := by
 apply Jm
 intro k
 unfold mkM
 rw [Nat.testBit_and, ba, DZ, DZ, DZ]
 unfold Kk F4
 cases hs : q.symbols[k]? with
 | none => simp
 | some s =>
  have hxm := List.mem_of_getElem? hs
  simp only [ba, decide_eq_true_eq]
  by_cases he : s.event = (d : Int)
  ·obtain ⟨d', hd', hlen⟩ := (hR.symbols s hxm).decl
   have : s.event.toNat = d := by omega
   rw [this, hd] at hd'; cases hd'
   obtain ⟨a, ha, _⟩ := AY (l := s.args) (i := args.length) (by omega)
   rw [W2 v ha, List.all_append, ha]
   simp [he]
   constructor
   ·rintro ⟨⟨h1, h2⟩, _, h3⟩; exact ⟨h1, h2, h3⟩
   ·rintro ⟨h1, h2, h3⟩; exact ⟨⟨h1, h2⟩, h1, h3⟩
  ·simp [he]
theorem aHi (q : AE) (b : List X2) (d : Nat) : mkM q b d [] = mkM q [] d [] := by
 unfold mkM
 congr 1
 funext i
 unfold Kk
 cases q.symbols[i]? <;> simp
theorem aLc {k : Int} (hk : k = 1 ∨ k = 2) {l w : List X0} (hl : l.length ≤ 800) (hw : SW w) (hwl : w.length ≤ 900) (hm : ∀ v, v.kind = k → (v ∈ w ↔ v ∈ l)) : ∃ v, Xk k l = some (v, true) ∧ Y2 k w = some v ∧ v ∉ l ∧ v.kind = k ∧ vR v = true := by
 have hex : ∃ i, 0 ≤ i ∧ i < 0 + (l.length + 1) ∧ E9 k i ∉ l := by
  apply Classical.byContradiction
  intro hn
  have := aHl (E9 k) (fun i j h => aF7 h) (l.length + 1) l (fun i hi => Classical.byContradiction fun h => hn ⟨i, by omega, by omega, h⟩)
  omega
 obtain ⟨i, _, hi, hni, a4, a5⟩ := OH hk (by omega) hw hwl hm (X0.mk 0 0 [] false) (l.length + 1) 0 (by omega) hex
 have h0 : E9 k 0 = X0.mk k 0 [] false := by unfold E9; split <;> rfl
 rw [h0] at a4 a5
 refine ⟨E9 k i, ?_, ?_, hni, K4 k i, WT hk (by omega)⟩
 ·unfold Xk
  rcases hk with rfl | rfl
  ·simp only [decide_true, Bool.not_true, AI, a4, AB]
  ·simp only [show ¬ (2 : Int) = 1 by decide, decide_false, decide_true, Bool.not_false, Bool.not_true, AJ, AI, a4, AB]
 ·unfold Y2
  rw [a5, AB]
theorem Hb {q : AE} {k : Int} {v : X0} : v ∈ CE q k ↔ (k = 3 ∧ (v = ⟨3, 0, [], false⟩ ∨ v = ⟨3, 0, [], true⟩)) ∨ ∃ s ∈ q.symbols, ∃ a ∈ s.args, a.kind = 1 ∧ a.value.kind = k ∧ v = a.value := by
 have h1 : ∀ (l : List Av) (w : List X0), v ∈ l.foldl (Ig k) w ↔ v ∈ w ∨ ∃ a ∈ l, a.kind = 1 ∧ a.value.kind = k ∧ v = a.value := by
  intro l
  induction l with
  | nil => intro w; simp
  | cons a l ih =>
   intro w
   rw [List.foldl_cons, ih]
   have : v ∈ Ig k w a ↔ v ∈ w ∨ (a.kind = 1 ∧ a.value.kind = k ∧ v = a.value) := by
    unfold Ig
    split
    ·rename_i h; rw [D3]; simp [h.1, h.2, or_comm]
    ·rename_i h
     constructor
     ·exact .inl
     ·rintro (h2 | ⟨a1, a2, _⟩)
      ·exact h2
      ·exact absurd ⟨a1, a2⟩ h
   rw [this]
   constructor
   ·rintro ((h | h) | ⟨b, hb, h⟩)
    ·exact .inl h
    ·exact .inr ⟨a, by simp, h⟩
    ·exact .inr ⟨b, List.mem_cons_of_mem _ hb, h⟩
   ·rintro (h | ⟨b, hb, h⟩)
    ·exact .inl (.inl h)
    ·rcases mc.1 hb with rfl | hb
     ·exact .inl (.inr h)
     ·exact .inr ⟨b, hb, h⟩
 have h2 : ∀ (l : List X5) (w : List X0), v ∈ l.foldl (fun w s => s.args.foldl (Ig k) w) w ↔ v ∈ w ∨ ∃ s ∈ l, ∃ a ∈ s.args, a.kind = 1 ∧ a.value.kind = k ∧ v = a.value := by
  intro l
  induction l with
  | nil => intro w; simp
  | cons a l ih =>
   intro w
   rw [List.foldl_cons, ih, h1]
   constructor
   ·rintro ((h | h) | ⟨b, hb, h⟩)
    ·exact .inl h
    ·exact .inr ⟨a, by simp, h⟩
    ·exact .inr ⟨b, List.mem_cons_of_mem _ hb, h⟩
   ·rintro (h | ⟨b, hb, h⟩)
    ·exact .inl (.inl h)
    ·rcases mc.1 hb with rfl | hb
     ·exact .inl (.inr h)
     ·exact .inr ⟨b, hb, h⟩
 unfold CE
 rw [h2]
 by_cases hk : k = 3
 ·simp [hk]
 ·simp [hk]
theorem PJ {q : AE} {k : Int} {v : X0} (h : v ∈ CE q k) : v.kind = k := by
 rcases Hb.1 h with ⟨rfl, rfl | rfl⟩ | ⟨s, _, a, _, _, hk, rfl⟩
 ·rfl
 ·rfl
 ·exact hk
theorem Pk {l : List X0} (hl : l.length ≤ 1000) : Xe [l, []] = some l := by
 have h1 : Lr [l, []] [l, []] 2 0 0 = some (l.length : Int) := by
  rw [JH]
  unfold EN Ry Rz
  rw [show decide ((0 : Int) < 2) = true from rfl, AJ, V6, KT (a := 0) (b := (l.length : Int)) (by omega) (by omega), decide_eq_false (by omega), AI, AB, AB, Ay]
  simp only
  rw [JH]
  unfold EN Ry Rz
  have e1 : AA .add .i64 0 1 = 1 := KT (a := 0) (b := 1) (by omega) (by omega)
  have e2 : AA .add .i64 1 1 = 2 := KT (a := 1) (b := 1) (by omega) (by omega)
  rw [e1, show decide ((1 : Int) < 2) = true from rfl, AJ, aHe]
  have e3 : AA .add .i64 (0 + (l.length : Int)) (([] : List X0).length : Int) = (l.length : Int) := by
   rw [KT (by simp <;> omega) (by simp <;> omega)]; simp
  rw [e3, decide_eq_false (by omega), AI, AB, AB, Ay, e2]
  simp only
  rw [JH]
  unfold EN
  rw [show decide ((2 : Int) < 2) = false from rfl, AI, Aa]
 have h2 : Lt [l, []] 2 0 [] = some l := by
  have e1 : AA .add .i64 0 1 = 1 := KT (a := 0) (b := 1) (by omega) (by omega)
  have e2 : AA .add .i64 1 1 = 2 := KT (a := 1) (b := 1) (by omega) (by omega)
  rw [JI]
  unfold EO
  rw [show decide ((0 : Int) < 2) = true from rfl, AJ, V6, BK (BH (by simp; omega) (by decide)), Ay, e1]
  simp only [List.nil_append]
  rw [JI]
  unfold EO
  rw [show decide ((1 : Int) < 2) = true from rfl, AJ, aHe, BK (BH (by simp; omega) (by decide)), Ay, e2]
  simp only [List.append_nil]
  rw [JI]
  unfold EO
  rw [show decide ((2 : Int) < 2) = false from rfl, AI, Aa]
 unfold Xe
 have hln : (([l, []] : List (List X0)).length : Int) = 2 := rfl
 rw [hln, h1, AB]
 have hg : Qn (l.length : Int) = some [] := by
  unfold Qn aFr
  rw [if_pos ⟨by omega, by simp; omega, by omega⟩]
 rw [hg, AB, h2, AB]
def KB (t : Int) (w : List X0) (s : X2) : List X0 := if s.value.kind = t ∧ s.value ∉ w then w ++ [s.value] else w
def IL (t : Int) (w : List X0) (s : X2) : List X0 := if s.value.kind = t then LQ w s.value else w
theorem Ns (t : Int) (v : X0) : ∀ (b : List X2) (w : List X0), v ∈ b.foldl (KB t) w ↔ v ∈ w ∨ ∃ s ∈ b, s.value = v ∧ v.kind = t
 | [], w => by simp
 | s :: b, w => by
  rw [List.foldl_cons, Ns t v b]
  have : v ∈ KB t w s ↔ v ∈ w ∨ (s.value = v ∧ v.kind = t) := by
   unfold KB
   split
   ·rename_i h
    simp only [ma, List.mem_singleton]
    constructor
    ·rintro (h2 | rfl)
     ·exact .inl h2
     ·exact .inr ⟨rfl, h.1⟩
    ·rintro (h2 | ⟨rfl, _⟩)
     ·exact .inl h2
     ·exact .inr rfl
   ·rename_i h
    constructor
    ·exact .inl
    ·rintro (h2 | ⟨rfl, h3⟩)
     ·exact h2
     ·exact Classical.byContradiction fun hn => h ⟨h3, hn⟩
  rw [this]
  simp only [mc, exists_eq_or_imp]
  rw [or_assoc]
theorem Du (t : Int) (v : X0) : ∀ (b : List X2) (w : List X0), v ∈ b.foldl (IL t) w ↔ v ∈ w ∨ ∃ s ∈ b, s.value = v ∧ v.kind = t
 | [], w => by simp
 | s :: b, w => by
  rw [List.foldl_cons, Du t v b]
  have : v ∈ IL t w s ↔ v ∈ w ∨ (s.value = v ∧ v.kind = t) := by
   unfold IL
   split
   ·rename_i h
    rw [D3]
    constructor
    ·rintro (rfl | h2)
     ·exact .inr ⟨rfl, h⟩
     ·exact .inl h2
    ·rintro (h2 | ⟨rfl, _⟩)
     ·exact .inr h2
     ·exact .inl rfl
   ·rename_i h
    constructor
    ·exact .inl
    ·rintro (h2 | ⟨rfl, h3⟩)
     ·exact h2
     ·exact absurd h3 h
  rw [this]
  simp only [mc, exists_eq_or_imp]
  rw [or_assoc]
theorem Vn (t : Int) (w : List X0) (s : X2) : (KB t w s).length ≤ w.length + 1 := by unfold KB; split <;> simp
theorem Nr (t : Int) : ∀ (b : List X2) (w : List X0), (b.foldl (KB t) w).length ≤ w.length + b.length
 | [], w => by simp
 | s :: b, w => by
  rw [List.foldl_cons]
  have h1 := Nr t b (KB t w s)
  have h2 : (KB t w s).length ≤ w.length + 1 := by unfold KB; split <;> simp
  simp only [List.length_cons]; omega
theorem Nt {t : Int} : ∀ {b : List X2} {w : List X0}, (∀ s ∈ b, vR s.value = true) → SW w → SW (b.foldl (IL t) w) ∧ (b.foldl (IL t) w).length ≤ w.length + b.length
 | [], w, _, hw => ⟨hw, by simp⟩
 | s :: b, w, hb, hw => by
  rw [List.foldl_cons]
  have h2 : SW (IL t w s) ∧ (IL t w s).length ≤ w.length + 1 := by
   unfold IL
   split
   ·have := KI hw (hb s (by simp))
    exact ⟨this.1, by rw [this.2]; split <;> omega⟩
   ·exact ⟨hw, by omega⟩
  have h1 := Nt (t := t) (fun s hs => hb s (List.mem_cons_of_mem _ hs)) h2.1
  refine ⟨h1.1, ?_⟩
  simp only [List.length_cons]; omega
theorem vR3 {v : X0} (hv : vR v = true) (hk : v.kind = 3) : v = ⟨3, 0, [], false⟩ ∨ v = ⟨3, 0, [], true⟩ := by
 obtain ⟨k, i, s, b⟩ := v
 simp only at hk
 subst hk
 rcases GB hv with h | h | h
 ·simp at h
 ·simp at h
 ·obtain ⟨_, h2, h3⟩ := h
  simp only at h2 h3
  subst h2; subst h3
  cases b <;> simp
structure aPg (q : AE) (b : List X2) (t : Int) (jl rl : List X0) : Prop where
 same : ∀ v, v ∈ jl ↔ v ∈ rl
 jlen : jl.length ≤ 300
 rlen : rl.length ≤ 300
 kind : ∀ v ∈ rl, v.kind = t ∧ vR v = true
 whole : ∀ v, vR v = true → v.kind = t → ∃ v' ∈ rl, ∀ s ∈ q.symbols, ∀ a ∈ s.args, KC b a v' = KC b a v
theorem M3 {q : AE} (hF : DJ q) (hR : A6 q) {b : List X2} (hB : BR b) {d k : Nat} {dd : X6} {t : Int} (hd : q.decls[d]? = some dd) (ht : dd.types[k]? = some t) (h13 : 1 ≤ t ∧ t ≤ 3) :
 ∃ jl rl, Xg (Xh.mk q b (d : Int) (k : Int)) [] = some jl ∧ Y8 q t b [] = some rl ∧ aPg q b t jl rl := by
 have hbl := M6 hB
 have hbv : ∀ s ∈ b, vR s.value = true := fun s hs => (hB.2 s hs).2.2
 obtain ⟨hcw, hcl⟩ := cons_inv hF hR t
 have hjl := Nr t b (CE q t)
 have hG := Nt (t := t) hbv hcw
 have hmem : ∀ v, v ∈ b.foldl (IL t) (CE q t) ↔ v ∈ b.foldl (KB t) (CE q t) := fun v => by rw [Du, Ns]
 have hkind : ∀ v ∈ b.foldl (IL t) (CE q t), v.kind = t := fun v hv => by
  rcases (Du t v b _).1 hv with h | ⟨s, _, _, h⟩
  ·exact PJ h
  ·exact h
 -- the program's loop over the binding
 have e1 : On [] t b (b.length : Int) 0 (CE q t) = some (b.foldl (KB t) (CE q t)) := by
  unfold On
  refine Ct (step := fun s : Int × List X0 => EP [] t b (b.length : Int) s.1 s.2) b (KB t) (fun w => w) (fun i w => w.length ≤ 200 + i) (fun i x w hx hI => ?_) (fun w _ => by simp only [EP, ltI, AI]) _ (by omega)
  have hlt := (List.getElem?_eq_some_iff.1 hx).1
  refine ⟨?_, by have := Vn t w x; omega⟩
  simp only [EP, ltD hx, AJ, Om, L3, AO hx, At hx (show b.length ≤ 9223372036854775807 by omega)]
  unfold KB
  by_cases h1 : x.value.kind = t
  ·rw [CX, if_pos h1, GD _ _ (by omega), AB]
   by_cases h2 : x.value ∈ w
   ·rw [decide_eq_true h2, if_neg (fun h => h.2 h2)]; rfl
   ·rw [decide_eq_false h2, if_pos ⟨h1, h2⟩, Bool.not_false, AJ, BK (BH (by simp; omega) (by decide))]; rfl
  ·rw [CX, if_neg h1, if_neg (fun h => h1 h.1)]; rfl
 have e2 : aC6 t b [] (CE q t) 0 = some (b.foldl (IL t) (CE q t)) := by
  unfold aC6
  refine Fd (step := fun s : List X0 × Int => G7 t b [] s.1 s.2) b (IL t) (fun w => w) (fun i w => SW w ∧ w.length ≤ 200 + i) (fun i x w hx hI => ?_) (fun w _ => by simp only [G7, ltI, AI]) _ ⟨hcw, by omega⟩
  have hlt := (List.getElem?_eq_some_iff.1 hx).1
  have hxv := hbv x (List.mem_of_getElem? hx)
  have hput := KI hI.1 hxv
  refine ⟨?_, ?_⟩
  ·simp only [G7, ltD hx, AJ, aC2, aC4, AO hx, At hx (show b.length ≤ 9223372036854775807 by omega)]
   unfold IL
   by_cases h1 : x.value.kind = t
   ·rw [CX, if_pos h1, if_pos h1, aDg hI.1 hxv (by have := hI.2; omega)]; rfl
   ·rw [CX, if_neg h1, if_neg h1]; rfl
  ·unfold IL
   split
   ·refine ⟨hput.1, ?_⟩
    rw [hput.2]; have := hI.2; split <;> omega
   ·exact ⟨hI.1, by have := hI.2; omega⟩
 have eJ : Xg (Xh.mk q b (d : Int) (k : Int)) [] = (AF (Xk t (b.foldl (KB t) (CE q t))) fun r11 => AF (L4 r11.2 (b.foldl (KB t) (CE q t)) r11.1) fun o12 => some o12) := by
  unfold Xg
  simp only
  rw [AO hd, AO ht, aPj hF hR, AB, e1, AB, Pk (by omega), AB]
 by_cases h3 : t = 3
 ·subst h3
  have hN : Xk 3 (b.foldl (KB 3) (CE q 3)) = some (X0.mk 0 0 [] false, false) := by
   unfold Xk; rfl
  refine ⟨_, _, by rw [eJ, hN, AB]; unfold L4; rfl, ?_, fun v => (hmem v).symm, by omega, by omega, fun v hv => ⟨hkind v hv, hG.1.2 v hv⟩, fun v hv hk => ⟨v, ?_, fun _ _ _ _ => rfl⟩⟩
  ·unfold Y8
   rw [aLt hF hR, AB, e2, AB]; rfl
  ·rw [Du]
   exact .inl (Hb.2 (.inl ⟨rfl, vR3 hv hk⟩))
 ·have h12 : t = 1 ∨ t = 2 := by omega
  obtain ⟨nv, n1, n2, n3, n4, n5⟩ := aLc h12 (l := b.foldl (KB t) (CE q t)) (w := b.foldl (IL t) (CE q t)) (by omega) hG.1 (by omega) (fun v _ => hmem v)
  have hput := KI hG.1 n5
  refine ⟨b.foldl (KB t) (CE q t) ++ [nv], LQ (b.foldl (IL t) (CE q t)) nv, ?_, ?_, fun v => ?_, by simp; omega, by rw [hput.2]; split <;> omega, fun v hv => ?_, fun v hv hk => ?_⟩
  ·rw [eJ, n1, AB]
   unfold L4
   simp only
   rw [AJ, BK (BH (by simp; omega) (by decide)), AB]
  ·unfold Y8
   have hof : Ye [] t = some [] := by
    unfold Ye
    rw [aDl]
    unfold JO
    rfl
   have hun : Z0 (b.foldl (IL t) (CE q t)) [] = some (b.foldl (IL t) (CE q t)) := by
    unfold Z0
    rw [aEj]
    unfold JS
    rfl
   rw [aLt hF hR, AB, e2, AB, decide_eq_false h3, AI, hof, AB, hun, AB, n2, AB, aDg hG.1 n5 (by omega), AB]
  ·rw [D3, hmem, ma, List.mem_singleton, or_comm]
  ·rcases D3.1 hv with rfl | h
   ·exact ⟨n4, n5⟩
   ·exact ⟨hkind v h, hG.1.2 v h⟩
  ·by_cases hin : v ∈ b.foldl (IL t) (CE q t)
   ·exact ⟨v, D3.2 (.inr hin), fun _ _ _ _ => rfl⟩
   ·refine ⟨nv, D3.2 (.inl rfl), fun s hs a ha => ?_⟩
    have hnv : nv ∉ b.foldl (IL t) (CE q t) := fun h => n3 ((hmem nv).1 h)
    have key : ∀ x : X0, (x.kind = t → x ∈ b.foldl (IL t) (CE q t)) → x ≠ v ∧ x ≠ nv := fun x hx => by
     refine ⟨fun e => hin (e ▸ hx (by rw [e]; exact hk)), fun e => hnv (e ▸ hx (by rw [e]; exact n4))⟩
    unfold KC
    by_cases k1 : a.kind = 1
    ·have := key a.value (fun h => (Du t _ b _).2 (.inl (Hb.2 (.inr ⟨s, hs, a, ha, k1, h, rfl⟩))))
     rw [if_pos k1, if_pos k1, decide_eq_false this.1, decide_eq_false this.2]
    ·rw [if_neg k1, if_neg k1]
     by_cases k2 : a.kind = 2
     ·rw [if_pos k2, if_pos k2]
      cases hg : B0 b a.n with
      | mk x f =>
       cases f with
       | false => simp
       | true =>
        have := key x (fun h => (Du t _ b _).2 (.inr ⟨_, Ci hg, rfl, h⟩))
        rw [decide_eq_false (fun e => this.2 (by simpa using e)), decide_eq_false (fun e => this.1 (by simpa using e))]
     ·rw [if_neg k2, if_neg k2]
structure KS (S : List (Int × Bool)) (P : Nat → Prop) : Prop where
 nd : (S.map (·.1)).Nodup
 tr : ∀ x ∈ S, x.2 = true
 is : ∀ x : Int, x ∈ S.map (·.1) ↔ ∃ n : Nat, x = (n : Int) ∧ P n
theorem WS {α β : Type} (f : α → β) : ∀ {l : List α}, (l.map f).Nodup → l.Nodup
 | [], _ => List.nodup_nil
 | a :: l, h => by
  rw [List.map_cons, List.nodup_cons] at h
  exact List.nodup_cons.2 ⟨fun hm => h.1 (mm.2 ⟨a, hm, rfl⟩), WS f h.2⟩
theorem KS.perm {S S' : List (Int × Bool)} {P : Nat → Prop} (h : KS S P) (h' : KS S' P) : S.Perm S' := by
 rw [List.perm_ext_iff_of_nodup (WS _ h.nd) (WS _ h'.nd)]
 have key : ∀ {A B : List (Int × Bool)}, KS A P → KS B P → ∀ a ∈ A, a ∈ B := fun {A B} hA hB a ha => by
  obtain ⟨b, hb, e⟩ := mm.1 ((hB.is a.1).2 ((hA.is a.1).1 (mm.2 ⟨a, ha, rfl⟩)))
  have : b = a := Prod.ext e (by rw [hB.tr b hb, hA.tr a ha])
  exact this ▸ hb
 exact fun a => ⟨key h h' a, key h' h a⟩
theorem KS.of_perm {S S' : List (Int × Bool)} {P : Nat → Prop} (h : KS S P) (hp : S'.Perm S) : KS S' P :=
 ⟨(hp.map _).nodup_iff.2 h.nd, fun x hx => h.tr x (hp.mem_iff.1 hx), fun x => by rw [(hp.map _).mem_iff, h.is]⟩
theorem KS.can {S S' : List (Int × Bool)} {P : Nat → Prop} (h : KS S P) (h' : KS S' P) : aF0 S = aF0 S' := by
 have h1 := h.of_perm (Er S)
 have h2 := h'.of_perm (Er S')
 refine List.Perm.eq_of_pairwise (le := fun a b : Int × Bool => a.1 ≤ b.1) (fun a b ha hb e1 e2 => ?_) (Hn S) (Hn S') (h1.perm h2)
 exact Prod.ext (by omega) (by rw [h1.tr a ha, h2.tr b hb])
theorem KS.congr {S : List (Int × Bool)} {P Q : Nat → Prop} (h : KS S P) (hq : ∀ n, P n ↔ Q n) : KS S Q := ⟨h.nd, h.tr, fun x => by rw [h.is]; simp only [hq]⟩
theorem KS.nil : KS [] (fun _ => False) := ⟨List.nodup_nil, (fun x hx => by cases hx), fun x => by simp⟩
theorem H4 (k : Int) (v : Bool) (x : Int) : ∀ S : List (Int × Bool), x ∈ (Eg k v S).map (·.1) ↔ x = k ∨ x ∈ S.map (·.1)
 | [] => by simp [Eg]
 | y :: S => by
  rw [Eg]
  split
  ·rename_i h; simp [h]
  ·rename_i h
   simp only [List.map_cons, mc, H4 k v x S]
   constructor
   ·rintro (h | h | h)
    ·exact .inr (.inl h)
    ·exact .inl h
    ·exact .inr (.inr h)
   ·rintro (h | h | h)
    ·exact .inr (.inl h)
    ·exact .inl h
    ·exact .inr (.inr h)
theorem Wb (k : Int) (v : Bool) : ∀ {S : List (Int × Bool)}, (S.map (·.1)).Nodup → ((Eg k v S).map (·.1)).Nodup
 | [], _ => by simp [Eg]
 | y :: S, h => by
  rw [List.map_cons, List.nodup_cons] at h
  rw [Eg]
  split
  ·rename_i e
   rw [List.map_cons, List.nodup_cons]
   exact ⟨by rw [← e]; exact h.1, h.2⟩
  ·rename_i e
   rw [List.map_cons, List.nodup_cons]
   refine ⟨fun hm => ?_, Wb k v h.2⟩
   rcases (H4 k v y.1 S).1 hm with h2 | h2
   ·exact e h2
   ·exact h.1 h2
theorem Wd (k : Int) : ∀ {S : List (Int × Bool)}, (∀ x ∈ S, x.2 = true) → ∀ x ∈ Eg k true S, x.2 = true
 | [], _, x, hx => by simp [Eg] at hx; rw [hx]
 | y :: S, h, x, hx => by
  rw [Eg] at hx
  split at hx
  ·rcases mc.1 hx with rfl | hx
   ·rfl
   ·exact h x (List.mem_cons_of_mem _ hx)
  ·rcases mc.1 hx with rfl | hx
   ·exact h _ (by simp)
   ·exact Wd k (fun z hz => h z (List.mem_cons_of_mem _ hz)) x hx
theorem KS.put {S : List (Int × Bool)} {P : Nat → Prop} (h : KS S P) (m : Nat) : KS (Eg (m : Int) true S) (fun n => P n ∨ n = m) := by
 refine ⟨Wb _ _ h.nd, Wd _ h.tr, fun x => ?_⟩
 rw [H4, h.is]
 constructor
 ·rintro (rfl | ⟨n, rfl, hn⟩)
  ·exact ⟨m, rfl, .inr rfl⟩
  ·exact ⟨n, rfl, .inl hn⟩
 ·rintro ⟨n, rfl, hn | rfl⟩
  ·exact .inr ⟨n, rfl, hn⟩
  ·exact .inl rfl
theorem Ke (k x : Int) : ∀ {S : List (Int × Bool)}, (S.map (·.1)).Nodup → (x ∈ (LO k S).map (·.1) ↔ x ≠ k ∧ x ∈ S.map (·.1))
 | [], _ => by simp [LO]
 | y :: S, h => by
  rw [List.map_cons, List.nodup_cons] at h
  rw [LO]
  split
  ·rename_i e
   rw [List.map_cons, mc]
   constructor
   ·intro hx; exact ⟨fun e2 => h.1 (by rw [e, ← e2]; exact hx), .inr hx⟩
   ·rintro ⟨h1, h2 | h2⟩
    ·exact absurd (h2.trans e) h1
    ·exact h2
  ·rename_i e
   rw [List.map_cons, mc, List.map_cons, mc, Ke k x h.2]
   constructor
   ·rintro (h1 | ⟨h1, h2⟩)
    ·exact ⟨fun e2 => e (h1.symm.trans e2), .inl h1⟩
    ·exact ⟨h1, .inr h2⟩
   ·rintro ⟨h1, h2 | h2⟩
    ·exact .inl h2
    ·exact .inr ⟨h1, h2⟩
theorem Jp (k : Int) : ∀ (S : List (Int × Bool)), (LO k S).Sublist S
 | [] => List.Sublist.refl _
 | y :: S => by
  rw [LO]
  split
  ·exact List.sublist_cons_self _ _
  ·exact (Jp k S).cons_cons y
theorem KS.del {S : List (Int × Bool)} {P : Nat → Prop} (h : KS S P) : KS (LO 0 S) (fun n => P n ∧ n ≠ 0) := by
 refine ⟨h.nd.sublist ((Jp 0 S).map _), fun x hx => h.tr x ((Jp 0 S).subset hx), fun x => ?_⟩
 rw [Ke 0 x h.nd, h.is]
 constructor
 ·rintro ⟨h1, n, rfl, hn⟩; exact ⟨n, rfl, hn, by omega⟩
 ·rintro ⟨n, rfl, hn, h0⟩; exact ⟨by omega, n, rfl, hn⟩
theorem Kn {α σ : Type} (f : σ → α → σ) : ∀ (l : List α) (s : σ), Cb (fun x s => some (f s x)) s l = some (l.foldl f s)
 | [], _ => rfl
 | x :: l, s => by rw [Cb, AB, List.foldl_cons]; exact Kn f l _
theorem KS.fold {P : Nat → Prop} (f : Nat → Nat) : ∀ {p : List (Int × Bool)} {S : List (Int × Bool)} {Q : Nat → Prop}, (∀ x ∈ p, ∃ n : Nat, x.1 = (n : Int) ∧ P n) → KS S Q →
 KS (p.foldl (fun s x => Eg ((f x.1.toNat : Nat) : Int) true s) S) (fun n => Q n ∨ ∃ x ∈ p, n = f x.1.toNat)
 | [], S, Q, _, h => h.congr fun n => by simp
 | x :: p, S, Q, hp, h => by
  rw [List.foldl_cons]
  refine (KS.fold f (fun y hy => hp y (List.mem_cons_of_mem _ hy)) (h.put (f x.1.toNat))).congr fun n => ?_
  simp only [mc, exists_eq_or_imp]
  rw [or_assoc]
theorem Ki {S0 S : List (Int × Bool)} {P Q : Nat → Prop} (f : Nat → Nat) {c : List (Int × Bool) → List (Int × Bool)} (hc : c = fun s => aF0 s) {step : Int × Bool → List (Int × Bool) → Option (List (Int × Bool))}
 (hs : ∀ (n : Nat) (v : Bool) (s : List (Int × Bool)), P n → step ((n : Int), v) s = some (Eg ((f n : Nat) : Int) true s)) (h0 : KS S0 P) (h : KS S Q) :
 ∃ S', EB c S0 step S = some S' ∧ KS S' (fun n => Q n ∨ ∃ m, P m ∧ n = f m) := by
 have run : ∀ p : List (Int × Bool), p.Perm S0 → Cb step S p = some (p.foldl (fun s x => Eg ((f x.1.toNat : Nat) : Int) true s) S) ∧ KS (p.foldl (fun s x => Eg ((f x.1.toNat : Nat) : Int) true s) S) (fun n => Q n ∨ ∃ m, P m ∧ n = f m) := fun p hp => by
  have hk := h0.of_perm hp
  have hx : ∀ x ∈ p, ∃ n : Nat, x.1 = (n : Int) ∧ P n := fun x hx => (hk.is x.1).1 (mm.2 ⟨x, hx, rfl⟩)
  constructor
  ·rw [← Kn (fun s x => Eg ((f x.1.toNat : Nat) : Int) true s) p S]
   clear hp hk
   revert hx
   generalize S = s
   revert s
   induction p with
   | nil => intro s _; rfl
   | cons x p ih =>
    intro s hx
    obtain ⟨n, e, hn⟩ := hx x (by simp)
    obtain ⟨x1, x2⟩ := x
    simp only at e
    subst e
    rw [Cb, Cb, hs n x2 s hn]
    exact ih _ fun y hy => hx y (List.mem_cons_of_mem _ hy)
  ·refine (KS.fold f hx h).congr fun n => ?_
   constructor
   ·rintro (h1 | ⟨x, hxp, rfl⟩)
    ·exact .inl h1
    ·obtain ⟨m, e, hm⟩ := hx x hxp
     exact .inr ⟨m, hm, by rw [e]; rfl⟩
   ·rintro (h1 | ⟨m, hm, rfl⟩)
    ·exact .inl h1
    ·obtain ⟨x, hxp, e⟩ := mm.1 ((hk.is (m : Int)).2 ⟨m, rfl, hm⟩)
     exact .inr ⟨x, hxp, by rw [e]; rfl⟩
 obtain ⟨r0, k0⟩ := run S0 (List.Perm.refl _)
 refine ⟨aF0 (S0.foldl (fun s x => Eg ((f x.1.toNat : Nat) : Int) true s) S), Hf fun p hp => ?_, k0.of_perm (Er _)⟩
 obtain ⟨r1, k1⟩ := run p hp
 exact ⟨_, r1, by rw [hc]; exact k1.can k0⟩
def VS (q : AE) (b : List X2) (t : Int) (v : X0) : Prop := ∃ rl, Y8 q t b [] = some rl ∧ v ∈ rl
def MS (q : AE) (b : List X2) (d : Nat) (dd : X6) (k n : Nat) : Prop := ∃ args : List X0, args.length = k ∧ (∀ (j : Nat) v t, args[j]? = some v → dd.types[j]? = some t → VS q b t v) ∧ n = mkM q b d args
theorem aHx {q : AE} (hF : DJ q) {b : List X2} {d : Nat} {dd : X6} {k n : Nat} (h : MS q b d dd k n) : n < 4096 := by
 obtain ⟨args, _, _, rfl⟩ := h
 have := hF.symbols
 exact Nat.lt_of_lt_of_le (F8 _ _) (show 2 ^ q.symbols.length ≤ 2 ^ 12 from Nat.pow_le_pow_right (by decide) this)
theorem aHz {q : AE} {b : List X2} {d : Nat} {dd : X6} {n : Nat} : MS q b d dd 0 n ↔ n = mkM q [] d [] := by
 constructor
 ·rintro ⟨args, hl, _, rfl⟩
  rw [List.eq_nil_of_length_eq_zero hl, aHi]
 ·rintro rfl
  exact ⟨[], rfl, (fun j v t h => by simp at h), (aHi q b d).symm⟩
theorem aHy {q : AE} (hR : A6 q) {b : List X2} {d k : Nat} {dd : X6} {t : Int} (hd : q.decls[d]? = some dd) (ht : dd.types[k]? = some t) {n : Nat} :
 MS q b d dd (k + 1) n ↔ ∃ v, VS q b t v ∧ ∃ m, MS q b d dd k m ∧ n = m &&& Co q.symbols.length (F4 q b d k v) := by
 have hk := (List.getElem?_eq_some_iff.1 ht).1
 constructor
 ·rintro ⟨args, hl, hv, rfl⟩
  obtain ⟨v, hvk, _⟩ := AY (l := args) (i := k) (by omega)
  have hsplit : args = args.take k ++ [v] := by
   have h1 : args.take (k + 1) = args := List.take_of_length_le (by omega)
   rw [List.take_add_one, hvk] at h1
   exact h1.symm
  have hlt : (args.take k).length = k := by rw [List.length_take]; omega
  refine ⟨v, hv k v t hvk ht, _, ⟨args.take k, hlt, fun j w t' hj ht' => hv j w t' ?_ ht', rfl⟩, ?_⟩
  ·rw [hsplit, List.getElem?_append_left ((List.getElem?_eq_some_iff.1 hj).1)]; exact hj
  ·have := WP hR (b := b) hd (args := args.take k) (by omega) v
   rw [hlt] at this
   rw [this, ← hsplit]
 ·rintro ⟨v, hv, m, ⟨args, hl, ha, rfl⟩, rfl⟩
  refine ⟨args ++ [v], by simp [hl], fun j w t' hj ht' => ?_, ?_⟩
  ·by_cases hj2 : j < args.length
   ·rw [List.getElem?_append_left hj2] at hj; exact ha j w t' hj ht'
   ·have hj3 := (List.getElem?_eq_some_iff.1 hj).1
    simp at hj3
    have : j = k := by omega
    subst this
    rw [← hl, List.getElem?_append_right (Nat.le_refl _)] at hj
    simp at hj
    subst hj
    rw [ht] at ht'; cases ht'
    exact hv
  ·rw [← hl]; exact WP hR hd (by omega) v
theorem M2 {q : AE} {d : Nat} {dd : X6} (hT : ∀ d ∈ q.decls, ∀ t ∈ d.types, (1 : Int) ≤ t ∧ t ≤ 3) (hd : q.decls[d]? = some dd) {k : Nat} {t : Int} (ht : dd.types[k]? = some t) : 1 ≤ t ∧ t ≤ 3 :=
 hT dd (List.mem_of_getElem? hd) t (List.mem_of_getElem? ht)
theorem WQ {q : AE} (hF : DJ q) (hR : A6 q) (hT : ∀ d ∈ q.decls, ∀ t ∈ d.types, (1 : Int) ≤ t ∧ t ≤ 3) {b : List X2} (hB : BR b) {d k : Nat} {dd : X6} {t : Int} (hd : q.decls[d]? = some dd) (ht : dd.types[k]? = some t) {S0 : List (Int × Bool)} (h0 : KS S0 (MS q b d dd k)) :
 ∃ S', Xc (Xh.mk q b (d : Int) (k : Int)) S0 = some S' ∧ KS S' (MS q b d dd (k + 1)) := by
 have hbl := M6 hB
 have hk := (List.getElem?_eq_some_iff.1 ht).1
 obtain ⟨jl, rl, hj, hr, hV⟩ := M3 hF hR hB hd ht (M2 hT hd ht)
 have hsy := hF.symbols
 have hW : ∀ v, Co q.symbols.length (F4 q b d k v) < 4096 := fun v => Nat.lt_of_lt_of_le (F8 _ _) (show 2 ^ q.symbols.length ≤ 2 ^ 12 from Nat.pow_le_pow_right (by decide) hsy)
 obtain ⟨S', hS, hK⟩ := A5 (step := fun s : Int × List (Int × Bool) => EL jl (jl.length : Int) S0 (Xh.mk q b (d : Int) (k : Int)) s.1 s.2)
  (fun s => ∃ i : Nat, s.1 = (i : Int) ∧ i ≤ jl.length ∧ KS s.2 (fun n => ∃ v ∈ jl.take i, ∃ m, MS q b d dd k m ∧ n = m &&& Co q.symbols.length (F4 q b d k v)))
  (fun s => (jl.length - s.1).toNat)
  (fun S' => KS S' (fun n => ∃ v ∈ jl, ∃ m, MS q b d dd k m ∧ n = m &&& Co q.symbols.length (F4 q b d k v)))
  (by
   rintro ⟨s, S⟩ ⟨i, rfl, hi, hS⟩
   simp only at hS ⊢
   have hjl := hV.jlen
   by_cases he : i = jl.length
   ·subst he
    rw [List.take_length] at hS
    exact .inl ⟨S, by simp only [EL, ltI, AI], hS⟩
   ·right
    obtain ⟨x, hx, _⟩ := AY (l := jl) (i := i) (by omega)
    obtain ⟨S2, e2, k2⟩ := Ki (f := fun m => m &&& Co q.symbols.length (F4 q b d k x)) (S := S) (c := Gd ((Co q.symbols.length (F4 q b d k x) : Nat) : Int) jl (jl.length : Int) (i : Int) S0 (Xh.mk q b (d : Int) (k : Int))) rfl
     (step := fun (x_1 : Int × Bool) (s : List (Int × Bool)) => EM ((Co q.symbols.length (F4 q b d k x) : Nat) : Int) jl (jl.length : Int) (i : Int) S0 (Xh.mk q b (d : Int) (k : Int)) x_1.1 x_1.2 s)
     (fun n v s hn => by
      simp only [EM]
      have h1 := aHx hF hn
      have h2 := hW x
      rw [aTm (by omega) (by omega)]) h0 hS
    refine ⟨(((i + 1 : Nat) : Int), S2), ?_, ⟨i + 1, rfl, by omega, k2.congr fun n => ?_⟩, by simp only; omega⟩
    ·simp only [EL, ltD hx, AJ, AO hx, At hx (show jl.length ≤ 9223372036854775807 by omega)]
     rw [aKu hF hR (by omega) hd hk x, AB]
     unfold Ok Ro
     rw [e2, AB, AB]
    ·rw [List.take_add_one, hx]
     simp only [Option.toList_some, ma, List.mem_singleton]
     constructor
     ·rintro (⟨v, hv, h⟩ | ⟨m, hm, h⟩)
      ·exact ⟨v, .inl hv, h⟩
      ·exact ⟨x, .inr rfl, m, hm, h⟩
     ·rintro ⟨v, hv | rfl, h⟩
      ·exact .inl ⟨v, hv, h⟩
      ·obtain ⟨m, hm, h⟩ := h; exact .inr ⟨m, hm, h⟩)
  ((0 : Int), []) ⟨0, rfl, by omega, KS.nil.congr fun n => by simp⟩
 refine ⟨S', ?_, hK.congr fun n => ?_⟩
 ·unfold Xc Rl
  rw [hj, AB, hS, AB]
 ·rw [aHy hR hd ht]
  constructor
  ·rintro ⟨v, hv, h⟩; exact ⟨v, ⟨rl, hr, (hV.same v).1 hv⟩, h⟩
  ·rintro ⟨v, ⟨rl', hr', hv⟩, h⟩
   rw [hr] at hr'; cases hr'
   exact ⟨v, (hV.same v).2 hv, h⟩
def DS (q : AE) (b : List X2) (i n : Nat) : Prop := ∃ d dd, d < i ∧ q.decls[d]? = some dd ∧ MS q b d dd dd.types.length n
theorem aKa {q : AE} (hF : DJ q) (hR : A6 q) (hT : ∀ d ∈ q.decls, ∀ t ∈ d.types, (1 : Int) ≤ t ∧ t ≤ 3) {b : List X2} (hB : BR b) {d : Nat} {dd : X6} (hd : q.decls[d]? = some dd) (h3 : dd.types.length ≤ 8) (s15 : Int) (w5 : List (Int × Bool)) :
 ∃ S', P1 b (d : Int) s15 (d : Int) (dd.types.length : Int) q w5 0 (Eg ((mkM q [] d [] : Nat) : Int) true []) = some S' ∧ KS S' (MS q b d dd dd.types.length) := by
 obtain ⟨S', hS, hK⟩ := A5 (step := fun s : Int × List (Int × Bool) => EI b (d : Int) s15 (d : Int) (dd.types.length : Int) q w5 s.1 s.2)
  (fun s => ∃ k : Nat, s.1 = (k : Int) ∧ k ≤ dd.types.length ∧ KS s.2 (MS q b d dd k)) (fun s => (dd.types.length - s.1).toNat) (fun S' => KS S' (MS q b d dd dd.types.length))
  (by
   rintro ⟨s, S⟩ ⟨k, rfl, hk, hS⟩
   simp only at hS ⊢
   by_cases he : k = dd.types.length
   ·subst he
    exact .inl ⟨S, by simp only [EI, ltI, AI], hS⟩
   ·right
    obtain ⟨t, ht, _⟩ := AY (l := dd.types) (i := k) (by omega)
    obtain ⟨S2, e2, k2⟩ := WQ hF hR hT hB hd ht hS
    refine ⟨(((k + 1 : Nat) : Int), S2), ?_, ⟨k + 1, rfl, by omega, k2⟩, by simp only; omega⟩
    simp only [EI, ltD ht, AJ, At ht (show dd.types.length ≤ 9223372036854775807 by omega)]
    rw [e2, AB])
  ((0 : Int), Eg ((mkM q [] d [] : Nat) : Int) true []) ⟨0, rfl, by omega, (KS.nil.put (mkM q [] d [])).congr fun n => by rw [aHz]; simp⟩
 exact ⟨S', hS, hK⟩
theorem aM3 {q : AE} (hF : DJ q) (hR : A6 q) (hT : ∀ d ∈ q.decls, ∀ t ∈ d.types, (1 : Int) ≤ t ∧ t ≤ 3) (h3 : ∀ d ∈ q.decls, d.types.length ≤ 3) {b : List X2} (hB : BR b) :
 ∃ S', Py b (q.decls.length : Int) q 0 [] = some S' ∧ KS S' (DS q b q.decls.length) := by
 have hdl := hF.decls
 obtain ⟨S', hS, hK⟩ := A5 (step := fun s : Int × List (Int × Bool) => EH b (q.decls.length : Int) q s.1 s.2)
  (fun s => ∃ i : Nat, s.1 = (i : Int) ∧ i ≤ q.decls.length ∧ KS s.2 (DS q b i)) (fun s => (q.decls.length - s.1).toNat) (fun S' => KS S' (DS q b q.decls.length))
  (by
   rintro ⟨s, S⟩ ⟨i, rfl, hi, hS⟩
   simp only at hS ⊢
   by_cases he : i = q.decls.length
   ·subst he
    exact .inl ⟨S, by simp only [EH, ltI, AI], hS⟩
   ·right
    obtain ⟨dd, hd, _⟩ := AY (l := q.decls) (i := i) (by omega)
    obtain ⟨S2, e2, k2⟩ := aKa hF hR hT hB hd (by have := h3 dd (List.mem_of_getElem? hd); omega) (q.decls.length : Int) S
    obtain ⟨S3, e3, k3⟩ := Ki (f := fun m => m) (S := S) (c := GI b (q.decls.length : Int) (i : Int) q S2) rfl
     (step := fun (x_1 : Int × Bool) (s : List (Int × Bool)) => FE b (q.decls.length : Int) (i : Int) q S2 x_1.1 x_1.2 s) (fun n v s hn => rfl) k2 hS
    refine ⟨(((i + 1 : Nat) : Int), S3), ?_, ⟨i + 1, rfl, by omega, k3.congr fun n => ?_⟩, by simp only; omega⟩
    ·simp only [EH, ltD hd, AJ, AO hd, At hd (show q.decls.length ≤ 9223372036854775807 by omega)]
     rw [aNc hF, AB, e2, AB]
     unfold OX P4
     rw [e3, AB, AB]
    ·constructor
     ·rintro (⟨d, d2, h1, h2, h3⟩ | ⟨m, hm, rfl⟩)
      ·exact ⟨d, d2, by omega, h2, h3⟩
      ·exact ⟨i, dd, by omega, hd, hm⟩
     ·rintro ⟨d, d2, h1, h2, h3⟩
      by_cases hdi : d = i
      ·subst hdi; rw [hd] at h2; cases h2; exact .inr ⟨n, h3, rfl⟩
      ·exact .inl ⟨d, d2, by omega, h2, h3⟩)
  ((0 : Int), []) ⟨0, rfl, by omega, KS.nil.congr fun n => ⟨fun h => h.elim, fun ⟨d, _, h, _⟩ => by omega⟩⟩
 exact ⟨S', hS, hK⟩
structure RS (L : List Int) (P : Nat → Prop) : Prop where
 up : L.Pairwise (· < ·)
 is : ∀ x : Int, x ∈ L ↔ ∃ n : Nat, x = (n : Int) ∧ P n
theorem RS.uniq {L M : List Int} {P : Nat → Prop} (h : RS L P) (k : RS M P) : L = M := by
 have nd : ∀ {A : List Int}, A.Pairwise (· < ·) → A.Nodup := fun h => h.imp fun h => by omega
 exact Ef (h.up.imp fun h => by omega) (k.up.imp fun h => by omega) ((List.perm_ext_iff_of_nodup (nd h.up) (nd k.up)).2 fun x => by rw [h.is, k.is])
theorem RS.len {L : List Int} {P : Nat → Prop} {m : Nat} (h : RS L P) (hP : ∀ n, P n → n < m) : L.length ≤ m := by
 have h1 : L.Nodup := h.up.imp fun h => by omega
 have := h1.length_le_of_subset (l₂ := (List.range m).map (fun n : Nat => (n : Int))) fun x hx => by
  obtain ⟨n, rfl, hn⟩ := (h.is x).1 hx
  exact mm.2 ⟨n, List.mem_range.2 (hP n hn), rfl⟩
 simpa using this
def aH2 (q : AE) (b : List X2) (n : Nat) : Prop := DS q b q.decls.length n ∧ n ≠ 0
theorem Pv {q : AE} (hF : DJ q) {b : List X2} {n : Nat} (h : aH2 q b n) : n < 4096 := by
 obtain ⟨⟨d, dd, _, _, hm⟩, _⟩ := h
 exact aHx hF hm
theorem aS1 {S : List (Int × Bool)} {P : Nat → Prop} (h : KS S P) (hl : S.length ≤ 4096) : ∃ w, P7 S [] = some w ∧ w.Perm (S.map (·.1)) := by
 have run : ∀ (p : List (Int × Bool)) (w : List Int), p.length + w.length ≤ 4096 → Cb (fun (x : Int × Bool) (s : List Int) => DU S x.1 x.2 s) w p = some (w ++ p.map (·.1)) := by
  intro p
  induction p with
  | nil => intro w _; simp [Cb]
  | cons x p ih =>
   intro w hw
   rw [List.length_cons] at hw
   have e : DU S x.1 x.2 w = some (w ++ [x.1]) := by
    unfold DU
    exact BK (BH (by simp; omega) (by decide)) _
   rw [Cb, e, AB, ih _ (by simp; omega)]
   simp
 refine ⟨W6 (S.map (·.1)), Hf fun p hp => ⟨_, run p [] (by rw [hp.length_eq]; simp; omega), ?_⟩, CY _⟩
 show W6 ([] ++ p.map (·.1)) = W6 (S.map (·.1))
 rw [List.nil_append]
 exact Ef (Cw _) (Cw _) ((CY _).trans ((hp.map _).trans (CY _).symm))
theorem aPh {q : AE} (hF : DJ q) (hR : A6 q) (hT : ∀ d ∈ q.decls, ∀ t ∈ d.types, (1 : Int) ≤ t ∧ t ≤ 3) (h3 : ∀ d ∈ q.decls, d.types.length ≤ 3) {b : List X2} (hB : BR b) :
 ∃ L, X4 q b = some L ∧ RS L (aH2 q b) := by
 obtain ⟨S, e1, k1⟩ := aM3 hF hR hT h3 hB
 have k2 : KS (LO 0 S) (aH2 q b) := k1.del
 have hlen : (LO 0 S).length ≤ 4096 := by
  have := k2.nd.length_le_of_subset (l₂ := (List.range 4096).map (fun n : Nat => (n : Int))) fun x hx => by
   obtain ⟨n, rfl, hn⟩ := (k2.is x).1 hx
   exact mm.2 ⟨n, List.mem_range.2 (Pv hF hn), rfl⟩
  simpa using this
 obtain ⟨w, e2, p2⟩ := aS1 k2 hlen
 have hsort := M9 (w := w) (l := W6 w) (by rw [p2.length_eq]; simp; omega) (Cw w) (CY w)
 refine ⟨W6 w, ?_, ?_, fun x => ?_⟩
 ·unfold X4
  rw [e1, AB]
  unfold OY
  rw [e2, AB, AB, hsort, AB]
 ·have hnd : (W6 w).Nodup := ((CY w).trans p2).nodup_iff.2 k2.nd
  exact List.Pairwise.imp (fun h => by have h1 := h.1; have h2 := h.2; omega) ((Cw w).and hnd)
 ·rw [((CY w).trans p2).mem_iff, k2.is]
def EvP (q : AE) (b : List X2) (dd : X6) (args : List X0) (e : X3) : Prop :=
 ∃ tail : List X0, args.length + tail.length = dd.types.length ∧ (∀ (j : Nat) v t, tail[j]? = some v → dd.types[args.length + j]? = some t → VS q b t v) ∧ e = X3.mk dd.name (args ++ tail)
theorem XB {q : AE} {b : List X2} {dd : X6} {args : List X0} (hl : args.length = dd.types.length) (e : X3) : EvP q b dd args e ↔ e = X3.mk dd.name args := by
 constructor
 ·rintro ⟨tail, h1, _, rfl⟩
  rw [List.eq_nil_of_length_eq_zero (show tail.length = 0 by omega), List.append_nil]
 ·rintro rfl
  exact ⟨[], by simpa using hl, (fun j v t h => by simp at h), by rw [List.append_nil]⟩
theorem XC {q : AE} {b : List X2} {dd : X6} {args : List X0} {t : Int} (ht : dd.types[args.length]? = some t) (e : X3) : EvP q b dd args e ↔ ∃ v, VS q b t v ∧ EvP q b dd (args ++ [v]) e := by
 have hk := (List.getElem?_eq_some_iff.1 ht).1
 constructor
 ·rintro ⟨tail, h1, h2, rfl⟩
  cases tail with
  | nil => simp at h1; omega
  | cons v tail =>
   refine ⟨v, h2 0 v t rfl ht, tail, by simp at h1 ⊢; omega, fun j w t' hj ht' => ?_, by simp⟩
   refine h2 (j + 1) w t' (by simpa using hj) ?_
   rw [← ht']; congr 1; simp; omega
 ·rintro ⟨v, hv, tail, h1, h2, rfl⟩
  refine ⟨v :: tail, by simp at h1 ⊢; omega, fun j w t' hj ht' => ?_, by simp⟩
  cases j with
  | zero =>
   simp at hj ht'
   subst hj
   rw [ht] at ht'; cases ht'
   exact hv
  | succ j =>
   refine h2 j w t' (by simpa using hj) ?_
   rw [← ht']; congr 1; simp; omega
theorem Mv {r : Nat} (h : r ≤ 3) : 300 ^ r ≤ 27000000 := by
 have : r = 0 ∨ r = 1 ∨ r = 2 ∨ r = 3 := by omega
 rcases this with rfl | rfl | rfl | rfl <;> decide
theorem V1 {q : AE} (hF : DJ q) (hR : A6 q) (hT : ∀ d ∈ q.decls, ∀ t ∈ d.types, (1 : Int) ≤ t ∧ t ≤ 3) {b : List X2} (hB : BR b) {d : Nat} {dd : X6} (hd : q.decls[d]? = some dd) (h3 : dd.types.length ≤ 3) :
 ∀ (n r : Nat) (args : List X0), r < n → args.length + r = dd.types.length → ∃ evs, aGy n q (d : Int) b [] args = some evs ∧ (∀ e, e ∈ evs ↔ EvP q b dd args e) ∧ evs.length ≤ 300 ^ r := by
 intro n
 induction n with
 | zero => intro r args h; omega
 | succ n ih =>
  intro r args hr hl
  show ∃ evs, aL3 (aGy n) q (d : Int) b [] args = some evs ∧ _
  unfold aL3
  rw [AO hd]
  cases r with
  | zero =>
   refine ⟨[X3.mk dd.name args], ?_, fun e => ?_, by simp⟩
   ·rw [decide_eq_true (by omega), AJ, AO hd]
   ·rw [XB (by omega), List.mem_singleton]
  | succ r =>
   obtain ⟨t, ht, _⟩ := AY (l := dd.types) (i := args.length) (by omega)
   obtain ⟨jl, rl, _, hrl, hV⟩ := M3 hF hR hB hd ht (M2 hT hd ht)
   have hc := Mv (r := r) (by omega)
   have hp : 300 ^ (r + 1) = 300 * 300 ^ r := by rw [Nat.pow_succ, Nat.mul_comm]
   have hlp : 300 ^ (r + 1) ≤ 27000000 := Mv (by omega)
   obtain ⟨evs, e1, e2, e3⟩ := A5 (step := fun s : Int × List X3 => G6 (aGy n) (d : Int) b [] args rl q s.1 s.2)
    (fun s => ∃ i : Nat, s.1 = (i : Int) ∧ i ≤ rl.length ∧ (∀ e, e ∈ s.2 ↔ ∃ v ∈ rl.take i, EvP q b dd (args ++ [v]) e) ∧ s.2.length ≤ i * 300 ^ r)
    (fun s => (rl.length - s.1).toNat) (fun evs => (∀ e, e ∈ evs ↔ ∃ v ∈ rl, EvP q b dd (args ++ [v]) e) ∧ evs.length ≤ rl.length * 300 ^ r)
    (by
     rintro ⟨s, w⟩ ⟨i, rfl, hi, hm, hw⟩
     simp only at hm hw ⊢
     by_cases he : i = rl.length
     ·subst he
      rw [List.take_length] at hm
      exact .inl ⟨w, by simp only [G6, ltI, AI], hm, hw⟩
     ·right
      obtain ⟨x, hx, _⟩ := AY (l := rl) (i := i) (by omega)
      obtain ⟨ev, f1, f2, f3⟩ := ih r (args ++ [x]) (by omega) (by simp; omega)
      have hrlen := hV.rlen
      have hi3 : i * 300 ^ r ≤ 300 * 300 ^ r := Nat.mul_le_mul_right _ (by omega)
      refine ⟨(((i + 1 : Nat) : Int), w ++ ev), ?_, ⟨i + 1, rfl, by omega, fun e => ?_, ?_⟩, by simp only; omega⟩
      ·simp only [G6, ltD hx, AJ, AO hx, At hx (show rl.length ≤ 9223372036854775807 by omega), List.nil_append]
       rw [BK (BH (by simp; omega) (by decide)), BK (BH (by simp; omega) (by decide)), f1, AB, BK (BH (by omega) (by decide))]
      ·rw [List.take_add_one, hx, ma, hm, f2]
       simp only [Option.toList_some, ma, List.mem_singleton]
       constructor
       ·rintro (⟨v, hv, h⟩ | h)
        ·exact ⟨v, .inl hv, h⟩
        ·exact ⟨x, .inr rfl, h⟩
       ·rintro ⟨v, hv | rfl, h⟩
        ·exact .inl ⟨v, hv, h⟩
        ·exact .inr h
      ·simp only [List.length_append]
       rw [Nat.succ_mul]; omega)
    ((0 : Int), []) ⟨0, rfl, by omega, fun e => by simp, by simp⟩
   have e1' : aIu (aGy n) (d : Int) b [] args rl q 0 [] = some evs := e1
   refine ⟨evs, ?_, fun e => ?_, ?_⟩
   ·rw [decide_eq_false (by omega), AI, AO hd, AO ht, hrl, AB, e1', AB]
   ·rw [e2, XC ht]
    constructor
    ·rintro ⟨v, hv, h⟩; exact ⟨v, ⟨rl, hrl, hv⟩, h⟩
    ·rintro ⟨v, ⟨rl', h1, hv⟩, h⟩
     rw [hrl] at h1; cases h1
     exact ⟨v, hv, h⟩
   ·have := hV.rlen
    have h1 : rl.length * 300 ^ r ≤ 300 * 300 ^ r := Nat.mul_le_mul_right _ this
    omega
theorem aNh (L : List Int) (x : Int) (hl : L.length ≤ 5000) : ∀ k, k ≤ L.length → (∀ i, k ≤ i → i < L.length → x < ga L i) → ∃ j : Nat, UO L x (k : Int) = some (j : Int) ∧ j ≤ k ∧ (∀ i, j ≤ i → i < L.length → x < ga L i) ∧ (0 < j → ga L (j - 1) ≤ x) := by
 intro k
 induction k with
 | zero =>
  intro hk hg
  refine ⟨0, ?_, Nat.le_refl _, hg, fun h => by omega⟩
  rw [Nk]
  unfold HE
  rw [decide_eq_false (by omega), AI, Aa]
 | succ k ih =>
  intro hk hg
  rw [Nk]
  unfold HE
  rw [decide_eq_true (by omega), AJ, CR (by omega), Nat.add_sub_cancel, DT (by omega)]
  by_cases h : x < ga L k
  ·obtain ⟨j, e1, e2, e3, e4⟩ := ih (by omega) (fun i h1 h2 => by
    by_cases hi : i = k
    ·subst hi; exact h
    ·exact hg i (by omega) h2)
   exact ⟨j, by rw [decide_eq_true h, AJ, Ay]; exact e1, by omega, e3, e4⟩
  ·refine ⟨k + 1, by rw [decide_eq_false h, AI, Aa], Nat.le_refl _, hg, fun _ => ?_⟩
   rw [Nat.add_sub_cancel]; omega
theorem RS.put {L : List Int} {P : Nat → Prop} (h : RS L P) (hl : L.length ≤ 4500) (m : Nat) : ∃ L', Yp L (m : Int) = some L' ∧ RS L' (fun n => P n ∨ n = m) := by
 obtain ⟨j, e1, e2, e3, e4⟩ := aNh L (m : Int) (by omega) L.length (Nat.le_refl _) (fun i h1 h2 => by omega)
 have hup : ∀ p q, p < q → q < L.length → ga L p < ga L q := fun p q h1 h2 => by
  have := (List.pairwise_iff_getElem.1 h.up) p q (by omega) h2 h1
  rwa [Hi, Hi] at this
 unfold Yp
 rw [e1, AB]
 by_cases hin : 0 < j ∧ ga L (j - 1) = (m : Int)
 ·refine ⟨L, ?_, h.up, fun x => ?_⟩
  ·rw [decide_eq_true (by omega), AJ, CR (by omega), DT (by omega), decide_eq_true hin.2, AJ]
  ·rw [h.is]
   constructor
   ·rintro ⟨n, rfl, hn⟩; exact ⟨n, rfl, .inl hn⟩
   ·rintro ⟨n, rfl, hn | rfl⟩
    ·exact ⟨n, rfl, hn⟩
    ·have : ((n : Nat) : Int) ∈ L := by
      rw [← hin.2, ← Hi (show j - 1 < L.length by omega)]
      exact List.getElem_mem _
     exact (h.is _).1 this
 ·have hlow : ∀ i, i < j → ga L i < (m : Int) := fun i hi => by
   have h1 := e4 (by omega)
   have h2 : ga L (j - 1) ≠ (m : Int) := fun e => hin ⟨by omega, e⟩
   by_cases hij : i = j - 1
   ·subst hij; omega
   ·have := hup i (j - 1) (by omega) (by omega); omega
  have hrun : (AZ ((0 : Int) ≤ 0 ∧ (0 : Int) ≤ (j : Int) ∧ (j : Int) ≤ (L.length : Int)) (AZ (fit ([] : List Int).length (sub L 0 (j : Int)).length 8) (AZ (fit (([] : List Int) ++ (sub L 0 (j : Int))).length [(m : Int)].length 8) (AZ ((0 : Int) ≤ (j : Int) ∧ ((j : Int) : Int) ≤ (L.length : Int) ∧ (L.length : Int) ≤ (L.length : Int)) (AZ (fit ((([] : List Int) ++ (sub L 0 (j : Int))) ++ [(m : Int)]).length (sub L (j : Int) (L.length : Int)).length 8) (some (((([] : List Int) ++ (sub L 0 (j : Int))) ++ [(m : Int)]) ++ (sub L (j : Int) (L.length : Int)))))))) : Option (List Int)) = some (L.take j ++ (m : Int) :: L.drop j) := by
   have s1 : sub L 0 (j : Int) = L.take j := by have := Wt L 0 j; simpa using this
   rw [s1, Wr, BK ⟨by omega, by omega, by omega⟩, BK (BH (by simp; omega) (by decide)), BK (BH (by simp; omega) (by decide)), BK ⟨by omega, by omega, by omega⟩, BK (BH (by simp; omega) (by decide))]
   simp
  refine ⟨L.take j ++ (m : Int) :: L.drop j, ?_, ?_, fun x => ?_⟩
  ·by_cases hj : 0 < j
   ·rw [decide_eq_true (by omega), AJ, CR (by omega), DT (by omega), decide_eq_false (fun e => hin ⟨hj, e⟩), AI]
    exact hrun
   ·rw [decide_eq_false (by omega), AI]
    exact hrun
  ·rw [List.pairwise_append, List.pairwise_cons]
   refine ⟨h.up.sublist (List.take_sublist _ _), ⟨fun a ha => ?_, h.up.sublist (List.drop_sublist _ _)⟩, fun a ha c hc => ?_⟩
   ·obtain ⟨i, hi⟩ := List.mem_iff_getElem?.1 ha
    rw [List.getElem?_drop] at hi
    obtain ⟨h1, h2⟩ := List.getElem?_eq_some_iff.1 hi
    rw [← h2, Hi]; exact e3 _ (by omega) h1
   ·obtain ⟨i, hi⟩ := List.mem_iff_getElem?.1 ha
    rw [List.getElem?_take] at hi
    split at hi
    ·rename_i hij
     obtain ⟨h1, h2⟩ := List.getElem?_eq_some_iff.1 hi
     have ha' : a < (m : Int) := by rw [← h2, Hi]; exact hlow i hij
     rcases mc.1 hc with rfl | hc
     ·exact ha'
     ·obtain ⟨k, hk⟩ := List.mem_iff_getElem?.1 hc
      rw [List.getElem?_drop] at hk
      obtain ⟨g1, g2⟩ := List.getElem?_eq_some_iff.1 hk
      have : (m : Int) < c := by rw [← g2, Hi]; exact e3 _ (by omega) g1
      omega
    ·cases hi
  ·have hmem : x ∈ L ↔ x ∈ L.take j ∨ x ∈ L.drop j := by
    rw [← ma, List.take_append_drop]
   rw [ma, mc]
   constructor
   ·rintro (h1 | rfl | h1)
    ·obtain ⟨n, rfl, hn⟩ := (h.is x).1 (hmem.2 (.inl h1)); exact ⟨n, rfl, .inl hn⟩
    ·exact ⟨m, rfl, .inr rfl⟩
    ·obtain ⟨n, rfl, hn⟩ := (h.is x).1 (hmem.2 (.inr h1)); exact ⟨n, rfl, .inl hn⟩
   ·rintro ⟨n, rfl, hn | rfl⟩
    ·rcases hmem.1 ((h.is _).2 ⟨n, rfl, hn⟩) with h1 | h1
     ·exact .inl h1
     ·exact .inr (.inr h1)
    ·exact .inr (.inl rfl)
theorem RS.congr {L : List Int} {P Q : Nat → Prop} (h : RS L P) (hq : ∀ n, P n ↔ Q n) : RS L Q := ⟨h.up, fun x => by rw [h.is]; simp only [hq]⟩
theorem aFu {q : AE} (hF : DJ q) (hR : A6 q) {i : Nat} {e : X3} {h : AN} (hh : EX q i e = some h) : h.bind.length ≤ 12 := by
 unfold EX at hh
 split at hh
 ·cases hh
 ·rename_i s hs
  split at hh
  ·cases hh
  ·split at hh
   ·have hsm := List.mem_of_getElem? hs
    obtain ⟨p, hp, rfl⟩ := om.1 hh
    have := FZ s.args e.args [] [] p (aNz hF hR hsm) ⟨List.Pairwise.nil, by simp⟩ ⟨List.Pairwise.nil, by simp⟩ (fun s hs => by simp at hs) hp
    have h12 := hF.args s hsm
    have := this.2.2.2.1
    simp at this
    simp only; omega
   ·cases hh
theorem aHb {q : AE} (hF : DJ q) (hR : A6 q) (hS : DG q) {b : List X2} (hB : BR b) {d : Nat} {dd : X6} (hd : q.decls[d]? = some dd) (args : List X0) (hl : args.length = dd.types.length) :
 ∃ l1 l2, Y3 q (X3.mk dd.name args) = some l1 ∧ Y5 l1 b = some l2 ∧ Yk l2 = some ((mkM q b d args : Nat) : Int) := by
 have hsy := hF.symbols
 have hbl := M6 hB
 have hlen : ((List.range q.symbols.length).filterMap fun i => EX q i (X3.mk dd.name args)).length ≤ 1000 := by
  have h2 := List.length_filterMap_le (fun i => EX q i (X3.mk dd.name args)) (List.range q.symbols.length)
  rw [List.length_range] at h2; omega
 have hbind : ∀ h ∈ (List.range q.symbols.length).filterMap (fun i => EX q i (X3.mk dd.name args)), h.bind.length ≤ 9223372036854775807 := fun h hh => by
  obtain ⟨i, hi, hh2⟩ := List.mem_filterMap.1 hh
  have := aFu hF hR hh2
  omega
 exact ⟨_, _, aLz hF hR, aL1 hlen hbind (by omega), aKj hF hR hS b hd rfl hl⟩
theorem aSz {q : AE} (hF : DJ q) (hR : A6 q) (hS : DG q) {b : List X2} (hB : BR b) {d : Nat} {dd : X6} (hd : q.decls[d]? = some dd) {evs : List X3} (hev : ∀ e, e ∈ evs ↔ EvP q b dd [] e) (hel : evs.length ≤ 27000000) {L : List Int} (hL : RS L (fun n => DS q b d n ∧ n ≠ 0)) :
 ∃ L', aIl b (d : Int) evs q L 0 = some L' ∧ RS L' (fun n => DS q b (d + 1) n ∧ n ≠ 0) := by
 have hDS : ∀ {i n}, DS q b i n → n < 4096 := fun ⟨_, _, _, _, hm⟩ => aHx hF hm
 obtain ⟨L', e1, e2⟩ := A5 (step := fun s : List Int × Int => FM b (d : Int) evs q s.1 s.2)
  (fun s => ∃ i : Nat, s.2 = (i : Int) ∧ i ≤ evs.length ∧ RS s.1 (fun n => (DS q b d n ∧ n ≠ 0) ∨ ∃ e ∈ evs.take i, n = mkM q b d e.args ∧ n ≠ 0))
  (fun s => (evs.length - s.2).toNat) (fun L' => RS L' (fun n => (DS q b d n ∧ n ≠ 0) ∨ ∃ e ∈ evs, n = mkM q b d e.args ∧ n ≠ 0))
  (by
   rintro ⟨w, s⟩ ⟨i, rfl, hi, hw⟩
   simp only at hw ⊢
   by_cases he : i = evs.length
   ·subst he
    rw [List.take_length] at hw
    exact .inl ⟨w, by simp only [FM, ltI, AI], hw⟩
   ·right
    obtain ⟨x, hx, _⟩ := AY (l := evs) (i := i) (by omega)
    obtain ⟨tail, t1, _, rfl⟩ := (hev x).1 (List.mem_of_getElem? hx)
    rw [List.nil_append] at hx
    obtain ⟨l1, l2, m1, m2, m3⟩ := aHb hF hR hS hB hd tail (by simpa using t1)
    have hmlt : ∀ l, mkM q b d l < 4096 := fun l => Nat.lt_of_lt_of_le (F8 _ _) (show 2 ^ q.symbols.length ≤ 2 ^ 12 from Nat.pow_le_pow_right (by decide) hF.symbols)
    have hwl : w.length ≤ 4500 := Nat.le_trans (hw.len (m := 4096) fun n hn => by
     rcases hn with h | ⟨e, _, h, _⟩
     ·exact hDS h.1
     ·rw [h]; exact hmlt _) (by decide)
    have hstep : FM b (d : Int) evs q w (i : Int) = (AF (Oy b w (d : Int) evs (i : Int) ((mkM q b d tail : Nat) : Int) (!decide (((mkM q b d tail : Nat) : Int) = 0)) q) fun o => some (.inl (o, ((i + 1 : Nat) : Int)))) := by
     simp only [FM, ltD hx, AJ, aBf, AO hx, At hx (show evs.length ≤ 9223372036854775807 by omega)]
     rw [m1, AB, m2, AB, m3, AB]
     cases (Oy b w (d : Int) evs (i : Int) ((mkM q b d tail : Nat) : Int) (!decide (((mkM q b d tail : Nat) : Int) = 0)) q) <;> rfl
    rw [hstep]
    unfold Oy
    by_cases h0 : mkM q b d tail = 0
    ·refine ⟨(w, ((i + 1 : Nat) : Int)), by rw [h0]; rfl, ⟨i + 1, rfl, by omega, hw.congr fun n => ?_⟩, by simp only; omega⟩
     rw [List.take_add_one, hx]
     simp only [Option.toList_some, ma, List.mem_singleton]
     constructor
     ·rintro (h | ⟨e, he, h⟩)
      ·exact .inl h
      ·exact .inr ⟨e, .inl he, h⟩
     ·rintro (h | ⟨e, he | rfl, h, h'⟩)
      ·exact .inl h
      ·exact .inr ⟨e, he, h, h'⟩
      ·exact absurd (h.trans h0) h'
    ·obtain ⟨L2, p1, p2⟩ := hw.put hwl (mkM q b d tail)
     refine ⟨(L2, ((i + 1 : Nat) : Int)), by rw [decide_eq_false (by omega), Bool.not_false, AJ, p1]; rfl, ⟨i + 1, rfl, by omega, p2.congr fun n => ?_⟩, by simp only; omega⟩
     rw [List.take_add_one, hx]
     simp only [Option.toList_some, ma, List.mem_singleton]
     constructor
     ·rintro ((h | ⟨e, he, h⟩) | rfl)
      ·exact .inl h
      ·exact .inr ⟨e, .inl he, h⟩
      ·exact .inr ⟨_, .inr rfl, rfl, h0⟩
     ·rintro (h | ⟨e, he | rfl, h, h'⟩)
      ·exact .inl (.inl h)
      ·exact .inl (.inr ⟨e, he, h, h'⟩)
      ·exact .inr h)
  (L, (0 : Int)) ⟨0, rfl, by omega, hL.congr fun n => by simp⟩
 refine ⟨L', e1, e2.congr fun n => ?_⟩
 constructor
 ·rintro (⟨⟨d', dd', h1, h2, h3⟩, h0⟩ | ⟨e, he, h, h0⟩)
  ·exact ⟨⟨d', dd', by omega, h2, h3⟩, h0⟩
  ·obtain ⟨tail, t1, t2, rfl⟩ := (hev e).1 he
   refine ⟨⟨d, dd, by omega, hd, tail, by simpa using t1, fun j v t hj ht => t2 j v t hj (by simpa using ht), ?_⟩, h0⟩
   simpa using h
 ·rintro ⟨⟨d', dd', h1, h2, h3⟩, h0⟩
  by_cases hdd : d' = d
  ·subst hdd
   rw [hd] at h2; cases h2
   obtain ⟨args, a1, a2, rfl⟩ := h3
   exact .inr ⟨X3.mk dd.name args, (hev _).2 ⟨args, by simpa using a1, fun j v t hj ht => a2 j v t hj (by simpa using ht), by simp⟩, rfl, h0⟩
  ·exact .inl ⟨⟨d', dd', by omega, h2, h3⟩, h0⟩
theorem aQf {q : AE} (hF : DJ q) (hR : A6 q) (hS : DG q) (hT : ∀ d ∈ q.decls, ∀ t ∈ d.types, (1 : Int) ≤ t ∧ t ≤ 3) (h3 : ∀ d ∈ q.decls, d.types.length ≤ 3) {b : List X2} (hB : BR b) :
 ∃ L, Xr q b = some L ∧ RS L (aH2 q b) := by
 have hdl := hF.decls
 obtain ⟨L, e1, e2⟩ := A5 (step := fun s : List Int × Int => Gu b q s.1 s.2)
  (fun s => ∃ i : Nat, s.2 = (i : Int) ∧ i ≤ q.decls.length ∧ RS s.1 (fun n => DS q b i n ∧ n ≠ 0)) (fun s => (q.decls.length - s.2).toNat) (fun L => RS L (aH2 q b))
  (by
   rintro ⟨w, s⟩ ⟨i, rfl, hi, hw⟩
   simp only at hw ⊢
   by_cases he : i = q.decls.length
   ·subst he
    exact .inl ⟨w, by simp only [Gu, ltI, AI], hw⟩
   ·right
    obtain ⟨dd, hd, _⟩ := AY (l := q.decls) (i := i) (by omega)
    have h3' := h3 dd (List.mem_of_getElem? hd)
    obtain ⟨evs, f1, f2, f3⟩ := V1 hF hR hT hB hd h3' 100000 dd.types.length [] (by omega) (by simp)
    have hp := Mv h3'
    obtain ⟨L2, g1, g2⟩ := aSz hF hR hS hB hd f2 (by omega) hw
    refine ⟨(L2, ((i + 1 : Nat) : Int)), ?_, ⟨i + 1, rfl, by omega, g2⟩, by simp only; omega⟩
    have f1' : Y6 q (i : Int) b [] [] = some evs := f1
    simp only [Gu, ltD hd, AJ, At hd (show q.decls.length ≤ 9223372036854775807 by omega)]
    rw [f1', AB, g1, AB])
  ([], (0 : Int)) ⟨0, rfl, by omega, ⟨List.Pairwise.nil, fun x => ⟨fun h => by simp at h, fun ⟨n, _, ⟨_, _, h, _⟩, _⟩ => by omega⟩⟩⟩
 exact ⟨L, by unfold Xr aIk; rw [e1, AB], e2⟩
theorem Pw {q : AE} (hF : DJ q) (hR : A6 q) (hS : DG q) (hT : ∀ d ∈ q.decls, ∀ t ∈ d.types, (1 : Int) ≤ t ∧ t ≤ 3) (h3 : ∀ d ∈ q.decls, d.types.length ≤ 3) {b : List X2} (hB : BR b) :
 ∃ L, X4 q b = some L ∧ Xr q b = some L ∧ RS L (aH2 q b) := by
 obtain ⟨L, e1, e2⟩ := aPh hF hR hT h3 hB
 obtain ⟨M, f1, f2⟩ := aQf hF hR hS hT h3 hB
 exact ⟨L, e1, by rw [f1, e2.uniq f2], e2⟩
theorem Kz {σ τ : Type} {step : σ → Option (σ ⊕ τ)} {I : σ → Prop} (hI : ∀ s s', I s → step s = some (.inl s') → I s') {s : σ} {t : τ} (h0 : I s) (h : AW step s = some t) : ∃ s', I s' ∧ step s' = some (.inr t) := by
 obtain ⟨n, hn⟩ := Dg.1 h
 clear h
 induction n generalizing s with
 | zero => simp [itE] at hn
 | succ n ih =>
  simp only [itE] at hn
  split at hn
  ·cases hn
  ·rename_i s' hs; exact ih (hI s s' h0 hs) hn
  ·rename_i t' hs; cases hn; exact ⟨s, h0, hs⟩
theorem aMx {l : List X6} {i : Nat} {x : X6} (hx : l[i]? = some x) (hl : x.types.length ≤ 8) (h : aBw l (i : Int) 0 = some (.inl ())) : ∀ t ∈ x.types, 1 ≤ t ∧ t ≤ 3 := by
 have hstep : ∀ n : Nat, DW l (i : Int) (n : Int) = match x.types[n]? with
  | some t => if t < 1 ∨ 3 < t then some (.inr (.inr ())) else some (.inl ((n + 1 : Nat) : Int))
  | none => some (.inr (.inl ())) := fun n => by
  unfold DW
  rw [AO hx]
  cases ht : x.types[n]? with
  | none =>
   have := List.getElem?_eq_none_iff.1 ht
   rw [decide_eq_false (by omega), AI]
  | some t =>
   simp only [ltD ht, AJ, AO hx, AO ht, At ht (show x.types.length ≤ 9223372036854775807 by omega), CX]
   by_cases h1 : t < 1
   ·simp [h1]
   ·by_cases h2 : 3 < t
    ·simp [h1, h2]
    ·simp [h1, h2]
 obtain ⟨s', ⟨n, rfl, hn⟩, hs⟩ := Kz (step := fun s => DW l (i : Int) s) (I := fun s => ∃ n : Nat, s = (n : Int) ∧ ∀ j t, j < n → x.types[j]? = some t → 1 ≤ t ∧ t ≤ 3)
  (by
   rintro s s' ⟨n, rfl, hn⟩ hs
   rw [hstep] at hs
   cases ht : x.types[n]? with
   | none => rw [ht] at hs; cases hs
   | some t =>
    rw [ht] at hs
    simp only at hs
    split at hs
    ·cases hs
    ·rename_i hc
     cases hs
     refine ⟨n + 1, rfl, fun j u hj hu => ?_⟩
     by_cases hjn : j = n
     ·subst hjn; rw [ht] at hu; cases hu; omega
     ·exact hn j u (by omega) hu) ⟨0, rfl, fun j t hj => by omega⟩ h
 rw [hstep] at hs
 intro t ht
 obtain ⟨j, hj⟩ := List.mem_iff_getElem?.1 ht
 refine hn j t ?_ hj
 cases hx2 : x.types[n]? with
 | none =>
  have h1 := List.getElem?_eq_none_iff.1 hx2
  have h2 := (List.getElem?_eq_some_iff.1 hj).1
  omega
 | some u =>
  rw [hx2] at hs
  simp only at hs
  split at hs <;> cases hs
theorem aMw {l : List X6} (hl : l.length ≤ 1000) {o : Unit ⊕ (Int × Int)} (h : aBu l 0 = some o) (ho : ∀ r, o = .inr r → r.1 = 0) : ∀ d ∈ l, ∀ t ∈ d.types, 1 ≤ t ∧ t ≤ 3 := by
 have fwd : ∀ (n : Nat) (y : Int ⊕ (Unit ⊕ (Int × Int))), DV l (n : Int) = some y → (y = .inr (.inl ()) ∧ l.length ≤ n) ∨ (y = .inl ((n + 1 : Nat) : Int) ∧ ∀ d, l[n]? = some d → ∀ t ∈ d.types, 1 ≤ t ∧ t ≤ 3) ∨ ∃ r, y = .inr (.inr r) ∧ r.1 ≠ 0 := by
  intro n y hy
  unfold DV at hy
  rcases iS hy with ⟨h1, hy⟩ | ⟨h1, hy⟩
  ·have hlt : n < l.length := by have := of_decide_eq_true h1; omega
   obtain ⟨x, hx, _⟩ := AY hlt
   rw [AO hx] at hy
   obtain ⟨r2, _, hy⟩ := bS hy
   rcases iS hy with ⟨_, hy⟩ | ⟨_, hy⟩
   ·cases hy; exact .inr (.inr ⟨_, rfl, by simp⟩)
   rw [AO hx] at hy
   obtain ⟨r4, _, hy⟩ := bS hy
   rcases iS hy with ⟨_, hy⟩ | ⟨_, hy⟩
   ·cases hy; exact .inr (.inr ⟨_, rfl, by simp⟩)
   rw [AO hx] at hy
   rcases iS hy with ⟨_, hy⟩ | ⟨h8, hy⟩
   ·cases hy; exact .inr (.inr ⟨_, rfl, by simp⟩)
   have h8 := of_decide_eq_false h8
   obtain ⟨o11, h2, hy⟩ := bS hy
   cases o11 with
   | inl u =>
    cases hy
    refine .inr (.inl ⟨by rw [J9 (by omega)], fun d hd => ?_⟩)
    rw [hx] at hd; cases hd
    exact aMx hx (by omega) h2
   | inr u => cases hy; exact .inr (.inr ⟨_, rfl, by simp⟩)
  ·cases hy
   have := of_decide_eq_false h1
   exact .inl ⟨rfl, by omega⟩
 obtain ⟨s', ⟨n, rfl, hn⟩, hs⟩ := Kz (step := fun s => DV l s) (I := fun s => ∃ n : Nat, s = (n : Int) ∧ ∀ j d, j < n → l[j]? = some d → ∀ t ∈ d.types, 1 ≤ t ∧ t ≤ 3)
  (by
   rintro s s' ⟨n, rfl, hn⟩ hs
   rcases fwd n _ hs with ⟨h1, _⟩ | ⟨h1, h2⟩ | ⟨r, h1, _⟩
   ·cases h1
   ·cases h1
    refine ⟨n + 1, rfl, fun j d hj hd => ?_⟩
    by_cases hjn : j = n
    ·subst hjn; exact h2 d hd
    ·exact hn j d (by omega) hd
   ·cases h1) ⟨0, rfl, fun j d hj => by omega⟩ h
 rcases fwd n _ hs with ⟨h1, h2⟩ | ⟨h1, h2⟩ | ⟨r, h1, h2⟩
 ·intro d hd
  obtain ⟨j, hj⟩ := List.mem_iff_getElem?.1 hd
  exact hn j d (by have := (List.getElem?_eq_some_iff.1 hj).1; omega) hj
 ·cases h1
 ·cases h1; exact absurd (ho r rfl) h2
theorem LW {q : AE} (hF : DJ q) (h : Yr q = some true) : ∀ d ∈ q.decls, ∀ t ∈ d.types, (1 : Int) ≤ t ∧ t ≤ 3 := by
 unfold Yr at h
 obtain ⟨r1, h1, h⟩ := bS h
 rcases iS h with ⟨_, h⟩ | ⟨h2, h⟩
 ·cases h
 have hr : r1.1 = 0 := by simpa using h2
 unfold Xv at h1
 rcases iS h1 with ⟨_, h1⟩ | ⟨_, h1⟩
 ·cases h1; simp at hr
 obtain ⟨o14, h3, h1⟩ := bS h1
 have hd := hF.decls
 refine aMw (by omega) h3 fun r hr2 => ?_
 subst hr2
 cases h1
 exact hr
theorem M0 {q : AE} {b : List X2} (h : Ys q b = some true) : Yr q = some true := by
 unfold Ys at h
 obtain ⟨r1, _, h⟩ := bS h
 rcases iS h with ⟨_, h⟩ | ⟨_, h⟩
 ·cases h
 obtain ⟨r2, h2, h⟩ := bS h
 rcases iS h with ⟨_, h⟩ | ⟨h3, h⟩
 ·cases h
 cases r2 with
 | true => exact h2
 | false => cases h3
theorem Pt {q : AE} (hF : DJ q) (hR : A6 q) (hT : ∀ d ∈ q.decls, ∀ t ∈ d.types, (1 : Int) ≤ t ∧ t ≤ 3) {b : List X2} (hB : BR b) {d : Nat} {dd : X6} (hd : q.decls[d]? = some dd) {args : List X0} (hl : args.length = dd.types.length) (hv : ∀ (j : Nat) v t, args[j]? = some v → dd.types[j]? = some t → v.kind = t ∧ vR v = true) :
 ∃ args' : List X0, MS q b d dd dd.types.length (mkM q b d args') ∧ mkM q b d args' = mkM q b d args := by
 have key : ∀ n, n ≤ args.length → ∃ bs : List X0, bs.length = n ∧ (∀ (j : Nat) v t, bs[j]? = some v → dd.types[j]? = some t → VS q b t v) ∧ ∀ (j : Nat) v v', bs[j]? = some v' → args[j]? = some v → ∀ s ∈ q.symbols, ∀ a ∈ s.args, KC b a v' = KC b a v := by
  intro n
  induction n with
  | zero => intro _; exact ⟨[], rfl, (fun j v t h => by simp at h), fun j v v' h => by simp at h⟩
  | succ n ih =>
   intro hn
   obtain ⟨bs, a1, a2, a3⟩ := ih (by omega)
   obtain ⟨v, hvn, _⟩ := AY (l := args) (i := n) (by omega)
   obtain ⟨t, ht, _⟩ := AY (l := dd.types) (i := n) (by omega)
   obtain ⟨jl, rl, _, hrl, hV⟩ := M3 hF hR hB hd ht (M2 hT hd ht)
   obtain ⟨hk, hvr⟩ := hv n v t hvn ht
   obtain ⟨v', hv', hfit⟩ := hV.whole v hvr hk
   have split1 : ∀ (j : Nat) w, (bs ++ [v'])[j]? = some w → (bs[j]? = some w) ∨ (j = n ∧ w = v') := fun j w hj => by
    by_cases hjl : j < bs.length
    ·rw [List.getElem?_append_left hjl] at hj; exact .inl hj
    ·have hj3 := (List.getElem?_eq_some_iff.1 hj).1
     simp at hj3
     have : j = n := by omega
     subst this
     rw [← a1, List.getElem?_append_right (Nat.le_refl _)] at hj
     simp at hj
     exact .inr ⟨rfl, hj.symm⟩
   refine ⟨bs ++ [v'], by simp [a1], fun j w t' hj ht' => ?_, fun j w w' hj hw => ?_⟩
   ·rcases split1 j w hj with h | ⟨rfl, rfl⟩
    ·exact a2 j w t' h ht'
    ·rw [ht] at ht'; cases ht'; exact ⟨rl, hrl, hv'⟩
   ·rcases split1 j w' hj with h | ⟨rfl, rfl⟩
    ·exact a3 j w w' h hw
    ·rw [hvn] at hw; cases hw; exact hfit
 obtain ⟨bs, a1, a2, a3⟩ := key args.length (Nat.le_refl _)
 refine ⟨bs, ⟨bs, by omega, a2, rfl⟩, ?_⟩
 unfold mkM
 congr 1
 funext i
 unfold Kk
 cases hs : q.symbols[i]? with
 | none => rfl
 | some s =>
  simp only
  congr 1
  have hsm := List.mem_of_getElem? hs
  rw [Bool.eq_iff_iff, List.all_eq_true, List.all_eq_true]
  have go : ∀ (xs ys : List X0), xs.length = ys.length → (∀ (j : Nat) v v', xs[j]? = some v' → ys[j]? = some v → ∀ s ∈ q.symbols, ∀ a ∈ s.args, KC b a v' = KC b a v) → (∀ z ∈ s.args.zip xs, KC b z.1 z.2 = true) → ∀ z ∈ s.args.zip ys, KC b z.1 z.2 = true := fun xs ys hxy hj h z hz => by
   obtain ⟨j, hzj⟩ := List.mem_iff_getElem?.1 hz
   rw [List.getElem?_zip_eq_some] at hzj
   obtain ⟨h1, h2⟩ := hzj
   obtain ⟨x, hx, _⟩ := AY (l := xs) (i := j) (by have := (List.getElem?_eq_some_iff.1 h2).1; omega)
   have := h (z.1, x) (List.mem_of_getElem? (i := j) (List.getElem?_zip_eq_some.2 ⟨h1, hx⟩))
   rw [← hj j z.2 x hx h2 s hsm z.1 (List.mem_of_getElem? h1)]
   exact this
  exact ⟨go bs args a1 a3, go args bs a1.symm fun j v v' hv hv' s hs a ha => (a3 j v' v hv' hv s hs a ha).symm⟩
theorem aFc {a : List X0} {t : List Int} (h : KX a t = true) : a.length = t.length ∧ ∀ (j : Nat) v u, a[j]? = some v → t[j]? = some u → v.kind = u ∧ vR v = true := by
 unfold KX at h
 simp only [ba, decide_eq_true_eq, List.all_eq_true] at h
 exact ⟨h.1, fun j v u hv hu => h.2 (v, u) (List.mem_of_getElem? (i := j) (List.getElem?_zip_eq_some.2 ⟨hv, hu⟩))⟩
theorem aKc {l : List X6} {e : X3} (h : eR l e = true) : ∃ (d : Nat) (dd : X6), l[d]? = some dd ∧ dd.name = e.name ∧ KX e.args dd.types = true := by
 unfold eR at h
 split at h
 ·cases h
 ·rename_i i hi
  split at h
  ·cases h
  ·rename_i d hd
   refine ⟨i, d, hd, ?_, h⟩
   unfold EW at hi
   split at hi
   ·rename_i hany
    cases hi
    have h1 := List.findIdx_lt_length_of_exists (List.any_eq_true.1 hany)
    have h2 := List.findIdx_getElem (w := h1)
    have h3 := (List.getElem?_eq_some_iff.1 hd).2
    rw [h3] at h2
    simpa using h2
   ·cases hi
theorem aOf {q : AE} (hF : DJ q) (hR : A6 q) (hS : DG q) (hT : ∀ d ∈ q.decls, ∀ t ∈ d.types, (1 : Int) ≤ t ∧ t ≤ 3) {b : List X2} (hB : BR b) {e : X3} (he : e.args.length ≤ 12) :
 ∃ n : Nat, Qa q b e = some (n : Int) ∧ Z8 q b e = some (n : Int) ∧ (n = 0 ∨ aH2 q b n) := by
 have hsy := hF.symbols
 have hbl := M6 hB
 have hd12 := hF.decls
 have hOf : ∀ (l : List AN) (n : Nat), (Zz (D9 q e) b = some l) → aHv q.symbols.length l → Yk l = some (n : Int) → Z8 q b e = some (n : Int) := fun l n h1 h2 h3 => by
  obtain ⟨M, hM, hM64, hMb⟩ := Po hsy h2
  rw [h3] at hM
  have hnM : n = M := by
   have := Option.some.inj hM; omega
  subst hnM
  have hln := h2.len
  obtain ⟨o, ho, V, rfl, hQ⟩ := A5 (step := fun s : Int × Int => HQ l (l.length : Int) s.1 s.2)
   (fun s => ∃ (j v : Nat), s = ((v : Int), (j : Int)) ∧ j ≤ l.length ∧ v < 4096 ∧ ∀ k : Nat, v.testBit k = true ↔ ∃ x ∈ l.take j, x.symbol = (k : Int))
   (fun s => (l.length - s.2).toNat)
   (fun o => ∃ V : Nat, o = (V : Int) ∧ ∀ k : Nat, V.testBit k = true ↔ ∃ x ∈ l, x.symbol = (k : Int))
   (by
    rintro s ⟨j, v, rfl, hj, hv, hm⟩
    by_cases he : j = l.length
    ·subst he
     exact .inl ⟨(v : Int), by simp only [HQ, ltI, AI], v, rfl, fun k => by rw [hm k, List.take_length]⟩
    ·right
     obtain ⟨y, hy, _⟩ := AY (l := l) (i := j) (by omega)
     have hsy2 := h2.sym y (List.mem_of_getElem? hy)
     obtain ⟨z, hz⟩ : ∃ z : Nat, y.symbol = (z : Int) := ⟨y.symbol.toNat, by omega⟩
     have hz12 : z < 12 := by omega
     have hwz2 : IntKind.wrap .u64 (z : Int) = (z : Int) := BO (by omega)
     have hp : 2 ^ z < 2 ^ 12 := Nat.pow_lt_pow_right (by decide) hz12
     have htake : l.take (j + 1) = l.take j ++ [y] := by rw [List.take_add_one, hy]; rfl
     refine ⟨(((v ||| 2 ^ z : Nat) : Int), ((j + 1 : Nat) : Int)), ?_, ⟨j + 1, v ||| 2 ^ z, rfl, by omega, Nat.or_lt_two_pow (n := 12) hv hp, fun k => ?_⟩, by simp only; omega⟩
     ·simp only [HQ, ltD hy, AJ, AO hy, hz, hwz2, BK (show (0 : Int) ≤ (z : Int) by omega), At hy (show l.length ≤ 9223372036854775807 by omega)]
      rw [aGi (by omega), orU (by omega) (by omega)]
     ·rw [Nat.testBit_or, Nat.testBit_two_pow, Bool.or_eq_true, decide_eq_true_eq, hm k, htake]
      constructor
      ·rintro (⟨x, hx, a⟩ | h)
       ·exact ⟨x, ml _ hx, a⟩
       ·exact ⟨y, by simp, by rw [hz, h]⟩
      ·rintro ⟨x, hx, a⟩
       rcases ma.1 hx with g | g
       ·exact .inl ⟨x, g, a⟩
       ·rw [List.mem_singleton.1 g] at a; exact .inr (by omega))
   ((0 : Int), (0 : Int)) ⟨0, 0, rfl, by omega, by decide, fun k => by simp⟩
  have hVM : V = n := Jm fun k => by rw [hQ k, hMb k]
  unfold Z8 aJg
  rw [aOn hF hR he, AB, h1, AB, ho, AB, hVM]
 unfold Qa
 rw [aRx _ _ (by omega) (by omega), AB]
 cases hE : eR q.decls e with
 | false =>
  have hh : D9 q e = [] := by unfold D9; rw [hE]; rfl
  refine ⟨0, rfl, ?_, .inl rfl⟩
  refine hOf [] 0 ?_ ⟨⟨by simp, List.Pairwise.nil, by simp⟩, by simp⟩ ?_
  ·rw [hh, aMq (by simp) (by simp) (by omega)]; rfl
  ·unfold Yk
   rw [aDz]; rfl
 | true =>
  obtain ⟨d, dd, hd, hn, ha⟩ := aKc hE
  obtain ⟨hlen, hv⟩ := aFc ha
  obtain ⟨l1, l2, m1, m2, m3⟩ := aHb hF hR hS hB hd e.args hlen
  have hee : X3.mk dd.name e.args = e := by rw [hn]
  rw [hee] at m1
  rw [Bool.not_true, AI, m1, AB, m2, AB, m3, AB]
  obtain ⟨args', hms, hmk⟩ := Pt hF hR hT hB hd hlen hv
  have hh : D9 q e = (List.range q.symbols.length).filterMap fun i => EX q i e := by unfold D9; rw [hE, if_pos rfl]
  have hl1 : l1 = D9 q e := by
   rw [aLz hF hR] at m1
   rw [hh]; exact (Option.some.inj m1).symm
  subst hl1
  have hlen1 : (D9 q e).length ≤ 1000 := by
   rw [hh]
   have h2 := List.length_filterMap_le (fun i => EX q i e) (List.range q.symbols.length)
   rw [List.length_range] at h2; omega
  have hbind : ∀ h ∈ D9 q e, h.bind.length ≤ 9223372036854775807 := fun h hm => by
   have := (aKh hF hR hm).2.2.1; omega
  refine ⟨_, rfl, ?_, ?_⟩
  ·have hU := aMq hlen1 hbind (b := b) (by omega)
   have hl2 : l2 = (D9 q e).filter fun h => BY h.bind b := by
    rw [aL1 hlen1 hbind (by omega)] at m2
    exact (Option.some.inj m2).symm
   refine hOf l2 _ (by rw [hU, hl2]) ?_ m3
   rw [hl2, hh]
   exact Iv hF hR hS e b
  ·by_cases h0 : mkM q b d e.args = 0
   ·exact .inl h0
   ·exact .inr ⟨⟨d, dd, (List.getElem?_eq_some_iff.1 hd).1, hd, hmk ▸ hms⟩, h0⟩
theorem aM4 (b : List X2) (q : AE) (e : X3) (he : e.args.length ≤ 12) : ∃ o, aIo b q e 0 = some o ∧ (o = .inl () ∨ o = .inr true) := by
 obtain ⟨t, h1, h2⟩ := Ah (step := fun s => G0 b q e s) e.args.length (fun _ => True) (fun o => o = .inl () ∨ o = .inr true)
  (fun i hi => by
   obtain ⟨x, hx, _⟩ := AY hi
   simp only [G0, ltD hx, AJ, AO hx, aMh, AB, At hx (show e.args.length ≤ 9223372036854775807 by omega), CX]
   split
   ·exact .inr ⟨_, rfl, .inr rfl⟩
   ·exact .inl ⟨rfl, trivial⟩)
  (fun _ => ⟨.inl (), by simp only [G0, ltI, AI], .inl rfl⟩)
 exact ⟨t, h1, h2⟩
theorem aM5 (b : List X2) (L : List Int) (x : Int) (q : AE) (e : X3) (hL : L.length ≤ 5000) (m : Bool) (hm : m = true ∨ x ∈ L) : aIp b L L x q e m 0 = some (.inl true) := by
 obtain ⟨o, h1, h2⟩ := A5 (step := fun s : Bool × Int => G1 b L L x q e s.1 s.2) (fun s => ∃ i : Nat, s.2 = (i : Int) ∧ i ≤ L.length ∧ (s.1 = true ∨ x ∈ L.drop i)) (fun s => (L.length - s.2).toNat) (fun o => o = .inl true)
  (by
   rintro ⟨m, s⟩ ⟨i, rfl, hi, hm⟩
   simp only at hm ⊢
   by_cases he : i = L.length
   ·subst he
    rw [List.drop_length] at hm
    refine .inl ⟨.inl m, by simp only [G1, ltI, AI], ?_⟩
    rcases hm with h | h
    ·rw [h]
    ·cases h
   ·right
    obtain ⟨y, hy, hdr⟩ := AY (l := L) (i := i) (by omega)
    refine ⟨(m || decide (y = x), ((i + 1 : Nat) : Int)), ?_, ⟨i + 1, rfl, by omega, ?_⟩, by simp only; omega⟩
    ·simp only [G1, ltD hy, AJ, AO hy, decide_true, Bool.not_true, AI, At hy (show L.length ≤ 9223372036854775807 by omega)]
     cases m with
     | true => rfl
     | false => rfl
    ·rw [hdr] at hm
     rcases hm with h | h
     ·exact .inl (by simp [h])
     ·rcases mc.1 h with h | h
      ·exact .inl (by simp [h])
      ·exact .inr h)
  (m, (0 : Int)) ⟨0, rfl, by omega, by simpa using hm⟩
 rw [← h2]; exact h1
theorem aQp (q : AE) (b : List X2) (e : X3) (hW : ∀ t ∈ q.trans, KJ t) (hb : b.length ≤ 9223372036854775807) (he : e.args.length ≤ 9223372036854775807) : Xy q b e = some true := by
 obtain ⟨r, hr, hP⟩ := aRg q b hW hb
 unfold Xy
 rw [hr, AB, aMh]
 cases r with
 | false => rfl
 | true =>
  obtain ⟨hF, hR, hS, _, hB, h3⟩ := hP rfl
  have hT := LW hF (M0 hr)
  rw [Bool.not_true, AI, CX]
  split
  ·rfl
  ·rename_i h12
   have he12 : e.args.length ≤ 12 := by omega
   obtain ⟨o, ho, hoc⟩ := aM4 b q e he12
   rw [ho, AB]
   rcases hoc with rfl | rfl
   ·obtain ⟨L, e1, e2, hL⟩ := Pw hF hR hS hT h3 hB
    obtain ⟨n, f1, f2, f3⟩ := aOf hF hR hS hT hB he12
    have hlen : L.length ≤ 5000 := Nat.le_trans (hL.len fun n hn => Pv hF hn) (by decide)
    rw [BU, e2, AB, e1, AB, decide_eq_true rfl, Bool.not_true, AI, f1, AB, aM5 b L (n : Int) q e hlen _ (by
     rcases f3 with h | h
     ·exact .inl (by simp [h])
     ·exact .inr ((hL.is _).2 ⟨n, rfl, h⟩)), AB, BU, AJ, f2, AB]
    simp [AF, AD]
   ·rfl
end
end Go.Ac
