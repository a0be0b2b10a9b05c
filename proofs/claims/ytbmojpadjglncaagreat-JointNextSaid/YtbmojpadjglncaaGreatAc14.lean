/- Own work: how calls of the model run over plain data. -/
import Derived.Test.YtbmojpadjglncaaGreatAc13
set_option linter.unusedVariables false
set_option linter.unusedSimpArgs false
namespace Go.Ac

structure Rc where
  dst : Option Tmp
  r : A
  es : List Ed
def Ed.name : Ed → Nat
  | .add n _ => n
  | .chg n _ => n
def Ed.bk : Ed → Bk
  | .add _ b => b
  | .chg _ b => b
def Rc.ap (c : Rc) (s : St) : St := (s.edit c.es).put c.dst c.r
def Rc.free (c : Rc) (d : Nat) : Bool := !c.r.has d && c.es.all fun e => e.name != d && !e.bk.has d
structure Dr where
  c : Rc
  ts : List Nat
  vs : List A
  ns : List Nat

theorem bxHas_of {n : Nat} : ∀ {B : Bx}, (∀ p ∈ B, p.1 ≠ n ∧ p.2.has n = false) → bxHas n B = false
  | [], _ => rfl
  | p :: B, h => by
    simp only [bxHas, Bool.or_eq_false_iff, beq_eq_false_iff_ne]
    exact ⟨h p (by simp), bxHas_of fun q hq => h q (by simp [hq])⟩
theorem hasAny_set {n : Nat} {r : A} (hr : r.has n = false) : ∀ (l : List A) (i : Nat), hasAny n l = false → hasAny n (l.set i r) = false
  | [], _, h => h
  | a :: l, 0, h => by
    simp only [hasAny, Bool.or_eq_false_iff, List.set_cons_zero] at h ⊢
    exact ⟨hr, h.2⟩
  | a :: l, i + 1, h => by
    simp only [hasAny, Bool.or_eq_false_iff, List.set_cons_succ] at h ⊢
    exact ⟨h.1, hasAny_set hr l i h.2⟩
theorem bxHas_applyEd {n : Nat} {B : Bx} {e : Ed} (hB : bxHas n B = false) (h1 : e.name ≠ n) (h2 : e.bk.has n = false) : bxHas n (applyEd B e) = false := by
  refine bxHas_of fun p hp => ?_
  cases e with
  | add m b =>
    rcases List.mem_cons.1 ((insB_perm m b B).mem_iff.1 hp) with rfl | hp
    · exact ⟨h1, h2⟩
    · exact bxHas_spec hB p hp
  | chg m b =>
    rcases updB_mem hp with rfl | ⟨hp, _⟩
    · exact ⟨h1, h2⟩
    · exact bxHas_spec hB p hp
theorem bxHas_edits {n : Nat} : ∀ {es : List Ed} {B : Bx}, bxHas n B = false → (es.all fun e => e.name != n && !e.bk.has n) = true → bxHas n (es.foldl applyEd B) = false
  | [], B, hB, _ => hB
  | e :: es, B, hB, h => by
    simp only [List.all_cons, Bool.and_eq_true, bne_iff_ne, Bool.not_eq_true'] at h
    exact bxHas_edits (B := applyEd B e) (bxHas_applyEd hB h.1.1 h.1.2) h.2
theorem Rc.fresh_ap {c : Rc} {d : Nat} {s : St} (h : fresh d s = true) (hc : c.free d = true) : fresh d (c.ap s) = true := by
  obtain ⟨f1, f2, f3⟩ := fresh_and h
  simp only [Rc.free, Bool.and_eq_true, Bool.not_eq_true'] at hc
  have h3 : bxHas d (c.ap s).B = false := by
    have : (c.ap s).B = c.es.foldl applyEd s.B := by unfold Rc.ap; cases c.dst <;> rfl
    rw [this]; exact bxHas_edits f3 hc.2
  have h2 : hasAny d (c.ap s).E = false := by
    unfold Rc.ap
    cases c.dst with
    | none => exact f2
    | some t => exact hasAny_set hc.1 _ _ f2
  simp only [fresh, f1, h2, h3, decide_true, Bool.not_false, Bool.and_self]

structure FP (ts : List Nat) (N : Nat → Bool) (s s' : St) : Prop where
  len : s'.E.length = s.E.length
  e : ∀ t ∈ ts, s'.E[t]? = s.E[t]?
  b : ∀ n, N n = true → lk s'.B n = lk s.B n
theorem FP.refl (ts N s) : FP ts N s s := ⟨rfl, fun _ _ => rfl, fun _ _ => rfl⟩
theorem FP.symm {ts N s s'} (h : FP ts N s s') : FP ts N s' s := ⟨h.len.symm, fun t ht => (h.e t ht).symm, fun n hn => (h.b n hn).symm⟩
theorem FP.trans {ts N s s' s''} (h : FP ts N s s') (g : FP ts N s' s'') : FP ts N s s'' := ⟨g.len.trans h.len, fun t ht => (g.e t ht).trans (h.e t ht), fun n hn => (g.b n hn).trans (h.b n hn)⟩

theorem lk_cons (p : Nat × Bk) (B : Bx) (n : Nat) : lk (p :: B) n = if p.1 = n then some p.2 else lk B n := by
  unfold lk
  rw [List.find?_cons]
  by_cases h : p.1 = n
  · simp [h]
  · rw [if_neg h]
    have : (p.1 == n) = false := by simpa using h
    simp [this]
theorem lk_insB (m : Nat) (b : Bk) (n : Nat) : ∀ B : Bx, lk (insB m b B) n = if m = n then some b else lk B n
  | [] => by simp [insB, lk_cons]
  | p :: B => by
    simp only [insB]
    split
    · rw [lk_cons]
    · rename_i hle
      rw [lk_cons, lk_insB m b n B, lk_cons]
      by_cases h1 : p.1 = n
      · rw [if_pos h1, if_pos h1]
        by_cases h2 : m = n
        · exfalso; apply hle; subst h1; subst h2; exact Nat.ble_eq_true_of_le (Nat.le_refl _)
        · rw [if_neg h2]
      · rw [if_neg h1, if_neg h1]
theorem lk_updB (m : Nat) (b : Bk) (n : Nat) : ∀ B : Bx, lk (updB B m b) n = if m = n then (lk B n).map fun _ => b else lk B n
  | [] => by simp [updB, lk]
  | p :: B => by
    have ih := lk_updB m b n B
    simp only [updB, List.map_cons] at ih ⊢
    rw [lk_cons, lk_cons, ih]
    by_cases h1 : p.1 = m
    · rw [if_pos h1]
      by_cases h2 : m = n
      · subst h2; simp [h1]
      · have : ¬ p.1 = n := fun e => h2 (h1.symm.trans e)
        simp only [h2, if_false, this]
    · rw [if_neg h1]
      by_cases h2 : m = n
      · subst h2; simp [h1]
      · simp [h2]
theorem lk_applyEd_congr {B B' : Bx} {n : Nat} (e : Ed) (h : lk B' n = lk B n) : lk (applyEd B' e) n = lk (applyEd B e) n := by
  cases e <;> simp only [applyEd, lk_insB, lk_updB, h]
theorem lk_applyEd_other {B : Bx} {n : Nat} {e : Ed} (h : e.name ≠ n) : lk (applyEd B e) n = lk B n := by
  cases e <;> simp only [Ed.name] at h <;> simp only [applyEd, lk_insB, lk_updB, h, if_false]
theorem lk_edits_congr {n : Nat} : ∀ (es : List Ed) {B B' : Bx}, lk B' n = lk B n → lk (es.foldl applyEd B') n = lk (es.foldl applyEd B) n
  | [], _, _, h => h
  | e :: es, _, _, h => lk_edits_congr es (lk_applyEd_congr e h)
theorem lk_edits_other {n : Nat} : ∀ (es : List Ed) {B : Bx}, (∀ e ∈ es, e.name ≠ n) → lk (es.foldl applyEd B) n = lk B n
  | [], _, _ => rfl
  | e :: es, B, h => (lk_edits_other es (B := applyEd B e) fun f hf => h f (by simp [hf])).trans (lk_applyEd_other (h e (by simp)))

theorem Rc.ap_B (c : Rc) (s : St) : (c.ap s).B = c.es.foldl applyEd s.B := by unfold Rc.ap; cases c.dst <;> rfl
theorem FP.ap {ts N s s'} (c : Rc) (h : FP ts N s s') : FP ts N (c.ap s) (c.ap s') := by
  refine ⟨?_, ?_, fun n hn => ?_⟩
  · unfold Rc.ap
    cases c.dst with
    | none => exact h.len
    | some d => simp only [St.put, List.length_set, St.edit]; exact h.len
  · intro t ht
    unfold Rc.ap
    cases c.dst with
    | none => exact h.e t ht
    | some d =>
      simp only [St.put, St.edit, List.getElem?_set, h.len, h.e t ht]
  · rw [Rc.ap_B, Rc.ap_B]
    exact lk_edits_congr _ (h.b n hn)
def indep (a : Rc) (b : Dr) : Bool :=
  (match a.dst with | none => true | some d => !b.ts.contains d) && a.es.all fun e => !hasAny e.name b.vs
theorem FP.other {a : Rc} {b : Dr} (h : indep a b = true) (s : St) : FP b.ts (fun n => hasAny n b.vs) s (a.ap s) := by
  simp only [indep, Bool.and_eq_true] at h
  refine ⟨?_, ?_, fun n hn => ?_⟩
  · unfold Rc.ap
    cases a.dst with
    | none => rfl
    | some d => simp only [St.put, List.length_set, St.edit]
  · intro t ht
    unfold Rc.ap
    cases hd : a.dst with
    | none => rfl
    | some d =>
      have h1 := h.1
      rw [hd] at h1
      simp only [Bool.not_eq_true', List.contains_eq_mem, decide_eq_false_iff_not] at h1
      have : d ≠ t := fun e => h1 (e ▸ ht)
      simp only [St.put, St.edit, List.getElem?_set, this, if_false]
  · rw [Rc.ap_B]
    refine lk_edits_other _ fun e he hne => ?_
    have := List.all_eq_true.1 h.2 e he
    rw [hne, hn] at this
    cases this

def sig (fl : Nat → Bool) : Nat → List Dr → St → St
  | _, [], s => s
  | k, d :: ds, s => sig fl (k + 1) ds (if fl k then d.c.ap s else s)

theorem sig_fp {b : Dr} {fl fl' : Nat → Bool} : ∀ (ds : List Dr) (k : Nat) {s s' : St}, (∀ i d, ds[i]? = some d → fl (k + i) ≠ fl' (k + i) → indep d.c b = true) →
    FP b.ts (fun n => hasAny n b.vs) s s' → FP b.ts (fun n => hasAny n b.vs) (sig fl k ds s) (sig fl' k ds s')
  | [], _, _, _, _, h => h
  | d :: ds, k, s, s', hd, h => by
    simp only [sig]
    refine sig_fp ds (k + 1) (fun i d' hi hne => hd (i + 1) d' (by simpa using hi) (by simpa [Nat.add_assoc, Nat.add_comm 1 i] using hne)) ?_
    have h0 := hd 0 d (by simp)
    simp only [Nat.add_zero] at h0
    cases h1 : fl k <;> cases h2 : fl' k <;> simp only [if_true, Bool.false_eq_true, if_false]
    · exact h
    · exact h.trans (FP.other (h0 (by simp [h1, h2])) s')
    · exact (FP.other (h0 (by simp [h1, h2])) s).symm.trans h
    · exact h.ap d.c
theorem sig_fresh {fl : Nat → Bool} {n : Nat} : ∀ (ds : List Dr) (k : Nat) {s : St}, (∀ i d, ds[i]? = some d → fl (k + i) = true → d.c.free n = true) → fresh n s = true → fresh n (sig fl k ds s) = true
  | [], _, _, _, h => h
  | d :: ds, k, s, hd, h => by
    simp only [sig]
    refine sig_fresh ds (k + 1) (fun i d' hi hne => hd (i + 1) d' (by simpa using hi) (by simpa [Nat.add_assoc, Nat.add_comm 1 i] using hne)) ?_
    cases h1 : fl k <;> simp only [if_true, Bool.false_eq_true, if_false]
    · exact h
    · exact Rc.fresh_ap h (hd 0 d (by simp) (by simpa using h1))

theorem insB_comm {m n : Nat} (hne : m ≠ n) (b c : Bk) : ∀ B : Bx, insB m b (insB n c B) = insB n c (insB m b B)
  | [] => by
    simp only [insB]
    rcases Nat.lt_or_gt_of_ne hne with h | h
    · have h1 : Nat.ble m n = true := Nat.ble_eq_true_of_le (Nat.le_of_lt h)
      have h2 : Nat.ble n m = false := by
        cases hh : Nat.ble n m with
        | false => rfl
        | true => exact absurd (Nat.le_of_ble_eq_true hh) (Nat.not_le.2 h)
      simp [h1, h2]
    · have h1 : Nat.ble n m = true := Nat.ble_eq_true_of_le (Nat.le_of_lt h)
      have h2 : Nat.ble m n = false := by
        cases hh : Nat.ble m n with
        | false => rfl
        | true => exact absurd (Nat.le_of_ble_eq_true hh) (Nat.not_le.2 h)
      simp [h1, h2]
  | p :: B => by
    have ih := insB_comm hne b c B
    have hb : ∀ x y : Nat, Nat.ble x y = true ↔ x ≤ y := fun x y => by simp
    simp only [insB]
    by_cases h1 : m ≤ p.1 <;> by_cases h2 : n ≤ p.1
    · rcases Nat.lt_or_gt_of_ne hne with h | h
      · have : ¬ n ≤ m := Nat.not_le.2 h
        simp [insB, h1, h2, Nat.le_of_lt h, this]
      · have : ¬ m ≤ n := Nat.not_le.2 h
        simp [insB, h1, h2, Nat.le_of_lt h, this]
    · have : ¬ n ≤ m := fun h => h2 (Nat.le_trans h h1)
      simp [insB, h1, h2, this]
    · have : ¬ m ≤ n := fun h => h1 (Nat.le_trans h h2)
      simp [insB, h1, h2, this]
    · simp [insB, h1, h2, ih]
theorem updB_insB {m n : Nat} (hne : m ≠ n) (b c : Bk) : ∀ B : Bx, updB (insB n c B) m b = insB n c (updB B m b)
  | [] => by simp [insB, updB, Ne.symm hne]
  | p :: B => by
    have ih := updB_insB hne b c B
    have he : (if p.1 = m then (m, b) else p).1 = p.1 := by split <;> simp_all
    simp only [insB, updB, List.map_cons, he] at ih ⊢
    split
    · simp only [List.map_cons, Ne.symm hne, if_false]
    · simp only [List.map_cons, ih]
theorem updB_comm {m n : Nat} (hne : m ≠ n) (b c : Bk) (B : Bx) : updB (updB B n c) m b = updB (updB B m b) n c := by
  simp only [updB, List.map_map]
  apply List.map_congr_left
  intro p _
  simp only [Function.comp_apply]
  by_cases h1 : p.1 = n
  · have h2 : ¬ p.1 = m := fun e => hne (e.symm.trans h1)
    simp [h1, h2, Ne.symm hne]
  · by_cases h2 : p.1 = m
    · simp [h1, h2, hne]
    · simp [h1, h2]
theorem applyEd_comm {e f : Ed} (h : e.name ≠ f.name) (B : Bx) : applyEd (applyEd B f) e = applyEd (applyEd B e) f := by
  cases e <;> cases f <;> simp only [Ed.name] at h <;> simp only [applyEd]
  · exact insB_comm h _ _ _
  · exact (updB_insB (Ne.symm h) _ _ _).symm
  · exact updB_insB h _ _ _
  · exact updB_comm h _ _ _
theorem edits_comm1 {e : Ed} : ∀ (fs : List Ed) (B : Bx), (∀ f ∈ fs, e.name ≠ f.name) → applyEd (fs.foldl applyEd B) e = fs.foldl applyEd (applyEd B e)
  | [], _, _ => rfl
  | f :: fs, B, h => by
    simp only [List.foldl_cons]
    rw [edits_comm1 fs _ fun g hg => h g (by simp [hg]), applyEd_comm (h f (by simp))]
theorem edits_comm : ∀ (es fs : List Ed) (B : Bx), (∀ e ∈ es, ∀ f ∈ fs, e.name ≠ f.name) → es.foldl applyEd (fs.foldl applyEd B) = fs.foldl applyEd (es.foldl applyEd B)
  | [], _, _, _ => rfl
  | e :: es, fs, B, h => by
    simp only [List.foldl_cons]
    rw [edits_comm1 fs B (h e (by simp)), edits_comm es fs _ fun g hg => h g (by simp [hg])]
def commB (a b : Rc) : Bool :=
  (match a.dst, b.dst with | some x, some y => x != y | _, _ => true) && a.es.all fun e => b.es.all fun f => e.name != f.name
theorem ap_comm {a b : Rc} (h : commB a b = true) (s : St) : a.ap (b.ap s) = b.ap (a.ap s) := by
  simp only [commB, Bool.and_eq_true] at h
  have hB : a.es.foldl applyEd (b.es.foldl applyEd s.B) = b.es.foldl applyEd (a.es.foldl applyEd s.B) := edits_comm _ _ _ fun e he f hf => by
    have := List.all_eq_true.1 (List.all_eq_true.1 h.2 e he) f hf
    simpa using this
  obtain ⟨da, ra, ea⟩ := a
  obtain ⟨db, rb, eb⟩ := b
  simp only at h hB
  cases da <;> cases db <;> simp only [Rc.ap, St.put, St.edit, hB]
  simp only [bne_iff_ne] at h
  rw [List.set_comm _ _ (Ne.symm h.1)]
theorem sig_ap {fl : Nat → Bool} {c : Rc} : ∀ (ds : List Dr) (k : Nat) (s : St), (∀ i d, ds[i]? = some d → fl (k + i) = true → commB d.c c = true) → sig fl k ds (c.ap s) = c.ap (sig fl k ds s)
  | [], _, _, _ => rfl
  | d :: ds, k, s, h => by
    simp only [sig]
    have h' : ∀ i d, ds[i]? = some d → fl (k + 1 + i) = true → commB d.c c = true := fun i d' hi hf => h (i + 1) d' (by simpa using hi) (by simpa [Nat.add_assoc, Nat.add_comm 1 i] using hf)
    cases h1 : fl k <;> simp only [if_true, Bool.false_eq_true, if_false]
    · exact sig_ap ds (k + 1) s h'
    · rw [ap_comm (h 0 d (by simp) (by simpa using h1)), sig_ap ds (k + 1) _ h']
theorem sig_insert {fl fl' : Nat → Bool} {j : Nat} {dj : Dr} (hfl : ∀ i, fl' i = if i = j then true else fl i) (hj : fl j = false) : ∀ (ds : List Dr) (k : Nat) (s : St), k ≤ j → ds[j - k]? = some dj →
    (∀ i d, ds[i]? = some d → j < k + i → fl (k + i) = true → commB d.c dj.c = true) → sig fl' k ds s = dj.c.ap (sig fl k ds s)
  | [], _, _, _, h, _ => by simp at h
  | d :: ds, k, s, hk, h, hc => by
    simp only [sig]
    rcases Nat.eq_or_lt_of_le hk with rfl | hlt
    · simp only [Nat.sub_self, List.getElem?_cons_zero, Option.some.injEq] at h
      subst h
      rw [hfl k, if_pos rfl, hj]
      simp only [if_true, Bool.false_eq_true, if_false]
      rw [← sig_ap (fl := fl) ds (k + 1) s fun i d' hi hf => hc (i + 1) d' (by simpa using hi) (by omega) (by simpa [Nat.add_assoc, Nat.add_comm 1 i] using hf)]
      have : ∀ (ds : List Dr) (m : Nat) (s : St), k < m → sig fl' m ds s = sig fl m ds s := by
        intro ds
        induction ds with
        | nil => intro m s _; rfl
        | cons d ds ih =>
          intro m s hm
          have hne : ¬ m = k := by omega
          simp only [sig, hfl m, hne, if_false]
          exact ih (m + 1) _ (by omega)
      exact this ds (k + 1) _ (by omega)
    · have hne : ¬ k = j := by omega
      rw [hfl k, if_neg hne]
      refine sig_insert hfl hj ds (k + 1) _ hlt ?_ fun i d' hi hl hf => hc (i + 1) d' (by simpa using hi) (by omega) (by simpa [Nat.add_assoc, Nat.add_comm 1 i] using hf)
      have e : j - k = j - (k + 1) + 1 := by omega
      rw [e] at h
      simpa using h
end Go.Ac
