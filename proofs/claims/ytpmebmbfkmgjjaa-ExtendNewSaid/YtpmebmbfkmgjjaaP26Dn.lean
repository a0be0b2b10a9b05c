/- Own work: the plain law. -/
import Derived.Test.YtpmebmbfkmgjjaaP26Cn
set_option linter.unusedVariables false
set_option linter.unusedSimpArgs false
namespace Go.Ac
theorem shrI {n k : Nat} (hk : k ≤ 64) : intVal .shr .i64 (n : Int) (k : Int) = ((n / 2 ^ k : Nat) : Int) := by
  show Int.fdiv (n : Int) (2 ^ (min (k : Int).toNat 64)) = _
  rw [Int.toNat_natCast, Nat.min_eq_left hk]
  rw [Int.fdiv_eq_ediv_of_nonneg _ (Int.pow_nonneg (by decide))]
  rw [Int.natCast_ediv, Int.natCast_pow]; rfl
theorem rem2 (n : Nat) : intVal .rem .i64 (n : Int) 2 = ((n % 2 : Nat) : Int) := by
  show Int.tmod (n : Int) 2 = _
  rw [Int.tmod_eq_emod_of_nonneg (by omega)]; omega
def sel : Nat → List (List TSlot) → List (List TSlot)
  | _, [] => []
  | p, h :: hs => if p % 2 = 0 then sel (p / 2) hs else h :: sel (p / 2) hs
def jn : List TSlot → List (List TSlot) → Option (List TSlot)
  | o, [] => some o
  | o, h :: hs => if fitsS o h = true then jn (unionS o h) hs else none
theorem sel_sub : ∀ (hs : List (List TSlot)) (p : Nat), ∀ b ∈ sel p hs, b ∈ hs
  | [], _, b, h => by simp [sel] at h
  | h :: hs, p, b, hb => by
    rw [sel] at hb
    split at hb
    · exact List.mem_cons_of_mem _ (sel_sub hs _ b hb)
    · rcases List.mem_cons.1 hb with rfl | g
      · simp
      · exact List.mem_cons_of_mem _ (sel_sub hs _ b g)
theorem sel_zero : ∀ hs : List (List TSlot), sel 0 hs = []
  | [] => rfl
  | h :: hs => by rw [sel, if_pos rfl]; exact sel_zero hs
theorem sel_ne : ∀ (hs : List (List TSlot)) (p : Nat), 1 ≤ p → p < 2 ^ hs.length → sel p hs ≠ []
  | [], p, h1, h2 => by simp at h2; omega
  | h :: hs, p, h1, h2 => by
    rw [sel]
    rw [List.length_cons, Nat.pow_succ] at h2
    split
    · exact sel_ne hs (p / 2) (by omega) (by omega)
    · simp
theorem sel_ex (T : List (List TSlot)) : ∀ hs : List (List TSlot), ∃ p, p < 2 ^ hs.length ∧ ∀ b, b ∈ sel p hs ↔ b ∈ hs ∧ b ∈ T
  | [] => ⟨0, by simp, by simp [sel]⟩
  | h :: hs => by
    obtain ⟨p, hp, hm⟩ := sel_ex T hs
    by_cases hT : h ∈ T
    · refine ⟨2 * p + 1, by rw [List.length_cons, Nat.pow_succ]; omega, fun b => ?_⟩
      rw [sel, if_neg (by omega), show (2 * p + 1) / 2 = p by omega, List.mem_cons, hm, List.mem_cons]
      constructor
      · rintro (rfl | ⟨g1, g2⟩)
        · exact ⟨.inl rfl, hT⟩
        · exact ⟨.inr g1, g2⟩
      · rintro ⟨rfl | g1, g2⟩
        · exact .inl rfl
        · exact .inr ⟨g1, g2⟩
    · refine ⟨2 * p, by rw [List.length_cons, Nat.pow_succ]; omega, fun b => ?_⟩
      rw [sel, if_pos (by omega), show 2 * p / 2 = p by omega, hm, List.mem_cons]
      constructor
      · rintro ⟨g1, g2⟩; exact ⟨.inr g1, g2⟩
      · rintro ⟨rfl | g1, g2⟩
        · exact absurd g2 hT
        · exact ⟨g1, g2⟩
theorem jn_iff : ∀ (T : List (List TSlot)) (o : List TSlot) (ls : List (List TSlot)) (u : List TSlot), (∀ b ∈ T, BR b) → Un o ls → (jn o T = some u ↔ Un u (ls ++ T))
  | [], o, ls, u, _, ho => by
    rw [jn, List.append_nil]
    constructor
    · intro h; cases h; exact ho
    · intro h; rw [Un_uniq ho h]
  | b :: T, o, ls, u, hT, ho => by
    have hb := hT b (by simp)
    rw [jn]
    by_cases hf : fitsS o b = true
    · rw [if_pos hf, jn_iff T _ (ls ++ [b]) u (fun c hc => hT c (List.mem_cons_of_mem _ hc)) (Un_step ho hb hf), List.append_assoc, List.singleton_append]
    · rw [if_neg hf]
      constructor
      · intro h; cases h
      · intro h
        exact absurd (fits_of h.1 hb (fun s hs => by
          obtain ⟨c, hc, hcs⟩ := (ho.2 s).1 hs
          exact Un_mem h (List.mem_append_left _ hc) s hcs) (Un_mem h (by simp))) hf
theorem made_iff {l hs : List (List TSlot)} (hl : ∀ x ∈ l, BR x) (hh : ∀ b ∈ hs, BR b) (u : List TSlot) : Made l hs u ↔ ∃ x ∈ l, ∃ q, 1 ≤ q ∧ q < 2 ^ hs.length ∧ jn x (sel q hs) = some u := by
  constructor
  · rintro ⟨x, hx, T, hT, hTP, hU⟩
    obtain ⟨p, hp, hm⟩ := sel_ex T hs
    refine ⟨x, hx, p, ?_, hp, ?_⟩
    · rcases Nat.eq_zero_or_pos p with h | h
      · subst h
        obtain ⟨b, hb⟩ := List.exists_mem_of_ne_nil T hT
        have := (hm b).2 ⟨hTP b hb, hb⟩
        rw [sel_zero] at this; simp at this
      · exact h
    · rw [jn_iff (sel p hs) x [x] u (fun b hb => hh b (sel_sub hs p b hb)) (Un_one (hl x hx))]
      refine (Un_congr fun b => ?_).1 hU
      rw [List.singleton_append, List.mem_cons, List.mem_cons, hm]
      constructor
      · rintro (h | h)
        · exact .inl h
        · exact .inr ⟨hTP b h, h⟩
      · rintro (h | h)
        · exact .inl h
        · exact .inr h.2
  · rintro ⟨x, hx, q, h1, h2, h⟩
    rw [jn_iff (sel q hs) x [x] u (fun b hb => hh b (sel_sub hs q b hb)) (Un_one (hl x hx))] at h
    exact ⟨x, hx, sel q hs, sel_ne hs q h1 h2, sel_sub hs q, h⟩
theorem jn_BR {T : List (List TSlot)} {x u : List TSlot} (hT : ∀ b ∈ T, BR b) (hx : BR x) (h : jn x T = some u) : BR u := ((jn_iff T x [x] u hT (Un_one hx)).1 h).1
theorem ref26_join_eq {x : List TSlot} {hs : List THit} (hx : BR x) (hh : ∀ h ∈ hs, BR h.bind) (hn : hs.length ≤ 5) (p : Nat) :
    ref26_join x hs (p : Int) = some (match jn x (sel p (hs.map (·.bind))) with | some u => (u, true) | none => ([], false)) := by
  unfold ref26_join ref26_join_l1
  have key := loop_list (step := fun s : List TSlot × Int => ref26_join_l1_s hs (p : Int) s.1 s.2) hs (fun i (w : List TSlot) => (w, (i : Int)))
    (fun i w h => if p / 2 ^ i % 2 = 0 then .inl w else if fitsS w h.bind = true then .inl (unionS w h.bind) else .inr (.inr ())) (fun w => (.inl w : List TSlot ⊕ Unit)) (fun _ w => BR w)
    (fun i h w hi hI => by
      have hhR := hh h (List.mem_of_getElem? hi)
      have hil := getLt hi
      have l1 := BR_len hI
      have l2 := BR_len hhR
      have e1 : IntKind.wrap .u64 (i : Int) = (i : Int) := wrapU_nat (by omega)
      refine ⟨?_, fun w' hw => ?_⟩
      · simp only [ref26_join_l1_s, ltD hi, iteE_t, ref26_join_b2, e1]
        rw [chkE_p (by omega), shrI (by omega), rem2]
        simp only [idxE_n hi]
        rw [ref05_Fits_eq w h.bind (by omega) (by omega), ref05_Union_eq w h.bind (by omega) (by omega), succW hi (show hs.length ≤ 9223372036854775807 by omega)]
        by_cases h0 : p / 2 ^ i % 2 = 0
        · simp [h0, iteE, bndE, sumE]
        · have : ¬ ((p / 2 ^ i % 2 : Nat) : Int) = 0 := by omega
          rw [if_neg h0, decide_eq_false this, iteE_f]
          cases fitsS w h.bind <;> simp [iteE, bndE, sumE]
      · split at hw
        · cases hw; exact hI
        · split at hw
          · rename_i hf; cases hw; exact union_BR hI hhR hf
          · cases hw)
    (fun w _ => by simp only [ref26_join_l1_s, ltI, iteE_f]) (hs.length + 1) 0 x (by omega) (by omega) hx
  rw [show (x, (0 : Int)) = (x, ((0 : Nat) : Int)) from rfl, key, List.drop_zero, bndE_s]
  have hr : ∀ (hs : List THit) (i : Nat) (w : List TSlot), runL (fun i w h => if p / 2 ^ i % 2 = 0 then .inl w else if fitsS w h.bind = true then .inl (unionS w h.bind) else .inr (.inr ())) (fun w => (.inl w : List TSlot ⊕ Unit)) i hs w = match jn w (sel (p / 2 ^ i) (hs.map (·.bind))) with | some u => .inl u | none => .inr () := by
    intro hs
    induction hs with
    | nil => intro i w; rfl
    | cons h hs ih =>
      intro i w
      have e : p / 2 ^ i / 2 = p / 2 ^ (i + 1) := by rw [Nat.div_div_eq_div_mul, Nat.pow_succ]
      rw [runL, List.map_cons, sel, e]
      by_cases h0 : p / 2 ^ i % 2 = 0
      · rw [if_pos h0, if_pos h0]; exact ih (i + 1) w
      · rw [if_neg h0, if_neg h0, jn]
        by_cases hf : fitsS w h.bind = true
        · rw [if_pos hf, if_pos hf]; exact ih (i + 1) _
        · rw [if_neg hf, if_neg hf]
  rw [hr, Nat.pow_zero, Nat.div_one]
  cases jn x (sel p (hs.map (·.bind))) <;> rfl
theorem ref26_Grow_eq {l : List (List TSlot)} {hs : List THit} (hl : ∀ x ∈ l, BR x) (hh : ∀ h ∈ hs, BR h.bind) (hn : hs.length ≤ 5) (hll : l.length ≤ 12) :
    ∃ g, ref26_Grow l hs = some g ∧ SB g ∧ (∀ u ∈ g, BR u) ∧ (∀ u, u ∈ g ↔ u ∉ l ∧ Made l (hs.map (·.bind)) u) := by
  have hm : ∀ b ∈ hs.map (·.bind), BR b := fun b hb => by
    obtain ⟨h, hh', rfl⟩ := List.mem_map.1 hb
    exact hh h hh'
  have h32 : 2 ^ hs.length ≤ 32 := Nat.pow_le_pow_right (n := 2) (by decide) hn
  have h1p : 1 ≤ 2 ^ hs.length := Nat.one_le_two_pow
  unfold ref26_Grow
  have l1 : ref26_Grow_l1 l hs 1 0 = some ((2 ^ hs.length : Nat) : Int) := by
    unfold ref26_Grow_l1
    have key := loop_list (step := fun s : Int × Int => ref26_Grow_l1_s l hs s.1 s.2) hs (fun i (w : Nat) => ((w : Int), (i : Int)))
      (fun _ w _ => (.inl (2 * w) : Nat ⊕ Int)) (fun w => (w : Int)) (fun i w => w = 2 ^ i)
      (fun i h w hi hI => by
        subst hI
        have hil := getLt hi
        have hp : 2 ^ i ≤ 32 := Nat.le_trans (Nat.pow_le_pow_right (by decide) (by omega)) h32
        refine ⟨?_, fun w' hw => by cases hw; rw [Nat.pow_succ, Nat.mul_comm]⟩
        simp only [ref26_Grow_l1_s, ltD hi, iteE_t]
        rw [succW hi (show hs.length ≤ 9223372036854775807 by omega)]
        generalize 2 ^ i = k at hp ⊢
        rw [mulI (by omega) (by omega)]
        simp)
      (fun w _ => by simp only [ref26_Grow_l1_s, ltI, iteE_f]) (hs.length + 1) 0 1 (by omega) (by omega) rfl
    rw [show ((1 : Int), (0 : Int)) = (((1 : Nat) : Int), ((0 : Nat) : Int)) from rfl, key, List.drop_zero]
    congr 1
    have hr : ∀ (hs : List THit) (i w : Nat), runL (fun _ w _ => (.inl (2 * w) : Nat ⊕ Int)) (fun w => (w : Int)) i hs w = ((w * 2 ^ hs.length : Nat) : Int) := by
      intro hs
      induction hs with
      | nil => intro i w; simp [runL]
      | cons h hs ih => intro i w; rw [runL]; simp only; rw [ih, List.length_cons, Nat.pow_succ]; congr 1; rw [Nat.mul_comm 2 w, Nat.mul_assoc, Nat.mul_comm 2]
    rw [hr, Nat.one_mul]
  rw [l1, bndE_s]
  generalize hmost : 2 ^ hs.length = most at *
  have inner : ∀ (i : Nat) (x : List TSlot) (out : List (List TSlot)), l[i]? = some x → SB out → (∀ u ∈ out, BR u) → out.length ≤ i * 31 →
      ∃ out', ref26_Grow_l8 l hs (most : Int) (i : Int) out 1 = some out' ∧ SB out' ∧ (∀ u ∈ out', BR u) ∧ out'.length ≤ (i + 1) * 31 ∧ ∀ u, u ∈ out' ↔ u ∈ out ∨ u ∉ l ∧ ∃ q, 1 ≤ q ∧ q < most ∧ jn x (sel q (hs.map (·.bind))) = some u := by
    intro i x out hx o1 o2 o3
    have hi := getLt hx
    have hxR := hl x (List.mem_of_getElem? hx)
    unfold ref26_Grow_l8
    exact loopE_ex (step := fun s : List (List TSlot) × Int => ref26_Grow_l8_s l hs (most : Int) (i : Int) s.1 s.2)
      (fun s => ∃ p : Nat, s.2 = (p : Int) ∧ 1 ≤ p ∧ p ≤ most ∧ SB s.1 ∧ (∀ u ∈ s.1, BR u) ∧ s.1.length ≤ i * 31 + (p - 1) ∧ ∀ u, u ∈ s.1 ↔ u ∈ out ∨ u ∉ l ∧ ∃ q, 1 ≤ q ∧ q < p ∧ jn x (sel q (hs.map (·.bind))) = some u) (fun s => (most - s.2).toNat) _
      (by
        rintro ⟨w, s2⟩ ⟨p, e, h1, h2, w1, w2, w3, w4⟩
        simp only at e w1 w2 w3 w4
        subst e
        simp only
        by_cases he : p = most
        · subst he
          exact .inl ⟨w, by simp only [ref26_Grow_l8_s, ltI, iteE_f], w1, w2, by omega, w4⟩
        · right
          have hd : decide ((p : Int) < (most : Int)) = true := by simp; omega
          have hsucc : intVal .add .i64 (p : Int) 1 = ((p + 1 : Nat) : Int) := succI (by omega)
          have hlt : ∀ q, q < p + 1 ↔ q < p ∨ q = p := fun q => by omega
          simp only [ref26_Grow_l8_s, hd, iteE_t, ref26_Grow_b6, idxE_n hx, hsucc]
          rw [ref26_join_eq hxR hh hn, bndE_s]
          cases hj : jn x (sel p (hs.map (·.bind))) with
          | none =>
            refine ⟨(w, ((p + 1 : Nat) : Int)), rfl, ⟨p + 1, rfl, by omega, by omega, w1, w2, by simp only; omega, fun u => ?_⟩, by simp only; omega⟩
            simp only
            rw [w4]
            constructor
            · rintro (h | ⟨h, q, q1, q2, q3⟩)
              · exact .inl h
              · exact .inr ⟨h, q, q1, by omega, q3⟩
            · rintro (h | ⟨h, q, q1, q2, q3⟩)
              · exact .inl h
              · rcases (hlt q).1 q2 with g | g
                · exact .inr ⟨h, q, q1, g, q3⟩
                · subst g; rw [hj] at q3; cases q3
          | some u0 =>
            have hu0 : BR u0 := jn_BR (fun b hb => hm b (sel_sub _ _ b hb)) hxR hj
            simp only [iteE_t]
            rw [ref05_Has_eq (w := l) (fun b hb => (hl b hb).i) (by omega), bndE_s]
            by_cases hin : u0 ∈ l
            · refine ⟨(w, ((p + 1 : Nat) : Int)), by simp [ref26_Grow_b7, hin, iteE, bndE], ⟨p + 1, rfl, by omega, by omega, w1, w2, by simp only; omega, fun u => ?_⟩, by simp only; omega⟩
              simp only
              rw [w4]
              constructor
              · rintro (h | ⟨h, q, q1, q2, q3⟩)
                · exact .inl h
                · exact .inr ⟨h, q, q1, by omega, q3⟩
              · rintro (h | ⟨h, q, q1, q2, q3⟩)
                · exact .inl h
                · rcases (hlt q).1 q2 with g | g
                  · exact .inr ⟨h, q, q1, g, q3⟩
                  · subst g; rw [hj] at q3; cases q3; exact absurd hin h
            · obtain ⟨s1, s2⟩ := SB_put w1 hu0.i
              refine ⟨(putB w u0, ((p + 1 : Nat) : Int)), ?_, ⟨p + 1, rfl, by omega, by omega, s1, fun u hu => ?_, by simp only; omega, fun u => ?_⟩, by simp only; omega⟩
              · unfold ref26_Grow_b7
                simp only [hin, decide_false, Bool.not_false, iteE_t]
                rw [ref05_Put_eq w1 hu0.i (by omega)]; rfl
              · rcases putB_mem.1 hu with rfl | h
                · exact hu0
                · exact w2 u h
              · simp only
                rw [putB_mem, w4]
                constructor
                · rintro (rfl | h | ⟨h, q, q1, q2, q3⟩)
                  · exact .inr ⟨hin, p, h1, by omega, hj⟩
                  · exact .inl h
                  · exact .inr ⟨h, q, q1, by omega, q3⟩
                · rintro (h | ⟨h, q, q1, q2, q3⟩)
                  · exact .inr (.inl h)
                  · rcases (hlt q).1 q2 with g | g
                    · exact .inr (.inr ⟨h, q, q1, g, q3⟩)
                    · subst g; rw [hj] at q3; cases q3; exact .inl rfl)
      (out, 1) ⟨1, rfl, by omega, by omega, o1, o2, by simp only; omega, fun u => by
        constructor
        · exact .inl
        · rintro (h | ⟨_, q, q1, q2, _⟩)
          · exact h
          · omega⟩
  unfold ref26_Grow_l2
  obtain ⟨g, hg, w, hgw, g1, g2, g3⟩ := loopE_ex (step := fun s : List (List TSlot) × Int => ref26_Grow_l2_s l hs (most : Int) s.1 s.2)
    (fun s => ∃ i : Nat, s.2 = (i : Int) ∧ i ≤ l.length ∧ SB s.1 ∧ (∀ u ∈ s.1, BR u) ∧ s.1.length ≤ i * 31 ∧ ∀ u, u ∈ s.1 ↔ u ∉ l ∧ ∃ x ∈ l.take i, ∃ q, 1 ≤ q ∧ q < most ∧ jn x (sel q (hs.map (·.bind))) = some u) (fun s => (l.length - s.2).toNat)
    (fun t => ∃ w, t = w ∧ SB w ∧ (∀ u ∈ w, BR u) ∧ ∀ u, u ∈ w ↔ u ∉ l ∧ ∃ x ∈ l, ∃ q, 1 ≤ q ∧ q < most ∧ jn x (sel q (hs.map (·.bind))) = some u)
    (by
      rintro ⟨w, s2⟩ ⟨i, e, hi, w1, w2, w3, w4⟩
      simp only at e w1 w2 w3 w4
      subst e
      simp only
      by_cases he : i = l.length
      · subst he
        rw [List.take_length] at w4
        exact .inl ⟨w, by simp only [ref26_Grow_l2_s, ltI, iteE_f], w, rfl, w1, w2, w4⟩
      · right
        obtain ⟨x, hx, _⟩ := get_lt (l := l) (i := i) (by omega)
        obtain ⟨out', i1, i2, i3, i4, i5⟩ := inner i x w hx w1 w2 w3
        refine ⟨(out', ((i + 1 : Nat) : Int)), ?_, ⟨i + 1, rfl, by omega, i2, i3, i4, fun u => ?_⟩, by simp only; omega⟩
        · simp only [ref26_Grow_l2_s, ltD hx, iteE_t]
          rw [i1, bndE_s, succW hx (show l.length ≤ 9223372036854775807 by omega)]
        · simp only
          rw [i5, w4, List.take_add_one, hx]
          simp only [Option.toList_some, List.mem_append, List.mem_singleton]
          constructor
          · rintro (⟨h, y, hy, q⟩ | ⟨h, q⟩)
            · exact ⟨h, y, .inl hy, q⟩
            · exact ⟨h, x, .inr rfl, q⟩
          · rintro ⟨h, y, hy | rfl, q⟩
            · exact .inl ⟨h, y, hy, q⟩
            · exact .inr ⟨h, q⟩)
    (([] : List (List TSlot)), (0 : Int)) ⟨0, rfl, by omega, SB_nil, by simp, by simp, by simp⟩
  subst hgw
  rw [hg, bndE_s]
  refine ⟨g, rfl, g1, g2, fun u => ?_⟩
  rw [g3, made_iff hl hm, List.length_map, hmost]
theorem law26_right_ex (l : List (List TSlot)) (hl : l.length ≤ 9223372036854775807) : ∃ b, law26_right l = some b ∧ (b = true → ∀ x ∈ l, BR x) := by
  unfold law26_right law26_right_l1
  obtain ⟨t, ht, hQ⟩ := loop_scan0 (step := fun s => law26_right_l1_s l s) l.length (fun i => ∃ x, l[i]? = some x ∧ BR x) (fun t => t = .inl () → ∀ x ∈ l, BR x)
    (fun i hi => by
      obtain ⟨x, hx, _⟩ := get_lt hi
      simp only [law26_right_l1_s, ltD hx, iteE_t, idxE_n hx, succW hx hl, iteP]
      by_cases h8 : (8 : Int) < (x.length : Int)
      · rw [if_pos h8]; exact .inr ⟨_, rfl, fun h => by cases h⟩
      · rw [if_neg h8]
        obtain ⟨b, hb, hbr⟩ := ref05_RightB x (by omega)
        rw [hb, bndE_s]
        cases b with
        | false => exact .inr ⟨_, rfl, fun h => by cases h⟩
        | true =>
          simp only [Bool.not_true, iteE_f]
          have : ∃ t, law26_right_l2 l (i : Int) 0 = some t := by
            unfold law26_right_l2
            exact tot_ex (loop_scan0 (step := fun s => law26_right_l2_s l (i : Int) s) x.length (fun _ => True) (fun _ => True)
              (fun j hj => by
                obtain ⟨y, hy, _⟩ := get_lt hj
                simp only [law26_right_l2_s, idxE_n hx, ltD hy, iteE_t, idxE_n hy, succW hy (show x.length ≤ 9223372036854775807 by omega)]
                rw [iteP]
                by_cases h : (100 : Int) < (y.value.str.length : Int)
                · rw [if_pos h]; exact .inr ⟨_, rfl, trivial⟩
                · rw [if_neg h]; exact .inl ⟨rfl, trivial⟩)
              (fun _ => ⟨_, by simp only [law26_right_l2_s, idxE_n hx, ltI, iteE_f]; rfl, trivial⟩))
          obtain ⟨t, ht⟩ := this
          rw [ht, bndE_s]
          rcases t with _ | _
          · exact .inl ⟨rfl, x, hx, hbr rfl⟩
          · exact .inr ⟨_, rfl, fun h => by cases h⟩)
    (fun h => ⟨.inl (), by simp only [law26_right_l1_s, ltI, iteE_f], fun _ x hx => by
      obtain ⟨j, hj⟩ := List.mem_iff_getElem?.1 hx
      obtain ⟨y, hy, hyR⟩ := h j (getLt hj)
      rw [hj] at hy; cases hy; exact hyR⟩)
  rw [ht, bndE_s]
  rcases t with _ | _
  · exact ⟨true, rfl, fun _ => hQ rfl⟩
  · exact ⟨false, rfl, by simp⟩
theorem law26_hits_ex (m : List (List TSlot)) (hm : m.length ≤ 1000) : ∃ h, law26_hits m = some h ∧ h.map (·.bind) = m := by
  unfold law26_hits law26_hits_l1
  obtain ⟨t, ht, hQ⟩ := loopE_ex (step := fun s : Int × List THit => law26_hits_l1_s m s.1 s.2) (fun s => ∃ i : Nat, s.1 = (i : Int) ∧ i ≤ m.length ∧ s.2.map (·.bind) = m.take i) (fun s => (m.length - s.1).toNat)
    (fun t => t.map (·.bind) = m)
    (by
      rintro ⟨s1, w⟩ ⟨i, e, hi, hw⟩
      simp only at e hw
      subst e
      simp only
      have hwl : w.length = i := by have := congrArg List.length hw; rw [List.length_map, List.length_take] at this; omega
      by_cases he : i = m.length
      · subst he
        exact .inl ⟨w, by simp only [law26_hits_l1_s, ltI, iteE_f], by rw [hw, List.take_length]⟩
      · obtain ⟨x, hx, _⟩ := get_lt (l := m) (i := i) (by omega)
        refine .inr ⟨(((i + 1 : Nat) : Int), w ++ [THit.mk i x []]), ?_, ⟨i + 1, rfl, by omega, ?_⟩, by simp only; omega⟩
        · simp only [law26_hits_l1_s, ltD hx, iteE_t, idxE_n hx, succW hx (show m.length ≤ 9223372036854775807 by omega)]
          rw [chkF (by simp; omega) (by decide)]
        · simp only
          rw [List.map_append, hw, List.take_add_one, hx]; rfl)
    ((0 : Int), ([] : List THit)) ⟨0, rfl, by omega, by simp⟩
  rw [ht, bndE_s]
  exact ⟨t, rfl, hQ⟩
theorem vR_int (n : Int) : vR ⟨1, n, [], false⟩ = true := by simp [vR]
def sl (v n : Int) : TSlot := ⟨v, ⟨1, n, [], false⟩⟩
theorem BR_one (v n : Int) (h : 0 ≤ v ∧ v ≤ 7) : BR [sl v n] := ⟨by simp, fun s hs => by
  rw [List.mem_singleton] at hs; subst hs; exact ⟨h.1, h.2, vR_int n⟩⟩
theorem law26_awake_eq : law26_awake = some true := by
  unfold law26_awake law26_slot
  simp only [bndE_s]
  have h := (extend_Grow_eq (l := [[], [sl 1 7]]) (hs := [THit.mk 0 [sl 0 5] [], THit.mk 1 [sl 0 6] []])
    (fun x hx => by
      simp only [List.mem_cons, List.not_mem_nil, or_false] at hx
      rcases hx with rfl | rfl
      · exact BR_nil
      · exact BR_one _ _ (by decide))
    (fun x hx => by
      simp only [List.mem_cons, List.not_mem_nil, or_false] at hx
      rcases hx with rfl | rfl <;> exact BR_one _ _ (by decide)) (by decide) (by decide) (by decide)).1
  have e : growV [[], [sl 1 7]] ([THit.mk 0 [sl 0 5] [], THit.mk 1 [sl 0 6] []].map (·.bind)) = [[sl 0 5], [sl 0 6], [sl 0 5, sl 1 7], [sl 0 6, sl 1 7]] := by decide
  rw [e] at h
  unfold sl at h
  rw [h, bndE_s]
  rw [show decide (((([[⟨0, ⟨1, 5, [], false⟩⟩], [⟨0, ⟨1, 6, [], false⟩⟩], [⟨0, ⟨1, 5, [], false⟩⟩, ⟨1, ⟨1, 7, [], false⟩⟩], [⟨0, ⟨1, 6, [], false⟩⟩, ⟨1, ⟨1, 7, [], false⟩⟩]] : List (List TSlot)).length : Nat) : Int) = 4) = true from rfl, iteE_t, idxE_1, ref05_Same_eq _ _ (by simp), bndE_s]
  rfl
end Go.Ac
