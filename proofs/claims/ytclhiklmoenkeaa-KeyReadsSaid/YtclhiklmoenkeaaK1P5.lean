/-
  Part of a proof: the plain law, lists and numbers alone.
-/
import Derived.Test.YtclhiklmoenkeaaK1P4
set_option linter.unusedVariables false
set_option linter.unusedSimpArgs false
namespace Go.Ac
def bl : List UInt8 → List UInt8 → Bool
  | _, [] => false
  | [], _ :: _ => true
  | x :: xs, y :: ys => if x = y then bl xs ys else decide (x.toNat < y.toNat)
theorem bl_same (p x y : List UInt8) : bl (p ++ x) (p ++ y) = bl x y := by
  induction p with
  | nil => rfl
  | cons c p ih => simp [bl, ih]
theorem bl_ne {c d : UInt8} (x y : List UInt8) (h : c ≠ d) : bl (c :: x) (d :: y) = decide (c.toNat < d.toNat) := by simp [bl, h]
theorem loop_cmp {α τ : Type} {a b : List α} {step : Int → Option (Int ⊕ τ)} (ha : a.length < 1000000000) (out : List α → List α → τ)
    (h1 : ∀ i : Nat, (a.length ≤ i ∨ b.length ≤ i) → step (i : Int) = some (.inr (out (a.drop i) (b.drop i))))
    (h2 : ∀ (i : Nat) x y, a[i]? = some x → b[i]? = some y → a.drop i = x :: a.drop (i + 1) → b.drop i = y :: b.drop (i + 1) →
      step (i : Int) = some (.inr (out (a.drop i) (b.drop i))) ∨ (step (i : Int) = some (.inl ((i + 1 : Nat) : Int)) ∧ out (a.drop (i + 1)) (b.drop (i + 1)) = out (a.drop i) (b.drop i))) : loopE step 0 = some (out a b) := by
  have := loopE_of (step := step) (fun s => ∃ i : Nat, s = i ∧ i ≤ a.length) (fun s => a.length - s.toNat) (fun s => out (a.drop s.toNat) (b.drop s.toNat)) ?_ 0 ⟨0, rfl, Nat.zero_le _⟩
  · simpa using this
  rintro _ ⟨i, rfl, hi⟩
  simp only [Int.toNat_natCast]
  by_cases hlt : i < a.length ∧ i < b.length
  · obtain ⟨x, hx, hd⟩ := get_lt hlt.1
    obtain ⟨y, hy, he⟩ := get_lt hlt.2
    rcases h2 i x y hx hy hd he with h | ⟨h, ho⟩
    · exact .inl h
    · exact .inr ⟨_, h, ⟨i + 1, rfl, hlt.1⟩, by simp only [Int.toNat_natCast]; omega, by simpa only [Int.toNat_natCast] using ho⟩
  · exact .inl (h1 i (by omega))
def belowOut (a b : List UInt8) : List UInt8 → List UInt8 → Unit ⊕ Bool
  | x :: xs, y :: ys => if x = y then belowOut a b xs ys else .inr (decide (x.toNat < y.toNat))
  | _, _ => .inl ()
theorem ref03_Below_eq (a b : List UInt8) (ha : a.length < 1000000000) : ref03_Below a b = some (bl a b) := by
  unfold ref03_Below
  have hl : ref03_Below_l1 a b 0 = some (belowOut a b a b) := by
    unfold ref03_Below_l1
    refine loop_cmp ha (belowOut a b) (fun i hi => ?_) (fun i x y hx hy hd he => ?_)
    · unfold ref03_Below_l1_s
      simp only [iteE_if, decide_eq_true_eq]
      rcases hi with hi | hi
      · rw [if_neg (by omega), List.drop_eq_nil_of_le hi]; cases b.drop i <;> rfl
      · rw [List.drop_eq_nil_of_le hi, if_neg (show ¬ (i : Int) < b.length by omega)]
        split <;> (cases a.drop i <;> rfl)
    · have h1 := (List.getElem?_eq_some_iff.1 hx).1
      have h2 := (List.getElem?_eq_some_iff.1 hy).1
      unfold ref03_Below_l1_s
      simp only [iteE_if, decide_eq_true_eq, u8_dec, Bool.not_eq_true', decide_eq_false_iff_not]
      rw [if_pos (by omega), if_pos (by omega)]
      simp only [idxE_n hx, idxE_n hy]
      rw [hd, he]
      by_cases hxy : x = y
      · right
        refine ⟨by rw [if_neg (by simpa using hxy), succI (by omega)], by simp [belowOut, hxy]⟩
      · left
        rw [if_pos hxy]
        simp only [belowOut, hxy, if_false]
        congr 3
        rw [Bool.eq_iff_iff]; simp
  rw [hl, bndE_s]
  have : ∀ (xs ys : List UInt8), (belowOut a b xs ys = .inl () ∧ bl xs ys = decide (xs.length < ys.length)) ∨ belowOut a b xs ys = .inr (bl xs ys) := by
    intro xs
    induction xs with
    | nil => intro ys; left; cases ys <;> simp [belowOut, bl]
    | cons x xs ih =>
      intro ys
      cases ys with
      | nil => left; simp [belowOut, bl]
      | cons y ys =>
        by_cases hxy : x = y
        · simpa [belowOut, bl, hxy] using ih ys
        · right; simp [belowOut, bl, hxy]
  rcases this a b with ⟨h1, h2⟩ | h1
  · rw [h1, sumE_l, h2]; congr 1; rw [Bool.eq_iff_iff]; simp
  · rw [h1, sumE_r]
def vless (v w : TValue) : Bool := if v.kind ≠ w.kind then decide (v.kind < w.kind) else if v.kind = 1 then decide (v.int < w.int) else if v.kind = 2 then bl v.str w.str else !v.bool && w.bool
theorem ref03_Less_eq (v w : TValue) (h : v.str.length < 1000000000) : ref03_Less v w = some (vless v w) := by
  unfold ref03_Less vless
  simp only [iteE_if, decide_eq_true_eq, Bool.not_eq_true', decide_eq_false_iff_not, ref03_Below_eq _ _ h, bndE_s]
  by_cases h1 : v.kind = w.kind
  · simp only [h1, not_true_eq_false, if_false, ne_eq]
    by_cases h2 : w.kind = 1
    · simp [h2]
    · by_cases h3 : w.kind = 2
      · simp [h3]
      · simp only [h2, h3, if_false]
        cases v.bool <;> simp
  · simp [h1]
/-- a list of values ahead of another one -/
def lbl : List TValue → List TValue → Bool
  | v :: a, w :: b => if v = w then lbl a b else vless v w
  | [], _ :: _ => true
  | _, [] => false
def lOut : List TValue → List TValue → Unit ⊕ Bool
  | v :: a, w :: b => if v = w then lOut a b else .inr (vless v w)
  | _, _ => .inl ()
theorem law04_below_eq (a b : List TValue) (ha : a.length < 1000000000) (hs : ∀ v ∈ a, v.str.length < 1000000000) : law04_below a b = some (lbl a b) := by
  unfold law04_below
  have hl : law04_below_l1 a b 0 = some (lOut a b) := by
    unfold law04_below_l1
    refine loop_cmp ha lOut (fun i hi => ?_) (fun i x y hx hy hd he => ?_)
    · unfold law04_below_l1_s
      simp only [iteE_if, decide_eq_true_eq]
      rcases hi with hi | hi
      · rw [if_neg (by omega), List.drop_eq_nil_of_le hi]; cases b.drop i <;> rfl
      · rw [List.drop_eq_nil_of_le hi, if_neg (show ¬ (i : Int) < b.length by omega)]
        split <;> (cases a.drop i <;> rfl)
    · have h1 := (List.getElem?_eq_some_iff.1 hx).1
      have h2 := (List.getElem?_eq_some_iff.1 hy).1
      unfold law04_below_l1_s
      simp only [iteE_if, decide_eq_true_eq, Bool.not_eq_true']
      rw [if_pos (by omega), if_pos (by omega)]
      simp only [idxE_n hx, idxE_n hy, ref03_Less_eq _ _ (hs x (List.mem_of_getElem? hx)), bndE_s]
      rw [hd, he]
      by_cases hxy : x = y
      · right
        refine ⟨by rw [if_neg (by rw [(TValue.eqb_iff x y).2 hxy]; simp), succI (by omega)], by simp [lOut, hxy]⟩
      · left
        have : TValue.eqb x y = false := by
          cases hq : TValue.eqb x y
          · rfl
          · exact absurd ((TValue.eqb_iff x y).1 hq) hxy
        rw [if_pos this]
        simp only [lOut, hxy, if_false]
  rw [hl, bndE_s]
  have : ∀ (xs ys : List TValue), (lOut xs ys = .inl () ∧ lbl xs ys = decide (xs.length < ys.length)) ∨ lOut xs ys = .inr (lbl xs ys) := by
    intro xs
    induction xs with
    | nil => intro ys; left; cases ys <;> simp [lOut, lbl]
    | cons x xs ih =>
      intro ys
      cases ys with
      | nil => left; simp [lOut, lbl]
      | cons y ys =>
        by_cases hxy : x = y
        · simpa [lOut, lbl, hxy] using ih ys
        · right; simp [lOut, lbl, hxy]
  rcases this a b with ⟨h1, h2⟩ | h1
  · rw [h1, sumE_l, h2]; congr 1; rw [Bool.eq_iff_iff]; simp
  · rw [h1, sumE_r]
def sOut : List TValue → List TValue → Unit ⊕ Unit
  | v :: a, w :: b => if v = w then sOut a b else .inr ()
  | _, _ => .inl ()
theorem law04_same_eq (a b : List TValue) (ha : a.length < 1000000000) : law04_same a b = some (decide (a = b)) := by
  unfold law04_same
  simp only [iteE_if, Bool.not_eq_true', decide_eq_false_iff_not]
  by_cases hlen : a.length = b.length
  · rw [if_neg (by omega)]
    have hl : law04_same_l1 a b 0 = some (sOut a b) := by
      unfold law04_same_l1
      refine loop_cmp ha sOut (fun i hi => ?_) (fun i x y hx hy hd he => ?_)
      · unfold law04_same_l1_s
        simp only [iteE_if, decide_eq_true_eq]
        rw [if_neg (by omega), List.drop_eq_nil_of_le (show a.length ≤ i by omega)]
        cases b.drop i <;> rfl
      · have h1 := (List.getElem?_eq_some_iff.1 hx).1
        unfold law04_same_l1_s
        simp only [iteE_if, decide_eq_true_eq, Bool.not_eq_true']
        rw [if_pos (by omega)]
        simp only [idxE_n hx, idxE_n hy]
        rw [hd, he]
        by_cases hxy : x = y
        · right
          refine ⟨by rw [if_neg (by rw [(TValue.eqb_iff x y).2 hxy]; simp), succI (by omega)], by simp [sOut, hxy]⟩
        · left
          have : TValue.eqb x y = false := by
            cases hq : TValue.eqb x y
            · rfl
            · exact absurd ((TValue.eqb_iff x y).1 hq) hxy
          rw [if_pos this]
          simp only [sOut, hxy, if_false]
    rw [hl, bndE_s]
    have : ∀ (xs ys : List TValue), xs.length = ys.length → sOut xs ys = if xs = ys then .inl () else .inr () := by
      intro xs
      induction xs with
      | nil => intro ys h; cases ys with
        | nil => rfl
        | cons y ys => simp at h
      | cons x xs ih =>
        intro ys h
        cases ys with
        | nil => simp at h
        | cons y ys =>
          by_cases hxy : x = y
          · simp [sOut, hxy, ih ys (by simpa using h)]
          · simp [sOut, hxy]
    rw [this a b hlen]
    by_cases h : a = b <;> simp [h, sumE_l, sumE_r]
  · rw [if_pos (by omega)]
    have : a ≠ b := fun h => hlen (by rw [h])
    simp [this]

/-! ### the order of keys -/
def bev : List UInt8 → Nat
  | [] => 0
  | c :: l => c.toNat * 256 ^ l.length + bev l
theorem bev_lt : ∀ l : List UInt8, bev l < 256 ^ l.length
  | [] => by simp [bev]
  | c :: l => by
    have := bev_lt l
    have hc := c.toNat_lt
    simp only [bev, List.length_cons, Nat.pow_succ]
    have : c.toNat * 256 ^ l.length ≤ 255 * 256 ^ l.length := Nat.mul_le_mul_right _ (by omega)
    omega
theorem be_bev (l : List UInt8) : be l = bev l := by
  suffices h : ∀ (l : List UInt8) (u : Nat), l.foldl (fun u c => 256 * u + c.toNat) u = u * 256 ^ l.length + bev l by
    have := h l 0
    simpa [be] using this
  intro l
  induction l with
  | nil => intro u; simp [bev]
  | cons c l ih =>
    intro u
    simp only [List.foldl_cons, ih, bev, List.length_cons, Nat.pow_succ, Nat.add_mul]
    rw [Nat.mul_comm 256 u, Nat.mul_assoc, Nat.mul_comm 256 (256 ^ l.length)]
    omega
theorem bl_bev : ∀ (l m x y : List UInt8), l.length = m.length → l ≠ m → bl (l ++ x) (m ++ y) = decide (bev l < bev m)
  | [], [], x, y, _, h => absurd rfl h
  | [], _ :: _, _, _, h, _ => by simp at h
  | _ :: _, [], _, _, h, _ => by simp at h
  | c :: l, d :: m, x, y, hlen, hne => by
    have hl : l.length = m.length := by simpa using hlen
    by_cases hcd : c = d
    · subst hcd
      have := bl_bev l m x y hl (fun h => hne (by rw [h]))
      simp only [List.cons_append, bl, if_true, this, bev, hl]
      rw [Bool.eq_iff_iff]; simp
    · rw [List.cons_append, List.cons_append, bl_ne _ _ hcd]
      have h1 := bev_lt l
      have h2 := bev_lt m
      simp only [bev, hl] at h1 ⊢
      rw [Bool.eq_iff_iff, decide_eq_true_eq, decide_eq_true_eq]
      have hn : c.toNat ≠ d.toNat := fun h => hcd (UInt8.toNat_inj.1 h)
      constructor
      · intro h
        have : (c.toNat + 1) * 256 ^ m.length ≤ d.toNat * 256 ^ m.length := Nat.mul_le_mul_right _ h
        rw [Nat.add_mul, Nat.one_mul] at this
        omega
      · intro h
        rcases Nat.lt_or_ge c.toNat d.toNat with h3 | h3
        · exact h3
        · have : (d.toNat + 1) * 256 ^ m.length ≤ c.toNat * 256 ^ m.length := Nat.mul_le_mul_right _ (by omega)
          rw [Nat.add_mul, Nat.one_mul] at this
          omega
theorem bl_esc : ∀ (s t x y : List UInt8), s ≠ t → bl (esc s ++ 0 :: 1 :: x) (esc t ++ 0 :: 1 :: y) = bl s t
  | [], [], x, y, h => absurd rfl h
  | [], d :: t, x, y, _ => by
    by_cases hd : d = 0
    · subst hd; simp [esc, bl]
    · have : 0 < d.toNat := Nat.pos_of_ne_zero fun h => hd (UInt8.toNat_inj.1 h)
      have h2 : (0 : UInt8) ≠ d := fun h => hd h.symm
      simp [esc, hd, bl, h2, this]
  | c :: s, [], x, y, _ => by
    by_cases hc : c = 0
    · subst hc; simp [esc, bl]
    · simp [esc, hc, bl]
  | c :: s, d :: t, x, y, hne => by
    by_cases hcd : c = d
    · subst hcd
      have ih := bl_esc s t x y (fun h => hne (by rw [h]))
      rw [esc_cons, esc_cons, List.append_assoc, List.append_assoc, bl_same, ih]
      simp [bl]
    · by_cases hc : c = 0
      · subst hc
        have hd : d ≠ 0 := fun h => hcd h.symm
        rw [esc_cons, esc_cons, if_pos rfl, if_neg hd]
        simp [bl, hcd]
      · by_cases hd : d = 0
        · subst hd
          rw [esc_cons, esc_cons, if_neg hc, if_pos rfl]
          simp [bl, hcd]
        · rw [esc_cons, esc_cons, if_neg hc, if_neg hd]
          simp [bl, hcd]
theorem bl_key {v w : TValue} (hv : VOk v) (hw : VOk w) (hne : v ≠ w) (x y : List UInt8) : bl (keyS v ++ x) (keyS w ++ y) = vless v w := by
  obtain ⟨k, n, s, b⟩ := v
  obtain ⟨k', n', s', b'⟩ := w
  have iv : I64 n := hv.i64
  have iw : I64 n' := hw.i64
  rcases hv.right with ⟨h1, h2, h3⟩ | ⟨h1, h2, h3, h4⟩ | ⟨h1, h2, h3⟩ <;> rcases hw.right with ⟨g1, g2, g3⟩ | ⟨g1, g2, g3, g4⟩ | ⟨g1, g2, g3⟩ <;> simp only at h1 h2 h3 g1 g2 g3 <;> subst h1 <;> subst g1
  · subst h2; subst h3; subst g2; subst g3
    have hnn : n ≠ n' := fun h => hne (by rw [h])
    have e1 := unb_biased iv
    have e2 := unb_biased iw
    have hb : num8 (biased n) ≠ num8 (biased n') := fun h => by
      have := congrArg be h
      rw [be_num8 (biased_lt iv), be_num8 (biased_lt iw)] at this
      rw [this] at e1
      exact hnn (e1.symm.trans e2)
    have := bl_bev (num8 (biased n)) (num8 (biased n')) x y rfl hb
    rw [← be_bev, ← be_bev, be_num8 (biased_lt iv), be_num8 (biased_lt iw)] at this
    simp only [keyS, show ((1 : Int) = 3) = False from by simp, show ((1 : Int) = 2) = False from by simp, if_false, List.cons_append, bl, if_true, this, vless, ne_eq, not_true_eq_false]
    rw [Bool.eq_iff_iff, decide_eq_true_eq, decide_eq_true_eq]
    unfold biased
    obtain ⟨_, _⟩ := iv
    obtain ⟨_, _⟩ := iw
    omega
  · simp [keyS, bl, vless]
  · simp [keyS, bl, vless]
  · simp [keyS, bl, vless]
  · subst h2; subst h3; subst g2; subst g3
    have hss : s ≠ s' := fun h => hne (by rw [h])
    have := bl_esc s s' x y hss
    simp only [keyS, show ((2 : Int) = 3) = False from by simp, if_false, if_true, List.cons_append, List.append_assoc, bl, vless, ne_eq, not_true_eq_false, show ((2 : Int) = 1) = False from by simp, List.nil_append, this]
  · simp [keyS, bl, vless]
  · simp [keyS, bl, vless]
  · simp [keyS, bl, vless]
  · subst h2; subst h3; subst g2; subst g3
    have hbb : b ≠ b' := fun h => hne (by rw [h])
    cases b <;> cases b' <;> first | exact absurd rfl hbb | simp [keyS, bl, vless]
theorem keyS_pos (v : TValue) : ∃ c r, keyS v = c :: r := by
  unfold keyS
  split
  · exact ⟨_, _, rfl⟩
  · split <;> exact ⟨_, _, rfl⟩
theorem bl_keys : ∀ {a b : List TValue}, (∀ v ∈ a, VOk v) → (∀ v ∈ b, VOk v) → bl (keysS a) (keysS b) = lbl a b
  | [], [], _, _ => rfl
  | [], w :: b, _, _ => by
    obtain ⟨c, r, h⟩ := keyS_pos w
    rw [keysS_cons, h]; rfl
  | v :: a, [], _, _ => by
    obtain ⟨c, r, h⟩ := keyS_pos v
    rw [keysS_cons, h]; rfl
  | v :: a, w :: b, ha, hb => by
    rw [keysS_cons, keysS_cons]
    by_cases h : v = w
    · subst h
      rw [bl_same, bl_keys (fun x hx => ha x (by simp [hx])) (fun x hx => hb x (by simp [hx]))]
      simp [lbl]
    · rw [bl_key (ha v (by simp)) (hb w (by simp)) h]
      simp [lbl, h]
theorem keys_inj : ∀ {a b : List TValue}, (∀ v ∈ a, VOk v) → (∀ v ∈ b, VOk v) → keysS a = keysS b → a = b
  | [], [], _, _, _ => rfl
  | [], w :: b, _, _, h => by
    obtain ⟨c, r, e⟩ := keyS_pos w
    rw [keysS_cons, e] at h; cases h
  | v :: a, [], _, _, h => by
    obtain ⟨c, r, e⟩ := keyS_pos v
    rw [keysS_cons, e] at h; cases h
  | v :: a, w :: b, ha, hb, h => by
    rw [keysS_cons, keysS_cons] at h
    have h1 := rd_key (ha v (by simp)) (keysS a)
    have h2 := rd_key (hb w (by simp)) (keysS b)
    rw [h, h2] at h1
    simp only [Option.some.injEq, Prod.mk.injEq] at h1
    obtain ⟨rfl, _⟩ := h1
    have := List.append_cancel_left h
    rw [keys_inj (fun x hx => ha x (by simp [hx])) (fun x hx => hb x (by simp [hx])) this]

/-! ### the laws -/
theorem rightS_one {l : List TValue} (h : rightS l = 1) : l.length ≤ 10 ∧ (∀ v ∈ l, v.str.length ≤ 5000) ∧ ∀ v ∈ l, VR v := by
  unfold rightS at h
  split at h
  · cases h
  · split at h
    · cases h
    · split at h
      · rename_i h1 h2 h3
        refine ⟨by omega, fun v hv => ?_, fun v hv => ?_⟩
        · have h4 : ¬ long l = true := h2
          unfold long at h4
          rw [List.any_eq_true] at h4
          rcases Nat.lt_or_ge 5000 v.str.length with h5 | h5
          · exact absurd ⟨v, hv, by simpa using h5⟩ h4
          · exact h5
        · have := (List.all_eq_true.1 h3) v hv
          simpa using this
      · cases h
theorem law04_KeyOrder_true {a b : List TValue} (ha : ∀ v ∈ a, I64 v.int) (hb : ∀ v ∈ b, I64 v.int) : law04_KeyOrder a b = some true := by
  unfold law04_KeyOrder
  simp only [law04_right_eq, law04_awake_eq, bndE_s, iteE_if, Bool.not_eq_true', decide_eq_false_iff_not]
  by_cases h1 : rightS a = 1
  · by_cases h2 : rightS b = 1
    · obtain ⟨a1, a2, a3⟩ := rightS_one h1
      obtain ⟨b1, b2, b3⟩ := rightS_one h2
      have oa : ∀ v ∈ a, VOk v := fun v hv => ⟨a3 v hv, ha v hv⟩
      have ob : ∀ v ∈ b, VOk v := fun v hv => ⟨b3 v hv, hb v hv⟩
      have ra : allR a = true := List.all_eq_true.2 fun v hv => by simpa using a3 v hv
      have rb : allR b = true := List.all_eq_true.2 fun v hv => by simpa using b3 v hv
      have la := keysS_len a2
      simp only [h1, h2, not_true_eq_false, if_false, key_Of_eq (l := a) (by omega) (fun v hv => ⟨ha v hv, a2 v hv⟩), key_Of_eq (l := b) (by omega) (fun v hv => ⟨hb v hv, b2 v hv⟩), bndE_s, ofS, ra, rb, if_true,
        ref03_Below_eq (keysS a) (keysS b) (by omega), law04_below_eq a b (by omega) (fun v hv => by have := a2 v hv; omega), bl_keys oa ob, law04_same_eq a b (by omega), beq_self_eq_true]
      have : decide (keysS a = keysS b) = decide (a = b) := by
        rw [Bool.eq_iff_iff, decide_eq_true_eq, decide_eq_true_eq]
        exact ⟨keys_inj oa ob, fun h => by rw [h]⟩
      rw [this, beq_self_eq_true]; simp
    · simp [h1, h2]
  · simp [h1]
end Go.Ac
