/- Own work: how calls of the model run over plain data. -/
import Derived.Test.YtbmojpadjglncaaGreatAc1
set_option linter.unusedVariables false
set_option linter.unusedSimpArgs false
namespace Go.Ac

inductive A where
  | d (x : D)
  | box (n off : Nat)
  | row (n : Nat)
  | bsl (n off len : Nat)
  | ep (n k i off : Nat)
  | ub
  | eptr (cs : List D)
  | clo (f : Fn) (first cap : List A)
  | agg (cs : List A)
  | tup (vs : List A)
  | opq (a : A)
  | nil
  | any

inductive Bk where
  | cells (cs : List A)
  | row (e : TypeId) (k : Nat) (xs : List D)
  | old (xs : List D)
  | buf (sl : Bool) (e : TypeId) (k : Nat) (xs : List D)
  | fz (cs : List D)
  | obj (g : Nat) (o : Obj)
  | vals (as : List A) (us : List Value)
  | rw (e : TypeId) (k : Nat) (xs : List D)
  | dead
  | map (clk : Nat) (es : List (Nat × D × D))
  | mit (n : Nat) (clk : Nat) (seen : List Nat)
  | mapS (es : List (D × D))
  | bag (e : TypeId) (k : Nat) (xs : List D)

abbrev Bx := List (Nat × Bk)
abbrev Val := Nat → Value

def up : Nat := 1000

def vblk : Value → Option Nat
  | .pointer (some a) => some a.block
  | .slice (some a) _ _ => some a.block
  | .map (some b) => some b
  | _ => none

def hnd (u : Value) : Prop := (∃ ad l c, u = .slice ad l c) ∨ ∃ b, u = .map (some b)
theorem hnd.sl (ad : Option Addr) (l c : Nat) : hnd (.slice ad l c) := .inl ⟨ad, l, c, rfl⟩
def REs (h : Hw) (w : World) : List (Nat × D × D) → List MapEntry → Prop
  | [], l => l = []
  | x :: xs, l => ∃ e l', l = e :: l' ∧ e.born = x.1 ∧ RD h w x.2.1 e.key ∧ RD h w x.2.2 e.val ∧ REs h w xs l'
theorem REs.stays {h w h' w'} (s : Stays h w h' w') : ∀ (xs : List (Nat × D × D)) (l : List MapEntry), REs h w xs l → REs h' w' xs l
  | [], _, hr => hr
  | x :: xs, l, ⟨e, l', a, b, c, d, r⟩ => ⟨e, l', a, b, RD.stays s _ _ c, RD.stays s _ _ d, REs.stays s xs l' r⟩

def RM (h : Hw) (w : World) (v : Value) (clk : Nat) (es : List (Nat × D × D)) : Prop :=
  ∃ b l, v = .map (some b) ∧ w.heap[b]? = some (.map ⟨l⟩ clk) ∧ REs h w es l ∧ (∀ x ∈ es, x.1 < clk) ∧ (es.map (·.1)).Nodup ∧ (es.map (·.2.1)).Nodup ∧ h b = 0
mutual
def RA (h : Hw) (w : World) : Val → A → Value → Prop
  | _, .d x, u => RD h w x u
  | val, .box n off, u => ∃ b, val n = .pointer (some ⟨b, 0, none⟩) ∧ u = .pointer (some ⟨b, off, none⟩)
  | val, .bsl n off len, u => ∃ b c, val n = .pointer (some ⟨b, 0, none⟩) ∧ u = .slice (some ⟨b, off, none⟩) len c ∧ len ≤ c ∧ c ≤ maxLen
  | val, .ep n k i off, u => ∃ b, vblk (val n) = some b ∧ u = .pointer (some ⟨b, i * k + off, none⟩)
  | val, .row n, u => u = val n ∧ hnd u
  | _, .eptr cs, u => ∃ a us, u = .pointer (some a) ∧ RDs h w cs us ∧ ∀ j v, us[j]? = some v → w.cell? (a.add j) = some v ∧ a.off + j < h a.block
  | val, .clo f first cap, u => ∃ fs cs, u = .func f ⟨fs⟩ ⟨cs⟩ ∧ RAs h w val first fs ∧ RAs h w val cap cs
  | val, .agg cs, u => ∃ us, u = .agg ⟨us⟩ ∧ RAs h w val cs us ∧ ∀ u ∈ us, u.oneCell' = true
  | val, .tup vs, u => ∃ us, u = .tuple ⟨us⟩ ∧ RAs h w val vs us
  | val, .opq a, u => RA h w (fun n => val (n + up)) a u
  | _, .nil, u => u = .slice none 0 0
  | _, .ub, u => ∃ b, u = .bool b
  | _, .any, _ => True
def RAs (h : Hw) (w : World) : Val → List A → List Value → Prop
  | _, [], us => us = []
  | val, a :: as, us => ∃ u us', us = u :: us' ∧ RA h w val a u ∧ RAs h w val as us'
end

def isDef : Obj → Bool
  | .deferred _ => true
  | _ => false
def RB (h : Hw) (w : World) (val : Val) (n : Nat) : Bk → Prop
  | .cells cs => ∃ b us t, val n = .pointer (some ⟨b, 0, none⟩) ∧ w.heap[b]? = some (.cells ⟨us⟩ t (0, 0)) ∧ RAs h w val cs us ∧ (∀ u ∈ us, u.oneCell' = true) ∧ h b = 0
  | .row e k xs => ∃ us, w.ownsRow 0 e k (val n) xs.length us ∧ RRow h w k xs us ∧ ∀ g, (val n).ownBlock = some g → h g = xs.length * k
  | .old xs => RD h w (.sl xs) (val n)
  | .buf sl e k xs => ∃ g us, val n = (if sl then .slice (some ⟨g, 0, none⟩) xs.length xs.length else .pointer (some ⟨g, 0, none⟩)) ∧ xs.length ≤ maxLen ∧
      w.heap[g]? = some (.cells ⟨us⟩ e (0, 0)) ∧ RRow h w k xs us ∧ h g = 0
  | .fz cs => ∃ b us, val n = .pointer (some ⟨b, 0, none⟩) ∧ RDs h w cs us ∧ ∀ j v, us[j]? = some v → w.cell? ⟨b, j, none⟩ = some v ∧ j < h b
  | .obj g o => val n = .pointer (some ⟨g, 0, none⟩) ∧ w.heap[g]? = some o ∧ isDef o = false
  | .vals as us => RAs h w val as us
  | .rw e k xs => ∃ us, w.ownsRow 0 e k (val n) xs.length us ∧ RRow h w k xs us ∧ ∀ g, (val n).ownBlock = some g → h g = 0
  | .dead => True
  | .map clk es => RM h w (val n) clk es
  | .mapS es => ∃ clk es', RM h w (val n) clk es' ∧ (es'.map (·.2)).Perm es
  | .bag e k xs => ∃ xs' us, xs'.Perm xs ∧ w.ownsRow 0 e k (val n) xs'.length us ∧ RRow h w k xs' us ∧ ∀ g, (val n).ownBlock = some g → h g = 0
  | .mit m clk seen => ∃ r b, val n = .pointer (some ⟨r, 0, none⟩) ∧ val m = .map (some b) ∧ w.heap[r]? = some (.mapIter (some b) clk ⟨seen⟩ clk)

def names (B : Bx) : List Nat := B.map (·.1)
def Bk.isOld : Bk → Bool
  | .old _ => true
  | .fz _ => true
  | .vals _ _ => true
  | .dead => true
  | _ => false
def blkOf (val : Val) (p : Nat × Bk) : Option Nat := if p.2.isOld then none else vblk (val p.1)
def blks (val : Val) (B : Bx) : List Nat := B.filterMap (blkOf val)

structure Inv (h : Hw) (w : World) (val : Val) (B : Bx) : Prop where
  rep : ∀ p ∈ B, RB h w val p.1 p.2
  nms : (names B).Nodup
  bks : (blks val B).Nodup

structure Keep (M : List Nat) (h : Hw) (w : World) (h' : Hw) (w' : World) : Prop where
  os : w'.os = w.os
  tape : w'.tape = w.tape
  output : w'.output = w.output
  size : w.heap.size ≤ w'.heap.size
  cells : ∀ b i v, i < h b → w.cell? ⟨b, i, none⟩ = some v → w'.cell? ⟨b, i, none⟩ = some v
  mono : ∀ b, b < w.heap.size → h b ≤ h' b
  far : ∀ b, b < w.heap.size → b ∉ M → w'.heap[b]? = w.heap[b]? ∧ h' b = h b

theorem Keep.stays {M h w h' w'} (k : Keep M h w h' w') : Stays h w h' w' := ⟨k.cells, k.mono⟩
theorem Keep.refl (M : List Nat) (h : Hw) (w : World) : Keep M h w h w :=
  ⟨rfl, rfl, rfl, Nat.le_refl _, fun _ _ _ _ hc => hc, fun _ _ => Nat.le_refl _, fun _ _ _ => ⟨rfl, rfl⟩⟩

theorem cell_lt {w : World} {b i : Nat} {v : Value} (h : w.cell? ⟨b, i, none⟩ = some v) : b < w.heap.size := World.block_lt_of_cell? w _ h

theorem Keep.trans {M M' : List Nat} {h h1 h2 : Hw} {w w1 w2 : World} (a : Keep M h w h1 w1) (b : Keep M' h1 w1 h2 w2)
    (hM : ∀ x ∈ M', x ∈ M ∨ w.heap.size ≤ x) : Keep M h w h2 w2 where
  os := b.os.trans a.os
  tape := b.tape.trans a.tape
  output := b.output.trans a.output
  size := Nat.le_trans a.size b.size
  cells := fun x i v hi hc => b.cells x i v (Nat.lt_of_lt_of_le hi (a.mono x (cell_lt hc))) (a.cells x i v hi hc)
  mono := fun x hx => Nat.le_trans (a.mono x hx) (b.mono x (Nat.lt_of_lt_of_le hx a.size))
  far := fun x hx hn => by
    have hn' : x ∉ M' := fun hm => by
      rcases hM x hm with h | h
      · exact hn h
      · omega
    obtain ⟨a1, a2⟩ := a.far x hx hn
    obtain ⟨b1, b2⟩ := b.far x (Nat.lt_of_lt_of_le hx a.size) hn'
    exact ⟨b1.trans a1, b2.trans a2⟩

mutual
theorem RA.stays {h w h' w'} (s : Stays h w h' w') : ∀ (val : Val) (a : A) (u : Value), RA h w val a u → RA h' w' val a u
  | _, .d x, u, hr => by simp only [RA] at hr ⊢; exact RD.stays s x u hr
  | _, .box n off, u, hr => by simpa [RA] using hr
  | _, .bsl n off l, u, hr => by simpa only [RA] using hr
  | _, .ep n k i off, u, hr => by simpa only [RA] using hr
  | _, .row n, u, hr => by simpa [RA] using hr
  | _, .eptr cs, u, hr => by
    simp only [RA] at hr ⊢
    obtain ⟨a, us, e, hr, hc⟩ := hr
    refine ⟨a, us, e, RDs.stays s cs us hr, fun j v hj => ?_⟩
    obtain ⟨c1, c2⟩ := hc j v hj
    have := s.cell c1 (by rw [add_block, add_off]; exact c2)
    rw [add_block, add_off] at this
    exact this
  | val, .clo f first cap, u, hr => by
    simp only [RA] at hr ⊢
    obtain ⟨fs, cs, e, h1, h2⟩ := hr
    exact ⟨fs, cs, e, RAs.stays s val first fs h1, RAs.stays s val cap cs h2⟩
  | val, .agg cs, u, hr => by
    simp only [RA] at hr ⊢
    obtain ⟨us, e, h1, h2⟩ := hr
    exact ⟨us, e, RAs.stays s val cs us h1, h2⟩
  | val, .tup cs, u, hr => by
    simp only [RA] at hr ⊢
    obtain ⟨us, e, h1⟩ := hr
    exact ⟨us, e, RAs.stays s val cs us h1⟩
  | val, .opq a, u, hr => by simp only [RA] at hr ⊢; exact RA.stays s _ a u hr
  | _, .nil, u, hr => by simpa only [RA] using hr
  | _, .ub, u, hr => by simpa only [RA] using hr
  | _, .any, u, hr => by simp [RA]
theorem RAs.stays {h w h' w'} (s : Stays h w h' w') : ∀ (val : Val) (as : List A) (us : List Value), RAs h w val as us → RAs h' w' val as us
  | _, [], us, hr => by simpa [RAs] using hr
  | val, a :: as, us, hr => by
    simp only [RAs] at hr ⊢
    obtain ⟨u, us', e, h1, h2⟩ := hr
    exact ⟨u, us', e, RA.stays s val a u h1, RAs.stays s val as us' h2⟩
end

-- The names that a value bears (inside 'opq' nothing below 'up').
mutual
def A.has (n : Nat) : A → Bool
  | .box m _ => m == n
  | .bsl m _ _ => m == n
  | .ep m _ _ _ => m == n
  | .row m => m == n
  | .clo _ fs cs => hasAny n fs || hasAny n cs
  | .agg cs => hasAny n cs
  | .tup vs => hasAny n vs
  | .opq _ => Nat.ble up n
  | _ => false
def hasAny (n : Nat) : List A → Bool
  | [] => false
  | a :: as => a.has n || hasAny n as
end

theorem opq_congr {val val' : Val} {n : Nat} (hv : ∀ m, m ≠ n → val' m = val m) (hn : Nat.ble up n = false) : (fun m => val' (m + up)) = fun m => val (m + up) := by
  funext m
  apply hv
  intro e
  have : ¬ up ≤ n := fun hle => by rw [Nat.ble_eq_true_of_le hle] at hn; cases hn
  omega

mutual
theorem RA.upd {h w} {val val' : Val} {n : Nat} (hv : ∀ m, m ≠ n → val' m = val m) : ∀ (a : A) (u : Value), a.has n = false → RA h w val a u → RA h w val' a u
  | .d x, u, _, hr => by simpa only [RA] using hr
  | .box m off, u, hn, hr => by
    simp [A.has] at hn
    simpa only [RA, hv m hn] using hr
  | .bsl m off l, u, hn, hr => by
    simp [A.has] at hn
    simpa only [RA, hv m hn] using hr
  | .ep m k i off, u, hn, hr => by
    simp [A.has] at hn
    simpa only [RA, hv m hn] using hr
  | .row m, u, hn, hr => by
    simp [A.has] at hn
    simpa only [RA, hv m hn] using hr
  | .eptr cs, u, _, hr => by simpa only [RA] using hr
  | .clo f first cap, u, hn, hr => by
    simp only [A.has, Bool.or_eq_false_iff] at hn
    simp only [RA] at hr ⊢
    obtain ⟨fs, cs, e, h1, h2⟩ := hr
    exact ⟨fs, cs, e, RAs.upd hv first fs hn.1 h1, RAs.upd hv cap cs hn.2 h2⟩
  | .agg cs, u, hn, hr => by
    simp only [A.has] at hn
    simp only [RA] at hr ⊢
    obtain ⟨us, e, h1, h2⟩ := hr
    exact ⟨us, e, RAs.upd hv cs us hn h1, h2⟩
  | .tup cs, u, hn, hr => by
    simp only [A.has] at hn
    simp only [RA] at hr ⊢
    obtain ⟨us, e, h1⟩ := hr
    exact ⟨us, e, RAs.upd hv cs us hn h1⟩
  | .opq a, u, hn, hr => by
    simp only [A.has] at hn
    simp only [RA] at hr ⊢
    rw [opq_congr hv hn]
    exact hr
  | .nil, u, _, hr => by simpa only [RA] using hr
  | .ub, u, _, hr => by simpa only [RA] using hr
  | .any, u, _, hr => by simp [RA]
theorem RAs.upd {h w} {val val' : Val} {n : Nat} (hv : ∀ m, m ≠ n → val' m = val m) : ∀ (as : List A) (us : List Value), hasAny n as = false → RAs h w val as us → RAs h w val' as us
  | [], us, _, hr => by simpa [RAs] using hr
  | a :: as, us, hn, hr => by
    simp only [hasAny, Bool.or_eq_false_iff] at hn
    simp only [RAs] at hr ⊢
    obtain ⟨u, us', e, h1, h2⟩ := hr
    exact ⟨u, us', e, RA.upd hv a u hn.1 h1, RAs.upd hv as us' hn.2 h2⟩
end

section
variable {h : Hw} {w : World} {val : Val}
theorem RAs.length : ∀ {as : List A} {us : List Value}, RAs h w val as us → us.length = as.length
  | [], us, hr => by simp only [RAs] at hr; simp [hr]
  | a :: as, us, hr => by
    simp only [RAs] at hr
    obtain ⟨u, us', e, _, h2⟩ := hr
    simp [e, RAs.length h2]
theorem RAs.get : ∀ {as : List A} {us : List Value}, RAs h w val as us → ∀ (i : Nat) a, as[i]? = some a → ∃ u, us[i]? = some u ∧ RA h w val a u
  | [], us, hr, i, a, ha => by simp at ha
  | a0 :: as, us, hr, i, a, ha => by
    simp only [RAs] at hr
    obtain ⟨u, us', e, h1, h2⟩ := hr
    subst e
    cases i with
    | zero => simp at ha; subst ha; exact ⟨u, by simp, h1⟩
    | succ i => simp at ha; simpa using RAs.get h2 i a ha
theorem RAs.of : ∀ {as : List A} {us : List Value}, us.length = as.length → (∀ (i : Nat) a u, as[i]? = some a → us[i]? = some u → RA h w val a u) → RAs h w val as us
  | [], us, hl, _ => by simp only [RAs]; exact List.eq_nil_of_length_eq_zero (by simpa using hl)
  | a :: as, [], hl, _ => by simp at hl
  | a :: as, u :: us, hl, hg => by
    simp only [RAs]
    exact ⟨u, us, rfl, hg 0 a u (by simp) (by simp), RAs.of (by simpa using hl) fun i b v hb hv => hg (i + 1) b v (by simpa using hb) (by simpa using hv)⟩
theorem RAs.set {as : List A} {us : List Value} (hr : RAs h w val as us) (i : Nat) {a : A} {u : Value} (ha : RA h w val a u) : RAs h w val (as.set i a) (us.set i u) := by
  refine RAs.of (by simp [RAs.length hr]) fun j b v hb hv => ?_
  rw [List.getElem?_set] at hb hv
  by_cases hij : i = j
  · subst hij
    have hl := RAs.length hr
    simp only [if_true] at hb hv
    split at hb
    · split at hv
      · simp at hb hv; subst hb; subst hv; exact ha
      · cases hv
    · cases hb
  · simp only [hij, if_false] at hb hv
    obtain ⟨u', hu', hr'⟩ := RAs.get hr j b hb
    rw [hu'] at hv
    cases hv
    exact hr'
theorem RAs.append : ∀ {as : List A} {us : List Value} {bs : List A} {vs : List Value}, RAs h w val as us → RAs h w val bs vs → RAs h w val (as ++ bs) (us ++ vs)
  | [], us, bs, vs, hr, hs => by simp only [RAs] at hr; simpa [hr] using hs
  | a :: as, us, bs, vs, hr, hs => by
    simp only [RAs] at hr
    obtain ⟨u, us', e, h1, h2⟩ := hr
    subst e
    simp only [List.cons_append, RAs]
    exact ⟨u, us' ++ vs, rfl, h1, RAs.append h2 hs⟩
theorem RAs.take : ∀ {as : List A} {us : List Value} (n : Nat), RAs h w val as us → RAs h w val (as.take n) (us.take n)
  | [], us, n, hr => by simp only [RAs] at hr; simp [hr, RAs]
  | a :: as, us, 0, hr => by simp [RAs]
  | a :: as, us, n + 1, hr => by
    simp only [RAs] at hr
    obtain ⟨u, us', e, h1, h2⟩ := hr
    subst e
    simp only [List.take_succ_cons, RAs]
    exact ⟨u, us'.take n, rfl, h1, RAs.take n h2⟩
theorem RAs.drop : ∀ {as : List A} {us : List Value} (n : Nat), RAs h w val as us → RAs h w val (as.drop n) (us.drop n)
  | [], us, n, hr => by simp only [RAs] at hr; simp [hr, RAs]
  | a :: as, us, 0, hr => by simpa using hr
  | a :: as, us, n + 1, hr => by
    simp only [RAs] at hr
    obtain ⟨u, us', e, h1, h2⟩ := hr
    subst e
    simpa using RAs.drop n h2
end
end Go.Ac
