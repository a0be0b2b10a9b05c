/- Own work: how calls of the model run over plain data. -/
import Derived.Test.YtbmojpadjglncaaGreatAc7
set_option linter.unusedVariables false
set_option linter.unusedSimpArgs false
namespace Go.Ac

theorem blks_append (val : Val) (A B : Bx) : blks val (A ++ B) = blks val A ++ blks val B := by simp [blks]
theorem names_append (A B : Bx) : names (A ++ B) = names A ++ names B := by simp [names]
theorem blks_congr {val val' : Val} {B : Bx} (h : ∀ n ∈ names B, val' n = val n) : blks val' B = blks val B := by
  induction B with
  | nil => rfl
  | cons p B ih =>
    have h1 : val' p.1 = val p.1 := h p.1 (by simp [names])
    have h2 := ih fun n hn => h n (by simp only [names, List.map_cons, List.mem_cons]; exact .inr hn)
    have h3 : blkOf val' p = blkOf val p := by simp only [blkOf, h1]
    simp only [blks] at h2 ⊢
    simp only [List.filterMap_cons, h3, h2]
theorem blkOf_some {val : Val} {p : Nat × Bk} {g : Nat} (h : blkOf val p = some g) : vblk (val p.1) = some g ∧ p.2.isOld = false := by
  unfold blkOf at h
  split at h
  · cases h
  · rename_i ho; exact ⟨h, by simpa using ho⟩
theorem blkOf_of {val : Val} {n : Nat} {b : Bk} {g : Nat} (h : vblk (val n) = some g) (ho : b.isOld = false) : blkOf val (n, b) = some g := by
  simp [blkOf, ho, h]

def bxHas (n : Nat) : Bx → Bool
  | [] => false
  | p :: B => p.1 == n || p.2.has n || bxHas n B

theorem bxHas_spec {n : Nat} : ∀ {B : Bx}, bxHas n B = false → ∀ p ∈ B, p.1 ≠ n ∧ p.2.has n = false
  | [], _, p, hp => by cases hp
  | q :: B, hb, p, hp => by
    simp only [bxHas, Bool.or_eq_false_iff, beq_eq_false_iff_ne] at hb
    rcases List.mem_cons.1 hp with rfl | hp
    · exact ⟨hb.1.1, hb.1.2⟩
    · exact bxHas_spec hb.2 p hp

theorem vblk_own {v : Value} {g : Nat} (h : v.ownBlock = some g) : vblk v = some g := by
  unfold Value.ownBlock at h
  split at h
  · simpa [vblk] using h
  · cases h

theorem RB.stays {h w h' w' val n} {b : Bk} (s : Stays h w h' w') (hb : ∀ g, blkOf val (n, b) = some g → w'.heap[g]? = w.heap[g]? ∧ h' g = h g) (hr : RB h w val n b) : RB h' w' val n b := by
  cases b with
  | cells cs =>
    obtain ⟨g, us, t, e, hg, hr, h1, h0⟩ := hr
    obtain ⟨a1, a2⟩ := hb g (by rw [blkOf, e]; rfl)
    exact ⟨g, us, t, e, a1.trans hg, RAs.stays s _ _ _ hr, h1, a2.trans h0⟩
  | row e k xs =>
    obtain ⟨us, hown, hrow, hh⟩ := hr
    refine ⟨us, ⟨hown.1, ?_⟩, RRow.stays s _ _ _ hrow, fun g hg => ?_⟩
    · rcases hown.2 with hn | ⟨g, cap, cur, hv, hg0, hg, rest⟩
      · exact .inl hn
      · exact .inr ⟨g, cap, cur, hv, hg0, (hb g (by rw [blkOf, hv]; rfl)).1.trans hg, rest⟩
    · rw [(hb g (blkOf_of (vblk_own hg) rfl)).2]
      exact hh g hg
  | rw e k xs =>
    obtain ⟨us, hown, hrow, hh⟩ := hr
    refine ⟨us, ⟨hown.1, ?_⟩, RRow.stays s _ _ _ hrow, fun g hg => ?_⟩
    · rcases hown.2 with hn | ⟨g, cap, cur, hv, hg0, hg, rest⟩
      · exact .inl hn
      · exact .inr ⟨g, cap, cur, hv, hg0, (hb g (by rw [blkOf, hv]; rfl)).1.trans hg, rest⟩
    · rw [(hb g (blkOf_of (vblk_own hg) rfl)).2]
      exact hh g hg
  | old xs => exact RD.stays s _ _ hr
  | dead => trivial
  | fz cs =>
    obtain ⟨g, us, hv, hr, hc⟩ := hr
    exact ⟨g, us, hv, RDs.stays s _ _ hr, fun j v hj => by
      obtain ⟨c1, c2⟩ := hc j v hj
      exact s.cell (a := ⟨g, j, none⟩) c1 c2⟩
  | buf sl e k xs =>
    obtain ⟨g, us, hv, hl, hg, hrow, h0⟩ := hr
    obtain ⟨a1, a2⟩ := hb g (by rw [blkOf, hv]; cases sl <;> rfl)
    exact ⟨g, us, hv, hl, a1.trans hg, RRow.stays s _ _ _ hrow, a2.trans h0⟩
  | vals as us => exact RAs.stays s _ _ _ hr
  | obj g o =>
    obtain ⟨hv, hg, hd⟩ := hr
    exact ⟨hv, (hb g (by rw [blkOf, hv]; rfl)).1.trans hg, hd⟩
  | map clk es =>
    obtain ⟨g, l, hv, hg, hr, h1, h2, h3, h0⟩ := hr
    obtain ⟨a1, a2⟩ := hb g (by rw [blkOf, hv]; rfl)
    exact ⟨g, l, hv, a1.trans hg, REs.stays s _ _ hr, h1, h2, h3, a2.trans h0⟩
  | mapS es =>
    obtain ⟨clk, es', ⟨g, l, hv, hg, hr, h1, h2, h3, h0⟩, hp⟩ := hr
    obtain ⟨a1, a2⟩ := hb g (by rw [blkOf, hv]; rfl)
    exact ⟨clk, es', ⟨g, l, hv, a1.trans hg, REs.stays s _ _ hr, h1, h2, h3, a2.trans h0⟩, hp⟩
  | bag e k xs =>
    obtain ⟨xs', us, hp, hown, hrow, hh⟩ := hr
    refine ⟨xs', us, hp, ⟨hown.1, ?_⟩, RRow.stays s _ _ _ hrow, fun g hg => ?_⟩
    · rcases hown.2 with hn | ⟨g, cap, cur, hv, hg0, hg, rest⟩
      · exact .inl hn
      · exact .inr ⟨g, cap, cur, hv, hg0, (hb g (by rw [blkOf, hv]; rfl)).1.trans hg, rest⟩
    · rw [(hb g (blkOf_of (vblk_own hg) rfl)).2]
      exact hh g hg
  | mit m clk seen =>
    obtain ⟨r, b, hv, hm, hg⟩ := hr
    exact ⟨r, b, hv, hm, (hb r (by rw [blkOf, hv]; rfl)).1.trans hg⟩
theorem RB.upd {h w} {val val' : Val} {m n : Nat} {b : Bk} (hv : ∀ m, m ≠ n → val' m = val m) (hm : m ≠ n) (hb : b.has n = false) (hr : RB h w val m b) : RB h w val' m b := by
  cases b with
  | cells cs =>
    obtain ⟨g, us, t, e, hg, hr, h1, h0⟩ := hr
    exact ⟨g, us, t, (hv m hm).trans e, hg, RAs.upd hv cs us hb hr, h1, h0⟩
  | row e k xs =>
    obtain ⟨us, hown, hrow, hh⟩ := hr
    rw [← hv m hm] at hown hh
    exact ⟨us, hown, hrow, hh⟩
  | rw e k xs =>
    obtain ⟨us, hown, hrow, hh⟩ := hr
    rw [← hv m hm] at hown hh
    exact ⟨us, hown, hrow, hh⟩
  | old xs =>
    simp only [RB] at hr ⊢
    rw [hv m hm]
    exact hr
  | fz cs =>
    obtain ⟨g, us, e1, rest⟩ := hr
    exact ⟨g, us, (hv m hm).trans e1, rest⟩
  | buf sl e k xs =>
    obtain ⟨g, us, e1, rest⟩ := hr
    exact ⟨g, us, (hv m hm).trans e1, rest⟩
  | vals as us => exact RAs.upd hv as us hb hr
  | dead => trivial
  | obj g o =>
    obtain ⟨e1, rest⟩ := hr
    exact ⟨(hv m hm).trans e1, rest⟩
  | map clk es =>
    obtain ⟨g, l, e1, rest⟩ := hr
    exact ⟨g, l, (hv m hm).trans e1, rest⟩
  | mapS es =>
    obtain ⟨clk, es', ⟨g, l, e1, rest⟩, hp⟩ := hr
    exact ⟨clk, es', ⟨g, l, (hv m hm).trans e1, rest⟩, hp⟩
  | bag e k xs =>
    obtain ⟨xs', us, hp, hown, hrow, hh⟩ := hr
    rw [← hv m hm] at hown hh
    exact ⟨xs', us, hp, hown, hrow, hh⟩
  | mit k clk seen =>
    obtain ⟨r, b, e1, e2, rest⟩ := hr
    have hk : k ≠ n := fun e => by subst e; simp [Bk.has] at hb
    exact ⟨r, b, (hv m hm).trans e1, (hv k hk).trans e2, rest⟩

def setV (val : Val) (n : Nat) (v : Value) : Val := fun m => if m = n then v else val m
def setH (h : Hw) (b : Nat) (k : Nat) : Hw := fun m => if m = b then k else h m

theorem keep_new (M : List Nat) (h : Hw) (w : World) (o : Obj) (k : Nat) : Keep M h w (setH h w.heap.size k) (w.alloc o) where
  os := rfl
  tape := rfl
  output := rfl
  size := by simp
  cells := fun b i v hi hc => by rw [World.cell?_alloc_lt w o _ (by exact cell_lt hc)]; exact hc
  mono := fun b hb => by simp [setH, Nat.ne_of_lt hb]
  far := fun b hb _ => ⟨heap_alloc_old w o hb, by simp [setH, Nat.ne_of_lt hb]⟩

theorem Inv.blk_lt {h w val B} (I : Inv h w val B) : ∀ b ∈ blks val B, b < w.heap.size := by
  intro b hb
  simp only [blks, List.mem_filterMap] at hb
  obtain ⟨⟨n, bk⟩, hp, hb⟩ := hb
  have hr := I.rep _ hp
  cases bk with
  | cells cs =>
    obtain ⟨g, us, t, e, hg, _⟩ := hr
    simp only at e
    simp only [blkOf, e, vblk, Option.some.injEq, Bk.isOld, Bool.false_eq_true, if_false] at hb
    subst hb
    exact (Array.getElem?_eq_some_iff.1 hg).1
  | row e k xs =>
    obtain ⟨us, hown, _⟩ := hr
    rcases hown.2 with ⟨hv, _⟩ | ⟨g, cap, cur, hv, _, hg, _⟩
    · simp only at hv; simp [blkOf, hv, vblk] at hb
    · simp only at hv
      simp only [blkOf, hv, vblk, Option.some.injEq, Bk.isOld, Bool.false_eq_true, if_false] at hb
      subst hb
      exact (Array.getElem?_eq_some_iff.1 hg).1
  | rw e k xs =>
    obtain ⟨us, hown, _⟩ := hr
    rcases hown.2 with ⟨hv, _⟩ | ⟨g, cap, cur, hv, _, hg, _⟩
    · simp only at hv; simp [blkOf, hv, vblk] at hb
    · simp only at hv
      simp only [blkOf, hv, vblk, Option.some.injEq, Bk.isOld, Bool.false_eq_true, if_false] at hb
      subst hb
      exact (Array.getElem?_eq_some_iff.1 hg).1
  | old xs => simp [blkOf, Bk.isOld] at hb
  | fz cs => simp [blkOf, Bk.isOld] at hb
  | vals as us => simp [blkOf, Bk.isOld] at hb
  | dead => simp [blkOf, Bk.isOld] at hb
  | buf sl e k xs =>
    obtain ⟨g, us, hv, hl, hg, _⟩ := hr
    simp only at hv
    have hb2 := (blkOf_some hb).1
    simp only [hv] at hb2
    cases sl <;> (simp [vblk] at hb2; subst hb2; exact (Array.getElem?_eq_some_iff.1 hg).1)
  | obj g o =>
    obtain ⟨hv, hg, _⟩ := hr
    simp only at hv hg
    have hb2 := (blkOf_some hb).1
    simp only [hv, vblk, Option.some.injEq] at hb2
    subst hb2
    exact (Array.getElem?_eq_some_iff.1 hg).1
  | map clk es =>
    obtain ⟨g, l, hv, hg, _⟩ := hr
    simp only at hv
    have hb2 := (blkOf_some hb).1
    simp only [hv, vblk, Option.some.injEq] at hb2
    subst hb2
    exact (Array.getElem?_eq_some_iff.1 hg).1
  | mapS es =>
    obtain ⟨clk, es', ⟨g, l, hv, hg, _⟩, _⟩ := hr
    simp only at hv
    have hb2 := (blkOf_some hb).1
    simp only [hv, vblk, Option.some.injEq] at hb2
    subst hb2
    exact (Array.getElem?_eq_some_iff.1 hg).1
  | bag e k xs =>
    obtain ⟨xs', us, _, hown, _⟩ := hr
    rcases hown.2 with ⟨hv, _⟩ | ⟨g, cap, cur, hv, _, hg, _⟩
    · simp only at hv; simp [blkOf, hv, vblk] at hb
    · simp only at hv
      simp only [blkOf, hv, vblk, Option.some.injEq, Bk.isOld, Bool.false_eq_true, if_false] at hb
      subst hb
      exact (Array.getElem?_eq_some_iff.1 hg).1
  | mit m clk seen =>
    obtain ⟨r, g, hv, _, hg⟩ := hr
    simp only at hv
    have hb2 := (blkOf_some hb).1
    simp only [hv, vblk, Option.some.injEq] at hb2
    subst hb2
    exact (Array.getElem?_eq_some_iff.1 hg).1
theorem Inv.blk_def {h w val B} (I : Inv h w val B) : ∀ b ∈ blks val B, ∀ o, w.heap[b]? = some o → isDef o = false := by
  intro b hb o ho
  simp only [blks, List.mem_filterMap] at hb
  obtain ⟨⟨n, bk⟩, hp, hb⟩ := hb
  have hr := I.rep _ hp
  cases bk with
  | cells cs =>
    obtain ⟨g, us, t, e, hg, _⟩ := hr
    simp only at e
    simp only [blkOf, e, vblk, Option.some.injEq, Bk.isOld, Bool.false_eq_true, if_false] at hb
    subst hb
    rw [hg] at ho; cases ho; rfl
  | row e k xs =>
    obtain ⟨us, hown, _⟩ := hr
    rcases hown.2 with ⟨hv, _⟩ | ⟨g, cap, cur, hv, _, hg, _⟩
    · simp only at hv; simp [blkOf, hv, vblk] at hb
    · simp only at hv
      simp only [blkOf, hv, vblk, Option.some.injEq, Bk.isOld, Bool.false_eq_true, if_false] at hb
      subst hb
      rw [hg] at ho; cases ho; rfl
  | rw e k xs =>
    obtain ⟨us, hown, _⟩ := hr
    rcases hown.2 with ⟨hv, _⟩ | ⟨g, cap, cur, hv, _, hg, _⟩
    · simp only at hv; simp [blkOf, hv, vblk] at hb
    · simp only at hv
      simp only [blkOf, hv, vblk, Option.some.injEq, Bk.isOld, Bool.false_eq_true, if_false] at hb
      subst hb
      rw [hg] at ho; cases ho; rfl
  | old xs => simp [blkOf, Bk.isOld] at hb
  | fz cs => simp [blkOf, Bk.isOld] at hb
  | vals as us => simp [blkOf, Bk.isOld] at hb
  | dead => simp [blkOf, Bk.isOld] at hb
  | buf sl e k xs =>
    obtain ⟨g, us, hv, hl, hg, _⟩ := hr
    simp only at hv
    have hb2 := (blkOf_some hb).1
    simp only [hv] at hb2
    cases sl <;> (simp [vblk] at hb2; subst hb2; rw [hg] at ho; cases ho; rfl)
  | obj g o' =>
    obtain ⟨hv, hg, hd⟩ := hr
    simp only at hv hg
    have hb2 := (blkOf_some hb).1
    simp only [hv, vblk, Option.some.injEq] at hb2
    subst hb2
    rw [hg] at ho; cases ho; exact hd
  | map clk es =>
    obtain ⟨g, l, hv, hg, _⟩ := hr
    simp only at hv
    have hb2 := (blkOf_some hb).1
    simp only [hv, vblk, Option.some.injEq] at hb2
    subst hb2
    rw [hg] at ho; cases ho; rfl
  | mapS es =>
    obtain ⟨clk, es', ⟨g, l, hv, hg, _⟩, _⟩ := hr
    simp only at hv
    have hb2 := (blkOf_some hb).1
    simp only [hv, vblk, Option.some.injEq] at hb2
    subst hb2
    rw [hg] at ho; cases ho; rfl
  | bag e k xs =>
    obtain ⟨xs', us, _, hown, _⟩ := hr
    rcases hown.2 with ⟨hv, _⟩ | ⟨g, cap, cur, hv, _, hg, _⟩
    · simp only at hv; simp [blkOf, hv, vblk] at hb
    · simp only at hv
      simp only [blkOf, hv, vblk, Option.some.injEq, Bk.isOld, Bool.false_eq_true, if_false] at hb
      subst hb
      rw [hg] at ho; cases ho; rfl
  | mit m clk seen =>
    obtain ⟨r, g, hv, _, hg⟩ := hr
    simp only at hv
    have hb2 := (blkOf_some hb).1
    simp only [hv, vblk, Option.some.injEq] at hb2
    subst hb2
    rw [hg] at ho; cases ho; rfl
theorem DefsOk.keep' {val val' : Val} {w w' : World} {ds : List Deferred} {h h' : Hw} {M : List Nat} (d : DefsOk val w ds) (hk : Keep M h w h' w') (hM : ∀ b ∈ M, ∀ o, w.heap[b]? = some o → isDef o = false) (hv : val' bn = val bn) : DefsOk val' w' ds := by
  obtain ⟨hs, Ds, e, hn, hd⟩ := d
  refine ⟨by unfold bound at hs ⊢; rw [hv]; exact Nat.le_trans hs hk.size, Ds, e, hn, fun D hD => ?_⟩
  obtain ⟨h1, h2⟩ := hd D hD
  refine ⟨(hk.far D (Array.getElem?_eq_some_iff.1 h1).1 fun hm => ?_).1.trans h1, ?_⟩
  · have := hM D hm _ h1
    cases this
  · unfold bound at h2 ⊢
    rw [hv]; exact h2
theorem DefsOk.keep {val val' : Val} {w w' : World} {ds : List Deferred} {h h' : Hw} {B : Bx} {M : List Nat} (d : DefsOk val w ds) (I : Inv h w val B) (hk : Keep M h w h' w') (hM : ∀ b ∈ M, b ∈ blks val B) (hv : val' bn = val bn) : DefsOk val' w' ds :=
  d.keep' hk (fun b hb => I.blk_def b (hM b hb)) hv
theorem DefsOk.val {val val' : Val} {w : World} {ds : List Deferred} (d : DefsOk val w ds) (hv : val' bn = val bn) : DefsOk val' w ds := by
  obtain ⟨hs, Ds, e, hn, hd⟩ := d
  refine ⟨by unfold bound at hs ⊢; rw [hv]; exact hs, Ds, e, hn, fun D hD => ⟨(hd D hD).1, ?_⟩⟩
  have := (hd D hD).2
  unfold bound at this ⊢
  rw [hv]; exact this

end Go.Ac
