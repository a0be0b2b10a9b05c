/- Own work: how calls of the model run over plain data. -/
import Derived.Test.YtbmojpadjglncaaGreatAc17
import Derived.Test.YtbmojpadjglncaaGreatAc11d
set_option linter.unusedVariables false
set_option linter.unusedSimpArgs false
namespace Go.Ac

mutual
def A.ren (n m : Nat) : A → A
  | .box k off => .box (if k = n then m else k) off
  | .bsl k off l => .bsl (if k = n then m else k) off l
  | .ep q k i off => .ep (if q = n then m else q) k i off
  | .row k => .row (if k = n then m else k)
  | .clo f fs cs => .clo f (rens n m fs) (rens n m cs)
  | .agg cs => .agg (rens n m cs)
  | .tup vs => .tup (rens n m vs)
  | a => a
def rens (n m : Nat) : List A → List A
  | [] => []
  | a :: as => a.ren n m :: rens n m as
end
def Bk.ren (n m : Nat) : Bk → Bk
  | .cells cs => .cells (rens n m cs)
  | .vals as us => .vals (rens n m as) us
  | .mit k clk seen => .mit (if k = n then m else k) clk seen
  | b => b
mutual
theorem RA.ren {h w} {val : Val} {n m : Nat} (hm : m < up) : ∀ (a : A) (u : Value), a.has m = false → RA h w val a u → RA h w (setV val m (val n)) (a.ren n m) u
  | .d x, u, _, hr => by simpa only [RA, A.ren] using hr
  | .box k off, u, hn, hr => by
    simp [A.has] at hn
    simp only [RA, A.ren] at hr ⊢
    obtain ⟨b, e1, e2⟩ := hr
    refine ⟨b, ?_, e2⟩
    split
    · rename_i hk; subst hk; simpa [setV] using e1
    · simpa [setV, hn] using e1
  | .bsl k off l, u, hn, hr => by
    simp [A.has] at hn
    simp only [RA, A.ren] at hr ⊢
    obtain ⟨b, c, e1, e2⟩ := hr
    refine ⟨b, c, ?_, e2⟩
    split
    · rename_i hk; subst hk; simpa [setV] using e1
    · simpa [setV, hn] using e1
  | .ep q k i off, u, hn, hr => by
    simp [A.has] at hn
    simp only [RA, A.ren] at hr ⊢
    obtain ⟨b, e1, e2⟩ := hr
    refine ⟨b, ?_, e2⟩
    split
    · rename_i hk; subst hk; simpa [setV] using e1
    · simpa [setV, hn] using e1
  | .row k, u, hn, hr => by
    simp [A.has] at hn
    simp only [RA, A.ren] at hr ⊢
    refine ⟨?_, hr.2⟩
    rw [hr.1]
    split
    · rename_i hk; subst hk; simp [setV]
    · simp [setV, hn]
  | .eptr cs, u, _, hr => by simpa only [RA, A.ren] using hr
  | .clo f first cap, u, hn, hr => by
    simp only [A.has, Bool.or_eq_false_iff] at hn
    simp only [RA, A.ren] at hr ⊢
    obtain ⟨fs, cs, e, h1, h2⟩ := hr
    exact ⟨fs, cs, e, RAs.ren hm first fs hn.1 h1, RAs.ren hm cap cs hn.2 h2⟩
  | .agg cs, u, hn, hr => by
    simp only [A.has] at hn
    simp only [RA, A.ren] at hr ⊢
    obtain ⟨us, e, h1, h2⟩ := hr
    exact ⟨us, e, RAs.ren hm cs us hn h1, h2⟩
  | .tup cs, u, hn, hr => by
    simp only [A.has] at hn
    simp only [RA, A.ren] at hr ⊢
    obtain ⟨us, e, h1⟩ := hr
    exact ⟨us, e, RAs.ren hm cs us hn h1⟩
  | .opq a, u, _, hr => by
    simp only [RA, A.ren] at hr ⊢
    have : (fun k => setV val m (val n) (k + up)) = fun k => val (k + up) := by
      funext k
      have : ¬ k + up = m := by omega
      simp [setV, this]
    rw [this]
    exact hr
  | .nil, u, _, hr => by simpa only [RA, A.ren] using hr
  | .ub, u, _, hr => by simpa only [RA, A.ren] using hr
  | .any, u, _, hr => by simp [RA, A.ren]
theorem RAs.ren {h w} {val : Val} {n m : Nat} (hm : m < up) : ∀ (as : List A) (us : List Value), hasAny m as = false → RAs h w val as us → RAs h w (setV val m (val n)) (rens n m as) us
  | [], us, _, hr => by simpa [RAs, rens] using hr
  | a :: as, us, hn, hr => by
    simp only [hasAny, Bool.or_eq_false_iff] at hn
    simp only [RAs, rens] at hr ⊢
    obtain ⟨u, us', e, h1, h2⟩ := hr
    exact ⟨u, us', e, RA.ren hm a u hn.1 h1, RAs.ren hm as us' hn.2 h2⟩
end
theorem rens_length (n m : Nat) : ∀ l : List A, (rens n m l).length = l.length
  | [] => rfl
  | a :: l => by simp [rens, rens_length n m l]

def renP (n m : Nat) (p : Nat × Bk) : Nat × Bk := (if p.1 = n then m else p.1, p.2.ren n m)
theorem Wk.ren {n m : Nat} {s : St} (hm : m < up) (hE : hasAny m s.E = false) (hB : bxHas m s.B = false) : Wk s { s with E := rens n m s.E, B := s.B.map (renP n m) } := by
  intro h w val a H
  have hap : ∀ p ∈ s.all, p.1 ≠ m ∧ p.2.has m = false := fun p hp => by
    rcases List.mem_append.1 hp with hp | hp
    · exact bxHas_spec hB p hp
    · exact H.far m (.inl hm) p hp
  have hv : ∀ k, k ≠ m → setV val m (val n) k = val k := fun k hk => by simp [setV, hk]
  have hval : ∀ p : Nat × Bk, p.1 ≠ m → setV val m (val n) (renP n m p).1 = val p.1 := fun p hp => by
    simp only [renP]
    split
    · rename_i e; simp [setV, e]
    · exact hv _ hp
  have hold : ∀ b : Bk, (b.ren n m).isOld = b.isOld := fun b => by cases b <;> rfl
  have hblk : ∀ p : Nat × Bk, p.1 ≠ m → blkOf (setV val m (val n)) (renP n m p) = blkOf val p := fun p hp => by
    have h1 := hval p hp
    have h2 : (renP n m p).2.isOld = p.2.isOld := hold p.2
    simp only [blkOf, h1, h2]
  have hblB : blks (setV val m (val n)) (s.B.map (renP n m)) = blks val s.B := by
    simp only [blks, List.filterMap_map]
    have : ∀ (l : Bx), (∀ p ∈ l, p.1 ≠ m) → l.filterMap (blkOf (setV val m (val n)) ∘ renP n m) = l.filterMap (blkOf val) := by
      intro l
      induction l with
      | nil => intro _; rfl
      | cons p l ih =>
        intro hl
        simp only [List.filterMap_cons, Function.comp_apply, hblk p (hl p (by simp)), ih fun q hq => hl q (by simp [hq])]
    exact this s.B fun p hp => (hap p (List.mem_append_left _ hp)).1
  have hblF : blks (setV val m (val n)) s.F = blks val s.F := blks_congr fun k hk => by
    obtain ⟨p, hp, rfl⟩ := List.mem_map.1 hk
    exact hv _ (hap p (List.mem_append_right _ hp)).1
  have hbl : blks (setV val m (val n)) (s.B.map (renP n m) ++ s.F) = blks val s.all := by
    rw [blks_append, hblB, hblF, ← blks_append]; rfl
  refine ⟨h, setV val m (val n), ⟨RAs.ren hm _ _ hE H.e, ⟨?_, ?_, ?_⟩, H.far, H.defs.val (hv _ (by have : m < up := hm; simp only [up] at this; simp only [bn]; omega))⟩, ⟨Keep.refl _ _ _, fun k hk => hv k (by have := up_le hk; omega), fun b hb => .inl (by
    have hb' : b ∈ blks (setV val m (val n)) (s.B.map (renP n m) ++ s.F) := hb
    rwa [hbl] at hb')⟩⟩
  · intro p hp
    rcases List.mem_append.1 hp with hp | hp
    · obtain ⟨q, hq, rfl⟩ := List.mem_map.1 hp
      have hrb := H.inv.rep q (List.mem_append_left _ hq)
      obtain ⟨h1, h2⟩ := hap q (List.mem_append_left _ hq)
      have hvq := hval q h1
      obtain ⟨qn, qb⟩ := q
      simp only [renP] at hvq ⊢
      cases qb with
      | cells cs =>
        simp only [Bk.ren, RB] at hrb ⊢
        obtain ⟨b, us, t, e1, e2, e3, e4, e5⟩ := hrb
        exact ⟨b, us, t, by rw [hvq]; exact e1, e2, RAs.ren hm _ _ (by simpa [Bk.has] using h2) e3, e4, e5⟩
      | row e k xs =>
        simp only [Bk.ren, RB] at hrb ⊢
        rw [hvq]; exact hrb
      | rw e k xs =>
        simp only [Bk.ren, RB] at hrb ⊢
        rw [hvq]; exact hrb
      | dead => trivial
      | old xs =>
        simp only [Bk.ren, RB] at hrb ⊢
        rw [hvq]; exact hrb
      | fz cs =>
        simp only [Bk.ren, RB] at hrb ⊢
        rw [hvq]; exact hrb
      | buf sl e k xs =>
        simp only [Bk.ren, RB] at hrb ⊢
        rw [hvq]; exact hrb
      | vals as us =>
        simp only [Bk.ren, RB] at hrb ⊢
        exact RAs.ren hm _ _ (by simpa [Bk.has] using h2) hrb
      | obj g o =>
        simp only [Bk.ren, RB] at hrb ⊢
        rw [hvq]; exact hrb
      | map clk es =>
        simp only [Bk.ren, RB] at hrb ⊢
        rw [hvq]; exact hrb
      | mapS es =>
        simp only [Bk.ren, RB] at hrb ⊢
        rw [hvq]; exact hrb
      | bag e k xs =>
        simp only [Bk.ren, RB] at hrb ⊢
        rw [hvq]; exact hrb
      | mit k clk seen =>
        simp only [Bk.ren, RB] at hrb ⊢
        rw [hvq]
        obtain ⟨r, b, e1, e2, e3⟩ := hrb
        have hk : k ≠ m := by simpa [Bk.has] using h2
        refine ⟨r, b, e1, ?_, e3⟩
        split
        · rename_i hkn; subst hkn; simpa [setV] using e2
        · rw [hv k hk]; exact e2
    · obtain ⟨h1, h2⟩ := hap p (List.mem_append_right _ hp)
      exact RB.upd hv h1 h2 (H.inv.rep p (List.mem_append_right _ hp))
  · have hn := H.inv.nms
    have hnd : ∀ l : Bx, (∀ p ∈ l, p.1 ≠ m) → (names l).Nodup → (names (l.map (renP n m))).Nodup := by
      intro l
      induction l with
      | nil => intro _ _; exact List.nodup_nil
      | cons p l ih =>
        intro hl hd
        simp only [names, List.map_cons, List.nodup_cons] at hd ⊢
        refine ⟨fun hm' => ?_, ih (fun q hq => hl q (by simp [hq])) hd.2⟩
        simp only [List.map_map, List.mem_map, Function.comp_apply] at hm'
        obtain ⟨q, hq, he⟩ := hm'
        apply hd.1
        simp only [List.mem_map]
        refine ⟨q, hq, ?_⟩
        have hq1 := hl q (by simp [hq])
        have hp1 := hl p (by simp)
        simp only [renP] at he
        split at he <;> split at he
        · rename_i a1 a2; rw [a1, a2]
        · exact absurd he.symm hp1
        · exact absurd he hq1
        · exact he
    show (names (s.B.map (renP n m) ++ s.F)).Nodup
    have hn' : (names (s.B ++ s.F)).Nodup := hn
    rw [names_append, List.nodup_append] at hn' ⊢
    refine ⟨hnd s.B (fun p hp => (hap p (List.mem_append_left _ hp)).1) hn'.1, hn'.2.1, fun x hx y hy => ?_⟩
    simp only [names, List.map_map, List.mem_map, Function.comp_apply] at hx
    obtain ⟨q, hq, rfl⟩ := hx
    simp only [renP]
    split
    · intro e
      obtain ⟨p, hp, rfl⟩ := List.mem_map.1 hy
      exact (hap p (List.mem_append_right _ hp)).1 e.symm
    · exact hn'.2.2 _ (List.mem_map.2 ⟨q, hq, rfl⟩) y hy
  · show (blks (setV val m (val n)) (s.B.map (renP n m) ++ s.F)).Nodup
    rw [hbl]; exact H.inv.bks

theorem Wk.nil {t n : Nat} {e : TypeId} {k : Nat} {s : St} (hf : fresh n s = true) (ht : s.E[t]? = some .nil) : Wk s { s with E := s.E.set t (.row n), B := insB n (.row e k []) s.B } := by
  intro h w val a H
  obtain ⟨f1, f2, f3⟩ := fresh_and hf
  have hrb : RB h w (setV val n (.slice none 0 0)) n (.row e k []) := by
    refine ⟨[], ?_, by simp [RRow], fun g hg => ?_⟩
    · have : setV val n (.slice none 0 0) n = .slice none 0 0 := by simp [setV]
      rw [this]; exact World.ownsRow_nil w 0 e k
    · have : setV val n (.slice none 0 0) n = .slice none 0 0 := by simp [setV]
      rw [this] at hg; simp [Value.ownBlock] at hg
  obtain ⟨h1, h2⟩ := H.add f1 f2 f3 (Keep.refl [] h w) (fun b _ => by simp) (fun _ hm => by cases hm) (.slice none 0 0) (.row e k []) (fun b hb => by simp [vblk] at hb) rfl hrb
  refine ⟨h, setV val n (.slice none 0 0), ?_, ?_⟩
  · have h3 := (Holds.ins (E := s.E) (B := s.B) (F := s.F) h1)
    refine ⟨?_, h3.inv, h3.far, h3.defs⟩
    obtain ⟨u, hu, hr⟩ := RAs.get H.e t _ ht
    simp only [RA] at hr
    subst hr
    have := h3.e.set t (a := .row n) (u := .slice none 0 0) (by simp only [RA]; exact ⟨by simp [setV], hnd.sl _ _ _⟩)
    have he : a.tmps.toList.set t (.slice none 0 0) = a.tmps.toList := by
      apply List.ext_getElem?
      intro i
      rw [List.getElem?_set]
      split
      · rename_i hi; subst hi
        have hlt := (List.getElem?_eq_some_iff.1 hu).1
        rw [if_pos hlt, hu]
      · rfl
    rw [he] at this
    exact this
  · refine ⟨Keep.refl _ _ _, fun m hm => ?_, fun b hb => .inl ?_⟩
    · have : m ≠ n := Nat.ne_of_gt (Nat.lt_of_lt_of_le f1 (up_le hm))
      simp [setV, this]
    · have hp : (insB n (.row e k []) s.B ++ s.F).Perm ((n, .row e k []) :: s.all) := (insB_perm n _ s.B).append_right _
      have hb' : b ∈ blks (setV val n (.slice none 0 0)) ((n, .row e k []) :: s.all) := ((hp.filterMap _).mem_iff).1 hb
      rw [h2] at hb'
      simpa [vblk] using hb'

theorem Wk.look {t : Nat} {s : St} {x : A} (ht : s.E[t]? = some x) : Wk s { s with E := s.E.set t (s.look x) } := by
  intro h w val a H
  refine ⟨h, val, ⟨?_, H.inv, H.far, H.defs⟩, Nx.refl s h w val rfl⟩
  obtain ⟨u, hu, hr⟩ := RAs.get H.e t _ ht
  have := H.e.set t (H.look hr)
  have he : a.tmps.toList.set t u = a.tmps.toList := by
    apply List.ext_getElem?
    intro i
    rw [List.getElem?_set]
    split
    · rename_i hi; subst hi
      have hlt := (List.getElem?_eq_some_iff.1 hu).1
      rw [if_pos hlt, hu]
    · rfl
  rw [he] at this
  exact this

theorem Wk.redesc {s : St} {n : Nat} {b b' : Bk} (hl : lk s.B n = some b) (ho : b'.isOld = b.isOld) (hr : ∀ h w val a, Holds s h w val a → RB h w val n b → RB h w val n b') : Wk s { s with B := updB s.B n b' } := by
  intro h w val a H
  have hmem : (n, b) ∈ s.all := List.mem_append_left _ (lk_mem hl)
  have hsame : ∀ b2, (n, b2) ∈ s.B → b2.isOld = b'.isOld := fun b2 hb2 => by
    rw [nodup_names H.inv.nms (List.mem_append_left _ hb2) hmem, ho]
  refine ⟨h, val, ⟨H.e, ⟨fun p hp => ?_, ?_, ?_⟩, H.far, H.defs⟩, ⟨Keep.refl _ _ _, fun _ _ => rfl, fun b hb => .inl ?_⟩⟩
  · rcases List.mem_append.1 hp with hp | hp
    · rcases updB_mem hp with rfl | ⟨hp, hne⟩
      · exact hr h w val a H (H.inv.rep _ hmem)
      · exact H.inv.rep p (List.mem_append_left _ hp)
    · exact H.inv.rep p (List.mem_append_right _ hp)
  · have := H.inv.nms
    simpa only [St.all, names_append, updB_names] using this
  · have := H.inv.bks
    simpa only [St.all, blks_append, updB_blks hsame] using this
  · simpa only [St.all, blks_append, updB_blks hsame] using hb
theorem Wk.empty {n : Nat} {e : TypeId} {k : Nat} {s : St} (hf : fresh n s = true) {h : Hw} {w : World} {val : Val} {a : Act} (H : Holds s h w val a) :
    Holds { s with B := insB n (.rw e k []) s.B } h w (setV val n (.slice none 0 0)) a ∧ Nx s h w val { s with B := insB n (.rw e k []) s.B } h w (setV val n (.slice none 0 0)) := by
  obtain ⟨f1, f2, f3⟩ := fresh_and hf
  have hv : setV val n (.slice none 0 0) n = .slice none 0 0 := by simp [setV]
  have hrb : RB h w (setV val n (.slice none 0 0)) n (.rw e k []) := by
    refine ⟨[], ?_, by simp [RRow], fun g hg => ?_⟩
    · rw [hv]; exact World.ownsRow_nil w 0 e k
    · rw [hv] at hg; simp [Value.ownBlock] at hg
  obtain ⟨h1, h2⟩ := H.add f1 f2 f3 (Keep.refl [] h w) (fun b _ => by simp) (fun _ hm => by cases hm) (.slice none 0 0) (.rw e k []) (fun b hb => by simp [vblk] at hb) rfl hrb
  refine ⟨Holds.ins (E := s.E) (B := s.B) (F := s.F) h1, ⟨Keep.refl _ _ _, fun m hm => ?_, fun b hb => .inl ?_⟩⟩
  · have : m ≠ n := Nat.ne_of_gt (Nat.lt_of_lt_of_le f1 (up_le hm))
    simp [setV, this]
  · have hp : (insB n (.rw e k []) s.B ++ s.F).Perm ((n, .rw e k []) :: s.all) := (insB_perm n _ s.B).append_right _
    have hb' : b ∈ blks (setV val n (.slice none 0 0)) ((n, .rw e k []) :: s.all) := ((hp.filterMap _).mem_iff).1 hb
    rw [h2] at hb'
    simpa [vblk] using hb'
theorem Wk.nilw {t n : Nat} {e : TypeId} {k : Nat} {s : St} (hf : fresh n s = true) (ht : s.E[t]? = some .nil) : Wk s { s with E := s.E.set t (.row n), B := insB n (.rw e k []) s.B } := by
  intro h w val a H
  obtain ⟨h3, h4⟩ := Wk.empty (e := e) (k := k) hf H
  refine ⟨h, setV val n (.slice none 0 0), ⟨?_, h3.inv, h3.far, h3.defs⟩, ⟨h4.keep, h4.vals, h4.new⟩⟩
  obtain ⟨u, hu, hr⟩ := RAs.get H.e t _ ht
  simp only [RA] at hr
  subst hr
  have := h3.e.set t (a := .row n) (u := .slice none 0 0) (by simp only [RA]; exact ⟨by simp [setV], hnd.sl _ _ _⟩)
  have he : a.tmps.toList.set t (.slice none 0 0) = a.tmps.toList := by
    apply List.ext_getElem?
    intro i
    rw [List.getElem?_set]
    split
    · rename_i hi; subst hi
      have hlt := (List.getElem?_eq_some_iff.1 hu).1
      rw [if_pos hlt, hu]
    · rfl
  rw [he] at this
  exact this
theorem Wk.nilc {b i n : Nat} {e : TypeId} {k : Nat} {cs : List A} {s : St} (hf : fresh n s = true) (hl : lk s.B b = some (.cells cs)) (hi : cs[i]? = some .nil) : Wk s { s with B := updB (insB n (.rw e k []) s.B) b (.cells (cs.set i (.row n))) } := by
  intro h w val a H
  obtain ⟨h3, h4⟩ := Wk.empty (e := e) (k := k) hf H
  obtain ⟨f1, f2, f3⟩ := fresh_and hf
  have hbn : n ≠ b := fun e => (bxHas_spec f3 _ (lk_mem hl)).1 e.symm
  have hl2 : lk (insB n (.rw e k []) s.B) b = some (.cells cs) := by rw [lk_insB, if_neg hbn]; exact hl
  have hv : setV val n (.slice none 0 0) n = .slice none 0 0 := by simp [setV]
  have hmem : (b, Bk.cells cs) ∈ insB n (.rw e k []) s.B ++ s.F := List.mem_append_left _ (lk_mem hl2)
  have hsame : ∀ b2, (b, b2) ∈ insB n (.rw e k []) s.B → b2.isOld = (Bk.cells (cs.set i (.row n))).isOld := fun b2 hb2 => by
    rw [nodup_names h3.inv.nms (List.mem_append_left _ hb2) hmem]; rfl
  refine ⟨h, setV val n (.slice none 0 0), ⟨h3.e, ⟨fun p hp => ?_, ?_, ?_⟩, h3.far, h3.defs⟩, ⟨h4.keep, h4.vals, fun g hg => h4.new g ?_⟩⟩
  · rcases List.mem_append.1 hp with hp | hp
    · rcases updB_mem hp with rfl | ⟨hp, hne⟩
      · obtain ⟨g, us, t, e1, e2, e3, e4, e5⟩ := h3.inv.rep _ hmem
        refine ⟨g, us, t, e1, e2, ?_, e4, e5⟩
        obtain ⟨u, hu, hr⟩ := RAs.get e3 i _ hi
        simp only [RA] at hr
        subst hr
        have := RAs.set e3 i (a := .row n) (u := .slice none 0 0) (by simp only [RA]; exact ⟨hv.symm, hnd.sl _ _ _⟩)
        have he : us.set i (.slice none 0 0) = us := by
          apply List.ext_getElem?
          intro j
          rw [List.getElem?_set]
          split
          · rename_i hi; subst hi
            have hlt := (List.getElem?_eq_some_iff.1 hu).1
            rw [if_pos hlt, hu]
          · rfl
        rw [he] at this
        exact this
      · exact h3.inv.rep p (List.mem_append_left _ hp)
    · exact h3.inv.rep p (List.mem_append_right _ hp)
  · have := h3.inv.nms
    simpa only [St.all, names_append, updB_names] using this
  · have := h3.inv.bks
    simpa only [St.all, blks_append, updB_blks hsame] using this
  · simpa only [St.all, blks_append, updB_blks hsame] using hg

inductive Ws where
  | frz (n : Nat)
  | look (t : Nat)
  | live (l : List Nat)
  | keep (l : List Nat)
  | ren (n m : Nat)
  | nil (t n : Nat) (e : TypeId) (k : Nat)
  | nilw (t n : Nat) (e : TypeId) (k : Nat)
  | nilc (b i n : Nat) (e : TypeId) (k : Nat)
  | bufrw (n : Nat)
  | sort
def wk1 (s : St) : Ws → Option St
  | .frz n => match lk s.B n with
    | some (.buf true e k xs) => some { s with B := updB s.B n (.row e k xs) }
    | some (.rw e k xs) => some { s with B := updB s.B n (.row e k xs) }
    | _ => none
  | .look t => match s.E[t]? with
    | some x => some { s with E := s.E.set t (s.look x) }
    | none => none
  | .live l => some { s with E := maskE (fun i => l.contains i) 0 s.E }
  | .keep l => some { s with B := s.B.filter fun p => l.contains p.1 }
  | .ren n m => if fresh m s then some { s with E := rens n m s.E, B := s.B.map (renP n m) } else none
  | .nil t n e k => match s.E[t]? with
    | some .nil => if fresh n s then some { s with E := s.E.set t (.row n), B := insB n (.row e k []) s.B } else none
    | _ => none
  | .nilw t n e k => match s.E[t]? with
    | some .nil => if fresh n s then some { s with E := s.E.set t (.row n), B := insB n (.rw e k []) s.B } else none
    | _ => none
  | .nilc b i n e k => match lk s.B b with
    | some (.cells cs) => match cs[i]? with
      | some .nil => if fresh n s then some { s with B := updB (insB n (.rw e k []) s.B) b (.cells (cs.set i (.row n))) } else none
      | _ => none
    | _ => none
  | .bufrw n => match lk s.B n with
    | some (.buf true e k xs) => some { s with B := updB s.B n (.rw e k xs) }
    | _ => none
  | .sort => some { s with B := sortB s.B }
def wks : List Ws → St → Option St
  | [], s => some s
  | x :: l, s => match wk1 s x with
    | some s1 => wks l s1
    | none => none
theorem wk1_ok {s s' : St} {x : Ws} (h : wk1 s x = some s') : Wk s s' := by
  cases x with
  | frz n =>
    simp only [wk1] at h
    split at h
    · rename_i hl
      simp only [Option.some.injEq] at h; subst h
      intro h w val a H
      obtain ⟨h', f1, f2⟩ := buf_frz H hl
      exact ⟨h', val, f1, f2⟩
    · rename_i hl
      simp only [Option.some.injEq] at h; subst h
      intro h w val a H
      obtain ⟨h', f1, f2⟩ := rw_frz H hl
      exact ⟨h', val, f1, f2⟩
    · cases h
  | look t =>
    simp only [wk1] at h
    split at h
    · rename_i ht
      simp only [Option.some.injEq] at h; subst h
      exact Wk.look ht
    · cases h
  | live l => simp only [wk1, Option.some.injEq] at h; subst h; exact Wk.mask _ s
  | keep l => simp only [wk1, Option.some.injEq] at h; subst h; exact Wk.drop _ s
  | ren n m =>
    simp only [wk1] at h
    split at h
    · rename_i hf
      simp only [Option.some.injEq] at h; subst h
      obtain ⟨f1, f2, f3⟩ := fresh_and hf
      exact Wk.ren f1 f2 f3
    · cases h
  | nil t n e k =>
    simp only [wk1] at h
    split at h
    · rename_i ht
      split at h
      · rename_i hf
        simp only [Option.some.injEq] at h; subst h
        exact Wk.nil hf ht
      · cases h
    · cases h
  | nilw t n e k =>
    simp only [wk1] at h
    split at h
    · rename_i ht
      split at h
      · rename_i hf
        simp only [Option.some.injEq] at h; subst h
        exact Wk.nilw hf ht
      · cases h
    · cases h
  | nilc b i n e k =>
    simp only [wk1] at h
    split at h
    · rename_i cs hl
      split at h
      · rename_i hi
        split at h
        · rename_i hf
          simp only [Option.some.injEq] at h; subst h
          exact Wk.nilc hf hl hi
        · cases h
      · cases h
    · cases h
  | bufrw n =>
    simp only [wk1] at h
    split at h
    · rename_i hl
      simp only [Option.some.injEq] at h; subst h
      exact Wk.redesc hl rfl fun h w val a _ hr => RB.buf_rw hr
    · cases h
  | sort =>
    simp only [wk1, Option.some.injEq] at h; subst h
    exact fun h w val a H => ⟨h, val, Holds.perm (sortB_perm _).symm H, Nx.perm (sortB_perm _).symm (Nx.refl s h w val rfl)⟩
theorem wks_ok : ∀ {l : List Ws} {s s' : St}, wks l s = some s' → Wk s s'
  | [], s, s', h => by simp only [wks, Option.some.injEq] at h; subst h; exact Wk.refl _
  | x :: l, s, s', h => by
    simp only [wks] at h
    split at h
    · rename_i s1 h1; exact (wk1_ok h1).trans (wks_ok h)
    · cases h
end Go.Ac
