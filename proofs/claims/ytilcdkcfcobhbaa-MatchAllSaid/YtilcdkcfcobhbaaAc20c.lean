/-
  Part of a proof: how calls of the model run over plain data (own work; no conditions).
-/
import Derived.Test.YtilcdkcfcobhbaaAc20
import Derived.Test.YtilcdkcfcobhbaaAc11b
set_option linter.unusedVariables false
set_option linter.unusedSimpArgs false
namespace Go.Ac
set_option maxRecDepth 4000
/-! ### a range over a function -/
/-- names of a loop's own boxes, as the iterator's frame sees them -/
def sh (n : Nat) : Nat := if n < up then n + up else n
theorem sh_up : ∀ n, up ≤ n → sh n = n := fun n h => if_neg (Nat.not_lt.2 h)
theorem sh_lt {n : Nat} (h : n < up) : sh n = n + up := if_pos h
mutual
theorem A.has_mapN {ρ : Nat → Nat} : ∀ (a : A) (l : List Nat), a.nms = some l → ∀ m, (a.mapN ρ).has m = true → ∃ n, a.has n = true ∧ ρ n = m
  | .d _, l, h, m, hm => by simp [A.mapN, A.has] at hm
  | .eptr _, l, h, m, hm => by simp [A.mapN, A.has] at hm
  | .nil, l, h, m, hm => by simp [A.mapN, A.has] at hm
  | .ub, l, h, m, hm => by simp [A.mapN, A.has] at hm
  | .any, l, h, m, hm => by simp [A.mapN, A.has] at hm
  | .box k off, l, h, m, hm => ⟨k, by simp [A.has], by simp only [A.mapN, A.has] at hm; simpa using hm⟩
  | .bsl k off j, l, h, m, hm => ⟨k, by simp [A.has], by simp only [A.mapN, A.has] at hm; simpa using hm⟩
  | .ep k a i off, l, h, m, hm => ⟨k, by simp [A.has], by simp only [A.mapN, A.has] at hm; simpa using hm⟩
  | .row k, l, h, m, hm => ⟨k, by simp [A.has], by simp only [A.mapN, A.has] at hm; simpa using hm⟩
  | .opq a, l, h, m, hm => by simp [A.nms] at h
  | .clo f fs cs, l, h, m, hm => by
    simp only [A.nms] at h
    split at h
    · rename_i x y hx hy
      simp only [A.mapN, A.has, Bool.or_eq_true] at hm ⊢
      rcases hm with hm | hm
      · obtain ⟨n, h1, h2⟩ := has_mapNs fs x hx m hm
        exact ⟨n, .inl h1, h2⟩
      · obtain ⟨n, h1, h2⟩ := has_mapNs cs y hy m hm
        exact ⟨n, .inr h1, h2⟩
    · cases h
  | .agg cs, l, h, m, hm => by simp only [A.mapN, A.has] at hm ⊢; exact has_mapNs cs l (by simpa only [A.nms] using h) m hm
  | .tup cs, l, h, m, hm => by simp only [A.mapN, A.has] at hm ⊢; exact has_mapNs cs l (by simpa only [A.nms] using h) m hm
theorem has_mapNs {ρ : Nat → Nat} : ∀ (as : List A) (l : List Nat), nmss as = some l → ∀ m, hasAny m (mapNs ρ as) = true → ∃ n, hasAny n as = true ∧ ρ n = m
  | [], l, h, m, hm => by simp [mapNs, hasAny] at hm
  | a :: as, l, h, m, hm => by
    simp only [nmss] at h
    split at h
    · rename_i x y hx hy
      simp only [mapNs, hasAny, Bool.or_eq_true] at hm ⊢
      rcases hm with hm | hm
      · obtain ⟨n, h1, h2⟩ := A.has_mapN a x hx m hm
        exact ⟨n, .inl h1, h2⟩
      · obtain ⟨n, h1, h2⟩ := has_mapNs as y hy m hm
        exact ⟨n, .inr h1, h2⟩
    · cases h
end
theorem Bk.has_mapN {ρ : Nat → Nat} {b : Bk} {l : List Nat} (h : b.nms = some l) (m : Nat) (hm : (b.mapN ρ).has m = true) : ∃ n, b.has n = true ∧ ρ n = m := by
  cases b with
  | cells cs => exact has_mapNs cs l h m hm
  | vals as us => exact has_mapNs as l h m hm
  | _ => simp [Bk.mapN, Bk.has] at hm

/-- the name of a loop's record, in the frame of its iterator -/
def rn : Nat := 3000
/-- what an iterator sees of the loop that runs it -/
def frameOf (l : Nat) (r : Loop) (B : Bx) : Bx := (rn, .obj l (.loop r)) :: B.map (mapP sh)
theorem names_frame {l : Nat} {r : Loop} {B : Bx} : names (frameOf l r B) = rn :: (names B).map sh := by
  have := names_mapP sh B
  show rn :: names (B.map (mapP sh)) = _
  rw [this]
theorem far_frame {l : Nat} {r : Loop} {B : Bx} (hB : lowB B = true) : Far (frameOf l r B) := by
  intro n hn p hp
  have hne : ∀ m, m < up → sh m ≠ n := fun m hm e => by
    rw [sh_lt hm] at e
    simp only [up] at hm e hn
    omega
  simp only [frameOf, List.mem_cons] at hp
  rcases hp with rfl | hp
  · refine ⟨fun e => ?_, rfl⟩
    simp only [rn] at e
    simp only [up] at hn
    omega
  · obtain ⟨q, hq, rfl⟩ := List.mem_map.1 hp
    obtain ⟨c1, c2⟩ := lowB_ok hB hq
    refine ⟨hne q.1 c1, ?_⟩
    show (q.2.mapN sh).has n = false
    cases hh : (q.2.mapN sh).has n with
    | false => rfl
    | true =>
      exfalso
      have := List.all_eq_true.1 hB q hq
      simp only [Bool.and_eq_true] at this
      have h2 := this.2
      split at h2
      · rename_i k hk
        obtain ⟨m, h1, h3⟩ := Bk.has_mapN hk n hh
        exact hne m (c2 m h1) h3
      · cases h2
theorem blks_frame {l : Nat} {r : Loop} {B : Bx} {val : Val} (hv : val rn = .pointer (some ⟨l, 0, none⟩)) : blks val (frameOf l r B) = l :: blks (fun n => val (sh n)) B := by
  have h1 : blkOf val (rn, Bk.obj l (.loop r)) = some l := by rw [blkOf, hv]; rfl
  have h2 := blks_mapP sh val B
  unfold blks at h2 ⊢
  simp only [frameOf, List.filterMap_cons, h1, h2]
/-- names that boxes mention are names of boxes -/
def closB (B : Bx) : Bool := B.all fun p => match p.2.nms with
  | some l => l.all fun n => (names B).contains n
  | none => false
theorem closB_ok {B : Bx} (h : closB B = true) {p : Nat × Bk} (hp : p ∈ B) (n : Nat) (hn : p.2.has n = true) : n ∈ names B := by
  have := List.all_eq_true.1 h p hp
  split at this
  · rename_i l hl
    have := List.all_eq_true.1 this n (Bk.has_nms hl n hn)
    simpa using this
  · cases this
def setPs : List A → List (Nat × A) → List A
  | E, [] => E
  | E, (t, x) :: l => setPs (E.set t x) l
theorem setPs_ok {h w} {val : Val} : ∀ (ps : List Nat) (xs : List A) (vs : List Value) (E : List A) (arr : Array Value), RAs h w val xs vs → RAs h w val E arr.toList →
    RAs h w val (setPs E (ps.zip xs)) ((ps.zip vs).foldl (fun t p => t.setIfInBounds p.1 p.2) arr).toList
  | [], xs, vs, E, arr, _, hE => by simpa [setPs] using hE
  | p :: ps, [], vs, E, arr, hx, hE => by
    simp only [RAs] at hx
    subst hx
    simpa [setPs] using hE
  | p :: ps, x :: xs, vs, E, arr, hx, hE => by
    simp only [RAs] at hx
    obtain ⟨u, us, rfl, h1, h2⟩ := hx
    simp only [List.zip_cons_cons, setPs, List.foldl_cons]
    refine setPs_ok ps xs us (E.set p x) (arr.setIfInBounds p u) h2 ?_
    have := RAs.set hE p h1
    simpa using this
def recOf (r : Loop) (o : Option Code) : Loop := { r with state := if o.isNone then .ready else .done, pending := o }
def jumpOf : Ex → Option Code
  | .normal => none
  | .exit id => some (.exit id)
  | .ret => some .ret
/-- a block without cells turns -/
theorem Holds.turn {s : St} {h : Hw} {w : World} {val : Val} {a : Act} {g : Nat} {o o' : Obj} (H : Holds s h w val a) (hg : w.heap[g]? = some o) (ho : o.isCells = false) (hd : isDef o = false) (hn : g ∉ blks val s.all) : Holds s h (w.putObj g o') val a := by
  have hk : Keep [g] h w h (w.putObj g o') := keep_putObj hg ho (by simp)
  refine ⟨RAs.stays hk.stays _ _ _ H.e, ⟨fun p hp => RB.stays hk.stays (fun b hb => ?_) (H.inv.rep p hp), H.inv.nms, H.inv.bks⟩, H.far, H.defs.keep' hk (fun b hb o2 ho2 => ?_) rfl⟩
  · have hbm := Inv.blk_mem hp hb
    exact hk.far b (H.inv.blk_lt b hbm) fun hin => by simp only [List.mem_singleton] at hin; exact hn (hin ▸ hbm)
  · simp only [List.mem_singleton] at hb
    subst hb
    rw [hg] at ho2
    cases ho2
    exact hd
end Go.Ac
