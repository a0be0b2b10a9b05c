/- Own work: how calls of the model run over plain data. -/
import Derived.WalkKit
import Derived.Maps.AppendAt
import Derived.KernelRfl
set_option linter.unusedVariables false
set_option linter.unusedSimpArgs false
namespace Go.Ac

inductive D where
  | v (x : Value)
  | agg (cs : List D)
  | sl (xs : List D)
  | ptr (cs : List D)

def D.cells : D → List D
  | .agg cs => cs
  | x => [x]
def D.nc (x : D) : Nat := x.cells.length

abbrev Hw := Nat → Nat

mutual
def RD (h : Hw) (w : World) : D → Value → Prop
  | .v x, u => u = x ∧ x.oneCell' = true
  | .agg cs, u => ∃ us : List Value, u = .agg ⟨us⟩ ∧ RDs h w cs us
  | .sl xs, u => ∃ (ad : Option Addr) (cap k : Nat) (us : List Value), u = .slice ad xs.length cap ∧ xs.length ≤ cap ∧ cap ≤ maxLen ∧ RRow h w k xs us ∧
      (0 < xs.length → ∃ a, ad = some a ∧ ∀ j v, us[j]? = some v → w.cell? (a.add j) = some v ∧ a.off + j < h a.block)
  | .ptr cs, u => ∃ (a : Addr) (us : List Value), u = .pointer (some a) ∧ RDs h w cs us ∧ ∀ j v, us[j]? = some v → w.cell? (a.add j) = some v ∧ a.off + j < h a.block
def RDs (h : Hw) (w : World) : List D → List Value → Prop
  | [], us => us = []
  | c :: cs, us => ∃ u us', us = u :: us' ∧ RD h w c u ∧ u.oneCell' = true ∧ RDs h w cs us'
def RRow (h : Hw) (w : World) (k : Nat) : List D → List Value → Prop
  | [], us => us = []
  | x :: xs, us => ∃ u us', us = u.cells.toList ++ us' ∧ u.cells.size = k ∧ x.nc = k ∧ RD h w x u ∧ (∀ c ∈ u.cells.toList, c.oneCell' = true) ∧ RRow h w k xs us'
end

structure Stays (h : Hw) (w : World) (h' : Hw) (w' : World) : Prop where
  cells : ∀ b i v, i < h b → w.cell? ⟨b, i, none⟩ = some v → w'.cell? ⟨b, i, none⟩ = some v
  mono : ∀ b, b < w.heap.size → h b ≤ h' b

theorem add_block (a : Addr) (n : Nat) : (a.add n).block = a.block := by unfold Addr.add; split <;> rfl
theorem add_off (a : Addr) (n : Nat) : (a.add n).off = a.off + n := by unfold Addr.add; split <;> simp_all
theorem cell_spot {w : World} {a : Addr} {v : Value} (h : w.cell? a = some v) : a.spot = none := by
  unfold World.cell? at h
  split at h
  · split at h
    · cases h
    · rename_i hs; cases ha : a.spot with
      | none => rfl
      | some x => simp [ha] at hs
  · cases h

theorem Stays.cell {h w h' w'} (s : Stays h w h' w') {a : Addr} {v : Value} (hc : w.cell? a = some v) (hi : a.off < h a.block) :
    w'.cell? a = some v ∧ a.off < h' a.block := by
  have hs := cell_spot hc
  obtain ⟨b, o, sp⟩ := a
  simp only at hs hi
  subst hs
  have hb : b < w.heap.size := World.block_lt_of_cell? w _ hc
  exact ⟨s.cells b o v hi hc, Nat.lt_of_lt_of_le hi (s.mono b hb)⟩

mutual
theorem RD.stays {h w h' w'} (s : Stays h w h' w') : ∀ (x : D) (u : Value), RD h w x u → RD h' w' x u
  | .v x, u, hr => by simpa [RD] using hr
  | .agg cs, u, hr => by
    obtain ⟨us, e, hr⟩ := by simpa [RD] using hr
    simp only [RD]
    exact ⟨us, e, RDs.stays s cs us hr⟩
  | .sl xs, u, hr => by
    simp only [RD] at hr ⊢
    obtain ⟨ad, cap, k, us, e, hl, hm, hr, hc⟩ := hr
    refine ⟨ad, cap, k, us, e, hl, hm, RRow.stays s k xs us hr, fun h0 => ?_⟩
    obtain ⟨a, ha, hc⟩ := hc h0
    refine ⟨a, ha, fun j v hj => ?_⟩
    obtain ⟨c1, c2⟩ := hc j v hj
    have := s.cell c1 (by rw [add_block, add_off]; exact c2)
    rw [add_block, add_off] at this
    exact this
  | .ptr cs, u, hr => by
    simp only [RD] at hr ⊢
    obtain ⟨a, us, e, hr, hc⟩ := hr
    refine ⟨a, us, e, RDs.stays s cs us hr, fun j v hj => ?_⟩
    obtain ⟨c1, c2⟩ := hc j v hj
    have := s.cell c1 (by rw [add_block, add_off]; exact c2)
    rw [add_block, add_off] at this
    exact this
theorem RDs.stays {h w h' w'} (s : Stays h w h' w') : ∀ (cs : List D) (us : List Value), RDs h w cs us → RDs h' w' cs us
  | [], us, hr => by simpa [RDs] using hr
  | c :: cs, us, hr => by
    simp only [RDs] at hr ⊢
    obtain ⟨u, us', e, h1, h1', h2⟩ := hr
    exact ⟨u, us', e, RD.stays s c u h1, h1', RDs.stays s cs us' h2⟩
theorem RRow.stays {h w h' w'} (s : Stays h w h' w') (k : Nat) : ∀ (xs : List D) (us : List Value), RRow h w k xs us → RRow h' w' k xs us
  | [], us, hr => by simpa [RRow] using hr
  | x :: xs, us, hr => by
    simp only [RRow] at hr ⊢
    obtain ⟨u, us', e, h1, h2, h3, h4, h5⟩ := hr
    exact ⟨u, us', e, h1, h2, RD.stays s x u h3, h4, RRow.stays s k xs us' h5⟩
end

section
variable {h : Hw} {w : World}
theorem RDs.length : ∀ {cs : List D} {us : List Value}, RDs h w cs us → us.length = cs.length
  | [], us, hr => by simp only [RDs] at hr; simp [hr]
  | c :: cs, us, hr => by
    simp only [RDs] at hr
    obtain ⟨u, us', e, _, _, h2⟩ := hr
    simp [e, RDs.length h2]
theorem RDs.one : ∀ {cs : List D} {us : List Value}, RDs h w cs us → ∀ u ∈ us, u.oneCell' = true
  | [], us, hr => by simp only [RDs] at hr; simp [hr]
  | c :: cs, us, hr => by
    simp only [RDs] at hr
    obtain ⟨u, us', e, _, h1, h2⟩ := hr
    subst e
    intro v hv
    rcases List.mem_cons.1 hv with rfl | hv
    · exact h1
    · exact RDs.one h2 v hv
theorem RDs.get : ∀ {cs : List D} {us : List Value}, RDs h w cs us → ∀ (i : Nat) c, cs[i]? = some c → ∃ u, us[i]? = some u ∧ RD h w c u ∧ u.oneCell' = true
  | [], us, hr, i, c, hc => by simp at hc
  | c0 :: cs, us, hr, i, c, hc => by
    simp only [RDs] at hr
    obtain ⟨u, us', e, h1, h1', h2⟩ := hr
    subst e
    cases i with
    | zero => simp at hc; subst hc; exact ⟨u, by simp, h1, h1'⟩
    | succ i => simp at hc; simpa using RDs.get h2 i c hc
theorem RDs.append : ∀ {cs : List D} {us : List Value} {ds : List D} {vs : List Value}, RDs h w cs us → RDs h w ds vs → RDs h w (cs ++ ds) (us ++ vs)
  | [], us, ds, vs, hr, hs => by simp only [RDs] at hr; simpa [hr] using hs
  | c :: cs, us, ds, vs, hr, hs => by
    simp only [RDs] at hr
    obtain ⟨u, us', e, h1, h1', h2⟩ := hr
    subst e
    simp only [List.cons_append, RDs]
    exact ⟨u, us' ++ vs, rfl, h1, h1', RDs.append h2 hs⟩
theorem RDs.take : ∀ {cs : List D} {us : List Value} (n : Nat), RDs h w cs us → RDs h w (cs.take n) (us.take n)
  | [], us, n, hr => by simp only [RDs] at hr; simp [hr, RDs]
  | c :: cs, us, 0, hr => by simp [RDs]
  | c :: cs, us, n + 1, hr => by
    simp only [RDs] at hr
    obtain ⟨u, us', e, h1, h1', h2⟩ := hr
    subst e
    simp only [List.take_succ_cons, RDs]
    exact ⟨u, us'.take n, rfl, h1, h1', RDs.take n h2⟩
theorem RDs.drop : ∀ {cs : List D} {us : List Value} (n : Nat), RDs h w cs us → RDs h w (cs.drop n) (us.drop n)
  | [], us, n, hr => by simp only [RDs] at hr; simp [hr, RDs]
  | c :: cs, us, 0, hr => by simpa using hr
  | c :: cs, us, n + 1, hr => by
    simp only [RDs] at hr
    obtain ⟨u, us', e, h1, h1', h2⟩ := hr
    subst e
    simpa using RDs.drop n h2

theorem RD.cells {x : D} {u : Value} (hr : RD h w x u) : RDs h w x.cells u.cells.toList ∧ (∀ c ∈ u.cells.toList, c.oneCell' = true) := by
  cases x with
  | v x =>
    simp only [RD] at hr
    obtain ⟨rfl, h1⟩ := hr
    have hc : u.cells = #[u] := by cases u <;> first | rfl | (simp [Value.oneCell'] at h1)
    simp only [D.cells, RDs, hc]
    exact ⟨⟨u, [], rfl, by simp [RD, h1], h1, rfl⟩, by simpa using h1⟩
  | agg cs =>
    simp only [RD] at hr
    obtain ⟨us, rfl, hr⟩ := hr
    simp only [D.cells, Value.cells]
    exact ⟨hr, RDs.one hr⟩
  | sl xs =>
    have hr0 := hr
    simp only [RD] at hr
    obtain ⟨ad, cap, k, us, rfl, _⟩ := hr
    simp only [D.cells, Value.cells, RDs]
    exact ⟨⟨_, [], rfl, hr0, rfl, rfl⟩, by simp [Value.oneCell']⟩
  | ptr xs =>
    have hr0 := hr
    simp only [RD] at hr
    obtain ⟨a, us, rfl, _⟩ := hr
    simp only [D.cells, Value.cells, RDs]
    exact ⟨⟨_, [], rfl, hr0, rfl, rfl⟩, by simp [Value.oneCell']⟩
theorem RD.size {x : D} {u : Value} (hr : RD h w x u) : u.cells.size = x.nc := by
  have := RDs.length (RD.cells hr).1
  simpa [D.nc] using this

theorem RRow.length {k : Nat} : ∀ {xs : List D} {us : List Value}, RRow h w k xs us → us.length = xs.length * k
  | [], us, hr => by simp only [RRow] at hr; simp [hr]
  | x :: xs, us, hr => by
    simp only [RRow] at hr
    obtain ⟨u, us', e, h1, _, _, _, h5⟩ := hr
    subst e
    have := RRow.length h5
    simp only [List.length_append, Array.length_toList, h1, this, List.length_cons, Nat.add_mul]
    omega
theorem RRow.one {k : Nat} : ∀ {xs : List D} {us : List Value}, RRow h w k xs us → ∀ u ∈ us, u.oneCell' = true
  | [], us, hr => by simp only [RRow] at hr; simp [hr]
  | x :: xs, us, hr => by
    simp only [RRow] at hr
    obtain ⟨u, us', e, h1, _, _, h4, h5⟩ := hr
    subst e
    intro v hv
    rcases List.mem_append.1 hv with hv | hv
    · exact h4 v hv
    · exact RRow.one h5 v hv
theorem RRow.mk {k : Nat} : ∀ {xs : List D} {us : List Value}, RRow h w k xs us → ∀ x ∈ xs, x.nc = k
  | [], us, hr => by simp
  | x :: xs, us, hr => by
    simp only [RRow] at hr
    obtain ⟨u, us', e, h1, h2, _, _, h5⟩ := hr
    intro y hy
    rcases List.mem_cons.1 hy with rfl | hy
    · exact h2
    · exact RRow.mk h5 y hy
theorem RRow.get {k : Nat} : ∀ {xs : List D} {us : List Value}, RRow h w k xs us → ∀ (i : Nat) x, xs[i]? = some x →
    ∃ u, RD h w x u ∧ u.cells.size = k ∧ x.nc = k ∧ ∀ j, j < k → us[i * k + j]? = u.cells[j]?
  | [], us, hr, i, x, hx => by simp at hx
  | x0 :: xs, us, hr, i, x, hx => by
    simp only [RRow] at hr
    obtain ⟨u, us', e, h1, h2, h3, h4, h5⟩ := hr
    subst e
    cases i with
    | zero =>
      simp at hx; subst hx
      refine ⟨u, h3, h1, h2, fun j hj => ?_⟩
      rw [Nat.zero_mul, Nat.zero_add, List.getElem?_append_left (by simpa [h1] using hj)]
      simp
    | succ i =>
      simp at hx
      obtain ⟨u', a1, a2, a3, a4⟩ := RRow.get h5 i x hx
      refine ⟨u', a1, a2, a3, fun j hj => ?_⟩
      rw [← a4 j hj, List.getElem?_append_right (by simp [h1, Nat.add_mul]; omega)]
      congr 1
      simp [h1, Nat.add_mul]
      omega
theorem RRow.append {k : Nat} : ∀ {xs : List D} {us : List Value} {ys : List D} {vs : List Value}, RRow h w k xs us → RRow h w k ys vs → RRow h w k (xs ++ ys) (us ++ vs)
  | [], us, ys, vs, hr, hs => by simp only [RRow] at hr; simpa [hr] using hs
  | x :: xs, us, ys, vs, hr, hs => by
    simp only [RRow] at hr
    obtain ⟨u, us', e, h1, h2, h3, h4, h5⟩ := hr
    subst e
    simp only [List.cons_append, RRow]
    exact ⟨u, us' ++ vs, by simp, h1, h2, h3, h4, RRow.append h5 hs⟩
theorem RRow.take {k : Nat} : ∀ {xs : List D} {us : List Value} (n : Nat), RRow h w k xs us → RRow h w k (xs.take n) (us.take (n * k))
  | [], us, n, hr => by simp only [RRow] at hr; simp [hr, RRow]
  | x :: xs, us, 0, hr => by simp [RRow]
  | x :: xs, us, n + 1, hr => by
    simp only [RRow] at hr
    obtain ⟨u, us', e, h1, h2, h3, h4, h5⟩ := hr
    subst e
    simp only [List.take_succ_cons, RRow]
    refine ⟨u, us'.take (n * k), ?_, h1, h2, h3, h4, RRow.take n h5⟩
    rw [List.take_append, List.take_of_length_le (by simp [h1, Nat.add_mul])]
    congr 2
    simp [h1, Nat.add_mul]
theorem RRow.drop {k : Nat} : ∀ {xs : List D} {us : List Value} (n : Nat), RRow h w k xs us → RRow h w k (xs.drop n) (us.drop (n * k))
  | [], us, n, hr => by simp only [RRow] at hr; simp [hr, RRow]
  | x :: xs, us, 0, hr => by simpa using hr
  | x :: xs, us, n + 1, hr => by
    simp only [RRow] at hr
    obtain ⟨u, us', e, h1, h2, h3, h4, h5⟩ := hr
    subst e
    have := RRow.drop n h5
    rw [List.drop_succ_cons]
    have e0 : List.drop ((n + 1) * k) u.cells.toList = [] := List.drop_eq_nil_of_le (by simp [h1, Nat.add_mul])
    rw [List.drop_append, e0, List.nil_append]
    have e : (n + 1) * k - u.cells.toList.length = n * k := by simp [h1, Nat.add_mul]
    rw [e]
    exact this
end
end Go.Ac
