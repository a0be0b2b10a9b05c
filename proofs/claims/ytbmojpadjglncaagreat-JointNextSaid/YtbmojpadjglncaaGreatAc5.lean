/- Own work: how calls of the model run over plain data. -/
import Derived.Test.YtbmojpadjglncaaGreatAc4
set_option linter.unusedVariables false
set_option linter.unusedSimpArgs false
namespace Go.Ac

def allD : List A → Option (List D)
  | [] => some []
  | .d x :: as => (allD as).map (x :: ·)
  | .nil :: as => (allD as).map (.sl [] :: ·)
  | _ :: _ => none
theorem allD_ok {h w val} : ∀ {as : List A} {xs : List D} {us : List Value}, allD as = some xs → RAs h w val as us → (∀ u ∈ us, u.oneCell' = true) → RDs h w xs us
  | [], xs, us, he, hr, _ => by simp [allD] at he; subst he; simpa [RAs, RDs] using hr
  | .d x :: as, xs, us, he, hr, h1 => by
    simp only [allD, Option.map_eq_some_iff] at he
    obtain ⟨ys, h2, rfl⟩ := he
    simp only [RAs, RA] at hr
    obtain ⟨u, us', rfl, a, b⟩ := hr
    simp only [RDs]
    exact ⟨u, us', rfl, a, h1 u (by simp), allD_ok h2 b fun y hy => h1 y (by simp [hy])⟩
  | .nil :: as, xs, us, he, hr, h1 => by
    simp only [allD, Option.map_eq_some_iff] at he
    obtain ⟨ys, h2, rfl⟩ := he
    simp only [RAs, RA] at hr
    obtain ⟨u, us', rfl, a, b⟩ := hr
    simp only [RDs]
    exact ⟨u, us', rfl, by rw [a]; exact RD_nil h w, h1 u (by simp), allD_ok h2 b fun y hy => h1 y (by simp [hy])⟩
  | .box .. :: _, _, _, he, _, _ => by simp [allD] at he
  | .row .. :: _, _, _, he, _, _ => by simp [allD] at he
  | .eptr .. :: _, _, _, he, _, _ => by simp [allD] at he
  | .clo .. :: _, _, _, he, _, _ => by simp [allD] at he
  | .agg .. :: _, _, _, he, _, _ => by simp [allD] at he
  | .tup .. :: _, _, _, he, _, _ => by simp [allD] at he
  | .opq .. :: _, _, _, he, _, _ => by simp [allD] at he
  | .any :: _, _, _, he, _, _ => by simp [allD] at he
theorem RDs_map_d {h w val} : ∀ {xs : List D} {us : List Value}, RDs h w xs us → RAs h w val (xs.map .d) us
  | [], us, hr => by simpa [RAs, RDs] using hr
  | x :: xs, us, hr => by
    simp only [RDs] at hr
    obtain ⟨u, us', rfl, a, _, b⟩ := hr
    simp only [List.map_cons, RAs, RA]
    exact ⟨u, us', rfl, a, RDs_map_d b⟩

def pack (cs : List A) : A :=
  match allD cs with
  | some xs => .d (.agg xs)
  | none => .agg cs
theorem pack_ok {h w val} {cs : List A} {us : List Value} (hr : RAs h w val cs us) (h1 : ∀ u ∈ us, u.oneCell' = true) : RA h w val (pack cs) (.agg ⟨us⟩) := by
  unfold pack
  split
  · rename_i xs he
    simp only [RA, RD]
    exact ⟨us, rfl, allD_ok he hr h1⟩
  · simp only [RA]
    exact ⟨us, rfl, hr, h1⟩

def A.cells : A → Option (List A)
  | .d (.agg cs) => some (cs.map .d)
  | .agg cs => some cs
  | .tup _ => none
  | .opq _ => none
  | .any => none
  | x => some [x]
theorem A.cells_ok {h w val} {a : A} {cs : List A} {u : Value} (he : a.cells = some cs) (hr : RA h w val a u) : RAs h w val cs u.cells.toList ∧ ∀ c ∈ u.cells.toList, c.oneCell' = true := by
  unfold A.cells at he
  split at he
  · simp only [Option.some.injEq] at he
    subst he
    simp only [RA] at hr
    have := RD.cells hr
    exact ⟨RDs_map_d this.1, this.2⟩
  · simp only [Option.some.injEq] at he
    subst he
    simp only [RA] at hr
    obtain ⟨us, rfl, h1, h2⟩ := hr
    exact ⟨h1, h2⟩
  · cases he
  · cases he
  · cases he
  · simp only [Option.some.injEq] at he
    subst he
    rename_i hn1 hn2 hn3 hn4 hn5
    cases a with
    | d x =>
      simp only [RA] at hr
      have hx : x.cells = [x] := by cases x <;> first | rfl | exact absurd rfl (hn1 _)
      have := RD.cells hr
      rw [hx] at this
      exact ⟨RDs_map_d (xs := [x]) this.1, this.2⟩
    | box n off =>
      have hr0 := hr
      simp only [RA] at hr
      obtain ⟨b, _, rfl⟩ := hr
      exact ⟨by simp only [RAs, Value.cells]; exact ⟨_, [], rfl, hr0, rfl⟩, by simp [Value.cells, Value.oneCell']⟩
    | bsl n off l =>
      have hr0 := hr
      simp only [RA] at hr
      obtain ⟨b, c, _, rfl, _⟩ := hr
      exact ⟨by simp only [RAs, Value.cells]; exact ⟨_, [], rfl, hr0, rfl⟩, by simp [Value.cells, Value.oneCell']⟩
    | ep n k i off =>
      have hr0 := hr
      simp only [RA] at hr
      obtain ⟨b, _, rfl⟩ := hr
      exact ⟨by simp only [RAs, Value.cells]; exact ⟨_, [], rfl, hr0, rfl⟩, by simp [Value.cells, Value.oneCell']⟩
    | row n =>
      have hr0 := hr
      simp only [RA] at hr
      obtain ⟨_, ⟨ad, l, c, rfl⟩ | ⟨b, rfl⟩⟩ := hr
      · exact ⟨by simp only [RAs, Value.cells]; exact ⟨_, [], rfl, hr0, rfl⟩, by simp [Value.cells, Value.oneCell']⟩
      · exact ⟨by simp only [RAs, Value.cells]; exact ⟨_, [], rfl, hr0, rfl⟩, by simp [Value.cells, Value.oneCell']⟩
    | eptr cs =>
      have hr0 := hr
      simp only [RA] at hr
      obtain ⟨b, us, rfl, _⟩ := hr
      exact ⟨by simp only [RAs, Value.cells]; exact ⟨_, [], rfl, hr0, rfl⟩, by simp [Value.cells, Value.oneCell']⟩
    | clo f a b =>
      have hr0 := hr
      simp only [RA] at hr
      obtain ⟨fs, us, rfl, _⟩ := hr
      exact ⟨by simp only [RAs, Value.cells]; exact ⟨_, [], rfl, hr0, rfl⟩, by simp [Value.cells, Value.oneCell']⟩
    | agg cs => exact absurd rfl (hn2 _)
    | tup vs => exact absurd rfl (hn3 _)
    | opq a => exact absurd rfl (hn4 _)
    | ub =>
      have hr0 := hr
      simp only [RA] at hr
      obtain ⟨b, rfl⟩ := hr
      exact ⟨by simp only [RAs, Value.cells]; exact ⟨_, [], rfl, hr0, rfl⟩, by simp [Value.cells, Value.oneCell']⟩
    | nil =>
      have hr0 := hr
      simp only [RA] at hr
      subst hr
      exact ⟨by simp only [RAs, Value.cells]; exact ⟨_, [], rfl, hr0, rfl⟩, by simp [Value.cells, Value.oneCell']⟩
    | any => exact absurd rfl (hn5)
end Go.Ac
