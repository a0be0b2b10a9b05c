/- Own work: how calls of the model run over plain data. -/
import Derived.Test.YthabonnegobedaaAc20
import Derived.Test.YthabonnegobedaaAc21
set_option linter.unusedVariables false
set_option linter.unusedSimpArgs false
namespace Go.Ac
theorem lp_ub {P : Program} {rd : Option Nat} {root : Code} {p : List Nat} (t : Nat) (I : Bool → St) {s : St} {e : Ex} {s' : St} (hs : s.E[t]? = some .ub) (hI : ∀ b, I b = { s with E := s.E.set t (.d (D.b b)) })
    (h1 : LpOf P rd root p (I true) e s') (h2 : LpOf P rd root p (I false) e s') : LpOf P rd root p s e s' := by
  have hb : ∀ b, LpOf P rd root p (I b) e s' := fun b => by cases b; exact h2; exact h1
  intro h w val a H Q hQ
  obtain ⟨u, hu, hr⟩ := RAs.get H.e t _ hs
  simp only [RA] at hr
  obtain ⟨b, rfl⟩ := hr
  have hh := hb b
  rw [hI b] at hh
  refine hh h w val a ⟨?_, H.inv, H.far, H.defs⟩ Q fun e1 s1 h1 w1 v1 a1 hp hH hN => hQ e1 s1 h1 w1 v1 a1 hp hH ⟨hN.keep, hN.vals, hN.new⟩
  have h3 : a.tmps.toList.set t (.bool b) = a.tmps.toList := by
    apply List.ext_getElem?
    intro i
    rw [List.getElem?_set]
    split
    · rename_i hi
      subst hi
      split
      · exact hu.symm
      · rename_i hl
        exact (List.getElem?_eq_none (Nat.le_of_not_lt hl)).symm
    · rfl
  have h4 := RAs.set H.e t (a := .d (D.b b)) (u := .bool b) (by simp [RA, D.b, RD, Value.oneCell'])
  rw [h3] at h4
  exact h4
open Classical in
noncomputable def agreeE {α : Type} (a b : Option α) : Option α := if a = b then a else none
theorem agreeE_some {α : Type} {a b : Option α} {r : α} (h : agreeE a b = some r) : a = some r ∧ b = some r := by
  unfold agreeE at h
  split at h
  · rename_i e; exact ⟨h, e ▸ h⟩
  · cases h
theorem agreeE_of {α : Type} {a b : Option α} {r : α} (h1 : a = some r) (h2 : b = some r) : agreeE a b = some r := by
  unfold agreeE
  rw [h1, h2]
  simp
theorem nonnil_map {α : Type} (f : α → D) {xs : List α} (h : decide (xs = []) = false) : Cn.ok (.nonnil (xs.map f)) := by
  simp only [decide_eq_false_iff_not] at h
  cases xs with
  | nil => exact absurd rfl h
  | cons x xs => simp [Cn.ok]
end Go.Ac
