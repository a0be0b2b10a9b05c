/- Own work: how calls of the model run over plain data. -/
import Derived.Test.YtbmojpadjglncaaGreatAc5
set_option linter.unusedVariables false
set_option linter.unusedSimpArgs false
namespace Go.Ac

theorem add_add (a : Addr) (i j : Nat) : (a.add i).add j = a.add (i + j) := by
  unfold Addr.add
  by_cases hi : i = 0 <;> by_cases hj : j = 0 <;> simp [hi, hj, Nat.add_assoc]

def partA (P : Program) (t : TypeId) (cs : List A) (off : Nat) : Option A :=
  match isAggT P t, (P.info? t).isSome with
  | some true, true => if off + P.cellsOf t ≤ cs.length then some (pack ((cs.drop off).take (P.cellsOf t))) else none
  | some false, true => cs[off]?
  | _, _ => none
theorem partA_ok {P : Program} {h w val} {t : TypeId} {cs : List A} {off : Nat} {x : A} {us : List Value} (he : partA P t cs off = some x) (hr : RAs h w val cs us) (h1 : ∀ u ∈ us, u.oneCell' = true) :
    ∃ u, (part t ⟨us⟩ off).run P w = .ok u w ∧ RA h w val x u := by
  unfold partA at he
  split at he
  · rename_i hA hI
    split at he
    · rename_i hl
      simp only [Option.some.injEq] at he
      subst he
      refine ⟨.agg ⟨(us.drop off).take (P.cellsOf t)⟩, ?_, ?_⟩
      · simp [part, Sem.run_bind, run_isAgg hA, run_size' hI]
      · exact pack_ok ((hr.drop off).take _) fun u hu => h1 u (List.mem_of_mem_drop (List.mem_of_mem_take hu))
    · cases he
  · rename_i hA hI
    obtain ⟨u, hu, hr'⟩ := hr.get off x he
    exact ⟨u, by simp [part, Sem.run_bind, run_isAgg hA, hu], hr'⟩
  · cases he
theorem loadA_ok {P : Program} {h w val} {t : TypeId} {cs : List A} {off : Nat} {x : A} {us : List Value} {a : Addr} (he : partA P t cs off = some x) (hr : RAs h w val cs us) (h1 : ∀ u ∈ us, u.oneCell' = true)
    (hc : ∀ j v, us[j]? = some v → w.cell? (a.add j) = some v) : ∃ u, (loadVar t (a.add off)).run P w = .ok u w ∧ RA h w val x u := by
  unfold partA at he
  split at he
  · rename_i hA hI
    split at he
    · rename_i hl
      simp only [Option.some.injEq] at he
      subst he
      have hlen : ((us.drop off).take (P.cellsOf t)).length = P.cellsOf t := by have := hr.length; simp; omega
      have hl' := run_loadCells_list (P := P) w (a.add off) ((us.drop off).take (P.cellsOf t)) (fun j v hj => by
        rw [add_add]
        apply hc
        rw [List.getElem?_take] at hj
        split at hj
        · simpa [List.getElem?_drop] using hj
        · cases hj)
      rw [hlen] at hl'
      refine ⟨.agg ⟨(us.drop off).take (P.cellsOf t)⟩, ?_, ?_⟩
      · simp [loadVar, Sem.run_bind, run_isAgg hA, run_size' hI, hl']
      · exact pack_ok ((hr.drop off).take _) fun u hu => h1 u (List.mem_of_mem_drop (List.mem_of_mem_take hu))
    · cases he
  · rename_i hA hI
    obtain ⟨u, hu, hr'⟩ := hr.get off x he
    exact ⟨u, by simp [loadVar, Sem.run_bind, run_isAgg hA, hc off u hu], hr'⟩
  · cases he

def fieldOf (P : Program) (t : TypeId) (f : Nat) : Option Field :=
  match P.underlying t with
  | some (.struct fs) => match fs[f]? with
    | some x => if (P.info? x.type).isSome && P.cellsOf x.type != 0 then some x else none
    | none => none
  | _ => none
theorem fieldOf_ok {P : Program} {t : TypeId} {f : Nat} {x : Field} (he : fieldOf P t f = some x) :
    ∃ fs, P.underlying t = some (.struct fs) ∧ fs[f]? = some x ∧ (P.info? x.type).isSome = true ∧ P.cellsOf x.type ≠ 0 := by
  unfold fieldOf at he
  split at he
  · rename_i fs hu
    split at he
    · rename_i y hy
      split at he
      · rename_i hc
        simp only [Option.some.injEq] at he
        subst he
        simp only [Bool.and_eq_true, bne_iff_ne] at hc
        exact ⟨fs, hu, hy, hc.1, hc.2⟩
      · cases he
    · cases he
  · cases he
theorem run_fieldAt {P : Program} {w : World} {t : TypeId} {f : Nat} {x : Field} (he : fieldOf P t f = some x) (a : Addr) :
    (Instr.fieldAt t (.pointer (some a)) f).run P w = .ok (.pointer (some (a.add x.offset))) w := by
  obtain ⟨fs, hu, hy, hi, hc⟩ := fieldOf_ok he
  simp [Instr.fieldAt, Sem.run_bind, run_underlying hu, hy, Instr.sureAddr, fieldPlace, run_size' hi, hc]


def elemOf' (P : Program) (t : TypeId) : Option TypeId :=
  match P.underlying t with
  | some (.slice e) => if (P.info? e).isSome && P.cellsOf e != 0 then some e else none
  | _ => none
theorem elemOf'_ok {P : Program} {t e : TypeId} (he : elemOf' P t = some e) : P.underlying t = some (.slice e) ∧ (P.info? e).isSome = true ∧ P.cellsOf e ≠ 0 := by
  unfold elemOf' at he
  split at he
  · rename_i hu
    split at he
    · rename_i hc
      simp only [Option.some.injEq] at he
      subst he
      simp only [Bool.and_eq_true, bne_iff_ne] at hc
      exact ⟨hu, hc.1, hc.2⟩
    · cases he
  · cases he

theorem RD.index {P : Program} {h : Hw} {w : World} {val : Val} {t e : TypeId} {xs : List D} {u : Value} {k : IntKind} {i : Int} {y : D} (hr : RD h w (.sl xs) u) (he : elemOf' P t = some e)
    (hi : 0 ≤ i) (hy : xs[i.toNat]? = some y) (hk : y.nc = P.cellsOf e) : ∃ p, (Instr.indexAt t u (.int k i)).run P w = .ok p w ∧ RA h w val (.eptr y.cells) p := by
  obtain ⟨hu, hI, hC⟩ := elemOf'_ok he
  simp only [RD] at hr
  obtain ⟨ad, cap, k', us, rfl, hl, hm, hrow, hc⟩ := hr
  have hlt : i.toNat < xs.length := by
    rcases Nat.lt_or_ge i.toNat xs.length with h | h
    · exact h
    · rw [List.getElem?_eq_none h] at hy; cases hy
  obtain ⟨a, rfl, hcell⟩ := hc (by omega)
  obtain ⟨u, hu', hs, hnc, hget⟩ := hrow.get _ _ hy
  have hk' : k' = P.cellsOf e := by omega
  subst hk'
  refine ⟨.pointer (some (a.add (i.toNat * P.cellsOf e))), ?_, ?_⟩
  · have : (i : Int) < xs.length := by omega
    simp [Instr.indexAt, Sem.run_bind, run_underlying hu, asIntOf, hi, this, run_size' hI]
  · simp only [RA]
    refine ⟨_, u.cells.toList, rfl, hu'.cells.1, fun j v hj => ?_⟩
    have hjl : j < P.cellsOf e := by
      rcases Nat.lt_or_ge j u.cells.toList.length with h | h
      · simpa [hs] using h
      · rw [List.getElem?_eq_none h] at hj; cases hj
    have := hcell (i.toNat * P.cellsOf e + j) v (by rw [hget j hjl]; simpa using hj)
    rw [add_add, add_block, add_off, Nat.add_assoc]
    exact this

theorem RD.sub {P : Program} {h : Hw} {w : World} {t e : TypeId} {xs : List D} {u : Value} (hr : RD h w (.sl xs) u) (_ : elemOf' P t = some e)
    (l hh : Nat) (h1 : l ≤ hh) (h2 : hh ≤ xs.length) (hk : ∀ y ∈ xs, y.nc = P.cellsOf e) :
    ∃ a n c, u = .slice a n c ∧ n = xs.length ∧ n ≤ c ∧ RD h w (.sl ((xs.take hh).drop l)) (.slice (if c = l then a else a.map (·.add (l * P.cellsOf e))) (hh - l) (c - l)) := by
  simp only [RD] at hr
  obtain ⟨ad, cap, k', us, rfl, hl, hm, hrow, hc⟩ := hr
  refine ⟨ad, _, cap, rfl, rfl, hl, ?_⟩
  simp only [RD]
  have hlen : ((xs.take hh).drop l).length = hh - l := by simp; omega
  refine ⟨_, cap - l, k', (us.take (hh * k')).drop (l * k'), by rw [hlen], by rw [hlen]; omega, by omega, (hrow.take hh).drop l, fun h0 => ?_⟩
  rw [hlen] at h0
  obtain ⟨a, rfl, hcell⟩ := hc (by omega)
  have hk' : k' = P.cellsOf e := by
    cases xs with
    | nil => simp at h2; omega
    | cons x xs => rw [← hk x (by simp)]; exact (hrow.mk x (by simp)).symm
  subst hk'
  rw [if_neg (by omega)]
  refine ⟨_, rfl, fun j v hj => ?_⟩
  have hj' : us[l * P.cellsOf e + j]? = some v := by
    rw [List.getElem?_drop, List.getElem?_take] at hj
    split at hj
    · exact hj
    · cases hj
  have := hcell _ v hj'
  rw [add_add, add_block, add_off, Nat.add_assoc]
  exact this

def optInt : Option A → Int → Option Int
  | none, d => some d
  | some (.d (.v (.int _ i))), _ => some i
  | _, _ => none

def isPtr : A → Bool
  | .box _ _ => true
  | .eptr _ => true
  | .opq a => isPtr a
  | _ => false
theorem isPtr_ok {h w} : ∀ {val : Val} {a : A} {u : Value}, isPtr a = true → RA h w val a u → ∃ p, u = .pointer (some p)
  | val, .box n off, u, _, hr => by simp only [RA] at hr; obtain ⟨b, _, rfl⟩ := hr; exact ⟨_, rfl⟩
  | val, .eptr cs, u, _, hr => by simp only [RA] at hr; obtain ⟨b, _, rfl, _⟩ := hr; exact ⟨_, rfl⟩
  | val, .opq a, u, hp, hr => by simp only [RA] at hr; exact isPtr_ok (a := a) (by simpa [isPtr] using hp) hr
  | val, .d _, u, hp, hr => by simp [isPtr] at hp
  | val, .row _, u, hp, hr => by simp [isPtr] at hp
  | val, .clo .., u, hp, hr => by simp [isPtr] at hp
  | val, .agg _, u, hp, hr => by simp [isPtr] at hp
  | val, .tup _, u, hp, hr => by simp [isPtr] at hp
  | val, .nil, u, hp, hr => by simp [isPtr] at hp
  | val, .any, u, hp, hr => by simp [isPtr] at hp
end Go.Ac
