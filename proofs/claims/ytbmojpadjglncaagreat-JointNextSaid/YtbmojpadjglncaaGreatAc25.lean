/- Own work: how calls of the model run over plain data. -/
import Derived.Test.YtbmojpadjglncaaGreatAc24
set_option linter.unusedVariables false
set_option linter.unusedSimpArgs false
namespace Go.Ac
open Go.Proofs Go.Shelf Go.RowKit Go.Lib Go.Sort

theorem own_result {X : Bx} {m : Nat} {e : TypeId} {k : Nat} {ys : List D} {h : Hw} {w : World} {val : Val} {v v' : Value} {w' : World} {us' : List Value}
    (hm : m ∉ names X) (hh : ∀ g, v.ownBlock = some g → h g = 0) (hM : ∀ g, v.ownBlock = some g → g ∈ blks val X)
    (hown' : w'.ownsRow 0 e k v' ys.length us') (hrow' : RRow h w k ys us')
    (hcase : ∀ g, v'.ownBlock = some g → v.ownBlock = some g ∨ w.heap.size ≤ g) (hgrow : w.grownBy w' v.ownBlock) :
    ∃ h' val' u, Ending.returned v' = .returned u ∧ Inv h' w' val' [(m, .rw e k ys)] ∧ RA h' w' val' (.row m) u ∧ Keep (blks val X) h w h' w' ∧
      (∀ n, (n ∈ names [(m, Bk.rw e k ys)] → n ∈ names X) → val' n = val n) ∧ ∀ b ∈ blks val' [(m, .rw e k ys)], b ∈ blks val X ∨ w.heap.size ≤ b := by
  let h' : Hw := fun b => if v'.ownBlock = some b then 0 else h b
  have hvm : setV val m v' m = v' := by simp [setV]
  have hkeep0 : Keep v.ownBlock.toList h w h' w' := by
    refine ⟨hgrow.os, hgrow.tape, hgrow.output, hgrow.size, fun b j x hj hcx => ?_, fun b hb => ?_, fun b hb hn => ?_⟩
    · by_cases hvb : some b = v.ownBlock
      · rw [hh b hvb.symm] at hj; exact absurd hj (Nat.not_lt_zero _)
      · rw [World.cell?_of_block (w := w) (a := ⟨b, j, none⟩) (hgrow.block b (cell_lt hcx) hvb)]
        exact hcx
    · show h b ≤ if v'.ownBlock = some b then _ else h b
      split
      · rename_i hvb
        rcases hcase b hvb with h1 | h1
        · rw [hh b h1]; exact Nat.le_refl _
        · omega
      · exact Nat.le_refl _
    · have hn' : some b ≠ v.ownBlock := fun e => hn (by rw [← e]; simp)
      refine ⟨hgrow.block b hb hn', ?_⟩
      show (if v'.ownBlock = some b then _ else h b) = h b
      rw [if_neg fun hvb => ?_]
      rcases hcase b hvb with h1 | h1
      · exact hn' h1.symm
      · omega
  have hkeep : Keep (blks val X) h w h' w' := hkeep0.mono' fun x hx => by
    cases hvo : v.ownBlock with
    | none => simp [hvo] at hx
    | some g => simp [hvo] at hx; subst hx; exact .inl (hM _ hvo)
  have hvbv : vblk v' = v'.ownBlock := vblk_eq_own hown'
  have hlen : us'.length = ys.length * k := RRow.length hrow'
  have hbl : blks (setV val m v') [(m, .rw e k ys)] = v'.ownBlock.toList := by
    unfold blks blkOf
    simp only [List.filterMap_cons, List.filterMap_nil, Bk.isOld, hvm, hvbv]
    cases v'.ownBlock <;> rfl
  refine ⟨h', setV val m v', v', rfl, ⟨?_, by simp [names], ?_⟩, ?_, hkeep, ?_, ?_⟩
  · intro p hp
    simp only [List.mem_singleton] at hp
    subst hp
    refine ⟨us', by rw [hvm]; exact hown', RRow.stays hkeep0.stays _ _ _ hrow', fun g hg => ?_⟩
    rw [hvm] at hg
    show (if v'.ownBlock = some g then _ else h g) = _
    rw [if_pos hg]
  · rw [hbl]; cases v'.ownBlock <;> simp
  · simp only [RA, hvm]
    exact ⟨trivial, .inl (ownsRow_form hown')⟩
  · intro n hn
    by_cases e : n = m
    · subst e; exact absurd (hn (by simp [names])) hm
    · simp [setV, e]
  · intro b hb
    rw [hbl] at hb
    have hb' : v'.ownBlock = some b := by cases hq : v'.ownBlock with
      | none => rw [hq] at hb; simp at hb
      | some g => rw [hq] at hb; simp at hb; rw [hb]
    rcases hcase b hb' with h1 | h1
    · exact .inl (hM b h1)
    · exact .inr h1

theorem rowT_of {P : Program} {t e : TypeId} {k by_ : Nat} (ht : P.underlying t = some (.slice e))
    (hq : (P.info? e).map (fun i => (i.size, i.bytes, i.zero.map (·.cells.size), i.zero.map (fun z => z.cells.all (·.oneCell')))) = some (k, by_, some k, some true)) :
    ∃ i z, RowT P t e i z ∧ i.size = k ∧ i.bytes = by_ := by
  simp only [Option.map_eq_some_iff, Prod.mk.injEq] at hq
  obtain ⟨i, hi, h1, h2, ⟨z, hz, hzs⟩, ⟨z', hz', hza⟩⟩ := hq
  rw [hz] at hz'
  cases hz'
  refine ⟨i, z, ⟨ht, hi, hz, hzs.trans h1.symm, fun v hv => ?_⟩, h1, h2⟩
  rw [Array.all_eq_true'] at hza
  exact hza v hv
end Go.Ac
