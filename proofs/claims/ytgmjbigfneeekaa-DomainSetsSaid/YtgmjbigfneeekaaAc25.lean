/-
  Part of a proof: how calls of the model run over plain data (own work; no conditions).
-/
import Derived.Test.YtgmjbigfneeekaaAc24
set_option linter.unusedVariables false
set_option linter.unusedSimpArgs false
/-! Calls of the library's functions on rows, over plain data: slices.Delete. -/
namespace Go.Ac
open Go.Proofs Go.Shelf Go.RowKit Go.Lib Go.Sort

theorem own_result {X : Bx} {m : Nat} {e : TypeId} {k : Nat} {ys : List D} {h : Hw} {w : World} {val : Val} {v v' : Value} {w' : World} {us' : List Value}
    (hm : m ∉ names X) (hh : ∀ g, v.ownBlock = some g → h g = 0) (hM : ∀ g, v.ownBlock = some g → g ∈ blks val X)
    (hown' : w'.ownsRow 0 e k v' ys.length us') (hrow' : RRow h w k ys us')
    (hcase : ∀ g, v'.ownBlock = some g → v.ownBlock = some g ∨ w.heap.size ≤ g) (hgrow : w.grownBy w' v.ownBlock) :
    ∃ h' val' u, Ending.returned v' = .returned u ∧ Inv h' w' val' [(m, .rw e k ys)] ∧ RA h' w' val' (.row m) u ∧ Keep (blks val X) h w h' w' ∧
      (∀ n, (n ∈ names [(m, Bk.rw e k ys)] → n ∈ names X) → val' n = val n) ∧ ∀ b ∈ blks val' [(m, .rw e k ys)], b ∈ blks val X ∨ w.heap.size ≤ b := by
  let h' : Hw := fun b => if v'.ownBlock = some b then 0 else h b
  have hvm : setV val m v' m = v' := by simp [setV]
  have hkeep0 : Keep v.ownBlock.toList h w h' w' := by
    refine ⟨hgrow.os, hgrow.tape, hgrow.output, hgrow.size, fun b j x hj hcx => ?_, fun b hb => ?_, fun b hb hn => ?_⟩
    · by_cases hvb : some b = v.ownBlock
      · rw [hh b hvb.symm] at hj; exact absurd hj (Nat.not_lt_zero _)
      · rw [World.cell?_of_block (w := w) (a := ⟨b, j, none⟩) (hgrow.block b (cell_lt hcx) hvb)]
        exact hcx
    · show h b ≤ if v'.ownBlock = some b then _ else h b
      split
      · rename_i hvb
        rcases hcase b hvb with h1 | h1
        · rw [hh b h1]; exact Nat.le_refl _
        · omega
      · exact Nat.le_refl _
    · have hn' : some b ≠ v.ownBlock := fun e => hn (by rw [← e]; simp)
      refine ⟨hgrow.block b hb hn', ?_⟩
      show (if v'.ownBlock = some b then _ else h b) = h b
      rw [if_neg fun hvb => ?_]
      rcases hcase b hvb with h1 | h1
      · exact hn' h1.symm
      · omega
  have hkeep : Keep (blks val X) h w h' w' := hkeep0.mono' fun x hx => by
    cases hvo : v.ownBlock with
    | none => simp [hvo] at hx
    | some g => simp [hvo] at hx; subst hx; exact .inl (hM _ hvo)
  have hvbv : vblk v' = v'.ownBlock := vblk_eq_own hown'
  have hlen : us'.length = ys.length * k := RRow.length hrow'
  have hbl : blks (setV val m v') [(m, .rw e k ys)] = v'.ownBlock.toList := by
    unfold blks blkOf
    simp only [List.filterMap_cons, List.filterMap_nil, Bk.isOld, hvm, hvbv]
    cases v'.ownBlock <;> rfl
  refine ⟨h', setV val m v', v', rfl, ⟨?_, by simp [names], ?_⟩, ?_, hkeep, ?_, ?_⟩
  · intro p hp
    simp only [List.mem_singleton] at hp
    subst hp
    refine ⟨us', by rw [hvm]; exact hown', RRow.stays hkeep0.stays _ _ _ hrow', fun g hg => ?_⟩
    rw [hvm] at hg
    show (if v'.ownBlock = some g then _ else h g) = _
    rw [if_pos hg]
  · rw [hbl]; cases v'.ownBlock <;> simp
  · simp only [RA, hvm]
    exact ⟨trivial, ownsRow_form hown'⟩
  · intro n hn
    by_cases e : n = m
    · subst e; exact absurd (hn (by simp [names])) hm
    · simp [setV, e]
  · intro b hb
    rw [hbl] at hb
    have hb' : v'.ownBlock = some b := by cases hq : v'.ownBlock with
      | none => rw [hq] at hb; simp at hb
      | some g => rw [hq] at hb; simp at hb; rw [hb]
    rcases hcase b hb' with h1 | h1
    · exact .inl (hM b h1)
    · exact .inr h1

section
variable {P : Program} {ρ : Ren}
theorem ADelete {e : TypeId} {i0 : TypeInfo} {z : Value} (mixed : P.follows .mixedOrders = true) (FB : Bears P (ρ.f 45) (SlBodyN.n45 ρ)) (t0 : P.underlying (ρ.t 0) = some (.tuple #[]))
    (t3 : P.underlying (ρ.t 3) = some (.int .i64)) (t4 : P.underlying (ρ.t 4) = some .bool) (T : RowT P (ρ.t 22) e i0 z) (xs : List D) (i j : Nat) (hij : i ≤ j) (hj : j ≤ xs.length) :
    ACall P (ρ.f 45) [.row 0, .d (.v (.int .i64 i)), .d (.v (.int .i64 j))] [(0, .rw e i0.size xs)] (.row 1) [(1, .rw e i0.size (xs.take i ++ xs.drop j))] := by
  intro h w val vs hI hA
  simp only [RAs, RA, RD] at hA
  obtain ⟨_, _, rfl, ⟨rfl, _⟩, _, _, rfl, ⟨rfl, _⟩, _, _, rfl, ⟨rfl, _⟩, rfl⟩ := hA
  obtain ⟨us, hown, hrow, hh⟩ := hI.rep (0, .rw e i0.size xs) (by simp)
  have hlen := RRow.length hrow
  have hM : ∀ g, (val 0).ownBlock = some g → g ∈ blks val [(0, Bk.rw e i0.size xs)] := by
    intro g hg
    simp [blks, blkOf, Bk.isOld, vblk_eq_own hown, hg]
  have hrow2 : RRow h w i0.size (xs.take i ++ xs.drop j) (us.take (i * i0.size) ++ us.drop (j * i0.size)) := RRow.append (RRow.take i hrow) (RRow.drop j hrow)
  have hgo : ∀ v' w', w'.ownsRow 0 e i0.size v' (xs.take i ++ xs.drop j).length (us.take (i * i0.size) ++ us.drop (j * i0.size)) → v'.ownBlock = (val 0).ownBlock → w.grownBy w' (val 0).ownBlock →
      ∃ h' val' u, Ending.returned v' = .returned u ∧ Inv h' w' val' [(1, .rw e i0.size (xs.take i ++ xs.drop j))] ∧ RA h' w' val' (.row 1) u ∧ Keep (blks val [(0, .rw e i0.size xs)]) h w h' w' ∧
      (∀ n, (n ∈ names [(1, Bk.rw e i0.size (xs.take i ++ xs.drop j))] → n ∈ names [(0, Bk.rw e i0.size xs)]) → val' n = val n) ∧ ∀ b ∈ blks val' [(1, .rw e i0.size (xs.take i ++ xs.drop j))], b ∈ blks val [(0, .rw e i0.size xs)] ∨ w.heap.size ≤ b :=
    fun v' w' h1 h2 h3 => own_result (by simp [names]) hh hM h1 hrow2 (fun g hg => .inl (by rw [← h2]; exact hg)) h3
  rcases Nat.eq_or_lt_of_le hij with rfl | hlt
  · -- nothing is taken out
    have e1 : xs.take i ++ xs.drop i = xs := List.take_append_drop i xs
    have e2 : us.take (i * i0.size) ++ us.drop (i * i0.size) = us := List.take_append_drop _ us
    rw [e1, e2] at hgo
    rw [e1]
    rcases hown.2 with ⟨hv, h0⟩ | ⟨g, cap, cur, hv, _, hg, hn, hc, hcs, htk⟩
    · rw [hv]
      refine (del_same mixed FB t0 t3 t4 T w none 0 0 i (by omega) (Nat.le_refl _) (by decide) (by simp) (by simp)).mono ?_
      rintro ex w' ⟨rfl, rfl⟩
      exact hgo _ _ (by rw [← hv]; exact hown) (by rw [hv]) ⟨rfl, rfl, rfl, Nat.le_refl _, fun _ _ _ => rfl⟩
    · rw [hv]
      refine (del_same mixed FB t0 t3 t4 T w _ _ cap i hj hn hc (by rintro a ha; cases ha; rfl) (by simp)).mono ?_
      rintro ex w' ⟨rfl, rfl⟩
      exact hgo _ _ (by rw [← hv]; exact hown) (by rw [hv]) ⟨rfl, rfl, rfl, Nat.le_refl _, fun _ _ _ => rfl⟩
  · rcases hown.2 with ⟨hv, h0⟩ | ⟨g, cap, cur, hv, _, hg, hn, hc, hcs, htk⟩
    · omega
    · rw [hv]
      have hR : rawAt w g e cur.toList := by unfold rawAt; simpa using hg
      refine (del_walk mixed FB t0 t3 t4 T w g xs.length cap i j cur.toList hR (by rw [htk]; exact RRow.one hrow) (by simpa using hcs) hlt hj hn (Nat.le_trans hc (by decide))).mono ?_
      rintro ex w' ⟨rfl, rfl⟩
      rw [htk]
      obtain ⟨k, hk⟩ : ∃ k, k = i0.size := ⟨_, rfl⟩
      have hzs := T.hzs
      rw [← hk] at hzs hcs hlen htk hgo ⊢
      have m1 : xs.length * k ≤ cap * k := Nat.mul_le_mul_right k hn
      have m2 : (i + (xs.length - j)) * k = i * k + (xs.length - j) * k := Nat.add_mul _ _ _
      have m3 : (xs.length - j) * k = xs.length * k - j * k := Nat.sub_mul _ _ _
      have m4 : j * k ≤ xs.length * k := Nat.mul_le_mul_right k hj
      have m5 : i * k ≤ j * k := Nat.mul_le_mul_right k hij
      have m6 : (xs.length - (i + (xs.length - j))) * k = xs.length * k - (i * k + (xs.length - j) * k) := by rw [Nat.sub_mul, m2]
      have hul : cur.toList.length = cap * k := by simpa using hcs
      have l1 : (us.drop (j * k)).length = (xs.length - j) * k := by rw [List.length_drop, hlen, m3]
      have hR1 := rawAt.set (us.drop (j * k)) (i * k) hR.drew (by rw [l1]; omega)
      have l2 : (cur.toList.take (i * k) ++ us.drop (j * k)).length = (i + (xs.length - j)) * k := by
        rw [List.length_append, List.length_take, Nat.min_eq_left (by omega), l1, m2]
      obtain ⟨rest, hrest⟩ : ∃ rest, rest = cur.toList.drop (i * k + (us.drop (j * k)).length) := ⟨_, rfl⟩
      rw [← hrest] at hR1
      have l3 : rest.length = cap * k - (i * k + (xs.length - j) * k) := by rw [hrest, List.length_drop, l1, hul]
      have hR2 := rawAt.set (Builtin.zeroCells z.cells (xs.length - (i + (xs.length - j)))).toList ((i + (xs.length - j)) * k) hR1 (by
        rw [zeroCells_length, hzs, List.length_append, l2, l3, m6]; omega)
      have e3 : xs.length - (j - i) = (xs.take i ++ xs.drop j).length := by
        rw [List.length_append, List.length_take, List.length_drop, Nat.min_eq_left (by omega)]; omega
      have e4 : (xs.take i ++ xs.drop j).length = i + (xs.length - j) := by omega
      have hgo2 := hgo (.slice (some ⟨g, 0, none⟩) (xs.length - (j - i)) cap) ((w.drew.setCells g (i * k) (us.drop (j * k))).setCells g ((i + (xs.length - j)) * k) (Builtin.zeroCells z.cells (xs.length - (i + (xs.length - j)))).toList) ?_ (by rw [hv]; rfl) ?_
      · exact hgo2
      · rw [e3]
        refine ⟨by rw [e4, m2]; rw [List.length_append, List.length_take, l1, Nat.min_eq_left (by omega)], .inr ⟨g, cap, _, rfl, Nat.zero_le _, hR2, by rw [e4]; omega, hc, ?_, ?_⟩⟩
        · simp only [List.size_toArray, List.length_append, List.length_take, List.length_drop, zeroCells_length, hzs, l1, l3, m6]
          omega
        · rw [e4]
          have e5 : cur.toList.take (i * k) = us.take (i * k) := by
            rw [← htk, List.take_take, Nat.min_eq_left (by omega)]
          simp only
          rw [List.append_assoc, List.take_append_of_le_length (by rw [List.length_take, List.length_append, l2]; omega), List.take_take, Nat.min_self, List.take_append_of_le_length (by rw [l2]; exact Nat.le_refl _), List.take_of_length_le (by rw [l2]; exact Nat.le_refl _), e5]
      · rw [hv]
        obtain ⟨a1, a2, a3, a4, a5⟩ := setCells_keeps g (us.drop (j * k)) (i * k) w.drew
        obtain ⟨b1, b2, b3, b4, b5⟩ := setCells_keeps g (Builtin.zeroCells z.cells (xs.length - (i + (xs.length - j)))).toList ((i + (xs.length - j)) * k) (w.drew.setCells g (i * k) (us.drop (j * k)))
        refine ⟨b1.trans a1, b2.trans a2, b3.trans a3, Nat.le_of_eq (b4.trans a4).symm, fun x hx hne => ?_⟩
        have hne' : x ≠ g := fun q => hne (by rw [q]; rfl)
        exact (b5 x hne').trans (a5 x hne')
end
theorem rowT_of {P : Program} {t e : TypeId} {k by_ : Nat} (ht : P.underlying t = some (.slice e))
    (hq : (P.info? e).map (fun i => (i.size, i.bytes, i.zero.map (·.cells.size), i.zero.map (fun z => z.cells.all (·.oneCell')))) = some (k, by_, some k, some true)) :
    ∃ i z, RowT P t e i z ∧ i.size = k ∧ i.bytes = by_ := by
  simp only [Option.map_eq_some_iff, Prod.mk.injEq] at hq
  obtain ⟨i, hi, h1, h2, ⟨z, hz, hzs⟩, ⟨z', hz', hza⟩⟩ := hq
  rw [hz] at hz'
  cases hz'
  refine ⟨i, z, ⟨ht, hi, hz, hzs.trans h1.symm, fun v hv => ?_⟩, h1, h2⟩
  rw [Array.all_eq_true'] at hza
  exact hza v hv
/-- slices.Delete -/
def delE {α : Type} (a b : Int) (l : List α) : Option (List α) := if 0 ≤ a ∧ a ≤ b ∧ b ≤ l.length then some (l.take a.toNat ++ l.drop b.toNat) else none
theorem delE_ok {P : Program} {ρ : Ren} {e : TypeId} {k by_ fi : Nat} {α : Type} (f : α → D) (mixed : P.follows .mixedOrders = true) (hfi : ρ.f 45 = fi) (FB : Bears P (ρ.f 45) (SlBodyN.n45 ρ)) (t0 : P.underlying (ρ.t 0) = some (.tuple #[]))
    (t3 : P.underlying (ρ.t 3) = some (.int .i64)) (t4 : P.underlying (ρ.t 4) = some .bool) (ht : P.underlying (ρ.t 22) = some (.slice e))
    (hq : (P.info? e).map (fun i => (i.size, i.bytes, i.zero.map (·.cells.size), i.zero.map (fun z => z.cells.all (·.oneCell')))) = some (k, by_, some k, some true))
    (a b : Int) (l r : List α) (h : delE a b l = some r) : ACall P fi [.row 0, .d (D.i .i64 a), .d (D.i .i64 b)] [(0, .rw e k (l.map f))] (.row 1) [(1, .rw e k (r.map f))] := by
  obtain ⟨i, z, T, rfl, rfl⟩ := rowT_of ht hq
  unfold delE at h
  split at h
  · rename_i hc
    obtain rfl := Option.some.inj h
    obtain ⟨n, rfl⟩ := Int.eq_ofNat_of_zero_le hc.1
    obtain ⟨m, rfl⟩ := Int.eq_ofNat_of_zero_le (Int.le_trans hc.1 hc.2.1)
    subst hfi
    have := ADelete mixed FB t0 t3 t4 T (l.map f) n m (by omega) (by rw [List.length_map]; omega)
    simpa [List.map_take, List.map_drop, D.i] using this
  · cases h
end Go.Ac
