/- Own work: how calls of the model run over plain data. -/
import Derived.Test.YtbmojpadjglncaaGreatAc28
set_option linter.unusedVariables false
set_option linter.unusedSimpArgs false
namespace Go.Ac
open Go.Proofs Go.Shelf Go.RowKit Go.Lib
section
variable {P : Program} {ρ : Ren}
theorem clone_worldK (L : SlLaysE0.n41 P ρ) {i0 : TypeInfo} {z : Value} (T : RowT P (ρ.t 22) (ρ.t 23) i0 z) (hsz : 0 < i0.size) {h : Hw} {w : World} {xs : List D} {u : Value} {us : List Value}
    (hown : w.ownsRow 0 (ρ.t 23) i0.size u xs.length us) (hrow : RRow h w i0.size xs us) (hbig : xs.length * i0.bytes ≤ 140737488355328) :
    Calls P (ρ.f 41) #[u] w fun e w' => ∃ v' us, e = .returned v' ∧ w'.ownsRow 0 (ρ.t 23) i0.size v' xs.length us ∧ RRow h w i0.size xs us ∧ (∀ g, v'.ownBlock = some g → w.heap.size ≤ g) ∧ w.grownBy w' none := by
  obtain ⟨hlen, hcase⟩ := hown
  rcases hcase with ⟨rfl, h0⟩ | ⟨g, cap, cur, rfl, _, hg, hn, hc, hcs, htk⟩
  · have hxs : xs = [] := List.eq_nil_of_length_eq_zero h0
    subst hxs
    refine (AnyE.slices_Clone_nil L _ _ w).mono ?_
    rintro e w' ⟨rfl, rfl⟩
    exact ⟨_, [], rfl, World.ownsRow_nil _ _ _ _, by simp [RRow], by simp [Value.ownBlock], ⟨rfl, rfl, rfl, Nat.le_refl _, fun _ _ _ => rfl⟩⟩
  · have hcell : ∀ j x, us[j]? = some x → w.cell? ((⟨g, 0, none⟩ : Addr).add j) = some x := by
      intro j x hj
      rw [← htk, List.getElem?_take] at hj
      split at hj
      · have e : (⟨g, 0, none⟩ : Addr).add j = ⟨g, j, none⟩ := by cases j <;> simp [Addr.add]
        rw [e]
        simp only [World.cell?, hg]
        simpa using hj
      · cases hj
    refine (clone_walk L T hsz ⟨g, 0, none⟩ xs.length cap us w hlen (Nat.le_trans hn hc) hbig hcell hrow.one).mono ?_
    rintro e w' ⟨v', rfl, hown', hB⟩
    refine ⟨v', us, rfl, ⟨hown'.1, ?_⟩, hrow, fun g hg => (hown'.lt g hg).1, ⟨hB.os, hB.tape, hB.output, hB.size, fun b hb _ => hB.block b hb⟩⟩
    rcases hown'.2 with h0 | ⟨g, cap, cur, e1, _, e3⟩
    · exact .inl h0
    · exact .inr ⟨g, cap, cur, e1, Nat.zero_le _, e3⟩
theorem ACloneK (L : SlLaysE0.n41 P ρ) {i0 : TypeInfo} {z : Value} (T : RowT P (ρ.t 22) (ρ.t 23) i0 z) (hsz : 0 < i0.size) (xs : List D) (hbig : xs.length * i0.bytes ≤ 140737488355328) :
    ACall P (ρ.f 41) [.row 0] [(0, .rw (ρ.t 23) i0.size xs)] (.d (.sl xs)) [(0, .rw (ρ.t 23) i0.size xs)] := by
  intro h w val vs hI hA
  simp only [RAs, RA] at hA
  obtain ⟨u, _, rfl, ⟨hu, _⟩, rfl⟩ := hA
  obtain ⟨us0, hown0, hrow0, hh0⟩ := hI.rep (0, .rw (ρ.t 23) i0.size xs) (by simp)
  simp only at hown0
  subst hu
  refine (clone_worldK L T hsz hown0 hrow0 hbig).mono ?_
  rintro e w' ⟨v', us, rfl, hown, hrow, hnew, hgrow⟩
  let h' : Hw := fun b => if v'.ownBlock = some b then xs.length * i0.size else h b
  have hkeep : Keep [] h w h' w' := by
    refine ⟨hgrow.os, hgrow.tape, hgrow.output, hgrow.size, fun b j x hj hcx => ?_, fun b hb => ?_, fun b hb hn => ?_⟩
    · rw [World.cell?_of_block (w := w) (a := ⟨b, j, none⟩) (hgrow.block b (cell_lt hcx) (by simp))]
      exact hcx
    · show h b ≤ if v'.ownBlock = some b then _ else h b
      split
      · rename_i hvb; have := hnew b hvb; omega
      · exact Nat.le_refl _
    · refine ⟨hgrow.block b hb (by simp), ?_⟩
      show (if v'.ownBlock = some b then _ else h b) = h b
      rw [if_neg fun hvb => by have := hnew b hvb; omega]
  have hrb : RB h' w' (setV val 0 v') 0 (.row (ρ.t 23) i0.size xs) := by
    refine ⟨us, by simpa [setV] using hown, RRow.stays hkeep.stays _ _ _ hrow, fun g hg => ?_⟩
    simp only [setV] at hg
    show (if v'.ownBlock = some g then _ else h g) = _
    rw [if_pos (by simpa using hg)]
  have hd := RB.data hrb
  simp only [setV, if_true] at hd
  exact ⟨h', val, v', rfl, hI.quiet hkeep, by simpa only [RA] using hd, hkeep.mono' (fun x hx => (by cases hx)), fun _ _ => rfl, fun b hb => .inl hb⟩
theorem ACloneKO (L : SlLaysE0.n41 P ρ) {i0 : TypeInfo} {z : Value} (T : RowT P (ρ.t 22) (ρ.t 23) i0 z) (hsz : 0 < i0.size) (xs : List D) (hbig : xs.length * i0.bytes ≤ 140737488355328) :
    ACall P (ρ.f 41) [.row 0] [(0, .rw (ρ.t 23) i0.size xs)] (.row 1) [(0, .rw (ρ.t 23) i0.size xs), (1, .rw (ρ.t 23) i0.size xs)] := by
  intro h w val vs hI hA
  simp only [RAs, RA] at hA
  obtain ⟨u, _, rfl, ⟨hu, _⟩, rfl⟩ := hA
  obtain ⟨us0, hown0, hrow0, hh0⟩ := hI.rep (0, .rw (ρ.t 23) i0.size xs) (by simp)
  simp only at hown0
  subst hu
  refine (clone_worldK L T hsz hown0 hrow0 hbig).mono ?_
  rintro e w' ⟨v', us, rfl, hown, hrow, hnew, hgrow⟩
  let h' : Hw := fun b => if v'.ownBlock = some b then 0 else h b
  have hkeep : Keep [] h w h' w' := by
    refine ⟨hgrow.os, hgrow.tape, hgrow.output, hgrow.size, fun b j x hj hcx => ?_, fun b hb => ?_, fun b hb hn => ?_⟩
    · rw [World.cell?_of_block (w := w) (a := ⟨b, j, none⟩) (hgrow.block b (cell_lt hcx) (by simp))]
      exact hcx
    · show h b ≤ if v'.ownBlock = some b then _ else h b
      split
      · rename_i hvb; have := hnew b hvb; omega
      · exact Nat.le_refl _
    · refine ⟨hgrow.block b hb (by simp), ?_⟩
      show (if v'.ownBlock = some b then _ else h b) = h b
      rw [if_neg fun hvb => by have := hnew b hvb; omega]
  have hq := hI.quiet hkeep
  have hv0 : setV val 1 v' 0 = val 0 := by simp [setV]
  have hv1 : setV val 1 v' 1 = v' := by simp [setV]
  have hvb : vblk v' = v'.ownBlock := vblk_eq_own hown
  have hbl : ∀ b, b ∈ blks val [(0, Bk.rw (ρ.t 23) i0.size xs)] → b < w.heap.size := fun b hb => hI.blk_lt b hb
  have hb2 : blks (setV val 1 v') [(0, Bk.rw (ρ.t 23) i0.size xs), (1, .rw (ρ.t 23) i0.size xs)] = blks val [(0, Bk.rw (ρ.t 23) i0.size xs)] ++ v'.ownBlock.toList := by
    unfold blks blkOf
    simp only [List.filterMap_cons, List.filterMap_nil, Bk.isOld, hv0, hv1, hvb]
    cases vblk (val 0) <;> cases v'.ownBlock <;> rfl
  refine ⟨h', setV val 1 v', v', rfl, ⟨?_, by simp [names], ?_⟩, ?_, hkeep.mono' (fun x hx => (by cases hx)), ?_, ?_⟩
  · intro p hp
    simp only [List.mem_cons, List.not_mem_nil, or_false] at hp
    rcases hp with rfl | rfl
    · obtain ⟨us2, a, b, c⟩ := hq.rep (0, .rw (ρ.t 23) i0.size xs) (by simp)
      exact ⟨us2, by rw [hv0]; exact a, b, by rw [hv0]; exact c⟩
    · refine ⟨us, by rw [hv1]; exact hown, RRow.stays hkeep.stays _ _ _ hrow, fun g hg => ?_⟩
      rw [hv1] at hg
      show (if v'.ownBlock = some g then _ else h g) = _
      rw [if_pos hg]
  · rw [hb2]
    refine List.nodup_append.2 ⟨hI.bks, by cases v'.ownBlock <;> simp, fun a ha b hb => ?_⟩
    have h1 := hbl a ha
    have h2 := hnew b (by simpa using hb)
    omega
  · simp only [RA, hv1]
    exact ⟨trivial, .inl (ownsRow_form hown)⟩
  · intro n hn
    by_cases e : n = 1
    · subst e; exact absurd (hn (by simp [names])) (by simp [names])
    · simp [setV, e]
  · intro b hb
    rw [hb2] at hb
    rcases List.mem_append.1 hb with hb | hb
    · exact .inl hb
    · exact .inr (hnew b (by simpa using hb))
end
theorem cloneE_k {P : Program} {ρ : Ren} {e : TypeId} {k by_ fi : Nat} {α : Type} (f : α → D) (hfi : ρ.f 41 = fi) (he : ρ.t 23 = e) (L : SlLaysE0.n41 P ρ)
    (hq : (P.info? (ρ.t 23)).map (fun i => (i.size, i.bytes, i.zero.map (·.cells.size), i.zero.map (fun z => z.cells.all (·.oneCell')))) = some (k, by_, some k, some true)) (hk0 : 0 < k)
    (l r : List α) (h : cloneE by_ l = some r) : ACall P fi [.row 0] [(0, .rw e k (l.map f))] (.d (D.l f r)) [(0, .rw e k (l.map f))] := by
  obtain ⟨i, z, T, rfl, rfl⟩ := rowT_of L.t22 hq
  unfold cloneE at h
  split at h
  · rename_i hc
    obtain rfl := Option.some.inj h
    subst hfi; subst he
    exact ACloneK L T hk0 (l.map f) (by unfold fit at hc; simpa using hc)
  · cases h
theorem cloneE_ko {P : Program} {ρ : Ren} {e : TypeId} {k by_ fi : Nat} {α : Type} (f : α → D) (hfi : ρ.f 41 = fi) (he : ρ.t 23 = e) (L : SlLaysE0.n41 P ρ)
    (hq : (P.info? (ρ.t 23)).map (fun i => (i.size, i.bytes, i.zero.map (·.cells.size), i.zero.map (fun z => z.cells.all (·.oneCell')))) = some (k, by_, some k, some true)) (hk0 : 0 < k)
    (l r : List α) (h : cloneE by_ l = some r) : ACall P fi [.row 0] [(0, .rw e k (l.map f))] (.row 1) [(0, .rw e k (l.map f)), (1, .rw e k (r.map f))] := by
  obtain ⟨i, z, T, rfl, rfl⟩ := rowT_of L.t22 hq
  unfold cloneE at h
  split at h
  · rename_i hc
    obtain rfl := Option.some.inj h
    subst hfi; subst he
    exact ACloneKO L T hk0 (l.map f) (by unfold fit at hc; simpa using hc)
  · cases h
end Go.Ac
