/- Own work: how calls of the model run over plain data. -/
import Derived.Test.YtbmojpadjglncaaGreatAc25
import Derived.Shelf.SlicesE.Clone
set_option linter.unusedVariables false
set_option linter.unusedSimpArgs false
namespace Go.Ac
open Go.Proofs Go.Shelf Go.RowKit Go.Lib
theorem sizeOf_of {P : Program} {t : TypeId} {n : Nat} (h : (P.info? t).map (·.size) = some n) (w : World) : (Go.sizeOf t).run P w = .ok n w := by
  simp only [Option.map_eq_some_iff] at h
  obtain ⟨i, hi, rfl⟩ := h
  simp [sizeOf, typeInfo, hi]
theorem zero_of {P : Program} {t : TypeId} {z : Value} (h : (P.info? t).map (·.zero) = some (some z)) (w : World) : (zeroValue t).run P w = .ok z w := by
  simp only [Option.map_eq_some_iff] at h
  obtain ⟨i, hi, hz⟩ := h
  simp [zeroValue, typeInfo, hi, hz]
section
variable {P : Program} {ρ : Ren}
set_option maxHeartbeats 2000000 in
set_option maxRecDepth 100000 in
theorem clone_walk (L : SlLaysE0.n41 P ρ) {i0 : TypeInfo} {z : Value} (T : RowT P (ρ.t 22) (ρ.t 23) i0 z) (hsz : 0 < i0.size) (ad : Addr) (n c : Nat) (news : List Value) (w : World) (hl : news.length = n * i0.size) (hn : n ≤ maxLen) (hbig : n * i0.bytes ≤ 140737488355328)
    (hc : ∀ j u, news[j]? = some u → w.cell? (ad.add j) = some u) (h1 : ∀ u ∈ news, u.oneCell' = true) :
    Calls P (ρ.f 41) #[.slice (some ad) n c] w fun e w' => ∃ v', e = .returned v' ∧ w'.ownsRow w.heap.size (ρ.t 23) i0.size v' n news ∧ Below w.heap.size w w' := by
  have z23 : ∀ w, (Go.sizeOf (ρ.t 23)).run P w = .ok i0.size w := fun w => by simp [sizeOf, typeInfo, T.hi]
  have mixed := L.mixed; have t4 := L.t4; have a4 := L.a4; have z4 := L.z4; have v4 := L.v4; have t22 := L.t22; have a22 := L.a22; have z22 := L.z22; have v22 := L.v22
  have q22 : ∀ (w : World) (a : Option Addr) (n c n' c' : Nat), (binOp .eql (ρ.t 22) (.slice a n c) (.slice none n' c')).run P w = .ok (.bool a.isNone) w := fun w a n c n' c' => Lib.run_eql_slice_nil w _ _ a n c n' c' L.t22
  have u22 : ∀ w, Sem.run P (underlying (ρ.t 22)) w = .ok (TypeDesc.slice (ρ.t 23)) w := run_underlying t22
  have A : Aside (∀ j u, news[j]? = some u → w.cell? (ad.add j) = some u) := hc
  have hi := T.hi; have hz0 := T.hz; have hzs := T.hzs
  clear hc T
  obtain ⟨b, off, sp⟩ := ad
  obtain ⟨_, _, FG⟩ := L.f41
  go_enter FG, SlBodyN.n41_ntmps ρ
  go_wp2_with (at_builtin; refine wpList_append_own _ rfl _ _ (ρ.t 22) rfl w.heap.size (ρ.t 23) i0 z i0.size i0.bytes t22 hi hz0 rfl rfl hzs hsz _ _ _ rfl (World.ownsRow_made w #[] 0 (Nat.le_refl _) (Nat.zero_le _) (by simp)) ⟨b, off, sp⟩ n c news rfl ?qc1 ?qc2 ?qc3 ?qc4 ?qc5 ?qc6 ?_)
  case qc1 => exact hl
  case qc2 =>
    intro j u hj
    exact Lib.cell?_alloc_some _ (A.out j u hj)
  case qc3 => exact h1
  case qc4 => rw [Nat.zero_add]; exact hn
  case qc5 => rw [Nat.zero_add]; exact hbig
  case qc6 => simp
  intro v' w1 hown hgrow hnil
  go_wp2
  go_ret
  refine ⟨v', rfl, by simpa using hown, ?_⟩
  exact ((Below.refl _ w).alloc (Nat.le_refl _) _).grown hgrow (by simp) (by intro k hk; simp [Value.ownBlock] at hk; omega)

theorem clone_world (L : SlLaysE0.n41 P ρ) {i0 : TypeInfo} {z : Value} (T : RowT P (ρ.t 22) (ρ.t 23) i0 z) (hsz : 0 < i0.size) {h : Hw} {w : World} {xs : List D} {u : Value}
    (hx : RD h w (.sl xs) u) (hk : ∀ x ∈ xs, x.nc = i0.size) (hbig : xs.length * i0.bytes ≤ 140737488355328) :
    Calls P (ρ.f 41) #[u] w fun e w' => ∃ v' us, e = .returned v' ∧ w'.ownsRow 0 (ρ.t 23) i0.size v' xs.length us ∧ RRow h w i0.size xs us ∧ (∀ g, v'.ownBlock = some g → w.heap.size ≤ g) ∧ w.grownBy w' none := by
  obtain ⟨ad, cap, k', vs, rfl, hl, hm, hyrow, hc⟩ := by simpa only [RD] using hx
  have hvs : vs.length = xs.length * i0.size ∧ RRow h w i0.size xs vs := by
    cases xs with
    | nil => have : vs = [] := by simpa [RRow] using hyrow
             subst this; exact ⟨by simp, by simp [RRow]⟩
    | cons y ys =>
      have e1 := hk y (by simp)
      have e2 := hyrow.mk y (by simp)
      have : k' = i0.size := by omega
      subst this
      exact ⟨hyrow.length, hyrow⟩
  cases ad with
  | none =>
    have h0 : xs = [] := by
      cases xs with
      | nil => rfl
      | cons y ys => obtain ⟨x, hx, _⟩ := hc (by simp); cases hx
    subst h0
    refine (AnyE.slices_Clone_nil L _ _ w).mono ?_
    rintro e w' ⟨rfl, rfl⟩
    exact ⟨_, [], rfl, World.ownsRow_nil _ _ _ _, by simp [RRow], by simp [Value.ownBlock], ⟨rfl, rfl, rfl, Nat.le_refl _, fun _ _ _ => rfl⟩⟩
  | some a =>
    have hcell : ∀ j x, vs[j]? = some x → w.cell? (a.add j) = some x := by
      intro j x hj
      rcases Nat.eq_zero_or_pos xs.length with h0 | h0
      · have : vs = [] := List.eq_nil_of_length_eq_zero (by rw [hvs.1, h0, Nat.zero_mul])
        subst this; simp at hj
      · obtain ⟨a', ha, hcell⟩ := hc h0
        cases ha
        exact (hcell j x hj).1
    refine (clone_walk L T hsz a xs.length cap vs w hvs.1 (Nat.le_trans hl hm) hbig hcell hvs.2.one).mono ?_
    rintro e w' ⟨v', rfl, hown, hB⟩
    refine ⟨v', vs, rfl, ⟨hown.1, ?_⟩, hvs.2, fun g hg => (hown.lt g hg).1, ⟨hB.os, hB.tape, hB.output, hB.size, fun b hb _ => hB.block b hb⟩⟩
    rcases hown.2 with h0 | ⟨g, cap, cur, e1, _, e3⟩
    · exact .inl h0
    · exact .inr ⟨g, cap, cur, e1, Nat.zero_le _, e3⟩

theorem AClone (L : SlLaysE0.n41 P ρ) {i0 : TypeInfo} {z : Value} (T : RowT P (ρ.t 22) (ρ.t 23) i0 z) (hsz : 0 < i0.size) (xs : List D) (hk : ∀ x ∈ xs, x.nc = i0.size) (hbig : xs.length * i0.bytes ≤ 140737488355328) :
    ACall P (ρ.f 41) [.d (.sl xs)] [] (.row 0) [(0, .rw (ρ.t 23) i0.size xs)] := by
  intro h w val vs hI hA
  simp only [RAs, RA] at hA
  obtain ⟨u, _, rfl, hu, rfl⟩ := hA
  refine (clone_world L T hsz hu hk hbig).mono ?_
  rintro e w' ⟨v', us, rfl, hown, hrow, hnew, hgrow⟩
  exact own_result (X := []) (v := .slice none 0 0) (by simp [names]) (by simp [Value.ownBlock]) (by simp [Value.ownBlock]) hown hrow (fun g hg => .inr (hnew g hg)) hgrow

theorem ACloneD (L : SlLaysE0.n41 P ρ) {i0 : TypeInfo} {z : Value} (T : RowT P (ρ.t 22) (ρ.t 23) i0 z) (hsz : 0 < i0.size) (xs : List D) (hk : ∀ x ∈ xs, x.nc = i0.size) (hbig : xs.length * i0.bytes ≤ 140737488355328) :
    ACall P (ρ.f 41) [.d (.sl xs)] [] (.d (.sl xs)) [] := by
  intro h w val vs hI hA
  simp only [RAs, RA] at hA
  obtain ⟨u, _, rfl, hu, rfl⟩ := hA
  refine (clone_world L T hsz hu hk hbig).mono ?_
  rintro e w' ⟨v', us, rfl, hown, hrow, hnew, hgrow⟩
  let h' : Hw := fun b => if v'.ownBlock = some b then xs.length * i0.size else h b
  have hkeep : Keep (blks val []) h w h' w' := by
    refine ⟨hgrow.os, hgrow.tape, hgrow.output, hgrow.size, fun b j x hj hcx => ?_, fun b hb => ?_, fun b hb hn => ?_⟩
    · rw [World.cell?_of_block (w := w) (a := ⟨b, j, none⟩) (hgrow.block b (cell_lt hcx) (by simp))]
      exact hcx
    · show h b ≤ if v'.ownBlock = some b then _ else h b
      split
      · rename_i hvb; have := hnew b hvb; omega
      · exact Nat.le_refl _
    · refine ⟨hgrow.block b hb (by simp), ?_⟩
      show (if v'.ownBlock = some b then _ else h b) = h b
      rw [if_neg fun hvb => by have := hnew b hvb; omega]
  have hrb : RB h' w' (setV val 0 v') 0 (.row (ρ.t 23) i0.size xs) := by
    refine ⟨us, by simpa [setV] using hown, RRow.stays hkeep.stays _ _ _ hrow, fun g hg => ?_⟩
    simp only [setV] at hg
    show (if v'.ownBlock = some g then _ else h g) = _
    rw [if_pos (by simpa using hg)]
  have hd := RB.data hrb
  simp only [setV, if_true] at hd
  exact ⟨h', val, v', rfl, ⟨by simp, by simp [names], by simp [blks]⟩, by simpa only [RA] using hd, hkeep, fun _ _ => rfl, by simp [blks]⟩
end
def cloneE {α : Type} (by_ : Nat) (l : List α) : Option (List α) := if fit 0 l.length by_ then some l else none
theorem cloneL {P : Program} {ρ : Ren} (mixed : P.follows .mixedOrders = true) (FB : Bears P (ρ.f 41) (SlBodyN.n41 ρ)) (t4 : P.underlying (ρ.t 4) = some .bool) (ht : P.underlying (ρ.t 22) = some (.slice (ρ.t 23)))
    (z4 : (P.info? (ρ.t 4)).map (·.size) = some 1) (v4 : (P.info? (ρ.t 4)).map (·.zero) = some (some (.bool false))) (z22 : (P.info? (ρ.t 22)).map (·.size) = some 1) (v22 : (P.info? (ρ.t 22)).map (·.zero) = some (some (.slice none 0 0))) : SlLaysE0.n41 P ρ :=
  ⟨mixed, FB, t4, fun w => run_isAgg (by simp [isAggT, t4]) w, sizeOf_of z4, zero_of v4, ht, fun w => run_isAgg (by simp [isAggT, ht]) w, sizeOf_of z22, zero_of v22⟩
theorem cloneE_own {P : Program} {ρ : Ren} {e : TypeId} {k by_ fi : Nat} {α : Type} (f : α → D) [HasNc f k] (hfi : ρ.f 41 = fi) (he : ρ.t 23 = e) (L : SlLaysE0.n41 P ρ)
    (hq : (P.info? (ρ.t 23)).map (fun i => (i.size, i.bytes, i.zero.map (·.cells.size), i.zero.map (fun z => z.cells.all (·.oneCell')))) = some (k, by_, some k, some true)) (hk0 : 0 < k)
    (l r : List α) (h : cloneE by_ l = some r) : ACall P fi [.d (D.l f l)] [] (.row 0) [(0, .rw e k (r.map f))] := by
  obtain ⟨i, z, T, rfl, rfl⟩ := rowT_of L.t22 hq
  unfold cloneE at h
  split at h
  · rename_i hc
    obtain rfl := Option.some.inj h
    subst hfi; subst he
    exact AClone L T hk0 (l.map f) (by simp only [List.mem_map]; rintro x ⟨y, _, rfl⟩; exact HasNc.h y) (by unfold fit at hc; simpa using hc)
  · cases h
theorem cloneE_d {P : Program} {ρ : Ren} {k by_ fi : Nat} {α : Type} (f : α → D) [HasNc f k] (hfi : ρ.f 41 = fi) (L : SlLaysE0.n41 P ρ)
    (hq : (P.info? (ρ.t 23)).map (fun i => (i.size, i.bytes, i.zero.map (·.cells.size), i.zero.map (fun z => z.cells.all (·.oneCell')))) = some (k, by_, some k, some true)) (hk0 : 0 < k)
    (l r : List α) (h : cloneE by_ l = some r) : ACall P fi [.d (D.l f l)] [] (.d (D.l f r)) [] := by
  obtain ⟨i, z, T, rfl, rfl⟩ := rowT_of L.t22 hq
  unfold cloneE at h
  split at h
  · rename_i hc
    obtain rfl := Option.some.inj h
    subst hfi
    exact ACloneD L T hk0 (l.map f) (by simp only [List.mem_map]; rintro x ⟨y, _, rfl⟩; exact HasNc.h y) (by unfold fit at hc; simpa using hc)
  · cases h
end Go.Ac
