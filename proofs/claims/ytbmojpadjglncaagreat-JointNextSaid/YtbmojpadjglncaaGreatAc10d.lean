/- Own work: how calls of the model run over plain data. -/
import Derived.Test.YtbmojpadjglncaaGreatAc10
set_option linter.unusedVariables false
set_option linter.unusedSimpArgs false
namespace Go.Ac
theorem append_stepW {P : Program} {s1 : St} {h : Hw} {w : World} {val : Val} {a : Act} {d : Nat} {t ty e : TypeId} {k by_ : Nat} {xs ys : List D} {v u : Value} {us : List Value} {M : List Nat}
    (H : Holds s1 h w val a) (hd : d < up) (hE : hasAny d s1.E = false) (hB : bxHas d s1.B = false)
    (ht : P.underlying t = some (.slice e)) (hi : (P.info? e).map (fun i => (i.size, i.bytes, i.zero.map (·.cells.size))) = some (k, by_, some k))
    (hown : w.ownsRow 0 e k v xs.length us) (hrow : RRow h w k xs us) (hh : ∀ g, v.ownBlock = some g → h g = 0) (hfar : ∀ g, v.ownBlock = some g → g ∉ blks val s1.all)
    (hM : ∀ g, v.ownBlock = some g → g ∈ M) (hMs : ∀ b ∈ blks val s1.all, b ∈ M)
    (hy : RD h w (.sl ys) u) (hk : ∀ y ∈ ys, y.nc = k) (h63 : xs.length + ys.length ≤ maxLen) (hbytes : (xs.length + ys.length) * by_ ≤ 140737488355328) :
    ∃ v' w' h', (Builtin.append_ #[t, t] ty #[v, u]).run P w = .ok v' w' ∧ Keep M h w h' w' ∧
      Holds { s1 with B := (d, .rw e k (xs ++ ys)) :: s1.B } h' w' (setV val d v') a ∧
      (∀ b ∈ blks (setV val d v') ((d, Bk.rw e k (xs ++ ys)) :: s1.all), b ∈ M ∨ w.heap.size ≤ b) ∧ ∃ ad l c, v' = .slice ad l c := by
  simp only [Option.map_eq_some_iff, Prod.mk.injEq] at hi
  obtain ⟨i, hi, hsz, hby, z, hz, hzs⟩ := hi
  subst hsz; subst hby
  have hv0 : ∀ m, m ≠ d → ∀ v', setV val d v' m = val m := fun m hm v' => by simp [setV, hm]
  have hvd : ∀ v', setV val d v' d = v' := fun v' => by simp [setV]
  obtain ⟨ad, cap, k', vs, rfl, hl, hm, hyrow, hc⟩ := by simpa only [RD] using hy
  have hvs : vs.length = ys.length * i.size ∧ RRow h w i.size ys vs := by
    cases ys with
    | nil => have : vs = [] := by simpa [RRow] using hyrow
             subst this; exact ⟨by simp, by simp [RRow]⟩
    | cons y ys =>
      have e1 := hk y (by simp)
      have e2 := hyrow.mk y (by simp)
      have : k' = i.size := by omega
      subst this
      exact ⟨hyrow.length, hyrow⟩
  have key : ∀ v' w', w'.ownsRow 0 e i.size v' (xs.length + ys.length) (us ++ vs) →
      ((v'.ownBlock = v.ownBlock ∧ w.grownBy w' v.ownBlock) ∨ (v'.ownBlock = some w.heap.size ∧ w.grownBy w' none)) →
      ∃ h', Keep M h w h' w' ∧ Holds { s1 with B := (d, .rw e i.size (xs ++ ys)) :: s1.B } h' w' (setV val d v') a ∧
        (∀ b ∈ blks (setV val d v') ((d, Bk.rw e i.size (xs ++ ys)) :: s1.all), b ∈ M ∨ w.heap.size ≤ b) ∧ ∃ ad l c, v' = .slice ad l c := by
    intro v' w' hown' hcase
    -- the new marks
    let h' : Hw := fun b => if v'.ownBlock = some b then 0 else h b
    have hgrow : w.grownBy w' v.ownBlock := by
      rcases hcase with ⟨_, hg⟩ | ⟨_, hg⟩
      · exact hg
      · exact ⟨hg.os, hg.tape, hg.output, hg.size, fun b hb _ => hg.block b hb (by simp)⟩
    have hblk : ∀ b, b < w.heap.size → v'.ownBlock = some b → v.ownBlock = some b := by
      intro b hb hvb
      rcases hcase with ⟨he, _⟩ | ⟨he, _⟩
      · rw [← he]; exact hvb
      · rw [he] at hvb; injection hvb with hvb; omega
    have hkeep0 : Keep v.ownBlock.toList h w h' w' := by
      refine ⟨hgrow.os, hgrow.tape, hgrow.output, hgrow.size, fun b j x hj hcx => ?_, fun b hb => ?_, fun b hb hn => ?_⟩
      · by_cases hvb : some b = v.ownBlock
        · rw [hh b hvb.symm] at hj; exact absurd hj (Nat.not_lt_zero _)
        · rw [World.cell?_of_block (w := w) (a := ⟨b, j, none⟩) (hgrow.block b (cell_lt hcx) hvb)]
          exact hcx
      · show h b ≤ if v'.ownBlock = some b then _ else h b
        split
        · rename_i hvb
          rw [hh b (hblk b hb hvb)]
          exact Nat.le_refl _
        · exact Nat.le_refl _
      · have hn' : some b ≠ v.ownBlock := fun e => hn (by rw [← e]; simp)
        refine ⟨hgrow.block b hb hn', ?_⟩
        show (if v'.ownBlock = some b then _ else h b) = h b
        rw [if_neg fun hvb => hn' (hblk b hb hvb).symm]
    have hkeep : Keep M h w h' w' := hkeep0.mono' fun x hx => by
      cases hvo : v.ownBlock with
      | none => simp [hvo] at hx
      | some g => simp [hvo] at hx; subst hx; exact .inl (hM _ hvo)
    have hvbv : vblk v' = v'.ownBlock := vblk_eq_own hown'
    have hrb : RB h' w' (setV val d v') d (.rw e i.size (xs ++ ys)) := by
      refine ⟨us ++ vs, ?_, RRow.append (RRow.stays hkeep0.stays _ _ _ hrow) (RRow.stays hkeep0.stays _ _ _ hvs.2), fun g hg => ?_⟩
      · rw [hvd, List.length_append]; exact hown'
      · rw [hvd] at hg
        show (if v'.ownBlock = some g then _ else h g) = _
        rw [if_pos hg]
    have hnotin : ∀ b, vblk v' = some b → b ∉ blks val s1.all := by
      intro b hb hin
      rw [hvbv] at hb
      rcases hcase with ⟨he, _⟩ | ⟨he, _⟩
      · exact hfar b (by rw [← he]; exact hb) hin
      · rw [he] at hb; injection hb with hb
        have := H.inv.blk_lt b hin
        omega
    obtain ⟨h1, h2⟩ := H.add hd hE hB hkeep0 (fun b hb hm => by
      cases hvo : v.ownBlock with
      | none => simp [hvo] at hm
      | some g => simp [hvo] at hm; subst hm; exact hfar _ hvo hb) (fun b hb o ho => by
      rcases hown.2 with ⟨hv, _⟩ | ⟨g, cap, cur, hv, _, hg, _⟩
      · rw [hv] at hb; simp [Value.ownBlock] at hb
      · rw [hv] at hb; simp [Value.ownBlock] at hb; subst hb; rw [hg] at ho; cases ho; rfl) v' (.rw e i.size (xs ++ ys)) hnotin rfl hrb
    refine ⟨h', hkeep, h1, fun b hb => ?_, ownsRow_form hown'⟩
    rw [h2] at hb
    rcases List.mem_append.1 hb with hb | hb
    · rw [hvbv] at hb
      simp at hb
      rcases hcase with ⟨he, _⟩ | ⟨he, _⟩
      · exact .inl (hM b (by rw [← he]; exact hb))
      · rw [he] at hb; injection hb with hb; exact .inr (by omega)
    · exact .inl (hMs b hb)
  cases ad with
  | none =>
    have h0 : ys = [] := by
      cases ys with
      | nil => rfl
      | cons y ys => obtain ⟨x, hx, _⟩ := hc (by simp); cases hx
    subst h0
    have hvs0 : vs = [] := List.eq_nil_of_length_eq_zero (by simpa using hvs.1)
    subst hvs0
    have hr := run_append_none (P := P) w t ty e i ht hi v xs.length us hown cap
    obtain ⟨h', k1, k2, k3, k4⟩ := key v w (by simpa using hown) (.inl ⟨rfl, ⟨rfl, rfl, rfl, Nat.le_refl _, fun _ _ _ => rfl⟩⟩)
    exact ⟨v, w, h', hr, k1, k2, k3, k4⟩
  | some ad =>
    have hcell : ∀ j x, vs[j]? = some x → w.cell? (ad.add j) = some x := by
      intro j x hj
      rcases Nat.eq_zero_or_pos ys.length with h0 | h0
      · have : vs = [] := List.eq_nil_of_length_eq_zero (by rw [hvs.1, h0, Nat.zero_mul])
        subst this; simp at hj
      · obtain ⟨a', ha, hcell⟩ := hc h0
        cases ha
        exact (hcell j x hj).1
    obtain ⟨v', w', hr, ho, hcase⟩ := run_append_two (P := P) w t ty e i z ht hi hz hzs v xs.length us hown ad ys.length cap vs hvs.1 hcell hvs.2.one h63 hbytes
    obtain ⟨h', k1, k2, k3, k4⟩ := key v' w' ho hcase
    exact ⟨v', w', h', hr, k1, k2, k3, k4⟩


def rwSrc (s : St) : A → Option (Nat × Option (TypeId × Nat) × List D)
  | .nil => some (0, none, [])
  | .row n => match lk s.B n with
    | some (.rw e k xs) => some (n, some (e, k), xs)
    | some (.row e k []) => some (n, some (e, k), [])
    | _ => none
  | _ => none
def aappendW (P : Program) (o : Oper) (s : St) (zs : List D) : Option (Cn × A × List Ed) :=
  match o.dst, o.op with
  | some d, .call c => match c.callee, c.args.toList, c.argTypes.toList with
    | .builtin .append, [x, y], [t, t'] =>
      if t = t' then
        match elemOf' P t, s.look (s.ev y) with
        | some e, .d (.sl ys) =>
          match P.info? e with
          | some i => if i.bytes != 0 && (i.zero.map (·.cells.size)) == some i.size && d < up && !hasAny d s.E && !bxHas d s.B then
              match rwSrc s (s.ev x) with
              | some (_, none, _) => some (.both (.nc ys i.size) (.fits [] ys i.bytes), .row d, [.add d (.rw e i.size ys)])
              | some (n, some (e', k), xs) => if e' = e ∧ k = i.size then
                    some (.both (.nc ys i.size) (.both (.fits xs ys i.bytes) (.app xs ys zs)), .row d, [.chg n .dead, .add d (.rw e i.size zs)]) else none
              | none => none
            else none
          | none => none
        | _, _ => none
      else none
    | _, _, _ => none
  | _, _ => none
theorem Holds.dead {s : St} {h w val a} (H : Holds s h w val a) {n : Nat} {b : Bk} (hl : lk s.B n = some b) (ho : b.isOld = false) {g : Nat} (hv : vblk (val n) = some g) :
    Holds { s with B := updB s.B n .dead } h w val a ∧ (∀ x ∈ blks val { s with B := updB s.B n .dead }.all, x ∈ blks val s.all) ∧ g ∉ blks val { s with B := updB s.B n .dead }.all := by
  have hmem : (n, b) ∈ s.all := List.mem_append_left _ (lk_mem hl)
  have hsub : (blks val { s with B := updB s.B n .dead }.all).Sublist (blks val s.all) := by
    show (blks val (updB s.B n .dead ++ s.F)).Sublist (blks val (s.B ++ s.F))
    rw [blks_append, blks_append]
    refine List.Sublist.append ?_ (List.Sublist.refl _)
    have : ∀ B : Bx, (blks val (updB B n .dead)).Sublist (blks val B) := by
      intro B
      induction B with
      | nil => exact List.Sublist.refl _
      | cons p B ih =>
        simp only [updB, List.map_cons, blks, List.filterMap_cons] at ih ⊢
        by_cases e : p.1 = n
        · simp only [e, if_true]
          have : blkOf val (n, Bk.dead) = none := rfl
          rw [this]
          cases hbp : blkOf val p with
          | none => exact ih
          | some b => exact ih.cons _
        · simp only [e, if_false]
          cases hbp : blkOf val p with
          | none => exact ih
          | some b => exact ih.cons_cons _
    exact this s.B
  refine ⟨⟨H.e, ⟨fun p hp => ?_, ?_, H.inv.bks.sublist hsub⟩, H.far, H.defs⟩, fun x hx => hsub.subset hx, fun hg => ?_⟩
  · rcases List.mem_append.1 hp with hp | hp
    · rcases updB_mem hp with rfl | ⟨hp, _⟩
      · trivial
      · exact H.inv.rep p (List.mem_append_left _ hp)
    · exact H.inv.rep p (List.mem_append_right _ hp)
  · have := H.inv.nms
    simpa only [St.all, names_append, updB_names] using this
  · simp only [blks, List.mem_filterMap] at hg
    obtain ⟨p, hp, hb⟩ := hg
    rcases List.mem_append.1 hp with hp | hp
    · rcases updB_mem hp with rfl | ⟨hp, hne⟩
      · simp [blkOf, Bk.isOld] at hb
      · have := blk_inj H.inv.bks (List.mem_append_left _ hp) hmem hb (blkOf_of hv ho)
        rw [this] at hne
        exact hne rfl
    · have e4 := blk_inj H.inv.bks (List.mem_append_right _ hp) hmem hb (blkOf_of hv ho)
      have hnd := H.inv.nms
      simp only [St.all, names_append] at hnd
      have m1 : n ∈ names s.B := by simp only [names, List.mem_map]; exact ⟨_, lk_mem hl, rfl⟩
      have m2 : n ∈ names s.F := by simp only [names, List.mem_map]; exact ⟨p, hp, by rw [e4]⟩
      exact (List.nodup_append.1 hnd).2.2 n m1 n m2 rfl
theorem Holds.dead' {s : St} {h w val a} (H : Holds s h w val a) {n : Nat} {b : Bk} (hl : lk s.B n = some b) (ho : b.isOld = false) :
    Holds { s with B := updB s.B n .dead } h w val a ∧ (∀ x ∈ blks val { s with B := updB s.B n .dead }.all, x ∈ blks val s.all) ∧ ∀ g, vblk (val n) = some g → g ∉ blks val { s with B := updB s.B n .dead }.all := by
  cases hv : vblk (val n) with
  | some g =>
    obtain ⟨h1, h2, h3⟩ := H.dead hl ho hv
    exact ⟨h1, h2, fun g' e => by cases e; exact h3⟩
  | none =>
    have hbl : blks val (updB s.B n .dead) = blks val s.B := by
      have : ∀ B : Bx, (∀ p ∈ B, p ∈ s.B) → blks val (updB B n .dead) = blks val B := by
        intro B
        induction B with
        | nil => intro _; rfl
        | cons p B ih =>
          intro hB
          have ih := ih fun q hq => hB q (.tail _ hq)
          simp only [updB, List.map_cons, blks, List.filterMap_cons] at ih ⊢
          by_cases e : p.1 = n
          · simp only [e, if_true]
            have h1 : blkOf val (n, Bk.dead) = none := rfl
            have h2 : blkOf val p = none := by unfold blkOf; rw [e, hv]; split <;> rfl
            rw [h1, h2]; exact ih
          · simp only [e, if_false]; rw [ih]
      exact this s.B fun _ h => h
    refine ⟨⟨H.e, ⟨fun p hp => ?_, ?_, ?_⟩, H.far, H.defs⟩, fun x hx => ?_, fun g e => by cases e⟩
    · rcases List.mem_append.1 hp with hp | hp
      · rcases updB_mem hp with rfl | ⟨hp, _⟩
        · trivial
        · exact H.inv.rep p (List.mem_append_left _ hp)
      · exact H.inv.rep p (List.mem_append_right _ hp)
    · have := H.inv.nms
      simpa only [St.all, names_append, updB_names] using this
    · have := H.inv.bks
      simpa only [St.all, blks_append, hbl] using this
    · simpa only [St.all, blks_append, hbl] using hx
theorem rwSrc_row {s : St} {x : A} {n : Nat} {e k} {xs : List D} (h : rwSrc s x = some (n, some (e, k), xs)) : x = .row n ∧ ∃ b, lk s.B n = some b ∧ b.isOld = false ∧
    ∀ {h w val a}, Holds s h w val a → ∃ us, w.ownsRow 0 e k (val n) xs.length us ∧ RRow h w k xs us ∧ ∀ g, (val n).ownBlock = some g → h g = 0 := by
  unfold rwSrc at h
  split at h
  · simp at h
  · split at h
    · rename_i e' k' xs' hl
      simp only [Option.some.injEq, Prod.mk.injEq] at h
      obtain ⟨rfl, ⟨rfl, rfl⟩, rfl⟩ := h
      exact ⟨rfl, _, hl, rfl, fun H => H.inv.rep _ (List.mem_append_left _ (lk_mem hl))⟩
    · rename_i e' k' hl
      simp only [Option.some.injEq, Prod.mk.injEq] at h
      obtain ⟨rfl, ⟨rfl, rfl⟩, rfl⟩ := h
      refine ⟨rfl, _, hl, rfl, fun H => ?_⟩
      obtain ⟨us, a, b, c⟩ := H.inv.rep _ (List.mem_append_left _ (lk_mem hl))
      exact ⟨us, a, b, fun g hg => by simpa using c g hg⟩
    · cases h
  · cases h
theorem aappendW_ok {P : Program} {o : Oper} {s : St} {es : List Ed} {zs : List D} {Φ : Cn} {r : A} (he : aappendW P o s zs = some (Φ, r, es)) : OpOk P o s Φ.ok r (s.edit es) := by
  intro hΦ h w val a H K Q hK
  unfold aappendW at he
  split at he
  · rename_i d c hd ho
    obtain ⟨callee, args, argTypes⟩ := c
    simp only at he
    split at he
    · rename_i x y t t' hargs htys
      obtain ⟨args⟩ := args
      obtain ⟨argTypes⟩ := argTypes
      simp only at hargs htys
      subst hargs; subst htys
      split at he
      · rename_i htt
        subst htt
        split at he
        · rename_i e ys hel hy
          obtain ⟨hu, hI, hC⟩ := elemOf'_ok hel
          have hy' := H.look (H.ev y)
          rw [hy] at hy'
          simp only [RA] at hy'
          split at he
          · rename_i i hi
            split at he
            · rename_i hc
              simp only [Bool.and_eq_true, bne_iff_ne, beq_iff_eq, decide_eq_true_eq, Bool.not_eq_true'] at hc
              obtain ⟨⟨⟨⟨c0, cz⟩, c1⟩, c2⟩, c3⟩ := hc
              have hinfo : (P.info? e).map (fun i => (i.size, i.bytes, i.zero.map (·.cells.size))) = some (i.size, i.bytes, some i.size) := by simp [hi, cz]
              have h63 : ∀ n : Nat, n * i.bytes ≤ 140737488355328 → n ≤ maxLen := fun n hn => by
                have : n ≤ n * i.bytes := Nat.le_mul_of_pos_right _ (Nat.pos_of_ne_zero c0)
                simp only [maxLen]; omega
              split at he
              · rename_i n0 xs0 hx
                simp only [Option.some.injEq, Prod.mk.injEq] at he
                obtain ⟨rfl, rfl, rfl⟩ := he
                simp only [Cn.ok] at hΦ
                have hx' := H.ev x
                have hnil : s.ev x = .nil := by
                  unfold rwSrc at hx
                  split at hx
                  · rename_i h1; exact h1
                  · split at hx <;> simp at hx
                  · cases hx
                rw [hnil] at hx'
                simp only [RA] at hx'
                obtain ⟨v', w', h', hr, k1, k2, k3, ad, l, cc, k4⟩ := append_stepW (P := P) (ty := o.type) (xs := []) (us := []) (v := .slice none 0 0) (M := blks val s.all) H c1 c2 c3 hu hinfo
                  (World.ownsRow_nil w 0 e i.size) (by simp [RRow]) (by simp [Value.ownBlock]) (by simp [Value.ownBlock]) (by simp [Value.ownBlock]) (fun b hb => hb) hy' hΦ.1 (by simpa using h63 _ hΦ.2) (by simpa using hΦ.2)
                refine wp_of_run (u := v') (w' := w') ?_ (hK h' w' _ v' (by simp only [RA]; exact ⟨by simp [setV], .inl ⟨ad, l, cc, k4⟩⟩) k2.ins (Nx.ins ⟨k1, fun n hn => by have : n ≠ d := Nat.ne_of_gt (Nat.lt_of_lt_of_le c1 (up_le hn)); simp [setV, this], k3⟩))
                simp [execOp, ho, resolve, invoke, builtin, hx', hr]
              · rename_i n e' k xs hx
                split at he
                · rename_i hcc
                  obtain ⟨rfl, rfl⟩ := hcc
                  simp only [Option.some.injEq, Prod.mk.injEq] at he
                  obtain ⟨rfl, rfl, rfl⟩ := he
                  simp only [Cn.ok] at hΦ
                  obtain ⟨hΦ1, hΦ2, hΦ3⟩ := hΦ
                  rw [← hΦ3] at hK
                  obtain ⟨hxe, b, hl, hbo, hown⟩ := rwSrc_row hx
                  obtain ⟨us, hown, hrow, hh⟩ := hown H
                  have hx' := H.ev x
                  rw [hxe] at hx'
                  simp only [RA] at hx'
                  have hmem : (n, b) ∈ s.all := List.mem_append_left _ (lk_mem hl)
                  obtain ⟨hdrop, hsub, hnot⟩ := H.dead' hl hbo
                  obtain ⟨v', w', h', hr, k1, k2, k3, ad, l, cc, k4⟩ := append_stepW (P := P) (ty := o.type) (v := val n) (M := blks val s.all) hdrop c1 c2 (bxHas_updB c3 rfl) hu hinfo
                    hown hrow hh (fun g hg => hnot g (vblk_own hg)) (fun g hg => Inv.blk_mem hmem (blkOf_of (vblk_own hg) hbo)) hsub hy' hΦ1 (h63 _ hΦ2) hΦ2
                  refine wp_of_run (u := v') (w' := w') ?_ (hK h' w' _ v' (by simp only [RA]; exact ⟨by simp [setV], .inl ⟨ad, l, cc, k4⟩⟩) k2.ins (Nx.ins ⟨k1, fun m hm => by have : m ≠ d := Nat.ne_of_gt (Nat.lt_of_lt_of_le c1 (up_le hm)); simp [setV, this], k3⟩))
                  simp [execOp, ho, resolve, invoke, builtin, hx'.1, hr]
                · cases he
              · cases he
            · cases he
          · cases he
        · cases he
      · cases he
    · cases he
  · cases he
end Go.Ac
