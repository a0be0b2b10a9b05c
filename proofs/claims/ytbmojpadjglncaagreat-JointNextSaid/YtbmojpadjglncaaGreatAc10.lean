/- Own work: how calls of the model run over plain data. -/
import Derived.Test.YtbmojpadjglncaaGreatAc9
import Derived.Laws.Tables
set_option linter.unusedVariables false
set_option linter.unusedSimpArgs false
namespace Go.Ac

section
variable {P : Program} (w : World)
theorem run_append_two (t ty e : TypeId) (i : TypeInfo) (z : Value) (ht : P.underlying t = some (.slice e)) (hi : P.info? e = some i) (hz : i.zero = some z)
    (hzs : z.cells.size = i.size)
    (v : Value) (n : Nat) (xs : List Value) (hown : w.ownsRow 0 e i.size v n xs)
    (a : Addr) (m c : Nat) (news : List Value) (hl : news.length = m * i.size) (hnews : ∀ j u, news[j]? = some u → w.cell? (a.add j) = some u) (h1 : ∀ u ∈ news, u.oneCell' = true)
    (h63 : n + m ≤ maxLen) (hbytes : (n + m) * i.bytes ≤ 140737488355328) :
    ∃ v' w', (Builtin.append_ #[t, t] ty #[v, .slice (some a) m c]).run P w = .ok v' w' ∧ w'.ownsRow 0 e i.size v' (n + m) (xs ++ news) ∧
      ((v'.ownBlock = v.ownBlock ∧ w.grownBy w' v.ownBlock) ∨ (v'.ownBlock = some w.heap.size ∧ w.grownBy w' none)) := by
  have hsmall : n + m ≤ 9223372036854775807 := by simp only [maxLen] at h63; omega
  have hlen : (xs ++ news).length = (n + m) * i.size := by rw [List.length_append, hown.1, hl, Nat.add_mul]
  have grown : ∀ (old : Nat), old < n + m →
      (w.drew.alloc (.cells (xs.toArray ++ news.toArray ++ Builtin.zeroCells z.cells (grownCap w (n + m) old e - (n + m))) e)).ownsRow 0 e i.size
        (.slice (some ⟨w.heap.size, 0, none⟩) (n + m) (grownCap w (n + m) old e)) (n + m) (xs ++ news) ∧
      w.grownBy (w.drew.alloc (.cells (xs.toArray ++ news.toArray ++ Builtin.zeroCells z.cells (grownCap w (n + m) old e - (n + m))) e)) none := by
    intro old ho
    have hge := grownCap_ge w (n + m) old e
    have hcm : grownCap w (n + m) old e ≤ maxLen := grownCap_le_maxLen w (n + m) old e h63
    refine ⟨⟨hlen, .inr ⟨w.heap.size, _, _, rfl, Nat.zero_le _, heap_alloc_new w.drew _, hge, hcm, ?_, ?_⟩⟩, ⟨rfl, rfl, rfl, by simp, fun k hk _ => heap_alloc_old w.drew _ hk⟩⟩
    · simp only [Array.size_append, List.size_toArray, size_zeroCells, hzs, hown.1, hl, ← Nat.add_mul]
      congr 1
      omega
    · simp only [Array.toList_append, List.append_assoc]
      rw [← List.append_assoc, ← hlen]
      exact List.take_left
  rcases hown.2 with ⟨rfl, rfl⟩ | ⟨g, cap, cur, rfl, hbg, hg, hnc, hcm, hcs, htake⟩
  · have hx : xs = [] := List.eq_nil_of_length_eq_zero (by simpa using hown.1)
    subst hx
    by_cases hm : m = 0
    · subst hm
      have hn : news = [] := List.eq_nil_of_length_eq_zero (by simpa using hl)
      subst hn
      refine ⟨.slice none 0 0, w, ?_, World.ownsRow_nil w 0 e i.size, .inl ⟨rfl, ⟨rfl, rfl, rfl, Nat.le_refl _, fun _ _ _ => rfl⟩⟩⟩
      simp [Builtin.append_, run_underlying ht, sizeOf, typeInfo, hi, Builtin.lenOf, Builtin.firstCells, loadCells, loadCellsFrom]
    · have hr := run_append_nil (P := P) w t ty e i z ht hi hz a m c news hl hnews (by omega) (by omega) (by have hb := hbytes; simp only [Nat.zero_add] at hb; omega)
      have hgr := grown 0 (by omega)
      simp only [Nat.zero_add, List.nil_append, Array.empty_append] at hgr ⊢
      exact ⟨_, _, hr, hgr.1, .inr ⟨rfl, hgr.2⟩⟩
  · by_cases hroom : n + m ≤ cap
    · have hfit : n * i.size + news.length ≤ cur.size := by rw [hl, hcs, ← Nat.add_mul]; exact Nat.mul_le_mul_right _ hroom
      have hr := run_append_room (P := P) w t ty e i ht hi g n cap cur hg a m c news hl hnews h1 hroom hfit
      refine ⟨_, _, hr, ⟨hlen, .inr ⟨g, cap, _, rfl, hbg, setRow_heap w g cur _ e _ hg, hroom, hcm, ?_, ?_⟩⟩, .inl ⟨rfl, ⟨rfl, rfl, rfl, by simp, fun k _ hk => setRow_other w g k _ (fun e => hk (by simp [Value.ownBlock, e]))⟩⟩⟩
      · simp only [List.size_toArray, List.length_append, List.length_take, List.length_drop, Array.length_toList]
        omega
      · rw [htake, ← hlen]
        exact List.take_left
    · have holds : ∀ j u, xs[j]? = some u → w.cell? ((⟨g, 0, none⟩ : Addr).add j) = some u := hown.cells (g := g) rfl
      have hr := run_append_grow (P := P) w t ty e i z ht hi hz ⟨g, 0, none⟩ n cap xs hown.1 holds a m c news hl hnews (by omega) (by omega) (growslice_fits (by omega) hbytes)
      have hgr := grown cap (by omega)
      exact ⟨_, _, hr, hgr.1, .inr ⟨rfl, hgr.2⟩⟩

theorem run_append_none (t ty e : TypeId) (i : TypeInfo) (ht : P.underlying t = some (.slice e)) (hi : P.info? e = some i)
    (v : Value) (n : Nat) (xs : List Value) (hown : w.ownsRow 0 e i.size v n xs) (c : Nat) : (Builtin.append_ #[t, t] ty #[v, .slice none 0 c]).run P w = .ok v w := by
  rcases hown.2 with ⟨rfl, rfl⟩ | ⟨g, cap, cur, rfl, _, _, hnc, _⟩
  · simp [Builtin.append_, run_underlying ht, sizeOf, typeInfo, hi, Builtin.lenOf, Builtin.firstCells]
  · simp [Builtin.append_, run_underlying ht, sizeOf, typeInfo, hi, Builtin.lenOf, Builtin.firstCells, hnc, storeCells]
end

theorem ownsRow_form {w : World} {b e k v n us} (h : w.ownsRow b e k v n us) : ∃ ad l c, v = .slice ad l c := by
  rcases h.2 with ⟨rfl, _⟩ | ⟨g, cap, cur, rfl, _⟩
  · exact ⟨_, _, _, rfl⟩
  · exact ⟨_, _, _, rfl⟩

theorem vblk_eq_own {w : World} {b e k v n us} (h : w.ownsRow b e k v n us) : vblk v = v.ownBlock := by
  obtain ⟨ad, l, c, rfl⟩ := ownsRow_form h
  cases ad <;> rfl

theorem append_step {P : Program} {s1 : St} {h : Hw} {w : World} {val : Val} {a : Act} {d : Nat} {t ty e : TypeId} {k by_ : Nat} {xs ys : List D} {v u : Value} {us : List Value} {M : List Nat}
    (H : Holds s1 h w val a) (hd : d < up) (hE : hasAny d s1.E = false) (hB : bxHas d s1.B = false)
    (ht : P.underlying t = some (.slice e)) (hi : (P.info? e).map (fun i => (i.size, i.bytes, i.zero.map (·.cells.size))) = some (k, by_, some k))
    (hown : w.ownsRow 0 e k v xs.length us) (hrow : RRow h w k xs us) (hh : ∀ g, v.ownBlock = some g → h g = xs.length * k) (hfar : ∀ g, v.ownBlock = some g → g ∉ blks val s1.all)
    (hM : ∀ g, v.ownBlock = some g → g ∈ M) (hMs : ∀ b ∈ blks val s1.all, b ∈ M)
    (hy : RD h w (.sl ys) u) (hk : ∀ y ∈ ys, y.nc = k) (h63 : xs.length + ys.length ≤ maxLen) (hbytes : (xs.length + ys.length) * by_ ≤ 140737488355328) :
    ∃ v' w' h', (Builtin.append_ #[t, t] ty #[v, u]).run P w = .ok v' w' ∧ Keep M h w h' w' ∧
      Holds { s1 with B := (d, .row e k (xs ++ ys)) :: s1.B } h' w' (setV val d v') a ∧
      (∀ b ∈ blks (setV val d v') ((d, Bk.row e k (xs ++ ys)) :: s1.all), b ∈ M ∨ w.heap.size ≤ b) ∧ ∃ ad l c, v' = .slice ad l c := by
  simp only [Option.map_eq_some_iff, Prod.mk.injEq] at hi
  obtain ⟨i, hi, hsz, hby, z, hz, hzs⟩ := hi
  subst hsz; subst hby
  have hv0 : ∀ m, m ≠ d → ∀ v', setV val d v' m = val m := fun m hm v' => by simp [setV, hm]
  have hvd : ∀ v', setV val d v' d = v' := fun v' => by simp [setV]
  obtain ⟨ad, cap, k', vs, rfl, hl, hm, hyrow, hc⟩ := by simpa only [RD] using hy
  have hvs : vs.length = ys.length * i.size ∧ RRow h w i.size ys vs := by
    cases ys with
    | nil =>
      have : vs = [] := by simpa [RRow] using hyrow
      subst this; exact ⟨by simp, by simp [RRow]⟩
    | cons y ys =>
      have e1 := hk y (by simp)
      have e2 := hyrow.mk y (by simp)
      have : k' = i.size := by omega
      subst this
      exact ⟨hyrow.length, hyrow⟩
  have key : ∀ v' w', w'.ownsRow 0 e i.size v' (xs.length + ys.length) (us ++ vs) →
      ((v'.ownBlock = v.ownBlock ∧ w.grownBy w' v.ownBlock) ∨ (v'.ownBlock = some w.heap.size ∧ w.grownBy w' none)) →
      ∃ h', Keep M h w h' w' ∧ Holds { s1 with B := (d, .row e i.size (xs ++ ys)) :: s1.B } h' w' (setV val d v') a ∧
        (∀ b ∈ blks (setV val d v') ((d, Bk.row e i.size (xs ++ ys)) :: s1.all), b ∈ M ∨ w.heap.size ≤ b) ∧ ∃ ad l c, v' = .slice ad l c := by
    intro v' w' hown' hcase
    -- the new marks
    let h' : Hw := fun b => if v'.ownBlock = some b then (xs.length + ys.length) * i.size else h b
    have hgrow : w.grownBy w' v.ownBlock := by
      rcases hcase with ⟨_, hg⟩ | ⟨_, hg⟩
      · exact hg
      · exact ⟨hg.os, hg.tape, hg.output, hg.size, fun b hb _ => hg.block b hb (by simp)⟩
    have hblk : ∀ b, b < w.heap.size → v'.ownBlock = some b → v.ownBlock = some b := by
      intro b hb hvb
      rcases hcase with ⟨he, _⟩ | ⟨he, _⟩
      · rw [← he]; exact hvb
      · rw [he] at hvb; injection hvb with hvb; omega
    have hkeep0 : Keep v.ownBlock.toList h w h' w' := by
      refine ⟨hgrow.os, hgrow.tape, hgrow.output, hgrow.size, fun b j x hj hcx => ?_, fun b hb => ?_, fun b hb hn => ?_⟩
      · by_cases hvb : some b = v.ownBlock
        · rcases hcase with ⟨he, hg⟩ | ⟨he, hg⟩
          · -- in place: the first cells are as they were
            have hj' : j < us.length := by rw [hown.1, ← hh b hvb.symm]; exact hj
            have c1 := hown.cells (g := b) hvb.symm j us[j] (List.getElem?_eq_getElem hj')
            have c2 := hown'.cells (g := b) (he.trans hvb.symm) j us[j] (by rw [List.getElem?_append_left hj', List.getElem?_eq_getElem hj'])
            have hadd : (⟨b, 0, none⟩ : Addr).add j = ⟨b, j, none⟩ := by rw [Addr.add_lit, Nat.zero_add]
            rw [hadd] at c1 c2
            rw [c1] at hcx
            cases hcx
            exact c2
          · rw [World.cell?_of_block (w := w) (a := ⟨b, j, none⟩) (hg.block b (cell_lt hcx) (by simp))]
            exact hcx
        · rw [World.cell?_of_block (w := w) (a := ⟨b, j, none⟩) (hgrow.block b (cell_lt hcx) hvb)]
          exact hcx
      · show h b ≤ if v'.ownBlock = some b then _ else h b
        split
        · rename_i hvb
          rw [hh b (hblk b hb hvb)]
          exact Nat.mul_le_mul_right _ (Nat.le_add_right _ _)
        · exact Nat.le_refl _
      · have hn' : some b ≠ v.ownBlock := fun e => hn (by rw [← e]; simp)
        refine ⟨hgrow.block b hb hn', ?_⟩
        show (if v'.ownBlock = some b then _ else h b) = h b
        rw [if_neg fun hvb => hn' (hblk b hb hvb).symm]
    have hkeep : Keep M h w h' w' := hkeep0.mono' fun x hx => by
      cases hvo : v.ownBlock with
      | none => simp [hvo] at hx
      | some g => simp [hvo] at hx; subst hx; exact .inl (hM _ hvo)
    have hvbv : vblk v' = v'.ownBlock := vblk_eq_own hown'
    have hrb : RB h' w' (setV val d v') d (.row e i.size (xs ++ ys)) := by
      refine ⟨us ++ vs, ?_, RRow.append (RRow.stays hkeep0.stays _ _ _ hrow) (RRow.stays hkeep0.stays _ _ _ hvs.2), fun g hg => ?_⟩
      · rw [hvd, List.length_append]; exact hown'
      · rw [hvd] at hg
        show (if v'.ownBlock = some g then _ else h g) = _
        rw [if_pos hg, List.length_append]
    have hnotin : ∀ b, vblk v' = some b → b ∉ blks val s1.all := by
      intro b hb hin
      rw [hvbv] at hb
      rcases hcase with ⟨he, _⟩ | ⟨he, _⟩
      · exact hfar b (by rw [← he]; exact hb) hin
      · rw [he] at hb; injection hb with hb
        have := H.inv.blk_lt b hin
        omega
    obtain ⟨h1, h2⟩ := H.add hd hE hB hkeep0 (fun b hb hm => by
      cases hvo : v.ownBlock with
      | none => simp [hvo] at hm
      | some g => simp [hvo] at hm; subst hm; exact hfar _ hvo hb) (fun b hb o ho => by
      rcases hown.2 with ⟨hv, _⟩ | ⟨g, cap, cur, hv, _, hg, _⟩
      · rw [hv] at hb; simp [Value.ownBlock] at hb
      · rw [hv] at hb; simp [Value.ownBlock] at hb; subst hb; rw [hg] at ho; cases ho; rfl) v' (.row e i.size (xs ++ ys)) hnotin rfl hrb
    refine ⟨h', hkeep, h1, fun b hb => ?_, ownsRow_form hown'⟩
    rw [h2] at hb
    rcases List.mem_append.1 hb with hb | hb
    · rw [hvbv] at hb
      simp at hb
      rcases hcase with ⟨he, _⟩ | ⟨he, _⟩
      · exact .inl (hM b (by rw [← he]; exact hb))
      · rw [he] at hb; injection hb with hb; exact .inr (by omega)
    · exact .inl (hMs b hb)
  cases ad with
  | none =>
    have h0 : ys = [] := by
      cases ys with
      | nil => rfl
      | cons y ys => obtain ⟨x, hx, _⟩ := hc (by simp); cases hx
    subst h0
    have hvs0 : vs = [] := List.eq_nil_of_length_eq_zero (by simpa using hvs.1)
    subst hvs0
    have hr := run_append_none (P := P) w t ty e i ht hi v xs.length us hown cap
    obtain ⟨h', k1, k2, k3, k4⟩ := key v w (by simpa using hown) (.inl ⟨rfl, ⟨rfl, rfl, rfl, Nat.le_refl _, fun _ _ _ => rfl⟩⟩)
    exact ⟨v, w, h', hr, k1, k2, k3, k4⟩
  | some ad =>
    have hcell : ∀ j x, vs[j]? = some x → w.cell? (ad.add j) = some x := by
      intro j x hj
      rcases Nat.eq_zero_or_pos ys.length with h0 | h0
      · have : vs = [] := List.eq_nil_of_length_eq_zero (by rw [hvs.1, h0, Nat.zero_mul])
        subst this; simp at hj
      · obtain ⟨a', ha, hcell⟩ := hc h0
        cases ha
        exact (hcell j x hj).1
    obtain ⟨v', w', hr, ho, hcase⟩ := run_append_two (P := P) w t ty e i z ht hi hz hzs v xs.length us hown ad ys.length cap vs hvs.1 hcell hvs.2.one h63 hbytes
    obtain ⟨h', k1, k2, k3, k4⟩ := key v' w' ho hcase
    exact ⟨v', w', h', hr, k1, k2, k3, k4⟩

theorem bxHas_updB {d n : Nat} {b : Bk} : ∀ {B : Bx}, bxHas d B = false → b.has d = false → bxHas d (updB B n b) = false
  | [], _, _ => rfl
  | p :: B, h, hb => by
    simp only [bxHas, Bool.or_eq_false_iff, beq_eq_false_iff_ne] at h
    have ih := bxHas_updB (n := n) h.2 hb
    simp only [updB, List.map_cons] at ih ⊢
    simp only [bxHas, Bool.or_eq_false_iff, beq_eq_false_iff_ne]
    refine ⟨?_, ih⟩
    split
    · rename_i e; exact ⟨by rw [← e]; exact h.1.1, hb⟩
    · exact h.1

def outL (d : Unit → List D) : W → List D
  | .sl zs => zs
  | _ => d ()
def aappend (P : Program) (o : Oper) (s : St) (wt : W) : Option (Cn × A × List Ed) :=
  match o.dst, o.op with
  | some d, .call c => match c.callee, c.args.toList, c.argTypes.toList with
    | .builtin .append, [x, y], [t, t'] =>
      if t = t' then
        match elemOf' P t, s.look (s.ev y) with
        | some e, .d (.sl ys) =>
          match P.info? e with
          | some i => if i.bytes != 0 && (i.zero.map (·.cells.size)) == some i.size then
              match s.ev x with
              | .nil => if d < up && !hasAny d s.E && !bxHas d s.B then
                  some (.both (.nc ys i.size) (.fits [] ys i.bytes), .row d, [.add d (.row e i.size ys)]) else none
              | .row n => match lk s.B n with
                | some (.row e' k xs) => if e' = e ∧ k = i.size ∧ d < up ∧ hasAny d s.E = false ∧ bxHas d s.B = false then
                    some (.both (.nc ys i.size) (.both (.fits xs ys i.bytes) (.app xs ys (outL (fun _ => xs ++ ys) wt))), .row d, [.chg n (.old xs), .add d (.row e i.size (outL (fun _ => xs ++ ys) wt))]) else none
                | _ => none
              | _ => none
            else none
          | none => none
        | _, _ => none
      else none
    | _, _, _ => none
  | _, _ => none

theorem aappend_ok {P : Program} {o : Oper} {s : St} {es : List Ed} {wt : W} {Φ : Cn} {r : A} (he : aappend P o s wt = some (Φ, r, es)) : OpOk P o s Φ.ok r (s.edit es) := by
  intro hΦ h w val a H K Q hK
  unfold aappend at he
  split at he
  · rename_i d c hd ho
    obtain ⟨callee, args, argTypes⟩ := c
    simp only at he
    split at he
    · rename_i x y t t' hargs htys
      obtain ⟨args⟩ := args
      obtain ⟨argTypes⟩ := argTypes
      simp only at hargs htys
      subst hargs; subst htys
      split at he
      · rename_i htt
        subst htt
        split at he
        · rename_i e ys hel hy
          obtain ⟨hu, hI, hC⟩ := elemOf'_ok hel
          have hy' := H.look (H.ev y)
          rw [hy] at hy'
          simp only [RA] at hy'
          split at he
          · rename_i i hi
            split at he
            · rename_i hc
              simp only [Bool.and_eq_true, bne_iff_ne, beq_iff_eq] at hc
              have hinfo : (P.info? e).map (fun i => (i.size, i.bytes, i.zero.map (·.cells.size))) = some (i.size, i.bytes, some i.size) := by simp [hi, hc.2]
              have h63 : ∀ n : Nat, n * i.bytes ≤ 140737488355328 → n ≤ maxLen := fun n hn => by
                have : n ≤ n * i.bytes := Nat.le_mul_of_pos_right _ (Nat.pos_of_ne_zero hc.1)
                simp only [maxLen]; omega
              split at he
              · rename_i hx
                split at he
                · rename_i hcc
                  simp only [Bool.and_eq_true, decide_eq_true_eq, Bool.not_eq_true'] at hcc
                  simp only [Option.some.injEq, Prod.mk.injEq] at he
                  obtain ⟨rfl, rfl, rfl⟩ := he
                  simp only [Cn.ok] at hΦ
                  have hx' := H.ev x
                  rw [hx] at hx'
                  simp only [RA] at hx'
                  obtain ⟨v', w', h', hr, k1, k2, k3, ad, l, cc, k4⟩ := append_step (P := P) (ty := o.type) (xs := []) (us := []) (v := .slice none 0 0) (M := blks val s.all) H hcc.1.1 hcc.1.2 hcc.2 hu hinfo
                    (World.ownsRow_nil w 0 e i.size) (by simp [RRow]) (by simp [Value.ownBlock]) (by simp [Value.ownBlock]) (by simp [Value.ownBlock]) (fun b hb => hb) hy' hΦ.1 (by simpa using h63 _ hΦ.2) (by simpa using hΦ.2)
                  refine wp_of_run (u := v') (w' := w') ?_ (hK h' w' _ v' (by simp only [RA]; exact ⟨by simp [setV], .inl ⟨ad, l, cc, k4⟩⟩) k2.ins (Nx.ins ⟨k1, fun n hn => by have : n ≠ d := Nat.ne_of_gt (Nat.lt_of_lt_of_le hcc.1.1 (up_le hn)); simp [setV, this], k3⟩))
                  simp [execOp, ho, resolve, invoke, builtin, hx', hr]
                · cases he
              · rename_i n hx
                split at he
                · rename_i e' k xs hl
                  split at he
                  · rename_i hcc
                    obtain ⟨rfl, rfl, c1, c2, c3⟩ := hcc
                    simp only [Option.some.injEq, Prod.mk.injEq] at he
                    obtain ⟨rfl, rfl, rfl⟩ := he
                    simp only [Cn.ok] at hΦ
                    obtain ⟨hΦ1, hΦ2, hΦ3⟩ := hΦ
                    have hΦ := And.intro hΦ1 hΦ2
                    rw [← hΦ3] at hK
                    have hx' := H.ev x
                    rw [hx] at hx'
                    simp only [RA] at hx'
                    have hmem : (n, Bk.row e' i.size xs) ∈ s.all := List.mem_append_left _ (lk_mem hl)
                    have hrb := H.inv.rep _ hmem
                    obtain ⟨us, hown, hrow, hh⟩ := hrb
                    obtain ⟨hdrop, hsub, hnot⟩ := H.old hl
                    obtain ⟨v', w', h', hr, k1, k2, k3, ad, l, cc, k4⟩ := append_step (P := P) (ty := o.type) (v := val n) (M := blks val s.all) hdrop c1 c2 (bxHas_updB c3 rfl) hu hinfo
                      hown hrow hh (fun g hg => hnot g (vblk_own hg)) (fun g hg => Inv.blk_mem hmem (blkOf_of (vblk_own hg) rfl)) hsub hy' hΦ.1 (h63 _ hΦ.2) hΦ.2
                    refine wp_of_run (u := v') (w' := w') ?_ (hK h' w' _ v' (by simp only [RA]; exact ⟨by simp [setV], .inl ⟨ad, l, cc, k4⟩⟩) k2.ins (Nx.ins ⟨k1, fun m hm => by have : m ≠ d := Nat.ne_of_gt (Nat.lt_of_lt_of_le c1 (up_le hm)); simp [setV, this], k3⟩))
                    simp [execOp, ho, resolve, invoke, builtin, hx'.1, hr]
                  · cases he
                · cases he
              · cases he
            · cases he
          · cases he
        · cases he
      · cases he
    · cases he
  · cases he

theorem fold_puts (off : Nat) : ∀ (l : List Value) (k : Nat) (us : List Value), off + k + l.length ≤ us.length →
    (l.zipIdx k).foldl (fun (cs : Array Value) (p : Value × Nat) => cs.setIfInBounds (off + p.2) p.1) ⟨us⟩ = ⟨us.take (off + k) ++ l ++ us.drop (off + k + l.length)⟩
  | [], k, us, _ => by simp
  | v :: l, k, us, hl => by
    simp only [List.length_cons] at hl
    simp only [List.zipIdx_cons, List.foldl_cons]
    rw [List.setIfInBounds_toArray, fold_puts off l (k + 1) (us.set (off + k) v) (by simp; omega)]
    have e := list_seg_step us (off + k) v l (by omega)
    simp only [List.length_cons]
    rw [show off + (k + 1) = off + k + 1 from by omega, e]
theorem zipIdx_cells (c : Array Value) (off : Nat) (us : List Value) (h : off + c.size ≤ us.length) :
    (c.zipIdx).foldl (fun (cs : Array Value) (p : Value × Nat) => cs.setIfInBounds (off + p.2) p.1) ⟨us⟩ = ⟨us.take off ++ c.toList ++ us.drop (off + c.size)⟩ := by
  have := fold_puts off c.toList 0 us (by simpa using h)
  rw [← Array.foldl_toList]
  simp only [Array.toList_zipIdx]
  simpa using this

theorem fill_step {place : Nat → Option (Nat × Nat)} {i off size : Nat} {v : Value} {rest : List (Nat × Value)} {us : List Value} (hp : place i = some (off, size)) (hs : v.cells.size = size) (hl : off + size ≤ us.length) :
    Instr.fill place ⟨us⟩ ((i, v) :: rest) = Instr.fill place ⟨us.take off ++ v.cells.toList ++ us.drop (off + size)⟩ rest := by
  have e := zipIdx_cells v.cells off us (by omega)
  rw [hs] at e
  simp only [Instr.fill, hp, hs, ne_eq, not_true_eq_false, List.size_toArray, decide_false, Bool.false_or, decide_eq_true_eq]
  rw [if_neg (by omega), e]

theorem fill_seq (size : Nat) : ∀ (vals : List Value) (i : Nat) (us : List Value), (∀ v ∈ vals, v.cells.size = size) → i * size + vals.length * size ≤ us.length →
    Instr.fill (fun i => some (i * size, size)) ⟨us⟩ ((List.range' i vals.length).zip vals) = some ⟨us.take (i * size) ++ vals.flatMap (·.cells.toList) ++ us.drop (i * size + vals.length * size)⟩
  | [], i, us, _, _ => by simp [Instr.fill]
  | v :: vals, i, us, hv, hl => by
    simp only [List.length_cons, Nat.add_mul, Nat.one_mul] at hl
    have hvs := hv v (by simp)
    simp only [List.length_cons, List.range'_succ, List.zip_cons_cons]
    rw [fill_step (off := i * size) (size := size) rfl hvs (by omega)]
    have hlen : (us.take (i * size) ++ v.cells.toList ++ us.drop (i * size + size)).length = us.length := by simp [hvs]; omega
    rw [fill_seq size vals (i + 1) _ (fun u hu => hv u (by simp [hu])) (by rw [hlen, Nat.add_mul]; omega)]
    congr 2
    have e1 : (i + 1) * size = i * size + size := by rw [Nat.add_mul]; omega
    have e2 : (List.take (i * size) us ++ v.cells.toList).length = i * size + size := by simp [hvs]; omega
    rw [e1, List.take_append_of_le_length (by omega), List.take_of_length_le (by omega)]
    rw [List.drop_append, List.drop_eq_nil_of_le (as := List.take (i * size) us ++ v.cells.toList) (by omega), e2, List.nil_append, List.drop_drop]
    simp only [List.flatMap_cons, List.append_assoc]
    congr 4
    simp only [Nat.add_mul]
    omega

theorem RRow_of {h w} {k : Nat} : ∀ {xs : List D} {us : List Value}, us.length = xs.length → (∀ (i : Nat) x u, xs[i]? = some x → us[i]? = some u → RD h w x u) → (∀ x ∈ xs, x.nc = k) → RRow h w k xs (us.flatMap (·.cells.toList))
  | [], us, hl, _, _ => by have : us = [] := List.eq_nil_of_length_eq_zero (by simpa using hl); subst this; simp [RRow]
  | x :: xs, [], hl, _, _ => by simp at hl
  | x :: xs, u :: us, hl, hr, hk => by
    simp only [List.flatMap_cons, RRow]
    have h1 := hr 0 x u (by simp) (by simp)
    exact ⟨u, _, rfl, by rw [RD.size h1]; exact hk x (by simp), hk x (by simp), h1, (RD.cells h1).2,
      RRow_of (by simpa using hl) (fun i y v hy hv => hr (i + 1) y v (by simpa using hy) (by simpa using hv)) fun y hy => hk y (by simp [hy])⟩

def toD : A → Option D
  | .d x => some x
  | .nil => some (.sl [])
  | .agg cs => (allD cs).map .agg
  | .clo f [] [] => some (.v (.func f #[] #[]))
  | _ => none
theorem toD_ok {h w val} {a : A} {x : D} {u : Value} (he : toD a = some x) (hr : RA h w val a u) : RD h w x u := by
  cases a with
  | d y => simp only [toD, Option.some.injEq] at he; subst he; simpa only [RA] using hr
  | nil => simp only [toD, Option.some.injEq] at he; subst he; simp only [RA] at hr; rw [hr]; exact RD_nil h w
  | agg cs =>
    simp only [toD, Option.map_eq_some_iff] at he
    obtain ⟨xs, h1, rfl⟩ := he
    simp only [RA] at hr
    obtain ⟨us, rfl, h2, h3⟩ := hr
    simp only [RD]
    exact ⟨us, rfl, allD_ok h1 h2 h3⟩
  | clo f fs cs =>
    cases fs with
    | cons a l => simp [toD] at he
    | nil =>
      cases cs with
      | cons a l => simp [toD] at he
      | nil =>
        simp only [toD, Option.some.injEq] at he
        subst he
        simp only [RA, RAs] at hr
        obtain ⟨us, vs, e, rfl, rfl⟩ := hr
        simp [RD, e, Value.oneCell']
  | _ => simp [toD] at he
def toDs (s : St) : List Operand → Option (List D)
  | [] => some []
  | x :: l => match toD (s.look (s.ev x)), toDs s l with
    | some y, some ys => some (y :: ys)
    | _, _ => none
theorem toDs_ok {s : St} {h w val a} (H : Holds s h w val a) : ∀ {l : List Operand} {xs : List D}, toDs s l = some xs → xs.length = l.length ∧ ∀ (i : Nat) x u, xs[i]? = some x → (l.map a.eval)[i]? = some u → RD h w x u
  | [], xs, he => by simp [toDs] at he; subst he; simp
  | o :: l, xs, he => by
    simp only [toDs] at he
    split at he
    · rename_i y ys hy hys
      simp only [Option.some.injEq] at he
      subst he
      obtain ⟨h1, h2⟩ := toDs_ok H hys
      refine ⟨by simp [h1], fun i x u hx hu => ?_⟩
      cases i with
      | zero => simp at hx hu; subst hx; subst hu; exact toD_ok hy (H.look (H.ev o))
      | succ i => simp at hx hu; exact h2 i x u hx (by simpa using hu)
    · cases he

def abuildSlice (P : Program) (o : Oper) (s : St) : Option (Cn × A × List Ed) :=
  match o.dst, o.op with
  | some d, .buildSlice t len parts =>
    match elemOf' P t with
    | some e => match P.info? e with
      | some i => if (i.zero.map (·.cells.size)) == some i.size && parts.toList.map (·.1) == List.range len && Nat.ble (len * i.size) 16777216 && d < up && !hasAny d s.E && !bxHas d s.B then
          match toDs s (parts.toList.map (·.2)) with
          | some xs => some (.nc xs i.size, .row d, [.add d (.row e i.size xs)])
          | none => none
        else none
      | none => none
    | none => none
  | _, _ => none

theorem range_zip_of {parts : List (Nat × Operand)} {len : Nat} (h : parts.map (·.1) = List.range len) (f : Operand → Value) :
    parts.map (fun p => (p.1, f p.2)) = (List.range' 0 (parts.map (fun p => f p.2)).length).zip (parts.map (fun p => f p.2)) := by
  have hl : parts.length = len := by simpa using congrArg List.length h
  rw [← List.zip_map' (f := fun p : Nat × Operand => p.1) (g := fun p : Nat × Operand => f p.2), h, List.length_map, hl, List.range_eq_range']

theorem abuildSlice_ok {P : Program} {o : Oper} {s : St} {es : List Ed} {Φ : Cn} {r : A} (he : abuildSlice P o s = some (Φ, r, es)) : OpOk P o s Φ.ok r (s.edit es) := by
  intro hΦ h w val a H K Q hK
  unfold abuildSlice at he
  split at he
  · rename_i d t len parts hd ho
    split at he
    · rename_i e hel
      obtain ⟨hu, hI, hC⟩ := elemOf'_ok hel
      split at he
      · rename_i i hi
        split at he
        · rename_i hc
          simp only [Bool.and_eq_true, beq_iff_eq, Nat.ble_eq, decide_eq_true_eq, Bool.not_eq_true', Option.map_eq_some_iff] at hc
          obtain ⟨⟨⟨⟨⟨⟨z, hz, hzs⟩, hparts⟩, hlen⟩, hdu⟩, hE⟩, hB⟩ := hc
          split at he
          · rename_i xs hxs
            simp only [Option.some.injEq, Prod.mk.injEq] at he
            obtain ⟨rfl, rfl, rfl⟩ := he
            simp only [Cn.ok] at hΦ
            obtain ⟨hxl, hxr⟩ := toDs_ok H hxs
            have hpl : parts.toList.length = len := by simpa using congrArg List.length hparts
            have hisz : 0 < i.size := Nat.pos_of_ne_zero (by
              have : P.cellsOf e = i.size := by simp [Program.cellsOf, hi]
              omega)
            let vals := parts.toList.map fun p => a.eval p.2
            have hvl : vals.length = len := by simp [vals]; simpa using hpl
            have hvs : ∀ v ∈ vals, v.cells.size = i.size := by
              intro v hv
              obtain ⟨j, hj, rfl⟩ := List.mem_iff_getElem.1 hv
              have hj' : j < xs.length := by rw [hxl]; simpa [vals] using hj
              have := hxr j xs[j] vals[j] (List.getElem?_eq_getElem hj') (by rw [List.getElem?_eq_getElem (by simpa [vals] using hj)]; simp [vals])
              rw [RD.size this]
              exact hΦ _ (List.getElem_mem hj')
            have hrow := RRow_of (h := h) (w := w) (k := i.size) (xs := xs) (us := vals) (by rw [hvl, hxl]; simpa using hpl.symm) (fun j x u hx hu => hxr j x u hx (by simpa [vals] using hu)) hΦ
            have hcl := RRow.length hrow
            have hxlen : xs.length = len := by rw [hxl]; simpa using hpl
            have hrun : (execOp a.eval o).run P w = .ok (.value (.slice (some ⟨w.heap.size, 0, none⟩) len len)) (w.alloc (.cells ⟨vals.flatMap (·.cells.toList)⟩ e)) := by
              have hf := fill_seq i.size vals 0 ((List.range (len * i.size)).map (z.cells[· % z.cells.size]!)) hvs (by simp [hvl])
              have hr := range_zip_of hparts a.eval
              simp only [Nat.zero_mul, List.take_zero, List.nil_append, Nat.zero_add, hvl] at hf
              rw [List.drop_eq_nil_of_le (by simp), List.append_nil] at hf
              have hmap : (parts.map fun p => (p.1, a.eval p.2)).toList = (List.range' 0 len).zip vals := by
                simp only [Array.toList_map]
                rw [hr]
                simp [vals, hpl]
              have harr : (Array.range (len * i.size)).map (z.cells[· % z.cells.size]!) = ⟨(List.range (len * i.size)).map (z.cells[· % z.cells.size]!)⟩ := by
                apply Array.ext'; simp [Array.toList_range]
              have h24 : ¬ (len * i.size > 2 ^ 24) := by omega
              by_cases h0 : len * i.size = 0
              · have hl0 : len = 0 := by
                  rcases Nat.mul_eq_zero.1 h0 with h | h
                  · exact h
                  · omega
                subst hl0
                have hv0 : vals = [] := List.eq_nil_of_length_eq_zero hvl
                have hp0 : parts = #[] := by apply Array.ext'; exact List.eq_nil_of_length_eq_zero hpl
                subst hp0
                simp only [execOp, ho, Sem.run_bind, Instr.buildSlice, run_underlying hu, Result.andThen_ok, run_size' hI, Nat.zero_mul, if_neg (show ¬ (0 > 2 ^ 24) by omega), Sem.run_pure, if_true]
                simp [Instr.fill, newRow, hv0, vals, Array.range_zero']
              · have hsz : P.cellsOf e = i.size := by simp [Program.cellsOf, hi]
                simp only [execOp, ho, Sem.run_bind, Instr.buildSlice, run_underlying hu, Result.andThen_ok, run_size' hI, hsz, if_neg h24, Sem.run_pure, if_neg h0, zeroValue, typeInfo, run_program, hi, hz]
                rw [hmap, harr, hf]
                simp [newRow]
            have hk := keep_new (blks val s.all) h w (.cells ⟨vals.flatMap (·.cells.toList)⟩ e) (len * i.size)
            have hvd : setV val d (.slice (some ⟨w.heap.size, 0, none⟩) len len) d = .slice (some ⟨w.heap.size, 0, none⟩) len len := by simp [setV]
            obtain ⟨h1, h2⟩ := H.fresh hdu hE hB (.cells ⟨vals.flatMap (·.cells.toList)⟩ e) (.slice (some ⟨w.heap.size, 0, none⟩) len len) (len * i.size) (.row e i.size xs) rfl rfl (by
              refine ⟨vals.flatMap (·.cells.toList), ?_, RRow.stays hk.stays _ _ _ hrow, fun g hg => ?_⟩
              · rw [hvd, hxlen]
                exact World.ownsRow_lit w ⟨vals.flatMap (·.cells.toList)⟩ len (Nat.zero_le _) (by
                  have : len ≤ len * i.size := Nat.le_mul_of_pos_right _ hisz
                  simp only [maxLen]; omega) (by simp only [List.size_toArray]; rw [hcl, hxlen])
              · rw [hvd] at hg
                simp only [Value.ownBlock, Option.some.injEq] at hg
                subst hg
                simp [setH, hxlen])
            exact wp_of_run hrun (hK _ _ _ _ (by simp only [RA]; exact ⟨hvd.symm, hnd.sl _ _ _⟩) h1.ins h2.ins)
          · cases he
        · cases he
      · cases he
    · cases he
  · cases he

def fillA (place : Nat → Option (Nat × Nat)) : List (Nat × A) → List A → Option (List A)
  | [], cs => some cs
  | (i, a) :: l, cs => match place i, a.cells with
    | some (off, size), some vs => if vs.length == size && Nat.ble (off + size) cs.length then fillA place l (cs.take off ++ vs ++ cs.drop (off + size)) else none
    | _, _ => none
theorem fillA_ok {h w val} {place : Nat → Option (Nat × Nat)} {ev : Operand → A} {ρ : Operand → Value} (hev : ∀ x, RA h w val (ev x) (ρ x)) :
    ∀ (l : List (Nat × Operand)) {cs cs' : List A} {us : List Value}, fillA place (l.map fun p => (p.1, ev p.2)) cs = some cs' → RAs h w val cs us → (∀ u ∈ us, u.oneCell' = true) →
      ∃ us', Instr.fill place ⟨us⟩ (l.map fun p => (p.1, ρ p.2)) = some ⟨us'⟩ ∧ RAs h w val cs' us' ∧ ∀ u ∈ us', u.oneCell' = true
  | [], cs, cs', us, he, hr, h1 => by
    simp only [List.map_nil, fillA, Option.some.injEq] at he
    subst he
    exact ⟨us, rfl, hr, h1⟩
  | (i, x) :: l, cs, cs', us, he, hr, h1 => by
    simp only [List.map_cons, fillA] at he
    split at he
    · rename_i off size vs hp hv
      split at he
      · rename_i hc
        simp only [Bool.and_eq_true, beq_iff_eq, Nat.ble_eq] at hc
        have hx := A.cells_ok hv (hev x)
        have hvl : (ρ x).cells.toList.length = vs.length := hx.1.length
        have hvs : (ρ x).cells.size = size := by have := hvl; simp at this; omega
        have hlen : us.length = cs.length := hr.length
        simp only [List.map_cons]
        rw [fill_step hp hvs (by omega)]
        refine fillA_ok hev l he (((hr.take off).append hx.1).append (hr.drop _)) fun u hu => ?_
        rcases List.mem_append.1 hu with hu | hu
        · rcases List.mem_append.1 hu with hu | hu
          · exact h1 u (List.mem_of_mem_take hu)
          · exact hx.2 u hu
        · exact h1 u (List.mem_of_mem_drop hu)
      · cases he
    · cases he
def abuild (P : Program) (o : Oper) (ev : Operand → A) : Option A :=
  match o.op with
  | .build t parts => match P.info? t, P.underlying t with
    | some it, some (.struct fs) => match it.zero, fs.toList.mapM (fun f => (P.info? f.type).map fun i => (f.offset, i.size)) with
      | some z, some places => if z.cells.toList.all (·.oneCell') then (fillA (places.toArray[·]?) (parts.toList.map fun p => (p.1, ev p.2)) (z.cells.toList.map cstA)).map pack else none
      | _, _ => none
    | some it, some (.array _ e) => match it.zero, P.info? e with
      | some z, some ie => if z.cells.toList.all (·.oneCell') then (fillA (fun i => some (i * ie.size, ie.size)) (parts.toList.map fun p => (p.1, ev p.2)) (z.cells.toList.map cstA)).map pack else none
      | _, _ => none
    | _, _ => none
  | _ => none
theorem abuild_ok {P : Program} {o : Oper} {s : St} {r : A} (he : abuild P o (fun x => s.look (s.ev x)) = some r) : OpOk P o s True r s := by
  intro _ h w val a H K Q hK
  unfold abuild at he
  split at he
  · rename_i t parts ho
    have hmap : (parts.map fun (i, x) => (i, a.eval x)).toList = parts.toList.map fun p => (p.1, a.eval p.2) := by simp
    have key : ∀ (z : Value) (place : Nat → Option (Nat × Nat)), (z.cells.toList.all (·.oneCell')) = true → (∀ cells, Instr.fill place z.cells (parts.toList.map fun p => (p.1, a.eval p.2)) = some cells → P.built t (parts.map fun (i, x) => (i, a.eval x)).toList = some cells) →
        (fillA place (parts.toList.map fun p => (p.1, s.look (s.ev p.2))) (z.cells.toList.map cstA)).map pack = some r → o.wp P a w K Q := by
      intro z place hz hb hr
      simp only [Option.map_eq_some_iff] at hr
      obtain ⟨cs', hf, rfl⟩ := hr
      have hz1 : ∀ c ∈ z.cells.toList, c.oneCell' = true := fun c hc => (List.all_eq_true.1 hz) c hc
      obtain ⟨us', g1, g2, g3⟩ := fillA_ok (ev := fun x => s.look (s.ev x)) (fun x => H.look (H.ev x)) parts.toList hf (RAs_cstA (h := h) (w := w) (val := val) _ hz1) hz1
      have hrun := run_build (P := P) w t (parts.map fun (i, x) => (i, a.eval x)) ⟨us'⟩ (hb _ g1)
      refine wp_of_run (u := .agg ⟨us'⟩) (w' := w) ?_ (hK h w val _ (pack_ok g2 g3) H (Nx.refl s h w val rfl))
      simp only [execOp, ho, Sem.run_bind, hrun, Result.andThen_ok, Sem.run_pure]
    split at he
    · rename_i it fs hi hu
      split at he
      · rename_i z places hz hp
        split at he
        · rename_i hc
          refine key z _ hc (fun cells hcells => ?_) he
          unfold Program.built
          simp only [hi, hu, hz, hp, hmap]
          exact hcells
        · cases he
      · cases he
    · rename_i it n e hi hu
      split at he
      · rename_i z ie hz hie
        split at he
        · rename_i hc
          refine key z _ hc (fun cells hcells => ?_) he
          unfold Program.built
          simp only [hi, hu, hz, hie, hmap]
          exact hcells
        · cases he
      · cases he
    · cases he
  · cases he
end Go.Ac
